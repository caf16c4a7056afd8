/-
  A class.Set among a law's arguments, opened.
-/
import Derived.Test.YthmjnelnnhidkaaOpen
import Derived.Test.YthmjnelnnhidkaaSetWalk
import Derived.Lib.SmallJoins
namespace Go.Proofs.Ythmjnelnnhidkaa
open Go.ChangeShapes Go.WideShapes Go.ChangeAt Go.RowKit
open Go.Joins

/-- a set out of four words -/
def mWords (x0 x1 x2 x3 : Nat) : Mem := fun b => if b < 64 then x0.testBit b else if b < 128 then x1.testBit (b - 64) else if b < 192 then x2.testBit (b - 128) else x3.testBit (b - 192)
theorem setV_words (x0 x1 x2 x3 : Nat) (h0 : x0 < 2 ^ 64) (h1 : x1 < 2 ^ 64) (h2 : x2 < 2 ^ 64) (h3 : x3 < 2 ^ 64) : setV (mWords x0 x1 x2 x3) = .agg #[.int .u64 (x0 : Int), .int .u64 (x1 : Int), .int .u64 (x2 : Int), .int .u64 (x3 : Int)] := by
  have e0 : word (mWords x0 x1 x2 x3) 0 = x0 := by
    rw [← nbits_of x0 64 h0]
    exact nbits_congr fun j hj => by rw [nbits_of x0 64 h0]; show (if 64 * 0 + j < 64 then _ else _) = _; rw [if_pos (by omega), show 64 * 0 + j = j by omega]
  have e1 : word (mWords x0 x1 x2 x3) 1 = x1 := by
    rw [← nbits_of x1 64 h1]
    exact nbits_congr fun j hj => by rw [nbits_of x1 64 h1]; show (if 64 * 1 + j < 64 then _ else if 64 * 1 + j < 128 then _ else _) = _; rw [if_neg (by omega), if_pos (by omega), show 64 * 1 + j - 64 = j by omega]
  have e2 : word (mWords x0 x1 x2 x3) 2 = x2 := by
    rw [← nbits_of x2 64 h2]
    exact nbits_congr fun j hj => by rw [nbits_of x2 64 h2]; show (if 64 * 2 + j < 64 then _ else if 64 * 2 + j < 128 then _ else if 64 * 2 + j < 192 then _ else _) = _; rw [if_neg (by omega), if_neg (by omega), if_pos (by omega), show 64 * 2 + j - 128 = j by omega]
  have e3 : word (mWords x0 x1 x2 x3) 3 = x3 := by
    rw [← nbits_of x3 64 h3]
    exact nbits_congr fun j hj => by rw [nbits_of x3 64 h3]; show (if 64 * 3 + j < 64 then _ else if 64 * 3 + j < 128 then _ else if 64 * 3 + j < 192 then _ else _) = _; rw [if_neg (by omega), if_neg (by omega), if_neg (by omega), show 64 * 3 + j - 192 = j by omega]
  unfold setV setC
  rw [e0, e1, e2, e3]

theorem u64_nat {n : Int} (h : (Lit.int .u64 n).wf = true) : ∃ x : Nat, x < 2 ^ 64 ∧ n = (x : Int) := by
  have h1 : IntKind.u64.min = 0 := by decide
  have h2 : IntKind.u64.max = 18446744073709551615 := by decide
  simp only [Lit.wf, Bool.and_eq_true, decide_eq_true_eq, h1, h2] at h
  exact ⟨n.toNat, by omega, by omega⟩

theorem cellsSet : Try.prog.cellsOf 24 = 4 := by kernel_rfl
theorem cellsU64 : Try.prog.cellsOf 22 = 1 := by kernel_rfl
theorem okWide_row {P : Program} {w : World} {r : Reach} {b0 : Nat} {t e : TypeId} {n : Nat} {v : Value} (ht : P.underlying t = some (.array n e)) (h : Value.okWide P w r b0 t v) : ∃ cs, v = .agg cs ∧ cs.size = P.cellsOf t := by
  simp only [Value.okWide, ht] at h
  obtain ⟨cs, h1, h2, _⟩ := h
  exact ⟨cs, h1, h2⟩

set_option maxRecDepth 100000 in
theorem open_set {H : Type} {enc : TypeId × Value → H} {W : World} {base : Nat} {v : Value} {d : DataW H} {p : List MemPlace}
    (hval : Value.okWide Try.prog W .any base 24 v) (h : DataW.Trod enc Try.prog W 0 (fun _ => true) true 24 v d p) :
    ∃ m : Mem, v = setV m := by
  obtain ⟨cs, rfl, hsz⟩ := okWide_row Try.underlying24 hval
  obtain ⟨c0, c1, c2, c3, rfl⟩ := array4 (hsz.trans cellsSet)
  obtain ⟨fuel, hf⟩ := h
  obtain ⟨xs, m, _, _, _, hlen, hget⟩ := DataW.trod_array Try.underlying24 hf
  have hone : ∀ i (c : Value), i < 4 → ((Value.agg #[c0, c1, c2, c3]).cells.toList.drop (i * 1)).take 1 = [c] → ∃ x : Nat, x < 2 ^ 64 ∧ c = .int .u64 (x : Int) := by
    intro i c hi hc
    have hg := hget i hi
    rw [cellsU64, hc] at hg
    have hx : i < xs.length := by omega
    rw [List.getElem?_eq_getElem hx] at hg
    obtain ⟨n, hn, _, hwf⟩ := DataW.trod_int Try.underlying22 hg
    obtain ⟨x, hx2, rfl⟩ := u64_nat hwf
    exact ⟨x, hx2, by simpa using hn⟩
  obtain ⟨x0, h0, rfl⟩ := hone 0 c0 (by omega) rfl
  obtain ⟨x1, h1, rfl⟩ := hone 1 c1 (by omega) rfl
  obtain ⟨x2, h2, rfl⟩ := hone 2 c2 (by omega) rfl
  obtain ⟨x3, h3, rfl⟩ := hone 3 c3 (by omega) rfl
  exact ⟨mWords x0 x1 x2 x3, (setV_words x0 x1 x2 x3 h0 h1 h2 h3).symm⟩

end Go.Proofs.Ythmjnelnnhidkaa
