/-
  How the laws' arguments are opened.
-/
import Derived.Test.YtkpckmdakiminaaDoorRows
import Derived.Test.YtkpckmdakiminaaDoorBytes
import Derived.ProofKit
import Derived.OpenShut
import Derived.ShutString
import Derived.ChangeOld
import Derived.SizedLaws
import Derived.Deep.CondSized
import Derived.JoinedCond
namespace Go.Proofs.YtkpckmdakiminaaDoor
open Go.ChangeShapes Go.WideShapes Go.ChangeAt Go.RowKit
open Go.ChangeMaps (open_string shut_string)

theorem own : ownKnob Tryd.prog.godebug = none := by kernel_rfl
theorem laidOut : laidOutB Tryd.prog = true := by kernel_rfl
theorem bytesU8 : Tryd.prog.bytesOf 5 = 1 := by kernel_rfl
theorem cellsU8 : Tryd.prog.cellsOf 5 = 1 := by kernel_rfl

theorem u8_bd {n : Int} (h : (Lit.int .u8 n).wf = true) : 0 ≤ n ∧ n < 256 := by
  have h1 : IntKind.u8.min = 0 := by decide
  have h2 : IntKind.u8.max = 255 := by decide
  simp only [Lit.wf, Bool.and_eq_true, decide_eq_true_eq, h1, h2] at h
  omega

/-- a datum of a slice with so many elements -/
def SlD {H : Type} (d : DataW H) (n : Nat) : Prop := (d = .nil ∧ n = 0) ∨ ∃ es sp, d = .slice es sp ∧ es.length = n

theorem getD_get (l : List Int) (j : Nat) (h : j < l.length) : l.getD j 0 = l[j] := by simp [List.getD, h]

set_option maxRecDepth 100000 in
theorem open_b {H : Type} {enc : TypeId × Value → H} {W : World} {base : Nat} {v : Value} {d : DataW H} {p : List MemPlace}
    (hval : Value.okWide Tryd.prog W .any base 22 v) (h : DataW.Trod enc Tryd.prog W 0 (fun _ => true) true 22 v d p) :
    ∃ A n c l, v = .slice A n c ∧ RdB W W.heap.size A n l ∧ SlD d n ∧ n ≤ c := by
  obtain ⟨a0, len0, cap0, rfl⟩ := okWide_slice Tryd.underlying22 hval
  obtain ⟨fuel, hf⟩ := h
  rcases open_ints Tryd.underlying22 Tryd.underlying5 cellsU8 hf with ⟨hcs, hx⟩ | ⟨x, l, c, zs, hcs, _, hl, hm, hz, hx, hcell, hwz⟩
  · simp [Value.cells] at hcs
    obtain ⟨rfl, rfl, rfl⟩ := hcs
    simp only [Prod.mk.injEq] at hx
    exact ⟨none, 0, 0, [], rfl, RdB.nil, .inl ⟨hx.1, rfl⟩, Nat.le_refl _⟩
  · simp [Value.cells] at hcs
    obtain ⟨rfl, rfl, rfl⟩ := hcs
    simp only [Prod.mk.injEq] at hx
    rw [if_pos rfl] at hz
    have hlen : ((zs.take len0).map byt).length = len0 := by rw [List.length_map, List.length_take]; omega
    refine ⟨some x, len0, cap0, (zs.take len0).map byt, rfl, ⟨by rw [bv_length]; omega, fun hn => ⟨x, rfl, ?_, fun j u hu => ?_⟩⟩, .inr ⟨_, _, hx.1, by simp [lits]; omega⟩, hl⟩
    · have := World.block_lt_of_cell? W _ (hcell 0 (by omega))
      rw [block_of_add] at this
      exact this
    · have hj : j < len0 := by
        rcases Nat.lt_or_ge j len0 with h | h
        · exact h
        · rw [List.getElem?_eq_none (by rw [bv_length, hlen]; exact h)] at hu; cases hu
      rw [hcell j (by omega)]
      rw [bv_get _ j (by rw [hlen]; exact hj)] at hu
      rw [← hu]
      congr 2
      have hb := u8_bd (hwz (zs.getD j 0) (by rw [getD_get zs j (by omega)]; exact List.getElem_mem _))
      rw [List.getElem_map, List.getElem_take, ← getD_get zs j (by omega), byt_toNat hb.1 hb.2]

theorem size_b {H : Type} {ts : List TypeId} {ds : List (DataW H)} (h : (DataW.weightsEach Tryd.prog ts ds).all (· ≤ reachBytes) = true) (j : Nat) {d : DataW H} {n : Nat} (hs : SlD d n)
    (ht : ts[j]? = some 22) (hd : ds[j]? = some d) : n ≤ 140737488351232 := by
  rcases hs with ⟨_, rfl⟩ | ⟨es, sp, rfl, rfl⟩
  · omega
  · have := sized_slice h ht hd Tryd.underlying22
    rw [bytesU8] at this
    have e : reachBytes = 140737488351232 := by decide
    omega

theorem i64_bd {n : Int} (h : (Lit.int .i64 n).wf = true) : -9223372036854775808 ≤ n ∧ n ≤ 9223372036854775807 := by
  have h1 : IntKind.i64.min = -9223372036854775808 := by decide
  have h2 : IntKind.i64.max = 9223372036854775807 := by decide
  simp only [Lit.wf, Bool.and_eq_true, decide_eq_true_eq, h1, h2] at h
  omega
theorem u64_bd {n : Int} (h : (Lit.int .u64 n).wf = true) : 0 ≤ n ∧ n < 18446744073709551616 := by
  have h1 : IntKind.u64.min = 0 := by decide
  have h2 : IntKind.u64.max = 18446744073709551615 := by decide
  simp only [Lit.wf, Bool.and_eq_true, decide_eq_true_eq, h1, h2] at h
  omega
theorem f64_bd {n : Nat} (h : (Lit.float .f64 n).wf = true) : n < 18446744073709551616 := by
  simp only [Lit.wf, decide_eq_true_eq] at h
  exact h

/-- a byte that came in -/
theorem u8_of {n : Int} (h : (Lit.int .u8 n).wf = true) : ∃ x : UInt8, n = (x.toNat : Int) := ⟨byt n, (byt_toNat (u8_bd h).1 (u8_bd h).2).symm⟩

end Go.Proofs.YtkpckmdakiminaaDoor
