/-
  What is asked: the law's Ask values, as cells; how an argument of them is opened.
-/
import Derived.Test.YtbeaacchhaipjaaLayOpen
namespace Go.Proofs.Ytbeaacchhaipjaa
open Go.RowKit

/-- one thing that is asked -/
structure AskV where
  what : Int
  b : UInt8
  n : Nat
  t : Int

def askCells (y : AskV) : List Value := [.int .i64 y.what, .int .u8 (y.b.toNat : Int), .int .u64 (y.n : Int), .int .i64 y.t]
def AskOk (y : AskV) : Prop := y.n < 18446744073709551616 ∧ -9223372036854775808 ≤ y.t ∧ y.t ≤ 9223372036854775807
def RdA (w : World) (B : Nat) (A : Option Addr) (n : Nat) (ls : List AskV) : Prop := Reads w B 4 A n (ls.flatMap askCells)

theorem acells_len (ls : List AskV) : (ls.flatMap askCells).length = ls.length * 4 := by
  induction ls with
  | nil => rfl
  | cons y ls ih => simp [askCells, ih]; omega
theorem acells_get : ∀ (ls : List AskV) (k j : Nat) (hk : k < ls.length), j < 4 → (ls.flatMap askCells)[k * 4 + j]? = (askCells ls[k])[j]?
  | y :: ls, 0, j, _, hj => by
    rw [List.flatMap_cons, List.getElem?_append_left (by simp [askCells]; omega)]; simp
  | y :: ls, k + 1, j, hk, hj => by
    rw [List.flatMap_cons, List.getElem?_append_right (by simp [askCells]; omega)]
    have := acells_get ls k j (by simpa using hk) hj
    rw [show (k + 1) * 4 + j - (askCells y).length = k * 4 + j from by simp [askCells]; omega, this]
    simp

section
variable {w w' : World} {B B' n : Nat} {A : Option Addr} {ls : List AskV}
theorem RdA.len (h : RdA w B A n ls) : ls.length = n := by have := h.1; rw [acells_len] at this; omega
theorem RdA.below (h : RdA w B A n ls) (hb : Below B w w') : RdA w' B A n ls := Reads.below h hb
theorem RdA.more (h : RdA w B A n ls) (hB : B ≤ B') : RdA w B' A n ls := Reads.more h hB
theorem RdA.at_ (h : RdA w B A n ls) {k : Nat} (hk : k < n) : ∃ b off y, A = some ⟨b, off, none⟩ ∧ b < B ∧ ls[k]? = some y ∧
    w.cell? ⟨b, off + k * 4, none⟩ = some (.int .i64 y.what) ∧ w.cell? ⟨b, off + k * 4 + 1, none⟩ = some (.int .u8 (y.b.toNat : Int)) ∧ w.cell? ⟨b, off + k * 4 + 2, none⟩ = some (.int .u64 (y.n : Int)) ∧
    w.cell? ⟨b, off + k * 4 + 3, none⟩ = some (.int .i64 y.t) := by
  obtain ⟨ad, rfl, hb, hall⟩ := h.2 (by omega)
  have hl : k < ls.length := by rw [h.len]; exact hk
  have hc : ∀ j u, j < 4 → (askCells ls[k])[j]? = some u → w.cell? (ad.add (k * 4 + j)) = some u := fun j u hj hu => hall _ u (by rw [acells_get ls k j hl hj]; exact hu)
  have h0 := hall 0 (.int .i64 (ls[0]'(by omega)).what) (by have := acells_get ls 0 0 (by omega) (by omega); simpa [askCells] using this)
  obtain ⟨b, off, sp⟩ := ad
  have hsp : sp = none := by simpa [Addr.add] using World.cell?_spot h0
  subst hsp
  have c0 := hc 0 _ (by omega) rfl
  have c1 := hc 1 _ (by omega) rfl
  have c2 := hc 2 _ (by omega) rfl
  have c3 := hc 3 _ (by omega) rfl
  rw [Addr.add_lit] at c0 c1 c2 c3
  exact ⟨b, off, ls[k], rfl, hb, List.getElem?_eq_getElem hl, c0, by rw [Nat.add_assoc]; exact c1, by rw [Nat.add_assoc]; exact c2, by rw [Nat.add_assoc]; exact c3⟩
end
open Go.ChangeShapes Go.WideShapes

/-- an Ask value as a datum -/
def askD {H : Type} (y : AskV) : DataW H := .agg [.lit (.int .i64 y.what), .lit (.int .u8 (y.b.toNat : Int)), .lit (.int .u64 (y.n : Int)), .lit (.int .i64 y.t)]
/-- the datum of a slice of Ask values -/
def SlA {H : Type} (d : DataW H) (ls : List AskV) : Prop := (d = .nil ∧ ls = []) ∨ ∃ sp, d = .slice (ls.map askD) sp

theorem open_asks {H : Type} {enc : TypeId × Value → H} {W : World} {base : Nat} {v : Value} {d : DataW H} {p : List MemPlace}
    (hval : Value.okWide Try.prog W .any base 63 v) (h : DataW.Trod enc Try.prog W 0 (fun _ => true) true 63 v d p) :
    ∃ A n c ls, v = .slice A n c ∧ RdA W W.heap.size A n ls ∧ ((∀ y ∈ ls, AskOk y) ∧ SlA d ls) ∧ n ≤ c := by
  obtain ⟨a0, len0, cap0, rfl⟩ := okWide_slice Try.underlying63 hval
  obtain ⟨fuel, hf⟩ := h
  rcases structs.open_slice_fields Try.underlying63 Try.underlying67 (by kernel_rfl) (by kernel_rfl) hf with ⟨hcs, hx⟩ | ⟨a, len, cap, m, D, Pl, hcs, _, hl, hm, hmm, hx, hi⟩
  · simp [Value.cells] at hcs
    obtain ⟨rfl, rfl, rfl⟩ := hcs
    simp only [Prod.mk.injEq] at hx
    exact ⟨none, 0, 0, [], rfl, ⟨rfl, fun h => absurd h (by omega)⟩, ⟨(fun y hy => by cases hy), .inl ⟨hx.1, rfl⟩⟩, Nat.le_refl _⟩
  · simp [Value.cells] at hcs
    obtain ⟨rfl, rfl, rfl⟩ := hcs
    rw [if_pos rfl] at hmm
    subst hmm
    simp only [Prod.mk.injEq] at hx
    have each : ∀ i, i < len0 → ∃ y : AskV, D i = askD y ∧ AskOk y ∧ ∀ (j : Nat) (u : Value), (askCells y)[j]? = some u → W.cell? (a.add (i * 4 + j)) = some u := by
      intro i hil
      obtain ⟨ys, n, hD, _, hlen, hfld⟩ := hi i (by omega)
      obtain ⟨v0, y0, c0, e0, t0⟩ := hfld 0 _ rfl
      obtain ⟨v1, y1, c1, e1, t1⟩ := hfld 1 _ rfl
      obtain ⟨v2, y2, c2, e2, t2⟩ := hfld 2 _ rfl
      obtain ⟨v3, y3, c3, e3, t3⟩ := hfld 3 _ rfl
      obtain ⟨n0, hv0, hy0, w0⟩ := DataW.trod_int Try.underlying3 t0
      obtain ⟨n1, hv1, hy1, w1⟩ := DataW.trod_int Try.underlying5 t1
      obtain ⟨n2, hv2, hy2, w2⟩ := DataW.trod_int Try.underlying38 t2
      obtain ⟨n3, hv3, hy3, w3⟩ := DataW.trod_int Try.underlying3 t3
      simp only [List.cons.injEq, and_true] at hv0 hv1 hv2 hv3
      subst hv0; subst hv1; subst hv2; subst hv3
      obtain ⟨x1, rfl⟩ := u8_of w1
      have b2 := u64_bd w2
      have b3 := i64_bd w3
      obtain ⟨k2, rfl⟩ := Int.eq_ofNat_of_zero_le b2.1
      have hlen4 : ys.length = 4 := hlen
      have hys : ys = [y0, y1, y2, y3] := by
        match ys, hlen4 with
        | [z0, z1, z2, z3], _ =>
          simp at e0 e1 e2 e3
          rw [e0, e1, e2, e3]
      refine ⟨⟨n0, x1, k2, n3⟩, ?_, ⟨by show k2 < _; omega, b3⟩, fun j u hu => ?_⟩
      · rw [hD, hys, hy0, hy1, hy2, hy3]; rfl
      · match j, hu with
        | 0, hu => simp [askCells] at hu; subst hu; exact c0
        | 1, hu => simp [askCells] at hu; subst hu; exact c1
        | 2, hu => simp [askCells] at hu; subst hu; exact c2
        | 3, hu => simp [askCells] at hu; subst hu; exact c3
        | j + 4, hu => simp [askCells] at hu
    obtain ⟨ls, hll, hls⟩ := list_of len0 each
    refine ⟨some a, len0, _, ls, rfl, ⟨by rw [acells_len, hll], fun hn => ⟨a, rfl, ?_, fun j u hu => ?_⟩⟩, ⟨fun y hy => ?_, .inr ⟨(List.range (m - len0)).map (fun j => D (len0 + j)), ?_⟩⟩, hl⟩
    · have hy := List.getElem?_eq_getElem (show 0 < ls.length by omega)
      have := World.block_lt_of_cell? W _ ((hls 0 _ hy).2.2 0 _ rfl)
      rw [block_of_add] at this
      exact this
    · have hj : j < ls.length * 4 := by
        rcases Nat.lt_or_ge j (ls.length * 4) with h | h
        · exact h
        · rw [List.getElem?_eq_none (by rw [acells_len]; exact h)] at hu; cases hu
      have hk : j / 4 < ls.length := by omega
      have hy := List.getElem?_eq_getElem hk
      have e : j = j / 4 * 4 + j % 4 := by omega
      rw [e, acells_get ls (j / 4) (j % 4) hk (by omega)] at hu
      rw [e]
      exact (hls _ _ hy).2.2 _ _ hu
    · obtain ⟨i, hi, rfl⟩ := List.getElem_of_mem hy
      exact (hls i _ (List.getElem?_eq_getElem hi)).2.1
    · rw [hx.1]
      congr 1
      refine List.ext_getElem? fun i => ?_
      by_cases hi : i < len0
      · have hy := List.getElem?_eq_getElem (show i < ls.length by omega)
        rw [List.getElem?_map, List.getElem?_map, hy, List.getElem?_range hi]
        exact congrArg some (hls i _ hy).1
      · rw [List.getElem?_eq_none (by simp; omega), List.getElem?_eq_none (by simp; omega)]

theorem bytesAsk : Try.prog.bytesOf 67 = 32 := by kernel_rfl
theorem size_a {H : Type} {ts : List TypeId} {ds : List (DataW H)} (h : (DataW.weightsEach Try.prog ts ds).all (· ≤ reachBytes) = true) (j : Nat) {d : DataW H} {w : World} {B n : Nat} {A : Option Addr} {ls : List AskV} (hr : RdA w B A n ls) (hs : (∀ y ∈ ls, AskOk y) ∧ SlA d ls)
    (ht : ts[j]? = some 63) (hd : ds[j]? = some d) : n ≤ 140737488351232 := by
  have hl := hr.len
  rcases hs.2 with ⟨_, rfl⟩ | ⟨sp, rfl⟩
  · simp at hl; omega
  · have := sized_slice h ht hd Try.underlying63
    rw [bytesAsk, List.length_map, hl] at this
    have e : reachBytes = 140737488351232 := by decide
    omega

end Go.Proofs.Ytbeaacchhaipjaa
