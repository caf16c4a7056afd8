/-
  How an argument that is a slice of structs is opened (any number of one-cell fields); the law's Lay values.
-/
import Derived.Test.YtbeaacchhaipjaaOpen
import Derived.Test.YtbeaacchhaipjaaLaid
import Derived.Deep.Slices
import Derived.Deep.Fields
import Derived.ChangeSame
namespace Go.Proofs.Ytbeaacchhaipjaa
open Go.RowKit
namespace structs
open Go.ChangeShapes Go.WideShapes Go.Deep

section
variable {H : Type} {enc : TypeId × Value → H} {P : Program} {w : World} {base : Nat} {spare : Nat → Bool} {held : Bool}
theorem open_slice_fields {t e : TypeId} {fs : Array Field} {fuel : Nat} {cs : List Value} {x : DataW H × List MemPlace} (ht : P.underlying t = some (.slice e)) (he : P.underlying e = some (.struct fs))
    (hone : oneCellFields P fs = true) (hC : P.cellsOf e = fs.size) (h : DataW.trod enc P w base spare held fuel t cs = some x) :
    (cs = [.slice none 0 0] ∧ x = (.nil, [])) ∨
    ∃ (a : Addr) (len cap m : Nat) (D : Nat → DataW H) (Pl : Nat → List MemPlace), cs = [.slice (some a) len cap] ∧ base ≤ a.block ∧ len ≤ cap ∧ cap ≤ maxLen ∧ m = (if spare a.block then cap else len) ∧
      x = (.slice ((List.range len).map D) ((List.range (m - len)).map fun j => D (len + j)), MemPlace.row a (m * fs.size) ++ (List.range m).flatMap Pl) ∧
      ∀ i, i < m → ∃ (ys : List (DataW H × List MemPlace)) (n : Nat), D i = .agg (ys.map (·.1)) ∧ Pl i = ys.flatMap (·.2) ∧ ys.length = fs.size ∧
        ∀ (j : Nat) (f : Field), fs[j]? = some f → ∃ (v : Value) (y : DataW H × List MemPlace), w.cell? (a.add (i * fs.size + j)) = some v ∧ ys[j]? = some y ∧ DataW.trod enc P w base spare held n f.type [v] = some y := by
  rcases open_slice ht h with h0 | ⟨a, len, cap, m, n, D, Pl, hcs, hb, hl, hm, hmm, hx, hi⟩
  · exact .inl h0
  · refine .inr ⟨a, len, cap, m, D, Pl, hcs, hb, hl, hm, hmm, by rw [hC] at hx; exact hx, fun i him => ?_⟩
    obtain ⟨cs', hc, ht'⟩ := hi i him
    rw [hC] at hc
    obtain ⟨ys, n', hn', hy, hlen, hyl, hf⟩ := DataW.trod_struct he ht'
    obtain ⟨_, hcl, hat⟩ := World.cells?_some hc
    simp only [Prod.mk.injEq] at hy
    refine ⟨ys, n', hy.1, hy.2, hyl, fun j f hj => ?_⟩
    obtain ⟨ho, hk⟩ := hone_of hone j f hj
    have hjl : j < fs.size := (Array.getElem?_eq_some_iff.1 hj).1
    have hcell := hat j hjl
    have hv : cs'[j]? = some (cs'[j]'(by omega)) := List.getElem?_eq_getElem (by omega)
    have h1 := hf j f hj
    rw [ho, hk] at h1
    have hone' : (cs'.drop j).take 1 = [cs'[j]'(by omega)] := by
      rw [List.drop_eq_getElem_cons (by omega)]
      rfl
    rw [hone'] at h1
    have hys : ys[j]? = some (ys[j]'(by omega)) := List.getElem?_eq_getElem (by omega)
    refine ⟨_, _, ?_, hys, h1.trans hys⟩
    rw [← Go.Deep.add_add, hcell, hv]
end

end structs
open Go.ChangeShapes Go.WideShapes

theorem list_of {α : Type} {p : Nat → α → Prop} : ∀ n : Nat, (∀ i, i < n → ∃ y, p i y) → ∃ l : List α, l.length = n ∧ ∀ (i : Nat) (y : α), l[i]? = some y → p i y
  | 0, _ => ⟨[], rfl, fun i y h => by simp at h⟩
  | n + 1, h => by
    obtain ⟨l, hl, hp⟩ := list_of n fun i hi => h i (by omega)
    obtain ⟨y, hy⟩ := h n (by omega)
    refine ⟨l ++ [y], by simp [hl], fun i z hz => ?_⟩
    by_cases hi : i < l.length
    · rw [List.getElem?_append_left hi] at hz; exact hp i z hz
    · rw [List.getElem?_append_right (by omega)] at hz
      have : i - l.length = 0 := by
        rcases Nat.eq_zero_or_pos (i - l.length) with h0 | h0
        · exact h0
        · rw [List.getElem?_eq_none (by simp; omega)] at hz; cases hz
      rw [this] at hz
      simp at hz
      subst hz
      rw [show i = n from by omega]
      exact hy

theorem trod_float {H : Type} {enc : TypeId × Value → H} {P : Program} {w : World} {base : Nat} {spare : Nat → Bool} {held : Bool} {fuel : Nat} {t : TypeId} {k : FloatKind} {cs : List Value} {x : DataW H × List MemPlace}
    (ht : P.underlying t = some (.float k)) (h : DataW.trod enc P w base spare held fuel t cs = some x) : ∃ n, cs = [.float k n] ∧ x = (.lit (.float k n), []) ∧ (Lit.float k n).wf = true := by
  cases fuel with
  | zero => simp [DataW.trod] at h
  | succ n =>
    unfold DataW.trod at h
    rw [ht] at h
    split at h <;> simp_all

/-- a Lay value as a datum -/
def layD {H : Type} (y : LayV) : DataW H := .agg [.lit (.int .i64 y.what), .lit (.int .u8 (y.b.toNat : Int)), .lit (.int .u64 (y.n : Int)), .lit (.float .f64 y.x), .lit (.string y.t.data.toList)]
/-- the datum of a slice of Lay values -/
def SlL {H : Type} (d : DataW H) (ls : List LayV) : Prop := (d = .nil ∧ ls = []) ∨ ∃ sp, d = .slice (ls.map layD) sp

theorem open_lays {H : Type} {enc : TypeId × Value → H} {W : World} {base : Nat} {v : Value} {d : DataW H} {p : List MemPlace}
    (hval : Value.okWide Try.prog W .any base 35 v) (h : DataW.Trod enc Try.prog W 0 (fun _ => true) true 35 v d p) :
    ∃ A n c ls, v = .slice A n c ∧ RdL W W.heap.size A n ls ∧ ((∀ y ∈ ls, LayOk y) ∧ SlL d ls) ∧ n ≤ c := by
  obtain ⟨a0, len0, cap0, rfl⟩ := okWide_slice Try.underlying35 hval
  obtain ⟨fuel, hf⟩ := h
  rcases structs.open_slice_fields Try.underlying35 Try.underlying40 (by kernel_rfl) (by kernel_rfl) hf with ⟨hcs, hx⟩ | ⟨a, len, cap, m, D, Pl, hcs, _, hl, hm, hmm, hx, hi⟩
  · simp [Value.cells] at hcs
    obtain ⟨rfl, rfl, rfl⟩ := hcs
    simp only [Prod.mk.injEq] at hx
    exact ⟨none, 0, 0, [], rfl, ⟨rfl, fun h => absurd h (by omega)⟩, ⟨(fun y hy => by cases hy), .inl ⟨hx.1, rfl⟩⟩, Nat.le_refl _⟩
  · simp [Value.cells] at hcs
    obtain ⟨rfl, rfl, rfl⟩ := hcs
    rw [if_pos rfl] at hmm
    subst hmm
    simp only [Prod.mk.injEq] at hx
    have each : ∀ i, i < len0 → ∃ y : LayV, D i = layD y ∧ LayOk y ∧ ∀ (j : Nat) (u : Value), (layCells y)[j]? = some u → W.cell? (a.add (i * 5 + j)) = some u := by
      intro i hil
      obtain ⟨ys, n, hD, _, hlen, hfld⟩ := hi i (by omega)
      obtain ⟨v0, y0, c0, e0, t0⟩ := hfld 0 _ rfl
      obtain ⟨v1, y1, c1, e1, t1⟩ := hfld 1 _ rfl
      obtain ⟨v2, y2, c2, e2, t2⟩ := hfld 2 _ rfl
      obtain ⟨v3, y3, c3, e3, t3⟩ := hfld 3 _ rfl
      obtain ⟨v4, y4, c4, e4, t4⟩ := hfld 4 _ rfl
      obtain ⟨n0, hv0, hy0, w0⟩ := DataW.trod_int Try.underlying3 t0
      obtain ⟨n1, hv1, hy1, w1⟩ := DataW.trod_int Try.underlying5 t1
      obtain ⟨n2, hv2, hy2, w2⟩ := DataW.trod_int Try.underlying38 t2
      obtain ⟨n3, hv3, hy3, w3⟩ := trod_float Try.underlying25 t3
      obtain ⟨n4, hv4, hy4, w4⟩ := DataW.trod_string Try.underlying9 t4
      simp only [List.cons.injEq, and_true] at hv0 hv1 hv2 hv3 hv4
      subst hv0; subst hv1; subst hv2; subst hv3; subst hv4
      obtain ⟨x1, rfl⟩ := u8_of w1
      have b2 := u64_bd w2
      have b3 := f64_bd w3
      obtain ⟨k2, rfl⟩ := Int.eq_ofNat_of_zero_le b2.1
      have hlen5 : ys.length = 5 := hlen
      have hys : ys = [y0, y1, y2, y3, y4] := by
        match ys, hlen5 with
        | [z0, z1, z2, z3, z4], _ =>
          simp at e0 e1 e2 e3 e4
          rw [e0, e1, e2, e3, e4]
      refine ⟨⟨n0, x1, k2, n3, n4⟩, ?_, ⟨by show k2 < _; omega, b3⟩, fun j u hu => ?_⟩
      · rw [hD, hys, hy0, hy1, hy2, hy3, hy4]; rfl
      · match j, hu with
        | 0, hu => simp [layCells] at hu; subst hu; exact c0
        | 1, hu => simp [layCells] at hu; subst hu; exact c1
        | 2, hu => simp [layCells] at hu; subst hu; exact c2
        | 3, hu => simp [layCells] at hu; subst hu; exact c3
        | 4, hu => simp [layCells] at hu; subst hu; exact c4
        | j + 5, hu => simp [layCells] at hu
    obtain ⟨ls, hll, hls⟩ := list_of len0 each
    refine ⟨some a, len0, _, ls, rfl, ⟨by rw [cells_len, hll], fun hn => ⟨a, rfl, ?_, fun j u hu => ?_⟩⟩, ⟨fun y hy => ?_, .inr ⟨(List.range (m - len0)).map (fun j => D (len0 + j)), ?_⟩⟩, hl⟩
    · have hy := List.getElem?_eq_getElem (show 0 < ls.length by omega)
      have := World.block_lt_of_cell? W _ ((hls 0 _ hy).2.2 0 _ rfl)
      rw [block_of_add] at this
      exact this
    · have hj : j < ls.length * 5 := by
        rcases Nat.lt_or_ge j (ls.length * 5) with h | h
        · exact h
        · rw [List.getElem?_eq_none (by rw [cells_len]; exact h)] at hu; cases hu
      have hk : j / 5 < ls.length := by omega
      have hy := List.getElem?_eq_getElem hk
      have e : j = j / 5 * 5 + j % 5 := by omega
      rw [e, cells_get ls (j / 5) (j % 5) hk (by omega)] at hu
      rw [e]
      exact (hls _ _ hy).2.2 _ _ hu
    · obtain ⟨i, hi, rfl⟩ := List.getElem_of_mem hy
      exact (hls i _ (List.getElem?_eq_getElem hi)).2.1
    · rw [hx.1]
      congr 1
      refine List.ext_getElem? fun i => ?_
      by_cases hi : i < len0
      · have hy := List.getElem?_eq_getElem (show i < ls.length by omega)
        rw [List.getElem?_map, List.getElem?_map, hy, List.getElem?_range hi]
        exact congrArg some (hls i _ hy).1
      · rw [List.getElem?_eq_none (by simp; omega), List.getElem?_eq_none (by simp; omega)]

/-- what the bound gives of things that are laid -/
theorem lays_bulk {H : Type} (ls : List LayV) : (laidB ls).length ≤ 2 * Rows.uptoBulkAll (H := H) (ls.map layD) := by
  induction ls with
  | nil => simp [laidB]
  | cons y ls ih =>
    have h1 := layB_len y
    have h2 : laidB (y :: ls) = layB y ++ laidB ls := rfl
    rw [h2, List.length_append, List.map_cons]
    have e : Rows.uptoBulkAll (layD y :: ls.map layD) = Rows.uptoBulk (layD (H := H) y) + Rows.uptoBulkAll (ls.map layD) := rfl
    rw [e]
    have hb : Rows.uptoBulk (layD (H := H) y) = 6 + y.t.size := by
      simp only [layD, Rows.uptoBulk, Rows.uptoBulkAll, data_len]; omega
    omega
theorem upto_bulk {H : Type} {l : List (DataW H)} (hk : Rows.uptoSmall H l = true) : Rows.uptoBulkAll l ≤ 1048576 := of_decide_eq_true hk
theorem bulk_part {H : Type} {d : DataW H} {l : List (DataW H)} (h : d ∈ l) : Rows.uptoBulk d ≤ Rows.uptoBulkAll l := by
  induction l with
  | nil => cases h
  | cons x r ih =>
    simp only [Rows.uptoBulkAll]
    cases List.mem_cons.1 h with
    | inl e => subst e; omega
    | inr e => have := ih e; omega
theorem bulk_mem {H : Type} {d : DataW H} {l : List (DataW H)} (hk : Rows.uptoSmall H l = true) (h : d ∈ l) : Rows.uptoBulk d ≤ 1048576 := Nat.le_trans (bulk_part h) (upto_bulk hk)
theorem lays_n {H : Type} {d : DataW H} {ls : List LayV} {w : World} {B n : Nat} {A : Option Addr} (h : (∀ y ∈ ls, LayOk y) ∧ SlL d ls) (hr : RdL w B A n ls) (hb : Rows.uptoBulk d ≤ 1048576) : n ≤ 1048576 := by
  have hl := hr.len
  have h1 : ∀ ls : List LayV, ls.length ≤ Rows.uptoBulkAll (H := H) (ls.map layD) := by
    intro ls
    induction ls with
    | nil => simp
    | cons y ls ih =>
      have e : Rows.uptoBulkAll (layD y :: ls.map layD) = Rows.uptoBulk (layD (H := H) y) + Rows.uptoBulkAll (ls.map layD) := rfl
      have hb : Rows.uptoBulk (layD (H := H) y) = 6 + y.t.size := by
        simp only [layD, Rows.uptoBulk, Rows.uptoBulkAll, data_len]; omega
      rw [List.map_cons, e, List.length_cons]
      omega
  rcases h.2 with ⟨rfl, rfl⟩ | ⟨sp, rfl⟩
  · simp at hl; omega
  · have := h1 ls
    simp only [Rows.uptoBulk] at hb
    omega
theorem lays_ok {H : Type} {d : DataW H} {ls : List LayV} (h : (∀ y ∈ ls, LayOk y) ∧ SlL d ls) {m : Nat} (hb : Rows.uptoBulk d ≤ m) (hm : m ≤ 1048576) : LaysOk ls := by
  refine ⟨h.1, ?_⟩
  rcases h.2 with ⟨rfl, rfl⟩ | ⟨sp, rfl⟩
  · simp [laidB]
  · have := lays_bulk (H := H) ls
    simp only [Rows.uptoBulk] at hb
    omega

end Go.Proofs.Ytbeaacchhaipjaa
