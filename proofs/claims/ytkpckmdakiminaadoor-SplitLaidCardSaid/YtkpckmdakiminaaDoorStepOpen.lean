/-
  The law's steps: how a slice of them is opened.
-/
import Derived.Test.YtkpckmdakiminaaDoorOpen
import Derived.Test.YtkpckmdakiminaaDoorUpto
import Derived.Deep.Slices
import Derived.Deep.Fields
import Derived.ChangeSame
namespace Go.Proofs.YtkpckmdakiminaaDoor
open Go.RowKit
namespace structs
open Go.ChangeShapes Go.WideShapes Go.Deep

section
variable {H : Type} {enc : TypeId × Value → H} {P : Program} {w : World} {base : Nat} {spare : Nat → Bool} {held : Bool}
theorem open_slice_fields {t e : TypeId} {fs : Array Field} {fuel : Nat} {cs : List Value} {x : DataW H × List MemPlace} (ht : P.underlying t = some (.slice e)) (he : P.underlying e = some (.struct fs))
    (hone : oneCellFields P fs = true) (hC : P.cellsOf e = fs.size) (h : DataW.trod enc P w base spare held fuel t cs = some x) :
    (cs = [.slice none 0 0] ∧ x = (.nil, [])) ∨
    ∃ (a : Addr) (len cap m : Nat) (D : Nat → DataW H) (Pl : Nat → List MemPlace), cs = [.slice (some a) len cap] ∧ base ≤ a.block ∧ len ≤ cap ∧ cap ≤ maxLen ∧ m = (if spare a.block then cap else len) ∧
      x = (.slice ((List.range len).map D) ((List.range (m - len)).map fun j => D (len + j)), MemPlace.row a (m * fs.size) ++ (List.range m).flatMap Pl) ∧
      ∀ i, i < m → ∃ (ys : List (DataW H × List MemPlace)) (n : Nat), D i = .agg (ys.map (·.1)) ∧ Pl i = ys.flatMap (·.2) ∧ ys.length = fs.size ∧
        ∀ (j : Nat) (f : Field), fs[j]? = some f → ∃ (v : Value) (y : DataW H × List MemPlace), w.cell? (a.add (i * fs.size + j)) = some v ∧ ys[j]? = some y ∧ DataW.trod enc P w base spare held n f.type [v] = some y := by
  rcases open_slice ht h with h0 | ⟨a, len, cap, m, n, D, Pl, hcs, hb, hl, hm, hmm, hx, hi⟩
  · exact .inl h0
  · refine .inr ⟨a, len, cap, m, D, Pl, hcs, hb, hl, hm, hmm, by rw [hC] at hx; exact hx, fun i him => ?_⟩
    obtain ⟨cs', hc, ht'⟩ := hi i him
    rw [hC] at hc
    obtain ⟨ys, n', hn', hy, hlen, hyl, hf⟩ := DataW.trod_struct he ht'
    obtain ⟨_, hcl, hat⟩ := World.cells?_some hc
    simp only [Prod.mk.injEq] at hy
    refine ⟨ys, n', hy.1, hy.2, hyl, fun j f hj => ?_⟩
    obtain ⟨ho, hk⟩ := hone_of hone j f hj
    have hjl : j < fs.size := (Array.getElem?_eq_some_iff.1 hj).1
    have hcell := hat j hjl
    have hv : cs'[j]? = some (cs'[j]'(by omega)) := List.getElem?_eq_getElem (by omega)
    have h1 := hf j f hj
    rw [ho, hk] at h1
    have hone' : (cs'.drop j).take 1 = [cs'[j]'(by omega)] := by
      rw [List.drop_eq_getElem_cons (by omega)]
      rfl
    rw [hone'] at h1
    have hys : ys[j]? = some (ys[j]'(by omega)) := List.getElem?_eq_getElem (by omega)
    refine ⟨_, _, ?_, hys, h1.trans hys⟩
    rw [← Go.Deep.add_add, hcell, hv]
end

end structs
open Go.ChangeShapes Go.WideShapes

theorem list_of {α : Type} {p : Nat → α → Prop} : ∀ n : Nat, (∀ i, i < n → ∃ y, p i y) → ∃ l : List α, l.length = n ∧ ∀ (i : Nat) (y : α), l[i]? = some y → p i y
  | 0, _ => ⟨[], rfl, fun i y h => by simp at h⟩
  | n + 1, h => by
    obtain ⟨l, hl, hp⟩ := list_of n fun i hi => h i (by omega)
    obtain ⟨y, hy⟩ := h n (by omega)
    refine ⟨l ++ [y], by simp [hl], fun i z hz => ?_⟩
    by_cases hi : i < l.length
    · rw [List.getElem?_append_left hi] at hz; exact hp i z hz
    · rw [List.getElem?_append_right (by omega)] at hz
      have : i - l.length = 0 := by
        rcases Nat.eq_zero_or_pos (i - l.length) with h0 | h0
        · exact h0
        · rw [List.getElem?_eq_none (by simp; omega)] at hz; cases hz
      rw [this] at hz
      simp at hz
      subst hz
      rw [show i = n from by omega]
      exact hy

theorem trod_b {H : Type} {enc : TypeId × Value → H} {W : World} {fuel : Nat} {cs : List Value} {x : DataW H × List MemPlace}
    (h : DataW.trod enc Tryd.prog W 0 (fun _ => true) true fuel 22 cs = some x) : ∃ A n c l, cs = [.slice A n c] ∧ RdB W W.heap.size A n l ∧ SlD x.1 n ∧ n ≤ c := by
  rcases open_ints Tryd.underlying22 Tryd.underlying5 cellsU8 h with ⟨hcs, hx⟩ | ⟨x, l, c, zs, hcs, _, hl, hm, hz, hx, hcell, hwz⟩
  · subst hx
    exact ⟨none, 0, 0, [], hcs, RdB.nil, .inl ⟨rfl, rfl⟩, Nat.le_refl _⟩
  · subst hx
    rw [if_pos rfl] at hz
    have hlen : ((zs.take l).map byt).length = l := by rw [List.length_map, List.length_take]; omega
    refine ⟨some x, l, c, (zs.take l).map byt, hcs, ⟨by rw [bv_length]; omega, fun hn => ⟨x, rfl, ?_, fun j u hu => ?_⟩⟩, .inr ⟨_, _, rfl, by simp [lits]; omega⟩, hl⟩
    · have := World.block_lt_of_cell? W _ (hcell 0 (by omega))
      rw [block_of_add] at this
      exact this
    · have hj : j < l := by
        rcases Nat.lt_or_ge j l with h | h
        · exact h
        · rw [List.getElem?_eq_none (by rw [bv_length, hlen]; exact h)] at hu; cases hu
      rw [hcell j (by omega)]
      rw [bv_get _ j (by rw [hlen]; exact hj)] at hu
      rw [← hu]
      congr 2
      have hb := u8_bd (hwz (zs.getD j 0) (by rw [getD_get zs j (by omega)]; exact List.getElem_mem _))
      rw [List.getElem_map, List.getElem_take, ← getD_get zs j (by omega), byt_toNat hb.1 hb.2]

/-- one step -/
structure StepV where
  what : Int
  A : Option Addr
  n : Nat
  c : Nat
  l : List UInt8
  rs : List UInt8
  near : Bool
def stepCells (y : StepV) : List Value := [.int .i64 y.what, .slice y.A y.n y.c, .string (bstr y.rs), .bool y.near]
def RdT (w : World) (B : Nat) (A : Option Addr) (n : Nat) (ys : List StepV) : Prop := Reads w B 4 A n (ys.flatMap stepCells) ∧ ∀ y ∈ ys, RdB w B y.A y.n y.l ∧ y.n ≤ y.c ∧ y.n ≤ 1048576 ∧ -9223372036854775808 ≤ y.what ∧ y.what ≤ 9223372036854775807

theorem stepCells_len (ls : List StepV) : (ls.flatMap stepCells).length = ls.length * 4 := by
  induction ls with
  | nil => rfl
  | cons y ls ih => simp [stepCells, ih]; omega
theorem stepCells_get : ∀ (ls : List StepV) (k j : Nat) (hk : k < ls.length), j < 4 → (ls.flatMap stepCells)[k * 4 + j]? = (stepCells ls[k])[j]?
  | y :: ls, 0, j, _, hj => by
    rw [List.flatMap_cons, List.getElem?_append_left (by simp [stepCells]; omega)]; simp
  | y :: ls, k + 1, j, hk, hj => by
    rw [List.flatMap_cons, List.getElem?_append_right (by simp [stepCells]; omega)]
    have := stepCells_get ls k j (by simpa using hk) hj
    rw [show (k + 1) * 4 + j - (stepCells y).length = k * 4 + j from by simp [stepCells]; omega, this]
    simp

section
variable {w w' : World} {B B' n : Nat} {A : Option Addr} {ys : List StepV}
theorem RdT.len (h : RdT w B A n ys) : ys.length = n := by have := h.1.1; rw [stepCells_len] at this; omega
theorem RdT.below (h : RdT w B A n ys) (hb : Below B w w') : RdT w' B A n ys := ⟨Reads.below h.1 hb, fun y hy => ⟨(h.2 y hy).1.below hb, (h.2 y hy).2⟩⟩
theorem RdT.at_ (h : RdT w B A n ys) {k : Nat} (hk : k < n) : ∃ b off y, A = some ⟨b, off, none⟩ ∧ b < B ∧ ys[k]? = some y ∧
    w.cell? ⟨b, off + k * 4, none⟩ = some (.int .i64 y.what) ∧ w.cell? ⟨b, off + k * 4 + 1, none⟩ = some (.slice y.A y.n y.c) ∧ w.cell? ⟨b, off + k * 4 + 2, none⟩ = some (.string (bstr y.rs)) ∧ w.cell? ⟨b, off + k * 4 + 3, none⟩ = some (.bool y.near) ∧
    RdB w B y.A y.n y.l ∧ y.n ≤ y.c ∧ y.n ≤ 1048576 ∧ -9223372036854775808 ≤ y.what ∧ y.what ≤ 9223372036854775807 := by
  obtain ⟨ad, rfl, hb, hall⟩ := h.1.2 (by omega)
  have hl : k < ys.length := by rw [h.len]; exact hk
  have hg : ∀ j, j < 4 → ∀ u, (stepCells ys[k])[j]? = some u → w.cell? (ad.add (k * 4 + j)) = some u := fun j hj u hu => hall (k * 4 + j) u (by rw [stepCells_get ys k j hl hj]; exact hu)
  have h0 := hg 0 (by omega) _ rfl
  have hz := hall 0 _ (by have := stepCells_get ys 0 0 (by omega) (by omega); rw [show 0 * 4 + 0 = 0 from rfl] at this; rw [this]; rfl)
  obtain ⟨b, off, sp⟩ := ad
  have hsp : sp = none := by simpa [Addr.add] using World.cell?_spot hz
  subst hsp
  have h1 := hg 1 (by omega) _ rfl
  have h2 := hg 2 (by omega) _ rfl
  have h3 := hg 3 (by omega) _ rfl
  rw [Addr.add_lit] at h0 h1 h2 h3
  have hm := h.2 _ (List.getElem_mem hl)
  exact ⟨b, off, ys[k], rfl, hb, List.getElem?_eq_getElem hl, h0, h1, h2, h3, hm.1, hm.2⟩
end

theorem open_steps {H : Type} {enc : TypeId × Value → H} {W : World} {base : Nat} {v : Value} {d : DataW H} {p : List MemPlace}
    (hval : Value.okWide Tryd.prog W .any base 33 v) (h : DataW.Trod enc Tryd.prog W 0 (fun _ => true) true 33 v d p) (hb : Rows.uptoBulk d ≤ 1048576) :
    ∃ A n c ys, v = .slice A n c ∧ RdT W W.heap.size A n ys ∧ n ≤ 1048576 ∧ n ≤ c := by
  obtain ⟨a0, len0, cap0, rfl⟩ := okWide_slice Tryd.underlying33 hval
  obtain ⟨fuel, hf⟩ := h
  rcases structs.open_slice_fields Tryd.underlying33 Tryd.underlying42 (by kernel_rfl) (by kernel_rfl) hf with ⟨hcs, hx⟩ | ⟨a, len, cap, m, D, Pl, hcs, _, hl, hm, hmm, hx, hi⟩
  · simp [Value.cells] at hcs
    obtain ⟨rfl, rfl, rfl⟩ := hcs
    exact ⟨none, 0, 0, [], rfl, ⟨⟨rfl, fun h => absurd h (by omega)⟩, fun y hy => by cases hy⟩, by omega, Nat.le_refl _⟩
  · simp [Value.cells] at hcs
    obtain ⟨rfl, rfl, rfl⟩ := hcs
    rw [if_pos rfl] at hmm
    subst hmm
    simp only [Prod.mk.injEq] at hx
    have hd := hx.1
    subst hd
    have hbl : ∀ i, i < len0 → Rows.uptoBulk (D i) ≤ 1048576 := by
      intro i hi2
      simp only [Rows.uptoBulk] at hb
      have := bulk_part (List.mem_map.2 ⟨i, List.mem_range.2 hi2, rfl⟩ : D i ∈ (List.range len0).map D)
      omega
    have hn : len0 ≤ 1048576 := by
      simp only [Rows.uptoBulk] at hb
      have := bulk_all_len ((List.range len0).map D)
      rw [List.length_map, List.length_range] at this
      omega
    have each : ∀ i, i < len0 → ∃ y : StepV, (RdB W W.heap.size y.A y.n y.l ∧ y.n ≤ y.c ∧ y.n ≤ 1048576 ∧ -9223372036854775808 ≤ y.what ∧ y.what ≤ 9223372036854775807) ∧ ∀ (j : Nat) (u : Value), (stepCells y)[j]? = some u → W.cell? (a.add (i * 4 + j)) = some u := by
      intro i hil
      have hbi := hbl i hil
      obtain ⟨ys, n, hD, _, hlen, hfld⟩ := hi i (by omega)
      obtain ⟨v0, y0, c0, e0, t0⟩ := hfld 0 _ rfl
      obtain ⟨v1, y1, c1, e1, t1⟩ := hfld 1 _ rfl
      obtain ⟨v2, y2, c2, e2, t2⟩ := hfld 2 _ rfl
      obtain ⟨v3, y3, c3, e3, t3⟩ := hfld 3 _ rfl
      obtain ⟨n0, hv0, hy0, w0⟩ := DataW.trod_int Tryd.underlying3 t0
      obtain ⟨A1, n1, k1, l1, hv1, hr1, hs1, hc1⟩ := trod_b t1
      obtain ⟨n2, hv2, hy2, w2⟩ := DataW.trod_string Tryd.underlying9 t2
      obtain ⟨n3, hv3, hy3⟩ := DataW.trod_bool Tryd.underlying4 t3
      simp only [List.cons.injEq, and_true] at hv0 hv1 hv2 hv3
      subst hv0; subst hv1; subst hv2; subst hv3
      have hlen4 : ys.length = 4 := hlen
      have hys : ys = [y0, y1, y2, y3] := by
        match ys, hlen4 with
        | [z0, z1, z2, z3], _ =>
          simp at e0 e1 e2 e3
          rw [e0, e1, e2, e3]
      have hb1 : Rows.uptoBulk y1.1 ≤ 1048576 := by
        rw [hD, hys] at hbi
        simp only [Rows.uptoBulk] at hbi
        have := bulk_part (show y1.1 ∈ [y0, y1, y2, y3].map (·.1) from by simp)
        omega
      refine ⟨⟨n0, A1, n1, k1, l1, n2.data.toList, n3⟩, ⟨hr1, hc1, bulk_sl hs1 hb1, i64_bd w0⟩, fun j u hu => ?_⟩
      match j, hu with
      | 0, hu => simp [stepCells] at hu; subst hu; exact c0
      | 1, hu => simp [stepCells] at hu; subst hu; exact c1
      | 2, hu => simp [stepCells, bstr] at hu; subst hu; exact c2
      | 3, hu => simp [stepCells] at hu; subst hu; exact c3
      | j + 4, hu => simp [stepCells] at hu
    obtain ⟨ls, hll, hls⟩ := list_of len0 each
    refine ⟨some a, len0, _, ls, rfl, ⟨⟨by rw [stepCells_len, hll], fun hn => ⟨a, rfl, ?_, fun j u hu => ?_⟩⟩, fun y hy => ?_⟩, hn, hl⟩
    · have hy := List.getElem?_eq_getElem (show 0 < ls.length by omega)
      have := World.block_lt_of_cell? W _ ((hls 0 _ hy).2 0 _ rfl)
      rw [block_of_add] at this
      exact this
    · have hj : j < ls.length * 4 := by
        rcases Nat.lt_or_ge j (ls.length * 4) with h | h
        · exact h
        · rw [List.getElem?_eq_none (by rw [stepCells_len]; exact h)] at hu; cases hu
      have hk : j / 4 < ls.length := by omega
      have hy := List.getElem?_eq_getElem hk
      have e : j = j / 4 * 4 + j % 4 := by omega
      rw [e, stepCells_get ls (j / 4) (j % 4) hk (by omega)] at hu
      rw [e]
      exact (hls _ _ hy).2 _ _ hu
    · obtain ⟨i, hi, rfl⟩ := List.getElem_of_mem hy
      exact (hls i _ (List.getElem?_eq_getElem hi)).1

theorem open_steps' {H : Type} {enc : TypeId × Value → H} {W : World} {base : Nat} {v : Value} {d : DataW H} {p : List MemPlace} (hb : Rows.uptoBulk d ≤ 1048576)
    (hval : Value.okWide Tryd.prog W .any base 33 v) (h : DataW.Trod enc Tryd.prog W 0 (fun _ => true) true 33 v d p) :
    ∃ A n c ys, v = .slice A n c ∧ RdT W W.heap.size A n ys ∧ n ≤ 1048576 ∧ n ≤ c := open_steps hval h hb

end Go.Proofs.YtkpckmdakiminaaDoor
