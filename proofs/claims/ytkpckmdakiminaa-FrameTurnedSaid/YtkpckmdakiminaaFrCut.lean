/-
  The walk of FrameCut: cut off anywhere, just the frames that are whole are told.
-/
import Derived.Test.YtkpckmdakiminaaFrBack
import Derived.Test.YtkpckmdakiminaaPick
namespace Go.Proofs.Ytkpckmdakiminaa
open Go.RowKit

/-- the bytes of the first frames -/
def pre (ps : List (List UInt8)) (j : Nat) : List UInt8 := (ps.take j).flatMap frameB
theorem pre_succ {ps : List (List UInt8)} {j : Nat} {p : List UInt8} (h : ps[j]? = some p) : pre ps (j + 1) = pre ps j ++ frameB p := by
  obtain ⟨hj, e⟩ := List.getElem?_eq_some_iff.1 h
  unfold pre
  rw [List.take_succ_eq_append_getElem hj, e, List.flatMap_append]
  simp
theorem pre_all (ps : List (List UInt8)) : pre ps ps.length = ps.flatMap frameB := by unfold pre; rw [List.take_length]
theorem pre_split (ps : List (List UInt8)) (j : Nat) : ps.flatMap frameB = pre ps j ++ (ps.drop j).flatMap frameB := by
  unfold pre
  rw [← List.flatMap_append, List.take_append_drop]

/-- cut off: the first frames, and the place behind them -/
theorem listB_cut {ps : List (List UInt8)} (hp : ∀ p ∈ ps, p.length ≤ 4194304) {j cut : Nat} (_hj : j ≤ ps.length) (h1 : (pre ps j).length ≤ cut) (h2 : j < ps.length → cut < (pre ps (j + 1)).length) :
    listB ((ps.flatMap frameB).take cut) = (ps.take j, (pre ps j).length) := by
  have hpt : ∀ p ∈ ps.take j, p.length ≤ 4194304 := fun p h => hp p (List.mem_of_mem_take h)
  rw [pre_split ps j, List.take_append, List.take_of_length_le h1]
  rcases Nat.lt_or_ge j ps.length with hlt | hge
  · have hget : ps[j]? = some ps[j] := List.getElem?_eq_getElem hlt
    have hd : ps.drop j = ps[j] :: ps.drop (j + 1) := List.drop_eq_getElem_cons hlt
    have hpj := hp ps[j] (List.getElem_mem hlt)
    have h3 := h2 hlt
    rw [pre_succ hget, List.length_append] at h3
    rw [hd, List.flatMap_cons, List.take_append_of_le_length (by omega)]
    rw [frameB_len hpj] at h3
    exact listB_frames _ (frame_cut hpj (by omega)) (ps.take j) hpt
  · have hd : ps.drop j = [] := List.drop_eq_nil_of_le hge
    rw [hd]
    simp only [List.flatMap_nil, List.take_nil]
    exact listB_frames [] (whole_short (by decide)) (ps.take j) hpt

/-- a slice of numbers of the call's own -/
def OwnI (w : World) (base : Nat) (A : Option Addr) (n c : Nat) (ks : List Int) : Prop := w.ownsRow base 3 1 (.slice A n c) n (ks.map (Value.int .i64))
theorem int_info : (Try.prog.info? 3).map (fun i => (i.zero, i.size, i.bytes)) = some (some (.int .i64 0), 1, 8) := by kernel_rfl
theorem OwnI.len {w : World} {base n c : Nat} {A : Option Addr} {ks : List Int} (h : OwnI w base A n c ks) : ks.length = n := by have := h.1; rw [List.length_map] at this; omega
theorem OwnI.below {w w' : World} {base n c B : Nat} {A : Option Addr} {ks : List Int} (h : OwnI w base A n c ks) (hb : Below B w w') (hB : w.heap.size ≤ B) : OwnI w' base A n c ks :=
  ownsRow_fr h (Fr.of_below hb) (fun k hk => by have := World.ownsRow.lt h k hk; omega)
theorem OwnI.at_ {w : World} {base n c : Nat} {A : Option Addr} {ks : List Int} (h : OwnI w base A n c ks) {k : Nat} (hk : k < n) : ∃ g x, A = some ⟨g, 0, none⟩ ∧ g < w.heap.size ∧ ks[k]? = some x ∧ w.cell? ⟨g, k, none⟩ = some (.int .i64 x) := by
  obtain ⟨g, cap, hv, _, hlt⟩ := World.ownsRow.form h (by omega)
  injection hv with hA
  subst hA
  have hl : k < ks.length := by rw [h.len]; exact hk
  refine ⟨g, ks[k], rfl, hlt, List.getElem?_eq_getElem hl, ?_⟩
  rw [World.ownsRow.cellAt h k (by omega), List.getElem?_map, List.getElem?_eq_getElem hl]
  rfl

theorem reads_int (w : World) (x : Int) (t : TypeId) : Reads (w.alloc (.cells #[.int .i64 x] t)) (w.heap.size + 1) 1 (some ⟨w.heap.size, 0, none⟩) 1 [.int .i64 x] := by
  refine ⟨rfl, fun _ => ⟨_, rfl, Nat.lt_succ_self _, fun j u hu => ?_⟩⟩
  rw [Addr.add_lit, Nat.zero_add, cell_of_row _ _ _ _ _ _ (heap_alloc_new w _)]
  simpa using hu

theorem wpList_append_i (w : World) {ops : Array Oper} {rest : List Oper} {o : Oper} {a : Act} {Q : Exit → Act → World → Prop} (hgd : o.guard = none) (s x : Operand)
    (ho : o.op = .call { callee := .builtin .append, args := #[s, x], argTypes := #[33, 33] })
    (base : Nat) (A : Option Addr) (n c : Nat) (ks : List Int) (hs : a.eval s = .slice A n c) (hown : OwnI w base A n c ks) (y : Int)
    (B : Nat) (A2 : Option Addr) (hx : a.eval x = .slice A2 1 1) (hr : Reads w B 1 A2 1 [.int .i64 y]) (hbd : n < 4398046511104) (hbase : base ≤ w.heap.size)
    (h : ∀ A' n' c' w', n' = n + 1 → OwnI w' base A' n' c' (ks ++ [y]) → w.grownBy w' (ob A) → wpList Try.prog ops Q rest (a.put o.dst (.slice A' n' c')) w') :
    wpList Try.prog ops Q (o :: rest) a w := by
  obtain ⟨i0, hi, hz0, hz1, hz2⟩ := info_parts int_info
  refine wpList_append_any w hgd s x 33 ho base 3 i0 _ 1 8 Try.underlying33 hi hz0 hz1 hz2 rfl (by decide) (.slice A n c) n _ hs hown B A2 1 1 [.int .i64 y] hx hr (by intro u hu; rw [List.mem_singleton.1 hu]; rfl) (by unfold maxLen; omega) (by omega) hbase ?_
  intro v' w' h2 h3 h4
  have hv : ∃ A' c', v' = .slice A' (n + 1) c' := by
    rcases h2.2 with ⟨_, e⟩ | ⟨g, cap, cur, rfl, _⟩
    · omega
    · exact ⟨_, _, rfl⟩
  obtain ⟨A', c', rfl⟩ := hv
  rw [ob_own] at h3
  exact h A' _ c' w' rfl (by unfold OwnI; rw [List.map_append]; exact h2) h3

/-- the places behind the frames -/
def endsOf (ps : List (List UInt8)) (j : Nat) : List Int := (List.range j).map fun i => ((pre ps (i + 1)).length : Int)
theorem endsOf_succ (ps : List (List UInt8)) (j : Nat) : endsOf ps (j + 1) = endsOf ps j ++ [((pre ps (j + 1)).length : Int)] := by unfold endsOf; rw [List.range_succ, List.map_append]; rfl
theorem endsOf_get {ps : List (List UInt8)} {j k : Nat} (h : k < j) : (endsOf ps j)[k]? = some ((pre ps (k + 1)).length : Int) := by unfold endsOf; rw [List.getElem?_map, List.getElem?_range h]; rfl

end Go.Proofs.Ytkpckmdakiminaa
