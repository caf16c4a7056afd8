/-
  Slices of slices of bytes: 'RdR' one that reads as a list of rows, 'OwnR' one of the call's own with rows of the call's own; append of a row.
-/
import Derived.Test.YtkpckmdakiminaaBytes
namespace Go.Proofs.Ytkpckmdakiminaa
open Go.RowKit

/-- a row: a slice of bytes, and what it reads as -/
structure RowV where
  A : Option Addr
  n : Nat
  c : Nat
  l : List UInt8
def rowCell (r : RowV) : Value := .slice r.A r.n r.c
def RdR (w : World) (B : Nat) (A : Option Addr) (n : Nat) (rs : List RowV) : Prop := Reads w B 1 A n (rs.map rowCell) ∧ ∀ r ∈ rs, RdB w B r.A r.n r.l ∧ r.n ≤ r.c
def OwnR (w : World) (base : Nat) (A : Option Addr) (n c : Nat) (rs : List RowV) : Prop := w.ownsRow base 23 1 (.slice A n c) n (rs.map rowCell) ∧ ∀ r ∈ rs, OwnB w base r.A r.n r.c r.l
/-- the rows' bytes -/
def bytesOf (rs : List RowV) : List (List UInt8) := rs.map (·.l)

theorem own_ne {w : World} {b b' : Nat} {e e' : TypeId} {s s' n n' : Nat} {v v' : Value} {xs xs' : List Value} (h : w.ownsRow b e s v n xs) (h' : w.ownsRow b' e' s' v' n' xs') (hne : e ≠ e') : v.ownBlock = none ∨ v.ownBlock ≠ v'.ownBlock := by
  rcases h'.2 with ⟨rfl, _⟩ | ⟨g, cap, cur, rfl, _, hh, _⟩
  · by_cases hv : v.ownBlock = none
    · exact .inl hv
    · exact .inr (by simpa [Value.ownBlock] using hv)
  · exact .inr (fun e1 => own_blk_ne h (show Blk w g e' cur from hh) hne (by rw [e1]; rfl))

section
variable {w w' : World} {B B' n c base : Nat} {A : Option Addr} {rs : List RowV}
theorem RdR.len (h : RdR w B A n rs) : rs.length = n := by have := h.1.1; rw [List.length_map] at this; omega
theorem RdR.below (h : RdR w B A n rs) (hb : Below B w w') : RdR w' B A n rs := ⟨Reads.below h.1 hb, fun r hr => ⟨(h.2 r hr).1.below hb, (h.2 r hr).2⟩⟩
theorem RdR.more (h : RdR w B A n rs) (hB : B ≤ B') : RdR w B' A n rs := ⟨Reads.more h.1 hB, fun r hr => ⟨(h.2 r hr).1.more hB, (h.2 r hr).2⟩⟩
theorem RdR.drewN (h : RdR w B A n rs) (k : Nat) : RdR (w.drewN k) B A n rs := h
theorem RdR.nil : RdR w B A 0 [] := ⟨⟨rfl, fun h => absurd h (by omega)⟩, fun _ h => by cases h⟩
theorem RdR.at_ (h : RdR w B A n rs) {k : Nat} (hk : k < n) : ∃ b off r, A = some ⟨b, off, none⟩ ∧ b < B ∧ rs[k]? = some r ∧ w.cell? ⟨b, off + k, none⟩ = some (.slice r.A r.n r.c) ∧ RdB w B r.A r.n r.l ∧ r.n ≤ r.c := by
  obtain ⟨ad, rfl, hb, hall⟩ := h.1.2 (by omega)
  have hl : k < rs.length := by rw [h.len]; exact hk
  have hc := hall k (rowCell rs[k]) (by rw [List.getElem?_map, List.getElem?_eq_getElem hl]; rfl)
  have h0 := hall 0 (rowCell (rs[0]'(by omega))) (by rw [List.getElem?_map, List.getElem?_eq_getElem (by omega)]; rfl)
  obtain ⟨b, off, sp⟩ := ad
  have hsp : sp = none := by simpa [Addr.add] using World.cell?_spot h0
  subst hsp
  rw [Addr.add_lit] at hc
  have h2 := h.2 rs[k] (List.getElem_mem hl)
  exact ⟨b, off, rs[k], rfl, hb, List.getElem?_eq_getElem hl, hc, h2.1, h2.2⟩
theorem RdR.upto (h : RdR w B A n rs) {k : Nat} (hk : k ≤ n) : RdR w B A k (rs.take k) := by
  have hlen := h.len
  refine ⟨⟨by rw [List.length_map, List.length_take]; omega, fun hn => ?_⟩, fun r hr => h.2 r (List.mem_of_mem_take hr)⟩
  obtain ⟨ad, e, hb, hc⟩ := h.1.2 (by omega)
  refine ⟨ad, e, hb, fun j u hu => hc j u ?_⟩
  rw [List.getElem?_map, List.getElem?_take] at hu
  rw [List.getElem?_map]
  split at hu
  · exact hu
  · cases hu

theorem OwnR.len (h : OwnR w base A n c rs) : rs.length = n := by have := h.1.1; rw [List.length_map] at this; omega
theorem OwnR.nil : OwnR w base none 0 0 [] := ⟨World.ownsRow_nil _ _ _ _, fun _ h => by cases h⟩
theorem OwnR.rd (h : OwnR w base A n c rs) : RdR w w.heap.size A n rs := ⟨Reads.of_own h.1, fun r hr => ⟨(h.2 r hr).rd, (h.2 r hr).cap⟩⟩
theorem OwnR.cap (h : OwnR w base A n c rs) : n ≤ c := by
  rcases h.1.2 with ⟨e, _⟩ | ⟨g, cap, cur, e, _, _, h3, _⟩
  · injection e with _ e1 e2; omega
  · injection e with _ _ e; omega
theorem OwnR.lt (h : OwnR w base A n c rs) : ∀ k, ob A = some k → base ≤ k ∧ k < w.heap.size := by
  have := World.ownsRow.lt h.1; rw [ob_own] at this; exact this
theorem OwnR.alloc (h : OwnR w base A n c rs) (o : Obj) : OwnR (w.alloc o) base A n c rs := ⟨World.ownsRow.alloc h.1 o, fun r hr => (h.2 r hr).alloc o⟩
theorem OwnR.drewN (h : OwnR w base A n c rs) (k : Nat) : OwnR (w.drewN k) base A n c rs := h
theorem OwnR.below (h : OwnR w base A n c rs) (hb : Below B w w') (hB : w.heap.size ≤ B) : OwnR w' base A n c rs :=
  ⟨ownsRow_fr h.1 (Fr.of_below hb) (fun k hk => by have := World.ownsRow.lt h.1 k hk; omega), fun r hr => (h.2 r hr).below hb (fun k hk => by have := (h.2 r hr).lt k hk; omega)⟩
theorem OwnR.base_le (h : OwnR w base A n c rs) (hB : B ≤ base) : OwnR w B A n c rs := by
  refine ⟨⟨h.1.1, ?_⟩, fun r hr => (h.2 r hr).base_le (fun k _ hk => by omega)⟩
  rcases h.1.2 with h2 | ⟨g, cap, cur, e, h1, h3⟩
  · exact .inl h2
  · exact .inr ⟨g, cap, cur, e, by omega, h3⟩
end

theorem rows_info : (Try.prog.info? 23).map (fun i => (i.zero, i.size, i.bytes)) = some (some (.slice none 0 0), 1, 24) := by kernel_rfl

theorem reads_row (w : World) (r : RowV) (cs : Array Value) (t : TypeId) (h : cs.toList = [rowCell r]) : Reads (w.alloc (.cells cs t)) (w.heap.size + 1) 1 (some ⟨w.heap.size, 0, none⟩) 1 [rowCell r] := by
  refine ⟨rfl, fun _ => ⟨_, rfl, Nat.lt_succ_self _, fun j u hu => ?_⟩⟩
  rw [Addr.add_lit, Nat.zero_add, cell_of_row _ _ _ _ _ _ (heap_alloc_new w _)]
  rw [← h] at hu
  simpa using hu

/-- append of a row onto rows of the call's own -/
theorem wpList_append_row (w : World) {ops : Array Oper} {rest : List Oper} {o : Oper} {a : Act} {Q : Exit → Act → World → Prop} (hgd : o.guard = none) (s x : Operand)
    (ho : o.op = .call { callee := .builtin .append, args := #[s, x], argTypes := #[25, 25] })
    (base : Nat) (A : Option Addr) (n c : Nat) (rs : List RowV) (hs : a.eval s = .slice A n c) (hown : OwnR w base A n c rs) (r : RowV) (hr0 : OwnB w base r.A r.n r.c r.l)
    (B : Nat) (A2 : Option Addr) (hx : a.eval x = .slice A2 1 1) (hr : Reads w B 1 A2 1 [rowCell r]) (hbd : n < 4398046511104) (hbase : base ≤ w.heap.size)
    (h : ∀ A' n' c' w', n' = n + 1 → OwnR w' base A' n' c' (rs ++ [r]) → w.grownBy w' (ob A) → (ob A' = ob A ∨ ob A' = some w.heap.size) → wpList Try.prog ops Q rest (a.put o.dst (.slice A' n' c')) w') :
    wpList Try.prog ops Q (o :: rest) a w := by
  obtain ⟨i0, hi, hz0, hz1, hz2⟩ := info_parts rows_info
  refine wpList_append_any w hgd s x 25 ho base 23 i0 _ 1 24 Try.underlying25 hi hz0 hz1 hz2 rfl (by decide) (.slice A n c) n _ hs hown.1 B A2 1 1 [rowCell r] hx hr (by intro u hu; rw [List.mem_singleton.1 hu]; rfl) (by unfold maxLen; omega) (by omega) hbase ?_
  intro v' w' h2 h3 h4
  have hv : ∃ A' c', v' = .slice A' (n + 1) c' := by
    rcases h2.2 with ⟨_, e⟩ | ⟨g, cap, cur, rfl, _⟩
    · omega
    · exact ⟨_, _, rfl⟩
  obtain ⟨A', c', rfl⟩ := hv
  have h30 := h3
  rw [ob_own] at h3 h4
  rw [ob_own] at h4
  have hkeep : ∀ q : RowV, OwnB w base q.A q.n q.c q.l → OwnB w' base q.A q.n q.c q.l := fun q hq => hq.kept h3 (by
    have := own_ne hq hown.1 (by decide)
    rw [ob_own, ob_own] at this
    exact this)
  refine h A' _ c' w' rfl ⟨by rw [List.map_append]; exact h2, fun q hq => ?_⟩ h3 h4
  rcases List.mem_append.1 hq with h1 | h1
  · exact hkeep q (hown.2 q h1)
  · rw [List.mem_singleton.1 h1]; exact hkeep r hr0

end Go.Proofs.Ytkpckmdakiminaa
