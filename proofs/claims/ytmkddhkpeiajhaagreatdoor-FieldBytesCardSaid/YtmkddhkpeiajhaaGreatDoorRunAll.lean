import Derived.WalkMore
import Derived.ScopeJumps
import Derived.Test.YtmkddhkpeiajhaaGreatDoorMachine
import Derived.Test.YtmkddhkpeiajhaaGreatDoorRxs
import Derived.Laws.FloatArith
import Derived.Laws.ComplexArith
import Derived.Test.YtmkddhkpeiajhaaGreatDoorNfaPlain
namespace Go.Proofs.YtmkddhkpeiajhaaGreatDoor
def jumps (J : Nat → Act → World → Prop) (Q : Exit → Act → World → Prop) : Exit → Act → World → Prop
 | .goto l, a, w => J l a w
 | e, a, w => Q e a w
def two (l1 : Nat) (J1 : Act → World → Prop) (l2 : Nat) (J2 : Act → World → Prop) (Q : Exit → Act → World → Prop) : Exit → Act → World → Prop
 | .goto l, a, w => (l = l1 ∧ J1 a w) ∨ (l = l2 ∧ J2 a w)
 | e, a, w => Q e a w
theorem wp_scope_jumps1 {P : Program} {a : Act} {w : World} {Q : Exit → Act → World → Prop} {c rest : Code} (l : Nat) (J : Act → World → Prop) (μ : Act → World → Nat) (hf : findLabel c l = some (Code.skip.seq rest))
  (first : (∀ a w, J a w → rest.wp P (Exit.jump l J Q) a w) → c.wp P (Exit.jump l J Q) a w)
  (pass : ∀ a w, J a w → rest.wp P (Exit.jump l (fun a' w' => J a' w' ∧ μ a' w' < μ a w) Q) a w) : (Code.scope c).wp P Q a w :=
 wp_scope_jumps l J μ hf (first fun a w h => (Code.wp_mono (fun e a' w' q => by cases e <;> first | exact q | exact ⟨q.1, q.2.1⟩) (pass a w h))) (fun a w h => wp_seq (wp_skip (pass a w h)))
end Go.Proofs.YtmkddhkpeiajhaaGreatDoor
namespace Go.Proofs.YtmkddhkpeiajhaaGreatDoor
open Classical in
noncomputable def rankOf (J : Nat → Act → World → Prop) (a : Act) (w : World) : Nat := if h : ∃ n, J n a w then Nat.find_ h else 0
where
 Nat.find_ {p : Nat → Prop} (h : ∃ n, p n) : Nat := Classical.choose (least h)
 least {p : Nat → Prop} (h : ∃ n, p n) : ∃ n, p n ∧ ∀ m, p m → n ≤ m := by
  obtain ⟨n, hn⟩ := h
  induction n using Nat.strongRecOn with
  | _ n ih =>
   by_cases hm : ∃ m, m < n ∧ p m
   ·obtain ⟨m, h1, h2⟩ := hm
    exact ih m h1 h2
   ·exact ⟨n, hn, fun m h => Nat.le_of_not_lt fun h' => hm ⟨m, h', h⟩⟩
theorem rankOf_spec {J : Nat → Act → World → Prop} {a : Act} {w : World} (h : ∃ n, J n a w) : J (rankOf J a w) a w ∧ ∀ m, J m a w → rankOf J a w ≤ m := by
 have e : rankOf J a w = rankOf.Nat.find_ h := by unfold rankOf; rw [dif_pos h]
 rw [e]
 exact Classical.choose_spec (rankOf.least h)
theorem wp_scope_rank {P : Program} {a : Act} {w : World} {Q : Exit → Act → World → Prop} {c r : Code} (l : Nat) (J : Nat → Act → World → Prop) (hf : findLabel c l = some (Code.skip.seq r))
  (first : (∀ n a w, J n a w → r.wp P (Exit.jump l (fun a w => ∃ n, J n a w) Q) a w) → c.wp P (Exit.jump l (fun a w => ∃ n, J n a w) Q) a w)
  (pass : ∀ n a w, J n a w → r.wp P (Exit.jump l (fun a' w' => ∃ m, m < n ∧ J m a' w') Q) a w) : (Code.scope c).wp P Q a w := by
 have up : ∀ n a w, J n a w → r.wp P (Exit.jump l (fun a w => ∃ n, J n a w) Q) a w := fun n a w h =>
  Code.wp_mono (fun e a' w' q => by
   cases e with
   | goto l' => exact ⟨q.1, q.2.elim fun m h => ⟨m, h.2⟩⟩
   | _ => exact q) (pass n a w h)
 refine wp_scope_jumps1 l (fun a w => ∃ n, J n a w) (rankOf J) hf (fun _ => first up) ?_
 rintro a w h
 obtain ⟨h1, _⟩ := rankOf_spec h
 refine Code.wp_mono (fun e a' w' q => ?_) (pass _ a w h1)
 cases e with
 | goto l' =>
  obtain ⟨q1, m, q2, q3⟩ := q
  exact ⟨q1, ⟨m, q3⟩, Nat.lt_of_le_of_lt ((rankOf_spec ⟨m, q3⟩).2 m q3) q2⟩
 | _ => exact q
end Go.Proofs.YtmkddhkpeiajhaaGreatDoor
namespace Go.Proofs.YtmkddhkpeiajhaaGreatDoor
open Go.RowKit
def natL (l : List Nat) : List Value := l.map fun x : Nat => Value.int .i64 (x : Int)
def OwnS (w : World) (base : Nat) (A : Option Addr) (n c : Nat) (l : List Nat) : Prop := l.length = n ∧ w.ownsRow base 3 1 (.slice A n c) n (natL l)
def wkL (u : Nat × Nat) : List Value := [.int .i64 (u.1 : Int), .int .i64 (u.2 : Int)]
def OwnW (w : World) (base : Nat) (A : Option Addr) (n c : Nat) (l : List (Nat × Nat)) : Prop := l.length = n ∧ w.ownsRow base 158 2 (.slice A n c) n (l.flatMap wkL)
theorem num_info : (Tryz.prog.info? 3).map (fun i => (i.zero, i.size, i.bytes)) = some (some (.int .i64 0), 1, 8) := by kernel_rfl
theorem walker_info : (Tryz.prog.info? 158).map (fun i => (i.zero, i.size, i.bytes)) = some (some (.agg #[.int .i64 0, .int .i64 0]), 2, 16) := by kernel_rfl
section
variable {w w' : World} {base n c : Nat} {A : Option Addr} {l : List Nat} {ls : List (Nat × Nat)}
theorem OwnS.nil : OwnS w base none 0 0 [] := ⟨rfl, World.ownsRow_nil _ _ _ _⟩
theorem OwnW.nil : OwnW w base none 0 0 [] := ⟨rfl, World.ownsRow_nil _ _ _ _⟩
theorem OwnS.fr {p : Nat → Prop} (h : OwnS w base A n c l) (hf : Fr w w' p) (hA : ∀ k, ob A = some k → ¬ p k) : OwnS w' base A n c l := ⟨h.1, ownsRow_fr h.2 hf (fun k hk => hA k (by rw [← ob_own A n c]; exact hk))⟩
theorem OwnW.fr {p : Nat → Prop} (h : OwnW w base A n c ls) (hf : Fr w w' p) (hA : ∀ k, ob A = some k → ¬ p k) : OwnW w' base A n c ls := ⟨h.1, ownsRow_fr h.2 hf (fun k hk => hA k (by rw [← ob_own A n c]; exact hk))⟩
theorem OwnS.later (h : OwnS w base A n c l) (hl : Later w w') : OwnS w' base A n c l := h.fr (Fr.laterF hl) (fun _ _ h => h)
theorem OwnW.later (h : OwnW w base A n c ls) (hl : Later w w') : OwnW w' base A n c ls := h.fr (Fr.laterF hl) (fun _ _ h => h)
theorem OwnS.blk (h : OwnS w base A n c l) {k : Nat} (hk : ob A = some k) : k < w.heap.size ∧ base ≤ k ∧ ∃ cs, Blk w k 3 cs := own_row_blk h.2 hk
theorem OwnW.blk (h : OwnW w base A n c ls) {k : Nat} (hk : ob A = some k) : k < w.heap.size ∧ base ≤ k ∧ ∃ cs, Blk w k 158 cs := own_row_blk h.2 hk
theorem OwnS.cap (h : OwnS w base A n c l) : n ≤ c := own_row_form h.2
theorem natL_get (l : List Nat) {k x : Nat} (h : l[k]? = some x) : (natL l)[k]? = some (.int .i64 (x : Int)) := by unfold natL; rw [List.getElem?_map, h]; rfl
theorem OwnS.at_ (h : OwnS w base A n c l) {k x : Nat} (hx : l[k]? = some x) : ∃ g, A = some ⟨g, 0, none⟩ ∧ g < w.heap.size ∧ base ≤ g ∧ w.cell? ⟨g, k, none⟩ = some (.int .i64 (x : Int)) ∧ w.frozen? ⟨g, k, none⟩ = false := by
 have hk : k < n := by have := (List.getElem?_eq_some_iff.1 hx).1; have := h.1; omega
 obtain ⟨g, cap, hv, hb, hlt⟩ := World.ownsRow.form h.2 (by omega)
 injection hv with hA
 subst hA
 obtain ⟨_, _, cs, hB⟩ := h.blk (k := g) rfl
 refine ⟨g, rfl, hlt, hb, ?_, hB.frozen _⟩
 rw [World.ownsRow.cellAt h.2 k (by omega)]
 exact natL_get l hx
theorem flatw_get : ∀ (xs : List (Nat × Nat)) (i j : Nat) (x : Nat × Nat) (u : Value), xs[i]? = some x → (wkL x)[j]? = some u → (xs.flatMap wkL)[i * 2 + j]? = some u
 | [], _, _, _, _, h, _ => by cases h
 | y :: ys, 0, j, x, u, h, hu => by
  injection h with h
  subst h
  have hj : j < 2 := (List.getElem?_eq_some_iff.1 hu).1
  rw [List.flatMap_cons, Nat.zero_mul, Nat.zero_add, List.getElem?_append_left hj]
  exact hu
 | y :: ys, i + 1, j, x, u, h, hu => by
  have hl : (wkL y).length = 2 := rfl
  rw [List.flatMap_cons, List.getElem?_append_right (by omega), hl, show (i + 1) * 2 + j - 2 = i * 2 + j by omega]
  exact flatw_get ys i j x u h hu
theorem OwnW.at_ (h : OwnW w base A n c ls) {k : Nat} {x : Nat × Nat} (hx : ls[k]? = some x) : ∃ g, A = some ⟨g, 0, none⟩ ∧ g < w.heap.size ∧ base ≤ g ∧ w.cell? ⟨g, k * 2, none⟩ = some (.int .i64 (x.1 : Int)) ∧ w.cell? ⟨g, k * 2 + 1, none⟩ = some (.int .i64 (x.2 : Int)) := by
 have hk : k < n := by have := (List.getElem?_eq_some_iff.1 hx).1; have := h.1; omega
 obtain ⟨g, cap, hv, hb, hlt⟩ := World.ownsRow.form h.2 (by omega)
 injection hv with hA
 subst hA
 refine ⟨g, rfl, hlt, hb, ?_, ?_⟩
 ·rw [World.ownsRow.cellAt h.2 (k * 2) (by omega)]
  exact flatw_get ls k 0 x _ hx rfl
 ·rw [World.ownsRow.cellAt h.2 (k * 2 + 1) (by omega)]
  exact flatw_get ls k 1 x _ hx rfl
theorem natL_set (l : List Nat) (k x : Nat) : natL (l.set k x) = (natL l).set k (.int .i64 (x : Int)) := by unfold natL; rw [List.map_set]
theorem OwnS.set_ {g k x : Nat} (h : OwnS w base (some ⟨g, 0, none⟩) n c l) (hk : k < n) : OwnS (w.setCell ⟨g, k, none⟩ (.int .i64 (x : Int))) base (some ⟨g, 0, none⟩) n c (l.set k x) := by
 refine ⟨by rw [List.length_set]; exact h.1, ?_⟩
 rw [natL_set]
 have := own_set (_sp := none) h.2 (j := k) (.int .i64 (x : Int)) (by omega)
 rw [Nat.zero_add] at this
 exact this
theorem OwnS.cut {m : Nat} (h : OwnS w base A n c l) (hm : m ≤ n) (hA : A ≠ none) : OwnS w base A m c (l.take m) := by
 refine ⟨by rw [List.length_take]; have := h.1; omega, ?_⟩
 have := own_cut h.2 hm hA
 unfold natL at this ⊢
 rw [List.map_take]
 rwa [Nat.mul_one] at this
theorem OwnS.one (w : World) {base : Nat} (hb : base ≤ w.heap.size) (x : Nat) : OwnS (w.alloc (.cells #[.int .i64 (x : Int)] 3)) base (some ⟨w.heap.size, 0, none⟩) 1 1 [x] :=
 ⟨rfl, rfl, .inr ⟨w.heap.size, 1, _, rfl, hb, Blk.new w _ _, Nat.le_refl _, by unfold maxLen; omega, rfl, rfl⟩⟩
end
theorem reads_nat1 (w : World) (x : Nat) (t : TypeId) {b : Nat} (hb : b = w.heap.size) : Reads (w.alloc (.cells #[.int .i64 (x : Int)] t)) (w.heap.size + 1) 1 (some ⟨b, 0, none⟩) 1 (natL [x]) := by
 subst hb
 refine ⟨rfl, fun _ => ⟨_, rfl, Nat.lt_succ_self _, fun j u hu => ?_⟩⟩
 rw [Addr.add_lit, Nat.zero_add, cell_of_row _ _ _ _ _ _ (heap_alloc_new w _), ← Array.getElem?_toList]
 exact hu
theorem reads_nat2 (w : World) (x y : Nat) (t : TypeId) {b : Nat} (hb : b = w.heap.size) : Reads (w.alloc (.cells #[.int .i64 (x : Int), .int .i64 (y : Int)] t)) (w.heap.size + 1) 1 (some ⟨b, 0, none⟩) 2 (natL [x, y]) := by
 subst hb
 refine ⟨rfl, fun _ => ⟨_, rfl, Nat.lt_succ_self _, fun j u hu => ?_⟩⟩
 rw [Addr.add_lit, Nat.zero_add, cell_of_row _ _ _ _ _ _ (heap_alloc_new w _), ← Array.getElem?_toList]
 exact hu
theorem reads_wk (w : World) (x y : Nat) (t : TypeId) {b : Nat} (hb : b = w.heap.size) : Reads (w.alloc (.cells #[.int .i64 (x : Int), .int .i64 (y : Int)] t)) (w.heap.size + 1) 2 (some ⟨b, 0, none⟩) 1 (wkL (x, y)) := by
 subst hb
 refine ⟨rfl, fun _ => ⟨_, rfl, Nat.lt_succ_self _, fun j u hu => ?_⟩⟩
 rw [Addr.add_lit, Nat.zero_add, cell_of_row _ _ _ _ _ _ (heap_alloc_new w _), ← Array.getElem?_toList]
 exact hu
def NewOb (w : World) (A A' : Option Addr) : Prop := ∀ k, ob A' = some k → ob A = some k ∨ w.heap.size ≤ k
theorem wpList_append_s (w : World) {ops : Array Oper} {rest : List Oper} {o : Oper} {a : Act} {Q : Exit → Act → World → Prop} (hgd : o.guard = none) (s x : Operand)
  (ho : o.op = .call { callee := .builtin .append, args := #[s, x], argTypes := #[152, 152] })
  (base : Nat) (A : Option Addr) (n c : Nat) (l : List Nat) (hs : a.eval s = .slice A n c) (hown : OwnS w base A n c l) (m : Nat) (ys : List Nat)
  (B : Nat) (A2 : Option Addr) (hm : m ≠ 0) (hx : a.eval x = .slice A2 m m) (hr : Reads w B 1 A2 m (natL ys)) (hm2 : m ≤ 1000) (hbd : n < 1000000000) (hbase : base ≤ w.heap.size)
  (h : ∀ A' n' c' w', n' = n + m → OwnS w' base A' n' c' (l ++ ys) → w.grownBy w' (ob A) → NewOb w A A' → wpList Tryz.prog ops Q rest (a.put o.dst (.slice A' n' c')) w') :
  wpList Tryz.prog ops Q (o :: rest) a w := by
 obtain ⟨i0, hi, hz0, hz1, hz2⟩ := info_parts num_info
 have hml : ys.length = m := by have := hr.1; unfold natL at this; rw [List.length_map] at this; omega
 refine wpList_append_any w hgd s x 152 ho base 3 i0 _ 1 8 Tryz.underlying152 hi hz0 hz1 hz2 rfl (by decide) (.slice A n c) n _ hs hown.2 B A2 m m (natL ys) hx hr (by intro u hu; unfold natL at hu; obtain ⟨y, _, rfl⟩ := List.mem_map.1 hu; rfl) (by unfold maxLen; omega) (by omega) hbase ?_
 intro v' w' h2 h3 h4
 have hv : ∃ A' c', v' = .slice A' (n + m) c' := by
  rcases h2.2 with ⟨_, e⟩ | ⟨g, cap, cur, rfl, _⟩
  ·omega
  ·exact ⟨_, _, rfl⟩
 obtain ⟨A', c', rfl⟩ := hv
 rw [ob_own] at h3
 refine h A' _ c' w' rfl ⟨by rw [List.length_append, hown.1, hml], by unfold natL at h2 ⊢; rw [List.map_append]; exact h2⟩ h3 (fun k hk => ?_)
 rw [ob_own, ob_own] at h4
 rcases h4 with h4 | h4
 ·exact .inl (by rw [← h4]; exact hk)
 ·rw [h4] at hk; injection hk with hk; exact .inr (by omega)
theorem wpList_append_w (w : World) {ops : Array Oper} {rest : List Oper} {o : Oper} {a : Act} {Q : Exit → Act → World → Prop} (hgd : o.guard = none) (s x : Operand)
  (ho : o.op = .call { callee := .builtin .append, args := #[s, x], argTypes := #[153, 153] })
  (base : Nat) (A : Option Addr) (n c : Nat) (l : List (Nat × Nat)) (hs : a.eval s = .slice A n c) (hown : OwnW w base A n c l) (y : Nat × Nat)
  (B : Nat) (A2 : Option Addr) (hx : a.eval x = .slice A2 1 1) (hr : Reads w B 2 A2 1 (wkL y)) (hbd : n < 1000000000) (hbase : base ≤ w.heap.size)
  (h : ∀ A' n' c' w', n' = n + 1 → OwnW w' base A' n' c' (l ++ [y]) → w.grownBy w' (ob A) → NewOb w A A' → wpList Tryz.prog ops Q rest (a.put o.dst (.slice A' n' c')) w') :
  wpList Tryz.prog ops Q (o :: rest) a w := by
 obtain ⟨i0, hi, hz0, hz1, hz2⟩ := info_parts walker_info
 refine wpList_append_any w hgd s x 153 ho base 158 i0 _ 2 16 Tryz.underlying153 hi hz0 hz1 hz2 rfl (by decide) (.slice A n c) n _ hs hown.2 B A2 1 1 (wkL y) hx hr (by intro u hu; simp [wkL] at hu; rcases hu with rfl | rfl <;> rfl) (by unfold maxLen; omega) (by omega) hbase ?_
 intro v' w' h2 h3 h4
 have hv : ∃ A' c', v' = .slice A' (n + 1) c' := by
  rcases h2.2 with ⟨_, e⟩ | ⟨g, cap, cur, rfl, _⟩
  ·omega
  ·exact ⟨_, _, rfl⟩
 obtain ⟨A', c', rfl⟩ := hv
 rw [ob_own] at h3
 refine h A' _ c' w' rfl ⟨by rw [List.length_append, hown.1]; rfl, by rw [List.flatMap_append]; simpa using h2⟩ h3 (fun k hk => ?_)
 rw [ob_own, ob_own] at h4
 rcases h4 with h4 | h4
 ·exact .inl (by rw [← h4]; exact hk)
 ·rw [h4] at hk; injection hk with hk; exact .inr (by omega)
theorem MacW.fr {w w' : World} {base g : Nat} {l : List NSt} {b : Int} {p : Nat → Prop} (h : MacW w base g l b) (hf : Fr w w' p) (hp : ∀ k, p k → ∃ t cs, Blk w k t cs ∧ t ≠ 123 ∧ t ≠ 127) : MacW w' base g l b := by
 obtain ⟨A, n, c, h1, h2⟩ := h
 refine ⟨A, n, c, h1.fr hf (fun hg => ?_), h2.fr hf (fun k hk hpk => ?_)⟩
 ·obtain ⟨t, cs, hB, ht, _⟩ := hp g hg
  exact Blk.ne_ hB h1 ht rfl
 ·obtain ⟨t, cs, hB, _, ht⟩ := hp k hpk
  obtain ⟨_, _, cs', hB'⟩ := h2.blk hk
  exact Blk.ne_ hB hB' ht rfl
structure RunW (w : World) (base g gr gs : Nat) (S : ByteArray) (vn : Value) (seen : List Nat) (A : Option Addr) (n c : Nat) (next : List (Nat × Nat)) : Prop where
 blk : ∃ ns cs, Blk w gr 155 #[.pointer (some ⟨g, 0, none⟩), .string S, .slice (some ⟨gs, 0, none⟩) ns cs, vn, .slice A n c] ∧ OwnS w base (some ⟨gs, 0, none⟩) ns cs seen
 row : OwnW w base A n c next
def InR (gr gs : Nat) (A : Option Addr) (k : Nat) : Prop := k = gr ∨ k = gs ∨ ob A = some k
def Reached (w : World) (base g gr gs : Nat) (S : ByteArray) (vn : Value) (A : Option Addr) (R : List Nat × List (Nat × Nat)) (w' : World) : Prop :=
 ∃ A' n' c', RunW w' base g gr gs S vn R.1 A' n' c' R.2 ∧ Fr w w' (InR gr gs A) ∧ NewOb w A A'
theorem reach_count (L : List NSt) (len p fr : Nat) : ∀ (f : Nat) (st seen : List Nat) (next : List (Nat × Nat)), (∀ s ∈ st, s < seen.length) → WfM L → seen.length = L.length →
  (reachF L len p fr f st seen next).2.length + unmk p (reachF L len p fr f st seen next).1 ≤ next.length + unmk p seen
 | 0, _, _, _, _, _, _ => Nat.le_refl _
 | f + 1, [], _, _, _, _, _ => Nat.le_refl _
 | f + 1, s :: st, seen, next, hs, hW, hlen => by
  unfold reachF
  have hs0 := hs s (List.mem_cons_self ..)
  have hst : ∀ t ∈ st, t < seen.length := fun t ht => hs t (List.mem_cons_of_mem _ ht)
  by_cases hk : seen[s]? = some (p + 1)
  ·rw [if_pos hk]; exact reach_count L len p fr f st seen next hst hW hlen
  ·rw [if_neg hk]
   obtain ⟨n, hn⟩ : ∃ n, L[s]? = some n := ⟨_, List.getElem?_eq_getElem (by omega)⟩
   have hu : unmk p (seen.set s (p + 1)) + 1 = unmk p seen := by
    obtain ⟨v, hv⟩ : ∃ v, seen[s]? = some v := ⟨_, List.getElem?_eq_getElem hs0⟩
    exact unmk_set hv (fun e => hk (by rw [hv, e]))
   have hw := hW s n hn
   have hl2 : (seen.set s (p + 1)).length = L.length := by rw [List.length_set, hlen]
   have hset : ∀ t, t < L.length → t < (seen.set s (p + 1)).length := fun t ht => by rw [hl2]; exact ht
   have hst2 : ∀ t ∈ st, t < (seen.set s (p + 1)).length := fun t ht => by rw [List.length_set]; exact hst t ht
   rw [hn]
   simp only
   split
   ·have := reach_count L len p fr f (n.a :: n.b :: st) (seen.set s (p + 1)) next (fun t ht => by
     rcases List.mem_cons.1 ht with rfl | ht
     ·exact hset _ hw.1
     ·rcases List.mem_cons.1 ht with rfl | ht
      ·exact hset _ hw.2.1
      ·exact hst2 t ht) hW hl2
    omega
   ·split
    ·have := reach_count L len p fr f (if p = 0 then n.a :: st else st) (seen.set s (p + 1)) next (fun t ht => by
      split at ht
      ·rcases List.mem_cons.1 ht with rfl | ht
       ·exact hset _ hw.1
       ·exact hst2 t ht
      ·exact hst2 t ht) hW hl2
     omega
    ·split
     ·have := reach_count L len p fr f (if p = len then n.a :: st else st) (seen.set s (p + 1)) next (fun t ht => by
       split at ht
       ·rcases List.mem_cons.1 ht with rfl | ht
        ·exact hset _ hw.1
        ·exact hst2 t ht
       ·exact hst2 t ht) hW hl2
      omega
     ·have := reach_count L len p fr f st (seen.set s (p + 1)) (next ++ [(s, fr)]) hst2 hW hl2
      rw [List.length_append, List.length_singleton] at this
      omega
end Go.Proofs.YtmkddhkpeiajhaaGreatDoor
namespace Go.Proofs.YtmkddhkpeiajhaaGreatDoor
open Go.RowKit
section
variable {w w' w1 : World} {base g gr gs : Nat} {S : ByteArray} {vn : Value} {seen : List Nat} {A : Option Addr} {n c : Nat} {next : List (Nat × Nat)}
theorem RunW.fr {p : Nat → Prop} (h : RunW w base g gr gs S vn seen A n c next) (hf : Fr w w' p) (h1 : ¬ p gr) (h2 : ¬ p gs) (h3 : ∀ k, ob A = some k → ¬ p k) : RunW w' base g gr gs S vn seen A n c next := by
 obtain ⟨⟨ns, cs, hB, ho⟩, hr⟩ := h
 exact ⟨⟨ns, cs, hB.fr hf h1, ho.fr hf (fun k hk => by injection hk with hk; subst hk; exact h2)⟩, hr.fr hf h3⟩
theorem RunW.later (h : RunW w base g gr gs S vn seen A n c next) (hl : Later w w') : RunW w' base g gr gs S vn seen A n c next := h.fr (Fr.laterF hl) (fun h => h) (fun h => h) (fun _ _ h => h)
theorem RunW.ty (h : RunW w base g gr gs S vn seen A n c next) : (∃ cs, Blk w gr 155 cs) ∧ (∃ cs, Blk w gs 3 cs) ∧ (∀ k, ob A = some k → ∃ cs, Blk w k 158 cs) := by
 obtain ⟨⟨ns, cs, hB, ho⟩, hr⟩ := h
 exact ⟨⟨_, hB⟩, (ho.blk (k := gs) rfl).2.2, fun k hk => (hr.blk hk).2.2⟩
theorem RunW.grown (h : RunW w base g gr gs S vn seen A n c next) {A8 : Option Addr} (hg : w.grownBy w' (ob A8)) (h8 : ∀ k, ob A8 = some k → k ≠ gs ∧ ∃ cs, Blk w k 3 cs) : RunW w' base g gr gs S vn seen A n c next := by
 obtain ⟨⟨c1, hB1⟩, _, h3⟩ := h.ty
 refine h.fr (Fr.of_grown hg) (fun e => ?_) (fun e => (h8 _ e).1 rfl) (fun k hk e => ?_)
 ·obtain ⟨_, cs, hB⟩ := h8 _ e
  exact Blk.ne_ hB1 hB (by decide) rfl
 ·obtain ⟨_, cs, hB⟩ := h8 _ e
  obtain ⟨cs', hB'⟩ := h3 k hk
  exact Blk.ne_ hB' hB (by decide) rfl
theorem RunW.mark (h : RunW w base g gr gs S vn seen A n c next) {s : Nat} (hs : s < seen.length) (v : Nat) : RunW (w.setCell ⟨gs, s, none⟩ (.int .i64 (v : Int))) base g gr gs S vn (seen.set s v) A n c next := by
 obtain ⟨⟨c1, hB1⟩, ⟨c2, hB2⟩, h3⟩ := h.ty
 obtain ⟨⟨ns, cs, hB, ho⟩, hr⟩ := h
 have hne : gr ≠ gs := fun e => by subst e; exact Blk.ne_ hB1 hB2 (by decide) rfl
 refine ⟨⟨ns, cs, hB.far (p := ⟨gs, s, none⟩) hne _, ho.set_ (by rw [← ho.1]; exact hs)⟩, hr.fr (Fr.set (Fr.refl w (fun k => k = gs)) (a := ⟨gs, s, none⟩) (fun _ => rfl) _) (fun k hk e => ?_)⟩
 obtain ⟨cs', hB'⟩ := h3 k hk
 subst e
 exact Blk.ne_ hB' hB2 (by decide) rfl
theorem RunW.put (h : RunW w base g gr gs S vn seen A n c next) {A' : Option Addr} {n' c' : Nat} {next' : List (Nat × Nat)} (hg : w.grownBy w1 (ob A)) (ho : OwnW w1 base A' n' c' next') :
  (∃ cs, cs[4]? = some (Value.slice A n c) ∧ Blk w1 gr 155 cs) ∧ RunW (w1.setCell ⟨gr, 4, none⟩ (.slice A' n' c')) base g gr gs S vn seen A' n' c' next' := by
 obtain ⟨⟨c1, hB1⟩, ⟨c2, hB2⟩, h3⟩ := h.ty
 obtain ⟨⟨ns, cs, hB, hs⟩, hr⟩ := h
 have hn1 : ob A ≠ some gr := fun e => by obtain ⟨cs', hB'⟩ := h3 _ e; exact Blk.ne_ hB' hB1 (by decide) rfl
 have hn2 : ob A ≠ some gs := fun e => by obtain ⟨cs', hB'⟩ := h3 _ e; exact Blk.ne_ hB' hB2 (by decide) rfl
 have hne : gs ≠ gr := fun e => by subst e; exact Blk.ne_ hB1 hB2 (by decide) rfl
 have hB' := hB.grown hg (fun e => hn1 e.symm)
 have hs' : OwnS w1 base (some ⟨gs, 0, none⟩) ns cs seen := hs.fr (Fr.of_grown hg) (fun k hk e => by injection hk with hk; subst hk; exact hn2 e)
 have hset : Fr w1 (w1.setCell ⟨gr, 4, none⟩ (.slice A' n' c')) (fun k => k = gr) := Fr.set (Fr.refl w1 (fun k => k = gr)) (a := ⟨gr, 4, none⟩) (fun _ => rfl) _
 refine ⟨⟨_, rfl, hB'⟩, ⟨ns, cs, by simpa using hB'.set_ 4 (.slice A' n' c'), hs'.fr hset (fun k hk e => by injection hk with hk; exact hne (hk.trans e))⟩, ho.fr hset (fun k hk e => ?_)⟩
 obtain ⟨_, _, cs', hB''⟩ := ho.blk hk
 subst e
 exact Blk.ne_ hB'' hB' (by decide) rfl
end
def reachFr (gr p fr : Nat) (A8 : Option Addr) (n8 c8 : Nat) (u : Nat → Value) : Act := { tmps := #[.pointer (some ⟨gr, 0, none⟩), u 1, .int .i64 (p : Int), .int .i64 (fr : Int), u 4, u 5, u 6, u 7, .slice A8 n8 c8, u 9, u 10, u 11, u 12, u 13, u 14, u 15, u 16, u 17, u 18, u 19, u 20, u 21, u 22, u 23, u 24, u 25, u 26, u 27, u 28, u 29, u 30, u 31, u 32, u 33, u 34, u 35, u 36, u 37, u 38, u 39, u 40, u 41, u 42, u 43, u 44, u 45, u 46, u 47, u 48, u 49, u 50, u 51, u 52, u 53, u 54, u 55, u 56, u 57, u 58, u 59, u 60, u 61, u 62, u 63, u 64, u 65, u 66, u 67, u 68, u 69, u 70, u 71, u 72, u 73, u 74, u 75, u 76, u 77, u 78, u 79, u 80, u 81, u 82, u 83, u 84, u 85, u 86, u 87, u 88, u 89, u 90, u 91, u 92, u 93, u 94, u 95, u 96, u 97, u 98, u 99], defers := [] }
def ReachJ (w : World) (base g gr gs mb : Nat) (L : List NSt) (bg : Int) (S : ByteArray) (vn : Value) (p fr : Nat) (A : Option Addr) (R : List Nat × List (Nat × Nat)) (f : Nat) (a' : Act) (w' : World) : Prop :=
 ∃ (st seen : List Nat) (next : List (Nat × Nat)) (A8 : Option Addr) (n8 c8 : Nat) (Ax : Option Addr) (nx cx : Nat), a' = reachFr gr p fr A8 n8 c8 (fun i => a'.tmps.getD i undef) ∧
  OwnS w' w.heap.size A8 n8 c8 st.reverse ∧ RunW w' base g gr gs S vn seen Ax nx cx next ∧ MacW w' mb g L bg ∧ Fr w w' (InR gr gs A) ∧ NewOb w A Ax ∧
  Hid (reachF L S.size p fr f st seen next = R) ∧ 3 * unmk p seen + st.length < f ∧ f ≤ 100000 ∧ (∀ s ∈ st, s < L.length) ∧ seen.length = L.length ∧ next.length + unmk p seen ≤ 100000
theorem rev_last (s : Nat) (st : List Nat) : (s :: st).reverse[st.length]? = some s := by rw [List.reverse_cons, List.getElem?_append_right (by simp)]; simp
theorem rev_take (s : Nat) (st : List Nat) : (s :: st).reverse.take st.length = st.reverse := by rw [List.reverse_cons, List.take_append_of_le_length (by simp)]; rw [List.take_of_length_le (by simp)]
theorem inR_ty {w : World} {base g gr gs : Nat} {S : ByteArray} {vn : Value} {seen : List Nat} {A : Option Addr} {n c : Nat} {next : List (Nat × Nat)} (h : RunW w base g gr gs S vn seen A n c next) : ∀ k, InR gr gs A k → ∃ t cs, Blk w k t cs ∧ t ≠ 123 ∧ t ≠ 127 := by
 obtain ⟨⟨c1, hB1⟩, ⟨c2, hB2⟩, h3⟩ := h.ty
 rintro k (rfl | rfl | hk)
 ·exact ⟨_, _, hB1, by decide, by decide⟩
 ·exact ⟨_, _, hB2, by decide, by decide⟩
 ·obtain ⟨cs, hB⟩ := h3 k hk
  exact ⟨_, _, hB, by decide, by decide⟩
theorem unmk_le (p : Nat) (seen : List Nat) : unmk p seen ≤ seen.length := List.countP_le_length
set_option maxRecDepth 100000 in
set_option maxHeartbeats 8000000 in
theorem reach_any (w : World) (base g gr gs mb : Nat) (L : List NSt) (bg : Int) (S : ByteArray) (vn : Value) (p fr s0 : Nat) (seen0 : List Nat) (A : Option Addr) (n c : Nat) (next0 : List (Nat × Nat)) (R : List Nat × List (Nat × Nat))
  (hM0 : MacW w mb g L bg) (hW : WfM L) (hR0 : RunW w base g gr gs S vn seen0 A n c next0) (hs0 : s0 < L.length) (hlen0 : seen0.length = L.length) (hp : p ≤ 1000000000) (_hfr : fr ≤ 1000000000) (hL : L.length ≤ 20000) (hN0 : next0.length + unmk p seen0 ≤ 100000) (hbase : base ≤ w.heap.size)
  (_hS : S.size ≤ 1000000000) (hres : reachF L S.size p fr (fuelF L) [s0] seen0 next0 = R) :
  Calls Tryz.prog 85 #[.pointer (some ⟨gr, 0, none⟩), .int .i64 (s0 : Int), .int .i64 (p : Int), .int .i64 (fr : Int)] w fun e w' => e = .returned (.tuple #[]) ∧ Reached w base g gr gs S vn A R w' := by
 have hgs : gs < w.heap.size := by obtain ⟨_, ⟨cs, h⟩, _⟩ := hR0.ty; exact h.lt
 have HW := Lib.hid hW
 have HRES := Lib.hid hres
 have hfu : fuelF L ≤ 100000 := by unfold fuelF; omega
 have hfu2 : 3 * unmk p seen0 + 1 < fuelF L := by have := unmk_le p seen0; unfold fuelF; omega
 clear hW hres
 go_enter Tryz.func85, Tryz.ntmps85
 go_wp2_with fail
 refine wp_scope_rank 0 (ReachJ w base g gr gs mb L bg S vn p fr A R) rfl ?_ ?_
 ·intro hpass
  go_wp2_with fail
  go_step3
  rename_i kk
  refine kk _ _ (hpass _ _ _ ⟨[s0], seen0, next0, _, _, _, A, n, c, rfl, OwnS.one w (Nat.le_refl _) s0, hR0.later ((Later.refl w).alloc _), hM0.later ((Later.refl w).alloc _), (Fr.refl w _).alloc _, fun k hk => .inl hk, HRES, hfu2, hfu, fun s hs => by rw [List.mem_singleton] at hs; omega, hlen0, hN0⟩)
 ·clear hM0 hR0 hlen0 hN0 HRES hfu hfu2 hs0
  rintro f a' w' ⟨st, seen, next, A8, n8, c8, Ax, nx, cx, ha, hst, hrun, hM, hF, hnew, hres, hf1, hf2, hin, hlen, hnx⟩
  generalize (fun i => a'.tmps.getD i undef) = u at ha
  subst ha
  unfold reachFr
  obtain ⟨f, rfl⟩ : ∃ f', f = f' + 1 := ⟨f - 1, by omega⟩
  rcases st with _ | ⟨s, st⟩
  ·have hn8 : n8 = 0 := by have := hst.1; simpa using this.symm
   subst hn8
   have HR : Hid (R = (seen, next)) := Lib.hid (by rw [← hres.out, reachF])
   clear hres hf1 hf2
   go_wp2_with fail
   simp only [Exit.jump]
   refine bodyPost_ret (v := .tuple #[]) (by simp [results, Tryz.results85, go_sem]) rfl ⟨rfl, ?_⟩
   rw [HR.out]
   exact ⟨Ax, nx, cx, hrun, hF, hnew⟩
  ·have hn8 : n8 = st.length + 1 := by have := hst.1; simp at this; omega
   obtain ⟨m, hm⟩ : ∃ m, m = st.length := ⟨_, rfl⟩
   subst hn8
   obtain ⟨g8, rfl, hg8, hg8b, hc8, _⟩ := hst.at_ (rev_last s st)
   have hcap := hst.cap
   have hst1 : OwnS w' w.heap.size (some ⟨g8, 0, none⟩) m c8 st.reverse := by
    have := hst.cut (m := st.length) (by omega) (by simp)
    rw [rev_take, ← hm] at this
    exact this
   rw [← hm] at hc8 hcap ⊢
   have hs : s < L.length := hin s (List.mem_cons_self ..)
   have hin' : ∀ t ∈ st, t < L.length := fun t ht => hin t (List.mem_cons_of_mem _ ht)
   have hm1 : m ≤ 100000 := by simp only [List.length_cons] at hf1; omega
   obtain ⟨⟨ns, cs, hB, ho⟩, hrw⟩ := id hrun
   obtain ⟨v, hv⟩ : ∃ v, seen[s]? = some v := ⟨_, List.getElem?_eq_getElem (by omega)⟩
   obtain ⟨_, hgs', _, _, hsv, hsf⟩ := ho.at_ hv
   injection hgs' with hgs'
   injection hgs' with hgs'
   subst hgs'
   have hns : seen.length = ns := ho.1
   have hsn : s < ns := by omega
   have k0 := hB.cell 0
   have k1 := hB.cell 1
   have k2 := hB.cell 2
   have hsni : (s : Int) < (ns : Int) := by omega
   have hf1' := hf1
   simp only [List.length_cons] at hf1'
   have hm' : st.length = m := hm.symm
   rw [hm'] at hf1'
   have HM := Lib.hid hm
   clear hst hin hm hm' hf1
   by_cases hk : v = p + 1
   ·have hvi : ((v : Int) == (p : Int) + 1) = true := by rw [beq_iff_eq]; omega
    have HR : Hid (reachF L S.size p fr f st seen next = R) := by
     show _ = _
     rw [← hres.out, reachF, if_pos (by rw [hv, hk])]
    clear hres hk hv
    go_wp2_with fail
    go_step3
    refine ⟨rfl, f, Nat.lt_succ_self _, st, seen, next, _, _, _, Ax, nx, cx, rfl, hst1, hrun, hM, hF, hnew, HR, by rw [← HM.out]; omega, by omega, hin', hlen, hnx⟩
   ·have hvi : ((v : Int) == (p : Int) + 1) = false := by rw [beq_eq_false_iff_ne]; omega
    obtain ⟨nd, hnd⟩ : ∃ nd, L[s]? = some nd := ⟨_, List.getElem?_eq_getElem hs⟩
    have hwf := HW.out s nd hnd
    have hnk : ¬ seen[s]? = some (p + 1) := by rw [hv]; intro h; injection h with h; exact hk h
    have hst' : reachF L S.size p fr (f + 1) (s :: st) seen next = R := hres.out
    rw [reachF, if_neg hnk, hnd] at hst'
    simp only at hst'
    have hu : unmk p (seen.set s (p + 1)) + 1 = unmk p seen := unmk_set hv hk
    have hslt : s < seen.length := by omega
    obtain ⟨W2, hW2⟩ : ∃ W2, W2 = w'.setCell ⟨gs, s, none⟩ (.int .i64 ((p : Int) + 1)) := ⟨_, rfl⟩
    have hFset : Fr w' W2 (fun k => k = gs) := by rw [hW2]; exact Fr.set (Fr.refl w' (fun k => k = gs)) (a := ⟨gs, s, none⟩) (fun _ => rfl) _
    have hrun2 : RunW W2 base g gr gs S vn (seen.set s (p + 1)) Ax nx cx next := by rw [hW2]; exact hrun.mark hslt (p + 1)
    have hst2 : OwnS W2 w.heap.size (some ⟨g8, 0, none⟩) m c8 st.reverse := hst1.fr hFset (fun k hk' e => by injection hk' with hk'; have hk' : g8 = k := hk'; omega)
    have hM2 : MacW W2 mb g L bg := hM.fr hFset (fun k e => by obtain ⟨_, ⟨cs', hB'⟩, _⟩ := hrun.ty; subst e; exact ⟨_, cs', hB', by decide, by decide⟩)
    have hF2 : Fr w W2 (InR gr gs A) := hF.trans hFset (fun k _ e => .inr (.inl e))
    obtain ⟨MA, MN, MC, hMB, hMo⟩ := id hM2
    obtain ⟨bm, om, hMA, hbm, e0, e1, e2, e3, e4, e5, e6⟩ := hMo.seven hnd
    have hMn : L.length = MN := hMo.1
    have hMni : (s : Int) < (MN : Int) := by omega
    have q0 := hMB.cell 0
    obtain ⟨⟨ns2, cs2, hB2, ho2⟩, hrw2⟩ := id hrun2
    have j0 := hB2.cell 0
    have hgrW : gr < W2.heap.size := hB2.lt
    have j1 := hB2.cell 1
    have j4 := hB2.cell 4
    have hlen2 : (seen.set s (p + 1)).length = L.length := by rw [List.length_set]; exact hlen
    have hnx2 : next.length + unmk p (seen.set s (p + 1)) ≤ 100000 := by omega
    have hnx3 : next.length + 1 + unmk p (seen.set s (p + 1)) ≤ 100000 := by omega
    have hb2 : w.heap.size ≤ W2.heap.size := hF2.size
    have hg8W : g8 < W2.heap.size := by have := hFset.size; omega
    have HU := Lib.hid hu
    have hnxl : nx ≤ 100000 := by have := hrw2.1; omega
    have hbsW : base ≤ W2.heap.size := Nat.le_trans hbase hb2
    obtain ⟨kd, ⟨w0, w1, w2, w3⟩, na, nb⟩ := nd
    simp only at hst' hwf e0 e1 e2 e3 e4 e5 e6
    subst hMA
    clear hnk hnd hv hk hres hrun hst1 hM hF hMo hMB hlen hnx hns hslt
    go_upto_region 6 with fail
    rw [← hW2]
    clear hW2 k0 k1 k2 hsv hsf hB ho hrw
    by_cases h1 : kd = 1
    ·subst h1
     have HR : Hid (reachF L S.size p fr f (na :: nb :: st) (seen.set s (p + 1)) next = R) := by rw [if_pos rfl] at hst'; exact Lib.hid hst'
     clear hst'
     go_wp2_with (at_builtin; go_loud (refine wpList_append_s _ rfl (.tmp 70) (.tmp 75) rfl w.heap.size _ m c8 st.reverse rfl (hst2.later (((Later.refl W2).alloc _).alloc _)) 2 [nb, na] _ _ (by decide) rfl (reads_nat2 _ _ _ _ (by simp)) (by omega) (by omega) (by simp; omega) ?_); intro A9 n9 c9 w9 hn9 hown9 hg9 hob9; have hn9 := Lib.hid hn9)
     go_step3
     have hl2 : Later W2 ((W2.alloc (.cells #[.int .i64 1, .int .u64 (w0 : Int), .int .u64 (w1 : Int), .int .u64 (w2 : Int), .int .u64 (w3 : Int), .int .i64 (na : Int), .int .i64 (nb : Int)] 127)).alloc (.cells #[.int .i64 (nb : Int), .int .i64 (na : Int)] 3)) := ((Later.refl W2).alloc _).alloc _
     have h8t : ∀ k, ob (some ⟨g8, 0, none⟩ : Option Addr) = some k → k ≠ gs ∧ ∃ cs, Blk ((W2.alloc (.cells #[.int .i64 1, .int .u64 (w0 : Int), .int .u64 (w1 : Int), .int .u64 (w2 : Int), .int .u64 (w3 : Int), .int .i64 (na : Int), .int .i64 (nb : Int)] 127)).alloc (.cells #[.int .i64 (nb : Int), .int .i64 (na : Int)] 3)) k 3 cs := fun k hk => ⟨by injection hk with hk; have hk : g8 = k := hk; omega, (hst2.later hl2).blk hk |>.2.2⟩
     refine ⟨rfl, f, Nat.lt_succ_self _, na :: nb :: st, seen.set s (p + 1), next, _, _, _, Ax, nx, cx, rfl, ?_, (hrun2.later hl2).grown hg9 h8t, (hM2.later hl2).fr (Fr.of_grown hg9) (fun k hk => ?_), ((hF2.trans (Fr.laterF hl2) (fun _ _ h => h.elim)).grown hg9 (fun k hk e => ?_)), hnew, HR, ?_, by omega, fun t ht => ?_, hlen2, hnx2⟩
     ·rw [List.reverse_cons, List.reverse_cons, List.append_assoc]; rw [← hn9.out]; exact hown9
     ·obtain ⟨_, cs, hB⟩ := h8t k hk; exact ⟨_, cs, hB, by decide, by decide⟩
     ·injection e with e; have e : g8 = k := e; omega
     ·simp only [List.length_cons]; have := HU.out; have := HM.out; omega
     ·rcases List.mem_cons.1 ht with rfl | ht
      ·exact hwf.1
      ·rcases List.mem_cons.1 ht with rfl | ht
       ·exact hwf.2.1
       ·exact hin' t ht
    ·by_cases h2 : kd = 2
     ·subst h2
      rw [if_neg (by omega), if_pos rfl] at hst'
      rcases Nat.eq_zero_or_pos p with hp0 | hp0
      ·subst hp0
       have HR : Hid (reachF L S.size 0 fr f (na :: st) (seen.set s (0 + 1)) next = R) := by rw [if_pos rfl] at hst'; exact Lib.hid hst'
       clear hst'
       go_wp2_with (at_builtin; go_loud (refine wpList_append_s _ rfl (.tmp 81) (.tmp 84) rfl w.heap.size _ m c8 st.reverse rfl (hst2.later (((Later.refl W2).alloc _).alloc _)) 1 [na] _ _ (by decide) rfl (reads_nat1 _ _ _ (by simp)) (by omega) (by omega) (by simp; omega) ?_); intro A9 n9 c9 w9 hn9 hown9 hg9 hob9; have hn9 := Lib.hid hn9)
       go_step3
       have hl2 : Later W2 ((W2.alloc (.cells #[.int .i64 2, .int .u64 (w0 : Int), .int .u64 (w1 : Int), .int .u64 (w2 : Int), .int .u64 (w3 : Int), .int .i64 (na : Int), .int .i64 (nb : Int)] 127)).alloc (.cells #[.int .i64 (na : Int)] 3)) := ((Later.refl W2).alloc _).alloc _
       have h8t : ∀ k, ob (some ⟨g8, 0, none⟩ : Option Addr) = some k → k ≠ gs ∧ ∃ cs, Blk ((W2.alloc (.cells #[.int .i64 2, .int .u64 (w0 : Int), .int .u64 (w1 : Int), .int .u64 (w2 : Int), .int .u64 (w3 : Int), .int .i64 (na : Int), .int .i64 (nb : Int)] 127)).alloc (.cells #[.int .i64 (na : Int)] 3)) k 3 cs := fun k hk => ⟨by injection hk with hk; have hk : g8 = k := hk; omega, (hst2.later hl2).blk hk |>.2.2⟩
       refine ⟨rfl, f, Nat.lt_succ_self _, na :: st, seen.set s (0 + 1), next, _, _, _, Ax, nx, cx, rfl, ?_, (hrun2.later hl2).grown hg9 h8t, (hM2.later hl2).fr (Fr.of_grown hg9) (fun k hk => ?_), ((hF2.trans (Fr.laterF hl2) (fun _ _ h => h.elim)).grown hg9 (fun k hk e => ?_)), hnew, HR, ?_, by omega, fun t ht => ?_, hlen2, hnx2⟩
       ·rw [List.reverse_cons]; rw [← hn9.out]; exact hown9
       ·obtain ⟨_, cs, hB⟩ := h8t k hk; exact ⟨_, cs, hB, by decide, by decide⟩
       ·injection e with e; have e : g8 = k := e; omega
       ·simp only [List.length_cons]; have := HU.out; have := HM.out; omega
       ·rcases List.mem_cons.1 ht with rfl | ht
        ·exact hwf.1
        ·exact hin' t ht
      ·have hp0i : ((p : Int) == 0) = false := by rw [beq_eq_false_iff_ne]; omega
       have HR : Hid (reachF L S.size p fr f st (seen.set s (p + 1)) next = R) := by rw [if_neg (by omega)] at hst'; exact Lib.hid hst'
       clear hst'
       go_wp2_with fail
       go_step3
       have hl2 : Later W2 (W2.alloc (.cells #[.int .i64 2, .int .u64 (w0 : Int), .int .u64 (w1 : Int), .int .u64 (w2 : Int), .int .u64 (w3 : Int), .int .i64 (na : Int), .int .i64 (nb : Int)] 127)) := (Later.refl W2).alloc _
       exact ⟨rfl, f, Nat.lt_succ_self _, st, seen.set s (p + 1), next, _, _, _, Ax, nx, cx, rfl, hst2.later hl2, hrun2.later hl2, hM2.later hl2, hF2.trans (Fr.laterF hl2) (fun _ _ h => h.elim), hnew, HR, by have := HU.out; have := HM.out; omega, by omega, hin', hlen2, hnx2⟩
     ·by_cases h3 : kd = 3
      ·subst h3
       rw [if_neg (by omega), if_neg (by omega), if_pos rfl] at hst'
       by_cases hpS : p = S.size
       ·have hpSi : ((p : Int) == (S.size : Int)) = true := by rw [beq_iff_eq]; omega
        have HR : Hid (reachF L S.size p fr f (na :: st) (seen.set s (p + 1)) next = R) := by rw [if_pos hpS] at hst'; exact Lib.hid hst'
        clear hst' hpS
        go_wp2_with (at_builtin; go_loud (refine wpList_append_s _ rfl (.tmp 95) (.tmp 98) rfl w.heap.size _ m c8 st.reverse rfl (hst2.later (((Later.refl W2).alloc _).alloc _)) 1 [na] _ _ (by decide) rfl (reads_nat1 _ _ _ (by simp)) (by omega) (by omega) (by simp; omega) ?_); intro A9 n9 c9 w9 hn9 hown9 hg9 hob9; have hn9 := Lib.hid hn9)
        go_step3
        have hl2 : Later W2 ((W2.alloc (.cells #[.int .i64 3, .int .u64 (w0 : Int), .int .u64 (w1 : Int), .int .u64 (w2 : Int), .int .u64 (w3 : Int), .int .i64 (na : Int), .int .i64 (nb : Int)] 127)).alloc (.cells #[.int .i64 (na : Int)] 3)) := ((Later.refl W2).alloc _).alloc _
        have h8t : ∀ k, ob (some ⟨g8, 0, none⟩ : Option Addr) = some k → k ≠ gs ∧ ∃ cs, Blk ((W2.alloc (.cells #[.int .i64 3, .int .u64 (w0 : Int), .int .u64 (w1 : Int), .int .u64 (w2 : Int), .int .u64 (w3 : Int), .int .i64 (na : Int), .int .i64 (nb : Int)] 127)).alloc (.cells #[.int .i64 (na : Int)] 3)) k 3 cs := fun k hk => ⟨by injection hk with hk; have hk : g8 = k := hk; omega, (hst2.later hl2).blk hk |>.2.2⟩
        refine ⟨rfl, f, Nat.lt_succ_self _, na :: st, seen.set s (p + 1), next, _, _, _, Ax, nx, cx, rfl, ?_, (hrun2.later hl2).grown hg9 h8t, (hM2.later hl2).fr (Fr.of_grown hg9) (fun k hk => ?_), ((hF2.trans (Fr.laterF hl2) (fun _ _ h => h.elim)).grown hg9 (fun k hk e => ?_)), hnew, HR, ?_, by omega, fun t ht => ?_, hlen2, hnx2⟩
        ·rw [List.reverse_cons]; rw [← hn9.out]; exact hown9
        ·obtain ⟨_, cs, hB⟩ := h8t k hk; exact ⟨_, cs, hB, by decide, by decide⟩
        ·injection e with e; have e : g8 = k := e; omega
        ·simp only [List.length_cons]; have := HU.out; have := HM.out; omega
        ·rcases List.mem_cons.1 ht with rfl | ht
         ·exact hwf.1
         ·exact hin' t ht
       ·have hpSi : ((p : Int) == (S.size : Int)) = false := by rw [beq_eq_false_iff_ne]; omega
        have HR : Hid (reachF L S.size p fr f st (seen.set s (p + 1)) next = R) := by rw [if_neg hpS] at hst'; exact Lib.hid hst'
        clear hst' hpS
        go_wp2_with fail
        go_step3
        have hl2 : Later W2 (W2.alloc (.cells #[.int .i64 3, .int .u64 (w0 : Int), .int .u64 (w1 : Int), .int .u64 (w2 : Int), .int .u64 (w3 : Int), .int .i64 (na : Int), .int .i64 (nb : Int)] 127)) := (Later.refl W2).alloc _
        exact ⟨rfl, f, Nat.lt_succ_self _, st, seen.set s (p + 1), next, _, _, _, Ax, nx, cx, rfl, hst2.later hl2, hrun2.later hl2, hM2.later hl2, hF2.trans (Fr.laterF hl2) (fun _ _ h => h.elim), hnew, HR, by have := HU.out; have := HM.out; omega, by omega, hin', hlen2, hnx2⟩
      ·have hk1 : ((kd : Int) == 1) = false := by rw [beq_eq_false_iff_ne]; omega
       have hk2 : ((kd : Int) == 2) = false := by rw [beq_eq_false_iff_ne]; omega
       have hk3 : ((kd : Int) == 3) = false := by rw [beq_eq_false_iff_ne]; omega
       have HR : Hid (reachF L S.size p fr f st (seen.set s (p + 1)) (next ++ [(s, fr)]) = R) := by rw [if_neg h1, if_neg h2, if_neg h3] at hst'; exact Lib.hid hst'
       clear hst' h1 h2 h3
       have hl2 : Later W2 ((W2.alloc (.cells #[.int .i64 (kd : Int), .int .u64 (w0 : Int), .int .u64 (w1 : Int), .int .u64 (w2 : Int), .int .u64 (w3 : Int), .int .i64 (na : Int), .int .i64 (nb : Int)] 127)).alloc (.cells #[.int .i64 (s : Int), .int .i64 (fr : Int)] 158)) := ((Later.refl W2).alloc _).alloc _
       have hrwl := hrw2.later hl2
       go_wp2_with (at_builtin; go_loud (refine wpList_append_w _ rfl (.tmp 60) (.tmp 64) rfl base Ax nx cx next rfl hrwl (s, fr) _ _ rfl (reads_wk _ _ _ _ (by simp)) (by omega) (by simp; omega) ?_); intro A9 n9 c9 w9 hn9 hown9 hg9 hob9; have hput := (hrun2.later hl2).put hg9 hown9; have hn9 := Lib.hid hn9; obtain ⟨⟨cs9, hc9, hB9⟩, hput2⟩ := hput; have y9 := hB9.frozen 4; have y8 := (hB9.cell 4).trans hc9)
       go_step3
       have hn9' := hn9.out
       subst hn9'
       have hsto := hst2.later hl2
       have hMl := hM2.later hl2
       have hwt : ∀ k, ob Ax = some k → ∃ cs, Blk ((W2.alloc (.cells #[.int .i64 (kd : Int), .int .u64 (w0 : Int), .int .u64 (w1 : Int), .int .u64 (w2 : Int), .int .u64 (w3 : Int), .int .i64 (na : Int), .int .i64 (nb : Int)] 127)).alloc (.cells #[.int .i64 (s : Int), .int .i64 (fr : Int)] 158)) k 158 cs := fun k hk => (hrwl.blk hk).2.2
       have hset : Fr w9 (w9.setCell ⟨gr, 4, none⟩ (.slice A9 (nx + 1) c9)) (fun k => k = gr) := Fr.set (Fr.refl w9 (fun k => k = gr)) (a := ⟨gr, 4, none⟩) (fun _ => rfl) _
       have hst9 : OwnS w9 w.heap.size (some ⟨g8, 0, none⟩) m c8 st.reverse := hsto.fr (Fr.of_grown hg9) (fun k hk e => by
        obtain ⟨_, _, cs, hB⟩ := hsto.blk hk
        obtain ⟨cs', hB'⟩ := hwt k e
        exact Blk.ne_ hB hB' (by decide) rfl)
       have hM9 : MacW w9 mb g L bg := hMl.fr (Fr.of_grown hg9) (fun k hk => by obtain ⟨cs, hB⟩ := hwt k hk; exact ⟨_, cs, hB, by decide, by decide⟩)
       have hF9 : Fr w w9 (InR gr gs A) := (hF2.trans (Fr.laterF hl2) (fun _ _ h => h.elim)).grown hg9 (fun k hk e => (hnew k e).elim (fun h => .inr (.inr h)) (fun h => by omega))
       have hsz9 := hl2.size
       refine ⟨rfl, f, Nat.lt_succ_self _, st, seen.set s (p + 1), next ++ [(s, fr)], _, _, _, A9, nx + 1, c9, rfl, hst9.fr hset (fun k hk e => ?_), hput2, hM9.fr hset (fun k hk => by subst hk; exact ⟨_, cs9, hB9, by decide, by decide⟩), hF9.trans hset (fun _ _ e => .inl e), fun k hk => ?_, HR, by have := HU.out; have := HM.out; omega, by omega, hin', hlen2, by rw [List.length_append, List.length_singleton]; exact hnx3⟩
       ·obtain ⟨_, _, cs, hB⟩ := hst9.blk hk
        subst e
        exact Blk.ne_ hB hB9 (by decide) rfl
       ·rcases hob9 k hk with h | h
        ·exact hnew k h
        ·exact .inr (Nat.le_trans hb2 (Nat.le_trans hsz9 h))
end Go.Proofs.YtmkddhkpeiajhaaGreatDoor
namespace Go.Proofs.YtmkddhkpeiajhaaGreatDoor
open Ieee
abbrev fl (n : Int) : Nat := floatOfInt .f64 n
theorem fl_def (n : Int) : fl n = double.nearest (decide (n < 0)) n.natAbs 0 := rfl
theorem log2_shift (m K : Nat) (h : m ≠ 0) : (m * 2 ^ K).log2 = m.log2 + K := by
 have hp : 0 < 2 ^ K := Nat.two_pow_pos K
 have h2 : m * 2 ^ K ≠ 0 := by
  intro e
  rcases Nat.mul_eq_zero.1 e with e | e
  ·exact h e
  ·omega
 have a := Nat.log2_self_le h
 have b := Nat.lt_log2_self (n := m)
 refine (Nat.log2_eq_iff h2).2 ⟨?_, ?_⟩
 ·rw [Nat.pow_add]; exact Nat.mul_le_mul_right _ a
 ·rw [show m.log2 + K + 1 = (m.log2 + 1) + K from by omega, Nat.pow_add]; exact Nat.mul_lt_mul_of_pos_right b hp
theorem log2_le_52 (m : Nat) (h : m < 2 ^ 53) (h0 : m ≠ 0) : m.log2 ≤ 52 := by
 have := (Nat.log2_lt h0 (k := 53)).2 h
 omega
theorem cut_exact (neg : Bool) (a K : Nat) (ha : a ≠ 0) : Toward.even.cut neg (a * 2 ^ K) K = a := by
 unfold Toward.cut
 have e : min K ((a * 2 ^ K).log2 + 2) = K := by rw [log2_shift a K ha]; omega
 have hp : 0 < 2 ^ K := Nat.two_pow_pos K
 simp only [e, Nat.shiftLeft_eq, Nat.one_mul, Nat.mul_div_cancel _ hp, Nat.mul_mod_left]
 have h1 : ¬ (2 ^ K < 2 * 0) := by omega
 have h2 : (2 ^ K == 2 * 0) = false := by
  rw [beq_eq_false_iff_ne]; omega
 simp [h2]
theorem nearest_exact (neg : Bool) (m K : Nat) (h : m < 2 ^ 53) (h0 : m ≠ 0) :
  double.nearest neg (m * 2 ^ K) (-(K : Int)) = double.word neg ((1074 - (52 - m.log2)) * 2 ^ 52 + m * 2 ^ (52 - m.log2)) := by
 have hl := log2_le_52 m h h0
 have hp : 0 < 2 ^ K := Nat.two_pow_pos K
 have hne : m * 2 ^ K ≠ 0 := by
  intro e
  rcases Nat.mul_eq_zero.1 e with e | e
  ·exact h0 e
  ·omega
 have hb := Nat.lt_log2_self (n := m)
 have hlp : double.leastPlace = -1074 := by decide
 have hbin : double.binade = 2 ^ 52 := rfl
 have hinf : double.infRung = 2047 * 2 ^ 52 := by decide
 have hfb : double.fractionBits = 52 := rfl
 generalize hd : 52 - m.log2 = d at *
 have hm2 : m * 2 ^ d < 2 ^ 53 := by
  have : 2 ^ (m.log2 + 1) * 2 ^ d = 2 ^ 53 := by rw [← Nat.pow_add]; congr 1; omega
  rw [← this]; exact Nat.mul_lt_mul_of_pos_right hb (Nat.two_pow_pos d)
 unfold Format.nearest
 rw [if_neg hne, log2_shift m K h0, hfb, hlp, hbin, hinf]
 have elast : max (-(K : Int) + ((m.log2 + K : Nat) : Int) - (52 : Nat)) (-1074) = -(d : Int) := by omega
 have ekept : Toward.even.cut neg ((m * 2 ^ K) <<< (-(K : Int) - -(d : Int)).toNat) (-(d : Int) - -(K : Int)).toNat = m * 2 ^ d := by
  by_cases hk : K ≤ d
  ·rw [show (-(K : Int) - -(d : Int)).toNat = d - K from by omega, show (-(d : Int) - -(K : Int)).toNat = 0 from by omega]
   rw [Nat.shiftLeft_eq, Nat.mul_assoc, ← Nat.pow_add, show K + (d - K) = d from by omega]
   have := cut_exact neg (m * 2 ^ d) 0 (by
    intro e
    rcases Nat.mul_eq_zero.1 e with e | e
    ·exact h0 e
    ·have := Nat.two_pow_pos d; omega)
   simpa using this
  ·rw [show (-(K : Int) - -(d : Int)).toNat = 0 from by omega, show (-(d : Int) - -(K : Int)).toNat = K - d from by omega]
   rw [Nat.shiftLeft_zero]
   have e : m * 2 ^ K = (m * 2 ^ d) * 2 ^ (K - d) := by rw [Nat.mul_assoc, ← Nat.pow_add]; congr 2; omega
   rw [e]
   exact cut_exact neg (m * 2 ^ d) (K - d) (by
    intro e
    rcases Nat.mul_eq_zero.1 e with e | e
    ·exact h0 e
    ·have := Nat.two_pow_pos d; omega)
 rw [elast]
 dsimp only
 rw [ekept]
 have e3 : (-(d : Int) - -1074).toNat = 1074 - d := by omega
 rw [e3, Nat.min_eq_left (by omega)]
theorem nearest_zero (neg : Bool) (p : Int) : double.nearest neg 0 p = double.word neg 0 := by
 unfold Format.nearest; rw [if_pos rfl]
theorem nearest_same (neg : Bool) (m K : Nat) (h : m < 2 ^ 53) : double.nearest neg (m * 2 ^ K) (-(K : Int)) = double.nearest neg m 0 := by
 by_cases h0 : m = 0
 ·subst h0; rw [Nat.zero_mul, nearest_zero, nearest_zero]
 ·rw [nearest_exact neg m K h h0]
  have := nearest_exact neg m 0 h h0
  simpa using this.symm
theorem read_nearest (neg : Bool) (m : Nat) (h : m < 2 ^ 53) : ∃ k : Nat, double.read (double.nearest neg m 0) = .number neg (m * 2 ^ k) (-(k : Int)) := by
 have hlp : double.leastPlace = -1074 := by decide
 have hbin : double.binade = 2 ^ 52 := rfl
 have hinf : double.infRung = 2047 * 2 ^ 52 := by decide
 have hsw : double.signWeight = 2 ^ 63 := rfl
 by_cases h0 : m = 0
 ·subst h0
  refine ⟨1074, ?_⟩
  cases neg <;> decide +kernel
 ·have e := nearest_exact neg m 0 h h0
  have hl := log2_le_52 m h h0
  have ha := Nat.log2_self_le h0
  have hb := Nat.lt_log2_self (n := m)
  refine ⟨52 - m.log2, ?_⟩
  have e' : double.nearest neg m 0 = double.nearest neg (m * 2 ^ 0) (-((0 : Nat) : Int)) := by simp
  rw [e', e]
  generalize hd : 52 - m.log2 = d at *
  have hm2 : m * 2 ^ d < 2 ^ 53 := by
   have : 2 ^ (m.log2 + 1) * 2 ^ d = 2 ^ 53 := by rw [← Nat.pow_add]; congr 1; omega
   rw [← this]; exact Nat.mul_lt_mul_of_pos_right hb (Nat.two_pow_pos d)
  have hm1 : 2 ^ 52 ≤ m * 2 ^ d := by
   have : 2 ^ m.log2 * 2 ^ d = 2 ^ 52 := by rw [← Nat.pow_add]; congr 1; omega
   rw [← this]; exact Nat.mul_le_mul_right _ ha
  generalize m * 2 ^ d = q at *
  have hr : (1074 - d) * 2 ^ 52 + q < 2 ^ 63 := by omega
  unfold Format.read Format.word
  simp only [hlp, hbin, hinf, hsw]
  have hneg : ((if neg = true then 2 ^ 63 + ((1074 - d) * 2 ^ 52 + q) else (1074 - d) * 2 ^ 52 + q) / 2 ^ 63 % 2 == 1) = neg := by
   cases neg
   ·rw [if_neg (by simp)]
    rw [beq_eq_false_iff_ne]; omega
   ·rw [if_pos rfl]
    rw [beq_iff_eq]; omega
  have hrung : (if neg = true then 2 ^ 63 + ((1074 - d) * 2 ^ 52 + q) else (1074 - d) * 2 ^ 52 + q) % 2 ^ 63 = (1074 - d) * 2 ^ 52 + q := by
   cases neg
   ·rw [if_neg (by simp)]; omega
   ·rw [if_pos rfl]; omega
  rw [hneg, hrung]
  rw [if_neg (by omega), if_pos (by omega)]
  congr 1
  ·omega
  ·omega
theorem read_fl (n : Int) (h : n.natAbs < 2 ^ 53) : ∃ k : Nat, double.read (fl n) = .number (decide (n < 0)) (n.natAbs * 2 ^ k) (-(k : Int)) := read_nearest _ _ h
theorem signed_abs (n : Int) (K : Nat) : signed (decide (n < 0)) (n.natAbs * 2 ^ K) 0 = n * 2 ^ K := by
 unfold signed
 simp only [Nat.shiftLeft_zero]
 by_cases h : n < 0
 ·rw [if_pos (by simpa using h)]
  rw [Int.natCast_mul, Int.natCast_pow]
  rw [show ((n.natAbs : Nat) : Int) = -n from by omega]
  rw [show ((2 : Nat) : Int) = 2 from rfl, Int.neg_mul, Int.neg_neg]
 ·rw [if_neg (by simpa using h)]
  rw [Int.natCast_mul, Int.natCast_pow]
  rw [show ((n.natAbs : Nat) : Int) = n from by omega]
  rfl
theorem signed_up (n : Int) (k u : Nat) : signed (decide (n < 0)) (n.natAbs * 2 ^ k) u = n * 2 ^ (k + u) := by
 have := signed_abs n (k + u)
 rw [← this]
 unfold signed
 simp only [Nat.shiftLeft_eq, Nat.mul_assoc, ← Nat.pow_add, Nat.pow_zero, Nat.mul_one]
theorem mul_pow_sign (n : Int) (K : Nat) : (n * 2 ^ K < 0 ↔ n < 0) ∧ (n * 2 ^ K = 0 ↔ n = 0) ∧ (n * 2 ^ K).natAbs = n.natAbs * 2 ^ K := by
 have hp : (0 : Int) < 2 ^ K := Int.pow_pos (by decide)
 refine ⟨⟨fun h => ?_, fun h => ?_⟩, ⟨fun h => ?_, fun h => ?_⟩, ?_⟩
 ·rcases Int.lt_or_le n 0 with a | a
  ·exact a
  ·have := Int.mul_nonneg a (Int.le_of_lt hp); omega
 ·exact Int.mul_neg_of_neg_of_pos h hp
 ·rcases Int.mul_eq_zero.1 h with a | a
  ·exact a
  ·omega
 ·subst h; simp
 ·rw [Int.natAbs_mul, Int.natAbs_pow]; rfl
theorem write_fl (n : Int) (K : Nat) (h : n.natAbs < 2 ^ 53) (z : Bool) (hz : n = 0 → z = false) :
  double.write (.number (if n * 2 ^ K = 0 then z else decide (n * 2 ^ K < 0)) (n * 2 ^ K).natAbs (-(K : Int))) = fl n := by
 obtain ⟨h1, h2, h3⟩ := mul_pow_sign n K
 show double.nearest _ _ _ = _
 rw [h3, nearest_same _ _ _ h, fl_def]
 by_cases e : n = 0
 ·subst e; rw [hz rfl]; simp
 ·have : ¬ n * 2 ^ K = 0 := fun x => e (h2.1 x)
  rw [if_neg this]
  congr 1
  by_cases c : n < 0 <;> simp [c, h1]
theorem place_min (k l : Nat) : min (-(k : Int)) (-(l : Int)) = -((max k l : Nat) : Int) := by omega
theorem fl_add (a b : Int) (ha : a.natAbs < 2 ^ 53) (hb : b.natAbs < 2 ^ 53) (hc : (a + b).natAbs < 2 ^ 53) : double.add (fl a) (fl b) = some (fl (a + b)) := by
 obtain ⟨k, hk⟩ := read_fl a ha
 obtain ⟨l, hl⟩ := read_fl b hb
 unfold Format.add
 rw [hk, hl]
 unfold Datum.sum
 simp only [place_min, Option.map_some]
 rw [show (-(k : Int) - -((max k l : Nat) : Int)).toNat = max k l - k from by omega, show (-(l : Int) - -((max k l : Nat) : Int)).toNat = max k l - l from by omega]
 rw [signed_up, signed_up, show k + (max k l - k) = max k l from by omega, show l + (max k l - l) = max k l from by omega, ← Int.add_mul]
 congr 1
 rw [← write_fl (a + b) (max k l) hc (decide (a < 0) && decide (b < 0)) (by intro h; simp; omega)]
theorem fl_order (a b : Int) (ha : a.natAbs < 2 ^ 53) (hb : b.natAbs < 2 ^ 53) : double.order (fl a) (fl b) = some (compare a b) := by
 obtain ⟨k, hk⟩ := read_fl a ha
 obtain ⟨l, hl⟩ := read_fl b hb
 unfold Format.order
 rw [hk, hl]
 unfold Datum.order
 simp only [place_min]
 rw [show (-(k : Int) - -((max k l : Nat) : Int)).toNat = max k l - k from by omega, show (-(l : Int) - -((max k l : Nat) : Int)).toNat = max k l - l from by omega]
 rw [signed_up, signed_up, show k + (max k l - k) = max k l from by omega, show l + (max k l - l) = max k l from by omega]
 have hp : (0 : Int) < 2 ^ (max k l) := Int.pow_pos (by decide)
 congr 1
 rcases Int.lt_trichotomy a b with h | h | h
 ·have : a * 2 ^ (max k l) < b * 2 ^ (max k l) := Int.mul_lt_mul_of_pos_right h hp
  simp only [compare, compareOfLessAndEq, if_pos this, if_pos h]
 ·subst h; simp [compare, compareOfLessAndEq]
 ·have : b * 2 ^ (max k l) < a * 2 ^ (max k l) := Int.mul_lt_mul_of_pos_right h hp
  have g1 : ¬ a * 2 ^ (max k l) < b * 2 ^ (max k l) := by omega
  have g2 : ¬ a * 2 ^ (max k l) = b * 2 ^ (max k l) := by omega
  have g3 : ¬ a < b := by omega
  have g4 : ¬ a = b := by omega
  simp only [compare, compareOfLessAndEq, if_neg g1, if_neg g2, if_neg g3, if_neg g4]
theorem cut_zero (neg : Bool) (a K : Nat) : Toward.zero.cut neg (a * 2 ^ K) K = a := by
 by_cases ha : a = 0
 ·subst ha; simp [Toward.cut]
 unfold Toward.cut
 have e : min K ((a * 2 ^ K).log2 + 2) = K := by rw [log2_shift a K ha]; omega
 have hp : 0 < 2 ^ K := Nat.two_pow_pos K
 simp only [e, Nat.shiftLeft_eq, Nat.one_mul, Nat.mul_div_cancel _ hp]
 simp
theorem fl_toInt (a : Int) (ha : a.natAbs < 2 ^ 53) : (FloatKind.f64.decode (fl a)).toInt .zero = some a := by
 obtain ⟨k, hk⟩ := read_fl a ha
 show (double.read (fl a)).toInt .zero = some a
 rw [hk]
 unfold Datum.toInt Datum.integral
 simp only
 have e := signed_abs a 0
 simp only [Nat.pow_zero, Nat.mul_one] at e
 rw [show (-(k : Int)).toNat = 0 from by omega, show (-(-(k : Int))).toNat = k from by omega, Nat.shiftLeft_zero, cut_zero, e]
 simp
theorem fl_toIntVal (a : Int) (ha : a.natAbs < 2 ^ 53) (k : IntKind) (h1 : k.min ≤ a) (h2 : a ≤ k.max) : floatToIntVal .f64 (fl a) k = some a := by
 unfold floatToIntVal
 rw [fl_toInt a ha]
 simp [h1, h2]
theorem i64_min : IntKind.i64.min = -9223372036854775808 := by decide
theorem i64_max : IntKind.i64.max = 9223372036854775807 := by decide
theorem fl_toI64 (a : Int) (ha : a.natAbs < 2 ^ 53) : floatToIntVal .f64 (fl a) .i64 = some a :=
 fl_toIntVal a ha .i64 (by rw [i64_min]; omega) (by rw [i64_max]; omega)
theorem fl_0 : (0 : Nat) = fl 0 := by decide +kernel
end Go.Proofs.YtmkddhkpeiajhaaGreatDoor
namespace Go.Proofs.YtmkddhkpeiajhaaGreatDoor
open Go.RowKit
def stN (h : Option (Nat × Nat)) : Nat := match h with | some x => x.1 | none => 0
def enN (h : Option (Nat × Nat)) : Nat := match h with | some x => x.2 | none => 0
def HitB (m : Nat) (h : Option (Nat × Nat)) : Prop := stN h ≤ m ∧ enN h ≤ m
def InL (L : List NSt) (m : Nat) (next : List (Nat × Nat)) : Prop := ∀ u ∈ next, u.1 < L.length ∧ u.2 ≤ m
theorem reach_in (L : List NSt) (len p fr m : Nat) (hW : WfM L) (hfr : fr ≤ m) : ∀ (f : Nat) (st seen : List Nat) (next : List (Nat × Nat)), (∀ s ∈ st, s < L.length) → seen.length = L.length → InL L m next →
  (reachF L len p fr f st seen next).1.length = L.length ∧ InL L m (reachF L len p fr f st seen next).2
 | 0, _, _, _, _, h, h2 => ⟨h, h2⟩
 | f + 1, [], _, _, _, h, h2 => ⟨h, h2⟩
 | f + 1, s :: st, seen, next, hs, h, h2 => by
  unfold reachF
  have hs0 := hs s (List.mem_cons_self ..)
  have hst : ∀ t ∈ st, t < L.length := fun t ht => hs t (List.mem_cons_of_mem _ ht)
  have hl : (seen.set s (p + 1)).length = L.length := by rw [List.length_set, h]
  split
  ·exact reach_in L len p fr m hW hfr f st seen next hst h h2
  ·obtain ⟨n, hn⟩ : ∃ n, L[s]? = some n := ⟨_, List.getElem?_eq_getElem hs0⟩
   have hw := hW s n hn
   rw [hn]
   simp only
   split
   ·exact reach_in L len p fr m hW hfr f _ _ next (fun t ht => by
     rcases List.mem_cons.1 ht with rfl | ht
     ·exact hw.1
     ·rcases List.mem_cons.1 ht with rfl | ht
      ·exact hw.2.1
      ·exact hst t ht) hl h2
   ·split
    ·exact reach_in L len p fr m hW hfr f _ _ next (fun t ht => by
      split at ht
      ·rcases List.mem_cons.1 ht with rfl | ht
       ·exact hw.1
       ·exact hst t ht
      ·exact hst t ht) hl h2
    ·split
     ·exact reach_in L len p fr m hW hfr f _ _ next (fun t ht => by
       split at ht
       ·rcases List.mem_cons.1 ht with rfl | ht
        ·exact hw.1
        ·exact hst t ht
       ·exact hst t ht) hl h2
     ·refine reach_in L len p fr m hW hfr f st _ _ hst hl (fun u hu => ?_)
      rcases List.mem_append.1 hu with hu | hu
      ·exact h2 u hu
      ·rw [List.mem_singleton] at hu
       subst hu
       exact ⟨hs0, hfr⟩
theorem reach_facts {L : List NSt} {len p fr m s0 N : Nat} {seen : List Nat} {next : List (Nat × Nat)} (hW : WfM L) (hfr : fr ≤ m) (hs : s0 < L.length) (hl : seen.length = L.length) (hi : InL L m next) (hN : next.length + unmk p seen ≤ N) :
  (reachF L len p fr (fuelF L) [s0] seen next).1.length = L.length ∧ InL L m (reachF L len p fr (fuelF L) [s0] seen next).2 ∧ (reachF L len p fr (fuelF L) [s0] seen next).2.length + unmk p (reachF L len p fr (fuelF L) [s0] seen next).1 ≤ N := by
 have hs' : ∀ s ∈ [s0], s < L.length := fun s h => by rw [List.mem_singleton] at h; rw [h]; exact hs
 have h1 := reach_in L len p fr m hW hfr (fuelF L) [s0] seen next hs' hl hi
 have h2 := reach_count L len p fr (fuelF L) [s0] seen next (fun s h => by rw [hl]; exact hs' s h) hW hl
 exact ⟨h1.1, h1.2, by omega⟩
theorem begin_facts {L : List NSt} {B m p most N : Nat} {x : List UInt8} {hit : Option (Nat × Nat)} {seen : List Nat} {next : List (Nat × Nat)} (hW : WfM L) (hp : p ≤ m) (hB : B < L.length) (hl : seen.length = L.length) (hi : InL L m next) (hN : next.length + unmk p seen ≤ N) :
  (beginF L B x most p hit seen next).1.length = L.length ∧ InL L m (beginF L B x most p hit seen next).2 ∧ (beginF L B x most p hit seen next).2.length + unmk p (beginF L B x most p hit seen next).1 ≤ N := by
 unfold beginF
 split
 ·exact reach_facts hW hp hB hl hi hN
 ·exact ⟨hl, hi, hN⟩
theorem hitF_b {L : List NSt} {p m : Nat} (hp : p ≤ m) : ∀ (l : List (Nat × Nat)) (h : Option (Nat × Nat)), (∀ u ∈ l, u.2 ≤ m) → HitB m h → HitB m (hitF L p l h)
 | [], h, _, hh => hh
 | u :: l, h, hu, hh => by
  rw [hitF]
  refine hitF_b hp l _ (fun v hv => hu v (List.mem_cons_of_mem _ hv)) ?_
  split
  ·exact ⟨hu u (List.mem_cons_self ..), hp⟩
  ·exact hh
theorem made_nats (n : Nat) (hn : n ≤ 1000000) : ∃ Z : Array Value, (∀ (w : World) (base : Nat), base ≤ w.heap.size → OwnS (w.alloc (.cells Z 3)) base (some ⟨w.heap.size, 0, none⟩) n n (List.replicate n 0)) ∧
  ∀ w : World, (Instr.makeSlice 152 (.int .i64 (n : Int)) (.int .i64 (n : Int))).run Tryz.prog w = .ok (.slice (some ⟨w.heap.size, 0, none⟩) n n) (w.alloc (.cells Z 3)) := by
 obtain ⟨i0, hi, hz0, hz1, hz2⟩ := info_parts num_info
 have hz : madeCells (Value.int .i64 0).cells n = (natL (List.replicate n 0)).toArray := by
  apply Array.ext'
  simp [madeCells, Value.cells, natL]
  refine List.ext_getElem (by simp) fun i h1 h2 => ?_
  simp [Nat.mod_one]
 refine ⟨madeCells (Value.int .i64 0).cells n, fun w base hb => ⟨List.length_replicate .., ?_⟩, fun w => ?_⟩
 ·refine ⟨by unfold natL; simp, .inr ⟨w.heap.size, n, _, rfl, hb, Blk.new w _ _, Nat.le_refl _, by unfold maxLen; omega, ?_, ?_⟩⟩
  ·rw [hz]; simp [natL]
  ·rw [hz]; simp [natL]
 ·have hr := run_make (P := Tryz.prog) w 152 3 i0 (.int .i64 0) Tryz.underlying152 hi hz0 .i64 .i64 n n (by omega) (Int.le_refl _) (by rw [hz2]; omega) (by omega)
  rw [hz1] at hr
  simpa using hr
theorem Later.inR {w w1 w2 : World} {g gr gs : Nat} {S : ByteArray} {vn : Value} {seen : List Nat} {A : Option Addr} {n c : Nat} {next : List (Nat × Nat)} (h : Later w w1) (hr : RunW w1 w.heap.size g gr gs S vn seen A n c next) (h1 : w.heap.size ≤ gr) (h2 : w.heap.size ≤ gs) (hf : Fr w1 w2 (InR gr gs A)) : Later w w2 :=
 Fr.none_ (Fr.trans (p := fun k => w.heap.size ≤ k) ((Fr.laterF h).mono fun _ _ h => h.elim) hf (by
  rintro k hk (rfl | rfl | e)
  ·exact h1
  ·exact h2
  ·exact (hr.row.blk e).2.1)) (fun k hk h => by omega)
theorem RunW.turn {w : World} {base g gr gs : Nat} {S : ByteArray} {vn : Value} {seen : List Nat} {A : Option Addr} {n c : Nat} {next : List (Nat × Nat)} (h : RunW w base g gr gs S vn seen A n c next) :
  RunW ((w.setCell ⟨gr, 3, none⟩ (.slice A n c)).setCell ⟨gr, 4, none⟩ (.slice none 0 0)) base g gr gs S (.slice A n c) seen none 0 0 [] ∧ OwnW ((w.setCell ⟨gr, 3, none⟩ (.slice A n c)).setCell ⟨gr, 4, none⟩ (.slice none 0 0)) base A n c next ∧ Fr w ((w.setCell ⟨gr, 3, none⟩ (.slice A n c)).setCell ⟨gr, 4, none⟩ (.slice none 0 0)) (fun k => k = gr) := by
 obtain ⟨⟨c1, hB1⟩, ⟨c2, hB2⟩, h3⟩ := h.ty
 obtain ⟨⟨ns, cs, hB, ho⟩, hr⟩ := h
 have hf : Fr w ((w.setCell ⟨gr, 3, none⟩ (.slice A n c)).setCell ⟨gr, 4, none⟩ (.slice none 0 0)) (fun k => k = gr) := Fr.set (a := ⟨gr, 4, none⟩) (Fr.set (Fr.refl w (fun k => k = gr)) (a := ⟨gr, 3, none⟩) (fun _ => rfl) _) (fun _ => rfl) _
 refine ⟨⟨⟨ns, cs, by simpa using (hB.set_ 3 (.slice A n c)).set_ 4 (.slice none 0 0), ho.fr hf (fun k hk e => ?_)⟩, OwnW.nil⟩, hr.fr hf (fun k hk e => ?_), hf⟩
 ·injection hk with hk
  have hk : gs = k := hk
  subst hk
  subst e
  exact Blk.ne_ hB1 hB2 (by decide) rfl
 ·obtain ⟨cs', hB'⟩ := h3 k hk
  subst e
  exact Blk.ne_ hB1 hB' (by decide) rfl
theorem has_w4 (s : W4) (hs : okW s) (b : Nat) (hb : b < 256) (w : World) :
  Calls Tryz.prog 86 #[.agg #[.int .u64 (s.1 : Int), .int .u64 (s.2.1 : Int), .int .u64 (s.2.2.1 : Int), .int .u64 (s.2.2.2 : Int)], .int .u8 (b : Int)] w fun e w' => e = .returned (.bool (w4has s b)) ∧ Later w w' := by
 have e := w4_mem hs
 have h := has_any (memW s) b hb w
 rw [← w4has_w4 (memW s) hb, e] at h
 have ev : setV (memW s) = .agg #[.int .u64 (s.1 : Int), .int .u64 (s.2.1 : Int), .int .u64 (s.2.2.1 : Int), .int .u64 (s.2.2.2 : Int)] := by
  have e0 : word (memW s) 0 = s.1 := congrArg (·.1) e
  have e1 : word (memW s) 1 = s.2.1 := congrArg (·.2.1) e
  have e2 : word (memW s) 2 = s.2.2.1 := congrArg (·.2.2.1) e
  have e3 : word (memW s) 3 = s.2.2.2 := congrArg (·.2.2.2) e
  unfold setV setC
  rw [e0, e1, e2, e3]
 rw [ev] at h
 exact h
def findFr (g : Nat) (S : ByteArray) (lo most gr : Nat) (hit : Option (Nat × Nat)) (p : Nat) (u : Nat → Value) : Act := { tmps := #[.pointer (some ⟨g, 0, none⟩), .string S, .int .i64 (lo : Int), .int .i64 (most : Int), u 4, u 5, u 6, u 7, u 8, u 9, .pointer (some ⟨gr, 0, none⟩), .int .i64 (stN hit : Int), .int .i64 (enN hit : Int), .bool hit.isSome, .int .i64 (p : Int), u 15, u 16, u 17, u 18, u 19, u 20, u 21, u 22, u 23, u 24, u 25, u 26, u 27, u 28, u 29, u 30, u 31, u 32, u 33, u 34, u 35, u 36, u 37, u 38, u 39, u 40, u 41, u 42, u 43, u 44, u 45, u 46, u 47, u 48, u 49, u 50, u 51, u 52, u 53, u 54, u 55, u 56, u 57, u 58, u 59, u 60, u 61, u 62, u 63, u 64, u 65, u 66, u 67, u 68, u 69, u 70, u 71, u 72, u 73, u 74, u 75, u 76, u 77, u 78, u 79, u 80, u 81, u 82, u 83, u 84, u 85, u 86, u 87, u 88, u 89, u 90, u 91, u 92, u 93, u 94, u 95, u 96, u 97, u 98, u 99, u 100, u 101, u 102, u 103, u 104, u 105, u 106, u 107, u 108, u 109, u 110, u 111, u 112, u 113, u 114, u 115, u 116, u 117, u 118, u 119, u 120, u 121, u 122, u 123, u 124, u 125, u 126, u 127, u 128, u 129, u 130, u 131, u 132, u 133, u 134, u 135, u 136, u 137, u 138, u 139, u 140, u 141, u 142, u 143, u 144, u 145, u 146, u 147, u 148, u 149, u 150, u 151, u 152, u 153, u 154, u 155, u 156, u 157, u 158, u 159, u 160, u 161, u 162, u 163, u 164, u 165, u 166, u 167, u 168, u 169, u 170, u 171], defers := [] }
def FindC (w : World) (g gr gs mb : Nat) (L : List NSt) (B : Nat) (S : ByteArray) (R1 : List Nat × List (Nat × Nat)) (wx : World) : Prop :=
 ∃ (A : Option Addr) (n c : Nat) (vn : Value), RunW wx w.heap.size g gr gs S vn R1.1 A n c R1.2 ∧ MacW wx mb g L (B : Int) ∧ Later w wx
def FindJ (w : World) (g mb : Nat) (L : List NSt) (B : Nat) (S : ByteArray) (lo most : Nat) (R : Option (Nat × Nat)) (f : Nat) (a' : Act) (w' : World) : Prop :=
 ∃ (p gr gs : Nat) (hit : Option (Nat × Nat)) (Q : List Nat × List (Nat × Nat)), a' = findFr g S lo most gr hit p (fun i => a'.tmps.getD i undef) ∧ FindC w g gr gs mb L B S Q w' ∧ w.heap.size ≤ gr ∧ w.heap.size ≤ gs ∧
  Hid (placeF L B S.data.toList most f p Q.2 Q.1 hit = R) ∧ p ≤ S.size ∧ f + p = S.size + 1 ∧ Q.1.length = L.length ∧ InL L S.size Q.2 ∧ Q.2.length + unmk p Q.1 ≤ 20000 ∧ HitB S.size hit
def Found (w : World) (R : Option (Nat × Nat)) (e : Ending) (w' : World) : Prop := e = .returned (.tuple #[.complex .f64 (fl (stN R : Int)) (fl (enN R : Int)), .bool R.isSome]) ∧ Later w w'
set_option maxRecDepth 100000 in
set_option maxHeartbeats 8000000 in
theorem find_yes (S : ByteArray) (lo most : Nat) (w : World) (mb g : Nat) (L : List NSt) (B : Nat) (hM : MacW w mb g L (B : Int)) (hW : WfM L) (hB : B < L.length) (hok : ∀ (s : Nat) (n : NSt), L[s]? = some n → okW n.set) (hlo : lo ≤ S.size) (_hmo : most ≤ S.size) (hS : S.size ≤ 1000000) (hL : L.length ≤ 20000) :
  Calls Tryz.prog 70 #[.pointer (some ⟨g, 0, none⟩), .string S, .int .i64 (lo : Int), .int .i64 (most : Int)] w (Found w (findF (L, B) S.data.toList lo most)) := by
 obtain ⟨R, hR⟩ : ∃ R, R = findF (L, B) S.data.toList lo most := ⟨_, rfl⟩
 have hR0 : placeF L B S.data.toList most (S.size + 1 - lo) lo [] (List.replicate L.length 0) none = R := by rw [hR]; unfold findF; rw [len_eq]
 rw [← hR]
 clear hR
 have HR0 := Lib.hid hR0
 have HW := Lib.hid hW
 have HOK := Lib.hid hok
 obtain ⟨MA, MN, MC, hMB, hMo⟩ := id hM
 have q0 := hMB.cell 0
 have hMn : L.length = MN := hMo.1
 have hMN : MN ≤ 20000 := by omega
 obtain ⟨Z, hZ, hmk⟩ := made_nats MN (by omega)
 have hlo1 : ¬ (S.size : Int) < (lo : Int) := by omega
 have hlo2 : decide ((lo : Int) < 0) = false := decide_eq_false (by omega)
 have hlo3 : decide ((S.size : Int) < (lo : Int)) = false := decide_eq_false (by omega)
 have HM := Lib.hid hM
 have HMN := Lib.hid hMn
 clear hR0 hW hok hM hMo hMB hMn
 go_enter Tryz.func70, Tryz.ntmps70
 go_wp2_with fail
 refine wp_scope_rank 0 (FindJ w g mb L B S lo most R) rfl ?_ ?_
 ·intro hpass
  go_wp2_with fail
  go_step3
  rename_i kk
  refine kk _ _ (hpass _ _ _ ⟨lo, w.heap.size + 1, w.heap.size, none, (List.replicate L.length 0, []), rfl, ?_, by omega, by omega, HR0, hlo, by omega, List.length_replicate .., fun u hu => (by cases hu), ?_, Nat.zero_le _, Nat.zero_le _⟩)
  ·have hl1 : Later w (w.alloc (.cells Z 3)) := (Later.refl w).alloc _
   have hl2 := hl1.alloc (.cells #[.pointer (some ⟨g, 0, none⟩), .string S, .slice (some ⟨w.heap.size, 0, none⟩) MN MN, .slice none 0 0, .slice none 0 0] 155)
   exact ⟨none, 0, 0, _, ⟨⟨MN, MN, blk_at (w := w.alloc (.cells Z 3)) (by simp), by rw [HMN.out]; exact (hZ w _ (Nat.le_refl _)).later ((Later.refl _).alloc _)⟩, OwnW.nil⟩, HM.out.later hl2, hl2⟩
  ·have := unmk_le lo (List.replicate L.length 0)
   rw [List.length_replicate] at this
   show 0 + unmk lo (List.replicate L.length 0) ≤ 20000
   omega
 ·clear HR0 hZ hmk hlo1 hlo2 hlo3 q0 HM HMN hMN
  rintro f a' w' ⟨p, gr, gs, hit, Q, ha, hC, hgr, hgs, hres, hp, hfp, hlen, hin, hcnt, hhit⟩
  generalize (fun i => a'.tmps.getD i undef) = u at ha
  subst ha
  unfold findFr
  obtain ⟨f, rfl⟩ : ∃ f', f = f' + 1 := ⟨f - 1, by omega⟩
  obtain ⟨R1, hR1⟩ : ∃ R1, R1 = beginF L B S.data.toList most p hit Q.1 Q.2 := ⟨_, rfl⟩
  obtain ⟨H, hH⟩ : ∃ H, H = hitF L p R1.2 hit := ⟨_, rfl⟩
  have hb1 := begin_facts (B := B) (most := most) (x := S.data.toList) (hit := hit) HW.out hp hB hlen hin hcnt
  rw [← hR1] at hb1
  obtain ⟨hlen1, hin1, hcnt1⟩ := hb1
  have hres' : placeF L B S.data.toList most (f + 1) p Q.2 Q.1 hit = R := hres.out
  rw [placeF, ← hR1, ← hH, len_eq] at hres'
  have HRES := Lib.hid hres'
  have HH : Hid (hitF L p (R1.2.drop 0) hit = H) := Lib.hid hH.symm
  have hhb : HitB S.size H := by rw [hH]; exact hitF_b hp _ _ (fun u hu => (hin1 u hu).2) hhit
  have hpi : (p : Int) ≤ 1000000 := by omega
  clear hres hres' hH
  obtain ⟨b45, hb45⟩ : ∃ b : Bool, b = decide (hit = none ∧ p ≤ most) := ⟨_, rfl⟩
  go_upto_region 6 with fail
  simp only []
  go_cut [45] (fun s45 wx => s45 = .bool b45 ∧ wx = w')
  case first =>
   clear hC HRES HH hhb hlen1 hin1 hcnt1
   cases hit with
   | some h =>
    have hb : b45 = false := by rw [hb45]; exact decide_eq_false (fun h => by cases h.1)
    subst hb
    clear hb45 hR1
    go_wp2_with fail
    go_meet
    exact ⟨rfl, rfl⟩
   | none =>
    by_cases hpm : p ≤ most
    ·have hb : b45 = true := by rw [hb45]; exact decide_eq_true ⟨rfl, hpm⟩
     have hpmi : (p : Int) ≤ (most : Int) := by omega
     subst hb
     clear hb45 hR1
     go_wp2_with fail
     go_meet
     exact ⟨rfl, rfl⟩
    ·have hb : b45 = false := by rw [hb45]; exact decide_eq_false (fun h => hpm h.2)
     have hpmi : ¬ (p : Int) ≤ (most : Int) := by omega
     have hpmd : decide ((p : Int) ≤ (most : Int)) = false := decide_eq_false hpmi
     subst hb
     clear hb45 hR1
     go_wp2_with fail
     go_meet
     exact ⟨rfl, rfl⟩
  case rest =>
  obtain ⟨rfl, rfl⟩ := hcut
  go_upto_if 45 with fail
  go_cut [] (fun wx => FindC w g gr gs mb L B S R1 wx)
  case first =>
   obtain ⟨A, n, c, vn, hrun, hM, hlw⟩ := hC
   cases b45 with
   | true =>
    have hc := of_decide_eq_true hb45.symm
    obtain ⟨rfl, hpm⟩ := hc
    have hre : ∀ wx, Later wc wx → Calls Tryz.prog 85 #[.pointer (some ⟨gr, 0, none⟩), .int .i64 (B : Int), .int .i64 (p : Int), .int .i64 (p : Int)] wx fun e w2 => e = .returned (.tuple #[]) ∧ FindC w g gr gs mb L B S R1 w2 := fun wx hwx => by
     have hrunx := hrun.later hwx
     refine (reach_any wx w.heap.size g gr gs mb L (B : Int) S vn p p B Q.1 A n c Q.2 R1 (hM.later hwx) HW.out hrunx hB hlen (by omega) (by omega) hL (by omega) (Nat.le_trans hlw.size hwx.size) (by omega) ?_).mono ?_
     ·rw [hR1]
      unfold beginF
      rw [if_pos ⟨rfl, hpm⟩, len_eq]
     ·rintro e w2 ⟨he, A', n', c', hr2, hf2, _⟩
      exact ⟨he, A', n', c', vn, hr2, (hM.later hwx).fr hf2 (inR_ty hrunx), (hlw.trans hwx).inR hrunx hgr hgs hf2⟩
    have HRE := Lib.hid hre
    obtain ⟨MA, MN, MC, hMB, hMo⟩ := id hM
    have q1 := hMB.cell 1
    clear hre hrun hM hR1 hpm hMB hMo hb45
    go_wp2_with fail
    refine (HRE.out _ (Later.refl _)).mono ?_
    rintro e w2 ⟨rfl, hC2⟩
    go_wp2_with fail
    go_meet
    exact hC2
   | false =>
    have hc := of_decide_eq_false hb45.symm
    have hR2 : R1 = (Q.1, Q.2) := by rw [hR1]; unfold beginF; rw [if_neg hc]
    have hC1 : FindC w g gr gs mb L B S R1 wc := by rw [hR2]; exact ⟨A, n, c, vn, hrun, hM, hlw⟩
    clear hc hR2 hR1 hrun hM hb45
    go_wp2_with fail
    go_meet
    exact hC1
  case rest =>
  clear hC hR1 hb45
  obtain ⟨A, n, c, vn, hrun, hM, hlw⟩ := hcut
  have hnl : R1.2.length = n := hrun.row.1
  have hturn := hrun.turn
  obtain ⟨⟨ns, cs, hB, ho⟩, hrw⟩ := id hrun
  have c4 := hB.cell 4
  have f3 := hB.frozen 3
  have f4 := hB.frozen 4
  have c3 := hB.cell 3
  obtain ⟨W3, hW3⟩ : ∃ W3, W3 = (wc.setCell ⟨gr, 3, none⟩ (.slice A n c)).setCell ⟨gr, 4, none⟩ (.slice none 0 0) := ⟨_, rfl⟩
  rw [← hW3] at hturn
  obtain ⟨hrun3, hnow3, hf3⟩ := hturn
  have hM3 : MacW W3 mb g L (B : Int) := hM.fr hf3 (fun k hk => by subst hk; exact ⟨_, _, hB, by decide, by decide⟩)
  have hl3 : Later w W3 := Fr.none_ (Fr.trans (p := fun k => k = gr) ((Fr.laterF hlw).mono fun _ _ h => h.elim) hf3 (fun k _ h => h)) (fun k hk h => by omega)
  obtain ⟨⟨ns3, cs3, hB3, ho3⟩, hrw3⟩ := id hrun3
  have HB3 := Lib.hid hB3
  have e3 := hB3.cell 3
  have HNL := Lib.hid hnl
  have hn20 : n ≤ 20000 := by omega
  clear hrun hM hlw hB ho hrw hf3 hB3 ho3 hrw3 hnl hcnt1
  go_upto_region 9 with fail
  rw [← hW3]
  clear hW3 c3 c4 f3 f4
  go_wp2_with fail
  go_loopw [11, 12, 13, 69] (fun s11 s12 s13 s69 wr => ∃ (j : Nat) (h : Option (Nat × Nat)), j ≤ n ∧ s69 = .int .i64 (j : Int) ∧ s11 = .int .i64 (stN h : Int) ∧ s12 = .int .i64 (enN h : Int) ∧ s13 = .bool h.isSome ∧ Hid (hitF L p (R1.2.drop j) h = H) ∧ Later W3 wr) (fun _ _ _ s69 _ => n - (intOf s69).toNat)
  case atStart => exact ⟨0, hit, Nat.zero_le _, rfl, rfl, rfl, rfl, HH, Later.refl _⟩
  case round =>
   clear e3 HH
   obtain ⟨j, h, hj, rfl, rfl, rfl, rfl, HS, hlr⟩ := hrel
   by_cases hlt : j < n
   ·have hlti : (j : Int) < (n : Int) := by omega
    obtain ⟨uu, huu⟩ : ∃ u, R1.2[j]? = some u := ⟨_, List.getElem?_eq_getElem (by rw [HNL.out]; exact hlt)⟩
    have hst := HS.out
    rw [drop_at huu, hitF] at hst
    obtain ⟨u0, u1⟩ := uu
    obtain ⟨g0, hA, hg0, _, x0, x1⟩ := (hnow3.later hlr).at_ huu
    have hub := hin1 _ (List.mem_of_getElem? huu)
    simp only at x0 x1 hub hst
    obtain ⟨nd, hnd⟩ : ∃ nd, L[u0]? = some nd := ⟨_, List.getElem?_eq_getElem hub.1⟩
    obtain ⟨MA, MN, MC, hMB, hMo⟩ := hM3.later hlr
    have hMn : L.length = MN := hMo.1
    obtain ⟨bm, om, hMA, hbm, e0, e1, e2, e4, e5, e6, e7⟩ := hMo.seven hnd
    have hkd : kindAt L u0 = nd.kind := by unfold kindAt; rw [hnd]
    rw [hkd] at hst
    have q0 := hMB.cell 0
    have hu0i : (u0 : Int) < (MN : Int) := by omega
    obtain ⟨kd, ⟨w0, w1, w2, w3⟩, na, nb⟩ := nd
    simp only at e0 hst hkd
    subst hA hMA
    obtain ⟨W4, hW4⟩ : ∃ W4, W4 = wr.alloc (.cells #[.int .i64 (u0 : Int), .int .i64 (u1 : Int)] 158) := ⟨_, rfl⟩
    have B16 : Blk W4 wr.heap.size 158 #[.int .i64 (u0 : Int), .int .i64 (u1 : Int)] := by rw [hW4]; exact Blk.new wr _ _
    have hl4' : Later wr W4 := by rw [hW4]; exact (Later.refl wr).alloc _
    have hl4 : Later W3 W4 := hlr.trans hl4'
    have f0 := fun (q : Addr) (v : Value) (hq : wr.cell? q = some v) => (show W4.cell? q = some v from (Later.cell hl4' (World.block_lt_of_cell? wr q hq)).trans hq)
    have k0 : ∀ x : LW W4, x.val.cell? ⟨g, 0, none⟩ = some (.slice (some ⟨bm, om, none⟩) MN MC) := LW.cell_ (f0 _ _ q0)
    have k1 : ∀ x : LW W4, x.val.cell? ⟨bm, om + u0 * 7, none⟩ = some (.int .i64 (kd : Int)) := LW.cell_ (f0 _ _ e0)
    have k2 : ∀ x : LW W4, x.val.cell? ⟨wr.heap.size, 0, none⟩ = some (.int .i64 (u0 : Int)) := LW.cell_ (B16.cell 0)
    have k3 : ∀ x : LW W4, x.val.cell? ⟨wr.heap.size, 1, none⟩ = some (.int .i64 (u1 : Int)) := LW.cell_ (B16.cell 1)
    clear e0 e1 e2 e4 e5 e6 e7 hMB hMo q0 hkd hnd huu HS f0
    go_upto_region 12 with fail
    rw [← hW4]
    clear hW4 x0 x1
    by_cases hk4 : kd = 4
    ·subst hk4
     cases h with
     | none =>
      have HS2 : Hid (hitF L p (R1.2.drop (j + 1)) (some (u1, p)) = H) := by
       show _ = _
       rw [← hst, if_pos (by rfl)]
      clear hst
      refine wp_region_laterq (by kernel_rfl) (by kernel_rfl) ?_
      repeat (go_big_quiet_step (fail))
      refine wpQuiet_nil ?_
      intro _ hwq
      obtain ⟨xz, rfl⟩ := hwq
      have b16 := blkL xz.later B16
      have hlz := hl4.trans xz.later
      clear k0 k1 k2 k3
      obtain ⟨z0, z1⟩ : xz.val.cell? ⟨wr.heap.size, 0, none⟩ = some (.int .i64 (u0 : Int)) ∧ xz.val.cell? ⟨wr.heap.size, 1, none⟩ = some (.int .i64 (u1 : Int)) := ⟨b16.cell 0, b16.cell 1⟩
      go_wp2_with fail
      go_roundw
      case rel => exact ⟨j + 1, some (u1, p), by omega, by go_num, rfl, rfl, rfl, HS2, hlz⟩
      case measure => simp [intOf]; omega
     | some hh =>
      obtain ⟨a0, a1⟩ := hh
      simp only [stN, enN]
      by_cases hle : u1 ≤ a0
      ·have HS2 : Hid (hitF L p (R1.2.drop (j + 1)) (some (u1, p)) = H) := by
        show _ = _
        rw [← hst, if_pos (by show (true && decide (u1 ≤ a0)) = true; rw [decide_eq_true hle]; rfl)]
       have hlei : (u1 : Int) ≤ (a0 : Int) := by omega
       clear hst
       refine wp_region_laterq (by kernel_rfl) (by kernel_rfl) ?_
       repeat (go_big_quiet_step (fail))
       refine wpQuiet_nil ?_
       intro _ hwq
       obtain ⟨xz, rfl⟩ := hwq
       have b16 := blkL xz.later B16
       have hlz := hl4.trans xz.later
       clear k0 k1 k2 k3
       obtain ⟨z0, z1⟩ : xz.val.cell? ⟨wr.heap.size, 0, none⟩ = some (.int .i64 (u0 : Int)) ∧ xz.val.cell? ⟨wr.heap.size, 1, none⟩ = some (.int .i64 (u1 : Int)) := ⟨b16.cell 0, b16.cell 1⟩
       go_wp2_with fail
       go_roundw
       case rel => exact ⟨j + 1, some (u1, p), by omega, by go_num, rfl, rfl, rfl, HS2, hlz⟩
       case measure => simp [intOf]; omega
      ·have HS2 : Hid (hitF L p (R1.2.drop (j + 1)) (some (a0, a1)) = H) := by
        show _ = _
        rw [← hst, if_neg (by show ¬ (true && decide (u1 ≤ a0)) = true; rw [decide_eq_false hle]; decide)]
       have hlei : ¬ (u1 : Int) ≤ (a0 : Int) := by omega
       have hled : decide ((u1 : Int) ≤ (a0 : Int)) = false := decide_eq_false hlei
       clear hst
       refine wp_region_laterq (by kernel_rfl) (by kernel_rfl) ?_
       repeat (go_big_quiet_step (fail))
       refine wpQuiet_nil ?_
       intro _ hwq
       obtain ⟨xz, rfl⟩ := hwq
       have b16 := blkL xz.later B16
       have hlz := hl4.trans xz.later
       clear k0 k1 k2 k3
       obtain ⟨z0, z1⟩ : xz.val.cell? ⟨wr.heap.size, 0, none⟩ = some (.int .i64 (u0 : Int)) ∧ xz.val.cell? ⟨wr.heap.size, 1, none⟩ = some (.int .i64 (u1 : Int)) := ⟨b16.cell 0, b16.cell 1⟩
       go_wp2_with fail
       go_roundw
       case rel => exact ⟨j + 1, some (a0, a1), by omega, by go_num, rfl, rfl, rfl, HS2, hlz⟩
       case measure => simp [intOf]; omega
    ·have HS2 : Hid (hitF L p (R1.2.drop (j + 1)) h = H) := by
      show _ = _
      rw [← hst, if_neg (by rw [show (kd == 4) = false by rw [beq_eq_false_iff_ne]; exact hk4]; simp)]
     have hk4i : ((kd : Int) == 4) = false := by rw [beq_eq_false_iff_ne]; omega
     clear hst hk4
     refine wp_region_laterq (by kernel_rfl) (by kernel_rfl) ?_
     repeat (go_big_quiet_step (fail))
     refine wpQuiet_nil ?_
     intro _ hwq
     obtain ⟨xz, rfl⟩ := hwq
     have b16 := blkL xz.later B16
     have hlz := hl4.trans xz.later
     clear k0 k1 k2 k3
     obtain ⟨z0, z1⟩ : xz.val.cell? ⟨wr.heap.size, 0, none⟩ = some (.int .i64 (u0 : Int)) ∧ xz.val.cell? ⟨wr.heap.size, 1, none⟩ = some (.int .i64 (u1 : Int)) := ⟨b16.cell 0, b16.cell 1⟩
     go_wp2_with fail
     go_roundw
     case rel => exact ⟨j + 1, h, by omega, by go_num, rfl, rfl, rfl, HS2, hlz⟩
     case measure => simp [intOf]; omega
   ·obtain rfl : n = j := by omega
    have hH : h = H := by
     have := HS.out
     rw [List.drop_of_length_le (by rw [HNL.out]; exact Nat.le_refl _), hitF] at this
     exact this
    subst hH
    clear HS hj hlt
    have hru := hrun3.later hlr
    have hnow := hnow3.later hlr
    have hMr := hM3.later hlr
    have hlw := hl3.trans hlr
    obtain ⟨⟨ns4, cs4, hB4, ho4⟩, hrw4⟩ := id hru
    have r3 := hB4.cell 3
    have HB4 := Lib.hid hB4
    have HRR : Hid (if p = S.size ∨ (R1.2 = [] ∧ (h.isSome = true ∨ most ≤ p)) then h = R else placeF L B S.data.toList most f (p + 1) (eatF L S.data.toList p h R1.2 R1.1 []).2 (eatF L S.data.toList p h R1.2 R1.1 []).1 h = R) := by
     show if _ then _ else _
     have := HRES.out
     split
     ·rename_i hc; rw [if_pos hc] at this; exact this
     ·rename_i hc; rw [if_neg hc] at this; exact this
    clear HRES hrun3 hnow3 hM3 hl3 hlr hB4 ho4 hrw4 HB3
    obtain ⟨b116, hb116⟩ : ∃ b : Bool, b = decide (p = S.size ∨ (R1.2 = [] ∧ (h.isSome = true ∨ most ≤ p))) := ⟨_, rfl⟩
    go_upto_region 15 with fail
    go_cut [116] (fun s116 wx => s116 = .bool b116 ∧ wx = wr)
    case first =>
     by_cases hps : p = S.size
     ·have hb : b116 = true := by rw [hb116]; exact decide_eq_true (.inl hps)
      have hpsi : ((p : Int) == (S.size : Int)) = true := by rw [beq_iff_eq]; omega
      subst hb
      clear hb116 HRR hps
      go_wp2_with fail
      go_meet
      exact ⟨rfl, rfl⟩
     ·have hpsi : ((p : Int) == (S.size : Int)) = false := by rw [beq_eq_false_iff_ne]; omega
      rcases Nat.eq_zero_or_pos n with hn0 | hn0
      ·have hnil : R1.2 = [] := List.eq_nil_of_length_eq_zero (by rw [HNL.out]; exact hn0)
       subst hn0
       cases h with
       | some h =>
        have hb : b116 = true := by rw [hb116]; exact decide_eq_true (.inr ⟨hnil, .inl rfl⟩)
        subst hb
        clear hb116 HRR hps hnil
        go_wp2_with fail
        go_meet
        exact ⟨rfl, rfl⟩
       | none =>
        by_cases hmp : most ≤ p
        ·have hb : b116 = true := by rw [hb116]; exact decide_eq_true (.inr ⟨hnil, .inr hmp⟩)
         have hmpi : (most : Int) ≤ (p : Int) := by omega
         subst hb
         clear hb116 HRR hps hnil hmp
         go_wp2_with fail
         go_meet
         exact ⟨rfl, rfl⟩
        ·have hb : b116 = false := by rw [hb116]; exact decide_eq_false (by rintro (h | ⟨_, h | h⟩); exact hps h; cases h; exact hmp h)
         have hmpi : ¬ (most : Int) ≤ (p : Int) := by omega
         have hmpd : decide ((most : Int) ≤ (p : Int)) = false := decide_eq_false hmpi
         subst hb
         clear hb116 HRR hps hnil hmp
         go_wp2_with fail
         go_meet
         exact ⟨rfl, rfl⟩
      ·have hnn : ¬ R1.2 = [] := fun h => by have := HNL.out; rw [h] at this; simp at this; omega
       have hn0i : ((n : Int) == 0) = false := by rw [beq_eq_false_iff_ne]; omega
       have hb : b116 = false := by rw [hb116]; exact decide_eq_false (by rintro (h | ⟨h, _⟩); exact hps h; exact hnn h)
       subst hb
       clear hb116 HRR hps hnn
       go_wp2_with fail
       go_meet
       exact ⟨rfl, rfl⟩
    case rest =>
    obtain ⟨rfl, rfl⟩ := hcut
    cases b116 with
    | true =>
     have hRh : Hid (h = R) := by have := HRR.out; rw [if_pos (of_decide_eq_true hb116.symm)] at this; exact Lib.hid this
     clear HRR hb116
     go_wp2_with fail
     simp only [Exit.jump]
     go_ret2
     exact ⟨by rw [← hRh.out]; rfl, hlw⟩
    | false =>
     have HRE : Hid (placeF L B S.data.toList most f (p + 1) (eatF L S.data.toList p h R1.2 R1.1 []).2 (eatF L S.data.toList p h R1.2 R1.1 []).1 h = R) := by have := HRR.out; rw [if_neg (of_decide_eq_false hb116.symm)] at this; exact Lib.hid this
     have hps : p < S.size := by
      have h1 := of_decide_eq_false hb116.symm
      rcases Nat.lt_or_ge p S.size with h2 | h2
      ·exact h2
      ·exact absurd (.inl (by omega)) h1
     obtain ⟨R2, hR2⟩ : ∃ R2, R2 = eatF L S.data.toList p h R1.2 R1.1 [] := ⟨_, rfl⟩
     rw [← hR2] at HRE
     have HE : Hid (eatF L S.data.toList p h (R1.2.drop 0) R1.1 [] = R2) := Lib.hid hR2.symm
     have hu0 := unmk_le (p + 1) R1.1
     rw [hlen1] at hu0
     clear HRR hb116 hR2
     obtain ⟨o13, ho13⟩ : ∃ o, o = h.isSome := ⟨_, rfl⟩
     obtain ⟨t11, ht11⟩ : ∃ o, o = stN h := ⟨_, rfl⟩
     obtain ⟨t12, ht12⟩ : ∃ o, o = enN h := ⟨_, rfl⟩
     rw [← ho13, ← ht11, ← ht12]
     have HO13 := Lib.hid ho13
     have HT11 := Lib.hid ht11
     have HT12 := Lib.hid ht12
     clear ho13 ht11 ht12
     go_wp2_with fail
     go_loopw [128] (fun s128 wq => ∃ (j : Nat) (seen : List Nat) (next : List (Nat × Nat)) (A5 : Option Addr) (n5 c5 : Nat), j ≤ n ∧ s128 = .int .i64 (j : Int) ∧ RunW wq w.heap.size g gr gs S (.slice A n c) seen A5 n5 c5 next ∧ OwnW wq w.heap.size A n c R1.2 ∧ MacW wq mb g L (B : Int) ∧ Later w wq ∧ (∀ k, ob A5 = some k → ob A ≠ some k) ∧ Hid (eatF L S.data.toList p h (R1.2.drop j) seen next = R2) ∧ seen.length = L.length ∧ InL L S.size next ∧ next.length + unmk (p + 1) seen ≤ 20000) (fun s128 _ => n - (intOf s128).toNat)
     case atStart => exact ⟨0, R1.1, [], none, 0, 0, Nat.zero_le _, rfl, hru, hnow, hMr, hlw, fun k hk => (by cases hk), HE, hlen1, fun u hu => (by cases hu), by simp only [List.length_nil]; omega⟩
     case round =>
      clear r3 HB4 hru hnow hMr hlw HE
      obtain ⟨j, seen, next, A5, n5, c5, hj, rfl, hru, hnow, hMr, hlw, hne5, HS, hlen5, hin5, hcnt5⟩ := hrel
      by_cases hlt : j < n
      ·have hlti : (j : Int) < (n : Int) := by omega
       obtain ⟨uu, huu⟩ : ∃ u, R1.2[j]? = some u := ⟨_, List.getElem?_eq_getElem (by rw [HNL.out]; exact hlt)⟩
       have hst := HS.out
       rw [drop_at huu, eatF] at hst
       obtain ⟨u0, u1⟩ := uu
       obtain ⟨g0, hA, hg0, _, x0, x1⟩ := hnow.at_ huu
       have hub := hin1 _ (List.mem_of_getElem? huu)
       simp only at x0 x1 hub hst
       obtain ⟨nd, hnd⟩ : ∃ nd, L[u0]? = some nd := ⟨_, List.getElem?_eq_getElem hub.1⟩
       have hnwf := HW.out u0 nd hnd
       have hnok := HOK.out u0 nd hnd
       have heat : eats L S.data.toList p h (u0, u1) = (nd.kind == 0 && (hasAt S.data.toList nd.set p && aliveF h u1)) := by unfold eats; simp only; rw [hnd]
       have hto : toOf L u0 = nd.a := by unfold toOf; rw [hnd]
       rw [heat, hto] at hst
       obtain ⟨MA, MN, MC, hMB, hMo⟩ := id hMr
       have hMn : L.length = MN := hMo.1
       obtain ⟨bm, om, hMA, hbm, e0, e1, e2, e4, e5, e6, e7⟩ := hMo.seven hnd
       have q0 := hMB.cell 0
       have hu0i : (u0 : Int) < (MN : Int) := by omega
       obtain ⟨kd, ⟨w0, w1, w2, w3⟩, na, nb⟩ := nd
       simp only at e0 e1 e2 e4 e5 e6 e7 hst hnwf hnok
       subst hA hMA
       obtain ⟨W6, hW6⟩ : ∃ W6, W6 = wr.alloc (.cells #[.int .i64 (u0 : Int), .int .i64 (u1 : Int)] 158) := ⟨_, rfl⟩
       have B18 : Blk W6 wr.heap.size 158 #[.int .i64 (u0 : Int), .int .i64 (u1 : Int)] := by rw [hW6]; exact Blk.new wr _ _
       have hl6 : Later wr W6 := by rw [hW6]; exact (Later.refl wr).alloc _
       have hru6 := hru.later hl6
       have hnow6 := hnow.later hl6
       have hM6 := hMr.later hl6
       have hlw6 := hlw.trans hl6
       have ff := fun (q : Addr) (v : Value) (hq : wr.cell? q = some v) => (show W6.cell? q = some v from (Later.cell hl6 (World.block_lt_of_cell? wr q hq)).trans hq)
       have e0 := ff _ _ e0
       have e1 := ff _ _ e1
       have e2 := ff _ _ e2
       have e4 := ff _ _ e4
       have e5 := ff _ _ e5
       have e6 := ff _ _ e6
       have e7 := ff _ _ e7
       have q0 := ff _ _ q0
       obtain ⟨y0, y1⟩ : W6.cell? ⟨wr.heap.size, 0, none⟩ = some (.int .i64 (u0 : Int)) ∧ W6.cell? ⟨wr.heap.size, 1, none⟩ = some (.int .i64 (u1 : Int)) := ⟨B18.cell 0, B18.cell 1⟩
       go_upto_region 20 with fail
       rw [← hW6]
       clear hW6 x0 x1 ff hMB hMo heat hto hnd huu HS hru hnow hMr hlw
       have ks : ∀ wx, Later W6 wx → wx.cell? ⟨g, 0, none⟩ = some (.slice (some ⟨bm, om, none⟩) MN MC) ∧ wx.cell? ⟨wr.heap.size, 0, none⟩ = some (.int .i64 (u0 : Int)) ∧ wx.cell? ⟨bm, om + u0 * 7, none⟩ = some (.int .i64 (kd : Int)) ∧ wx.cell? ⟨bm, om + u0 * 7 + 1, none⟩ = some (.int .u64 (w0 : Int)) ∧ wx.cell? ⟨bm, om + u0 * 7 + 2, none⟩ = some (.int .u64 (w1 : Int)) ∧ wx.cell? ⟨bm, om + u0 * 7 + 3, none⟩ = some (.int .u64 (w2 : Int)) ∧ wx.cell? ⟨bm, om + u0 * 7 + 4, none⟩ = some (.int .u64 (w3 : Int)) ∧ wx.cell? ⟨bm, om + u0 * 7 + 5, none⟩ = some (.int .i64 (na : Int)) ∧ wx.cell? ⟨bm, om + u0 * 7 + 6, none⟩ = some (.int .i64 (nb : Int)) := fun wx hx => by
        have hk := fun (q : Addr) (v : Value) (hq : W6.cell? q = some v) => (show wx.cell? q = some v from (Later.cell hx (World.block_lt_of_cell? W6 q hq)).trans hq)
        exact ⟨hk _ _ q0, hk _ _ y0, hk _ _ e0, hk _ _ e1, hk _ _ e2, hk _ _ e4, hk _ _ e5, hk _ _ e6, hk _ _ e7⟩
       have KS := Lib.hid ks
       clear ks
       go_region_held_law (fun w' => w'.cell? ⟨g, 0, none⟩ = some (.slice (some ⟨bm, om, none⟩) MN MC) ∧ w'.cell? ⟨wr.heap.size, 0, none⟩ = some (.int .i64 (u0 : Int)) ∧ w'.cell? ⟨bm, om + u0 * 7, none⟩ = some (.int .i64 (kd : Int)) ∧ w'.cell? ⟨bm, om + u0 * 7 + 1, none⟩ = some (.int .u64 (w0 : Int)) ∧ w'.cell? ⟨bm, om + u0 * 7 + 2, none⟩ = some (.int .u64 (w1 : Int)) ∧ w'.cell? ⟨bm, om + u0 * 7 + 3, none⟩ = some (.int .u64 (w2 : Int)) ∧ w'.cell? ⟨bm, om + u0 * 7 + 4, none⟩ = some (.int .u64 (w3 : Int)) ∧ w'.cell? ⟨bm, om + u0 * 7 + 5, none⟩ = some (.int .i64 (na : Int)) ∧ w'.cell? ⟨bm, om + u0 * 7 + 6, none⟩ = some (.int .i64 (nb : Int))) (exact KS.out _ (by repeat (first | (with_reducible exact Later.refl _) | (with_reducible apply Later.drew) | (with_reducible apply Later.alloc) | (with_reducible refine Later.setCell ?_ (Nat.le_refl _) _)))) (fail)
       obtain ⟨b18, hb18⟩ : ∃ b, b = wr.heap.size := ⟨_, rfl⟩
       obtain ⟨b19, hb19⟩ : ∃ b, b = W6.heap.size := ⟨_, rfl⟩
       obtain ⟨W7, hW7⟩ : ∃ W7, W7 = (W6.alloc (.cells #[.int .i64 (kd : Int), .int .u64 (w0 : Int), .int .u64 (w1 : Int), .int .u64 (w2 : Int), .int .u64 (w3 : Int), .int .i64 (na : Int), .int .i64 (nb : Int)] 127)).drew := ⟨_, rfl⟩
       have hl7 : Later W6 W7 := by rw [hW7]; exact ((Later.refl W6).alloc _).drew
       have B19 : Blk W7 b19 127 #[.int .i64 (kd : Int), .int .u64 (w0 : Int), .int .u64 (w1 : Int), .int .u64 (w2 : Int), .int .u64 (w3 : Int), .int .i64 (na : Int), .int .i64 (nb : Int)] := by rw [hW7, hb19]; exact (Blk.new W6 _ _).drew
       rw [← hb18] at B18
       have B18 := blkL hl7 B18
       have hru7 := hru6.later hl7
       have hnow7 := hnow6.later hl7
       have hM7 := hM6.later hl7
       have hlw7 := hlw6.trans hl7
       have k0 : ∀ x : LW W7, x.val.cell? ⟨b19, 0, none⟩ = some (.int .i64 (kd : Int)) := LW.cell_ (B19.cell 0)
       have k1 : ∀ x : LW W7, x.val.cell? ⟨b19, 1, none⟩ = some (.int .u64 (w0 : Int)) := LW.cell_ (B19.cell 1)
       have k2 : ∀ x : LW W7, x.val.cell? ⟨b19, 2, none⟩ = some (.int .u64 (w1 : Int)) := LW.cell_ (B19.cell 2)
       have k3 : ∀ x : LW W7, x.val.cell? ⟨b19, 3, none⟩ = some (.int .u64 (w2 : Int)) := LW.cell_ (B19.cell 3)
       have k4 : ∀ x : LW W7, x.val.cell? ⟨b19, 4, none⟩ = some (.int .u64 (w3 : Int)) := LW.cell_ (B19.cell 4)
       have k5 : ∀ x : LW W7, x.val.cell? ⟨b18, 1, none⟩ = some (.int .i64 (u1 : Int)) := LW.cell_ (B18.cell 1)
       obtain ⟨ch, hch⟩ : ∃ ch, S.data.toList[p]? = some ch := ⟨_, List.getElem?_eq_getElem (by rw [len_eq]; exact hps)⟩
       obtain ⟨hpi2, hce⟩ := str_get S p ch hch
       obtain ⟨v, hv⟩ : ∃ v, v = hasAt S.data.toList (w0, w1, w2, w3) p := ⟨_, rfl⟩
       have hvv : v = w4has (w0, w1, w2, w3) ch.toNat := by rw [hv]; unfold hasAt; rw [hch]
       rw [← hv] at hst
       have hhas : ∀ wx, Calls Tryz.prog 86 #[.agg #[.int .u64 (w0 : Int), .int .u64 (w1 : Int), .int .u64 (w2 : Int), .int .u64 (w3 : Int)], .int .u8 (S[p].toNat : Int)] wx fun e w' => e = .returned (.bool v) ∧ Later wx w' := fun wx => by
        rw [hce, hvv]
        exact has_w4 (w0, w1, w2, w3) hnok ch.toNat ch.toNat_lt wx
       have HHAS := Lib.hid hhas
       have hpS : (p : Int) < (S.size : Int) := by omega
       have hgsz : ∀ wx, Later W7 wx → w.heap.size ≤ wx.heap.size := fun wx hx => Nat.le_trans hlw7.size hx.size
       have hrc : ∀ wx, Later W7 wx → Calls Tryz.prog 85 #[.pointer (some ⟨gr, 0, none⟩), .int .i64 (na : Int), .int .i64 ((p : Int) + 1), .int .i64 (u1 : Int)] wx fun e w2 => e = .returned (.tuple #[]) ∧ Reached wx w.heap.size g gr gs S (.slice (some ⟨g0, 0, none⟩) n c) A5 (reachF L S.size (p + 1) u1 (fuelF L) [na] seen next) w2 := fun wx hx => by
        have := reach_any wx w.heap.size g gr gs mb L (B : Int) S (.slice (some ⟨g0, 0, none⟩) n c) (p + 1) u1 na seen A5 n5 c5 next _ (hM7.later hx) HW.out (hru7.later hx) hnwf.1 hlen5 (by omega) (by omega) hL (by omega) (hgsz wx hx) (by omega) rfl
        rw [show ((p + 1 : Nat) : Int) = (p : Int) + 1 by omega] at this
        exact this
       have HRC := Lib.hid hrc
       have hrf := reach_facts (len := S.size) (fr := u1) (p := p + 1) HW.out hub.2 hnwf.1 hlen5 hin5 hcnt5
       have HNR : Hid (∀ k, ob (some ⟨g0, 0, none⟩ : Option Addr) = some k → ¬ InR gr gs A5 k) := by
        intro k hk
        rintro (rfl | rfl | e)
        ·obtain ⟨⟨_, h1⟩, _⟩ := hru7.ty
         obtain ⟨_, _, _, h2⟩ := hnow7.blk hk
         exact Blk.ne_ h1 h2 (by decide) rfl
        ·obtain ⟨_, ⟨_, h1⟩, _⟩ := hru7.ty
         obtain ⟨_, _, _, h2⟩ := hnow7.blk hk
         exact Blk.ne_ h1 h2 (by decide) rfl
        ·exact hne5 k e hk
       have HNE : Hid (∀ wx, Later W7 wx → ∀ k, (ob A5 = some k ∨ wx.heap.size ≤ k) → ob (some ⟨g0, 0, none⟩ : Option Addr) ≠ some k) := by
        intro wx hx k hk e
        rcases hk with hk | hk
        ·exact hne5 k hk e
        ·have := (hnow7.blk e).1
         have := hx.size
         omega
       have HST := Lib.hid hst
       rw [← hW7, ← hb18, ← hb19]
       clear hW7 hb18 hb19 hl7 hl6 hru6 hnow6 hM6 hlw6 hch hce hv hvv hhas hrc hgsz hst y0 y1 e0 e1 e2 e4 e5 e6 e7 q0 KS hnok
       have HN5 := Lib.hid hne5
       have HBIG := Lib.hid (And.intro hlt (And.intro hgr (And.intro hgs (And.intro hrf (And.intro hlen5 (And.intro hin5 hcnt5))))))
       clear hgr hgs hrf hlen5 hin5 hcnt5
       try clear hlo
       try clear _hmo
       try clear hS
       try clear hL
       try clear hp
       try clear hlen
       try clear hin
       try clear hcnt
       try clear hhit
       try clear hfp
       try clear hlen1
       try clear hin1
       try clear hhb
       try clear hMn
       try clear hu0i
       try clear hub
       try clear hnwf
       try clear hu0
       try clear hps
       try clear hB
       try clear hne5
       go_upto_region 21 with fail
       by_cases hk0 : kd = 0
       ·have hk0i : ((kd : Int) == 0) = true := by rw [hk0]; rfl
        have hst2 := HST.out
        rw [hk0] at hst2
        clear HST
        have HST := Lib.hid hst2
        clear hst2 hk0
        cases v with
        | false =>
         have HS2 : Hid (eatF L S.data.toList p h (R1.2.drop (j + 1)) seen next = R2) := by
          show _ = _
          have := HST.out
          rw [if_neg (by simp)] at this
          exact this
         clear HST
         refine wp_region_laterq (by kernel_rfl) (by kernel_rfl) ?_
         repeat (go_big_quiet_step (fail))
         go_big_quiet_step (((go_at_call 86; (with_reducible refine Calls.laterq (HHAS.out _)))))
         set_option maxHeartbeats 100000 in
         go_big_quiet_want
         set_option maxHeartbeats 200000 in
         go_big_quiet_op
         set_option maxHeartbeats 100000 in
         go_big_quiet_on
         set_option maxHeartbeats 100000 in
         go_big_quiet_want
         set_option maxHeartbeats 100000 in
         go_big_quiet_op
         set_option maxHeartbeats 100000 in
         go_big_quiet_on
         set_option maxHeartbeats 400000 in
         repeat (go_big_quiet_step (fail))
         refine wpQuiet_nil ?_
         intro _ hwq
         obtain ⟨xz, rfl⟩ := hwq
         clear k0 k1 k2 k3 k4 k5
         have hlz := xz.later
         go_wp2_with fail
         go_roundw
         case rel => exact ⟨j + 1, seen, next, A5, n5, c5, by omega, by go_num, hru7.later hlz, hnow7.later hlz, hM7.later hlz, hlw7.trans hlz, HN5.out, HS2, HBIG.out.2.2.2.2.1, HBIG.out.2.2.2.2.2.1, HBIG.out.2.2.2.2.2.2⟩
         case measure => simp [intOf]; omega
        | true =>
         cases o13 with
         | false =>
          have hhn : h = none := by have := HO13.out; cases h with | none => rfl | some _ => cases this
          have HS2 : Hid (eatF L S.data.toList p h (R1.2.drop (j + 1)) (reachF L S.size (p + 1) u1 (fuelF L) [na] seen next).1 (reachF L S.size (p + 1) u1 (fuelF L) [na] seen next).2 = R2) := by
           show _ = _
           have := HST.out
           rw [if_pos (by rw [hhn]; rfl), len_eq] at this
           exact this
          clear HST hhn
          refine wp_region_laterq (by kernel_rfl) (by kernel_rfl) ?_
          repeat (go_big_quiet_step (fail))
          go_big_quiet_step (((go_at_call 86; (with_reducible refine Calls.laterq (HHAS.out _)))))
          set_option maxHeartbeats 100000 in
          go_big_quiet_want
          set_option maxHeartbeats 200000 in
          go_big_quiet_op
          set_option maxHeartbeats 100000 in
          go_big_quiet_on
          set_option maxHeartbeats 100000 in
          go_big_quiet_want
          set_option maxHeartbeats 100000 in
          go_big_quiet_op
          set_option maxHeartbeats 100000 in
          go_big_quiet_on
          set_option maxHeartbeats 400000 in
          repeat (go_big_quiet_step (fail))
          refine wpQuiet_nil ?_
          intro _ hwq
          obtain ⟨xz, rfl⟩ := hwq
          clear k0 k1 k2 k3 k4 k5
          have hlz := xz.later
          have z5 : xz.val.cell? ⟨b19, 5, none⟩ = some (.int .i64 (na : Int)) := (blkL hlz B19).cell 5
          have z1 : xz.val.cell? ⟨b18, 1, none⟩ = some (.int .i64 (u1 : Int)) := (blkL hlz B18).cell 1
          go_wp2_with fail
          refine (HRC.out _ hlz).mono ?_
          rintro e w9 ⟨rfl, A9, n9, c9, hru9, hf9, hnew9⟩
          go_wp2_with fail
          go_roundw
          case rel => exact ⟨j + 1, _, _, A9, n9, c9, by omega, by go_num, hru9, (hnow7.later hlz).fr hf9 HNR.out, (hM7.later hlz).fr hf9 (inR_ty (hru7.later hlz)), (hlw7.trans hlz).inR (hru7.later hlz) HBIG.out.2.1 HBIG.out.2.2.1 hf9, fun k hk => HNE.out _ hlz k (hnew9 k hk), HS2, HBIG.out.2.2.2.1.1, HBIG.out.2.2.2.1.2.1, HBIG.out.2.2.2.1.2.2⟩
          case measure => simp [intOf]; omega
         | true =>
          have hal : aliveF h u1 = decide (u1 ≤ t11) := by have h1 := HO13.out; have h2 := HT11.out; cases h with | none => cases h1 | some _ => rw [h2]; rfl
          have hst3 := HST.out
          rw [hal] at hst3
          by_cases hle : u1 ≤ t11
          ·have HS2 : Hid (eatF L S.data.toList p h (R1.2.drop (j + 1)) (reachF L S.size (p + 1) u1 (fuelF L) [na] seen next).1 (reachF L S.size (p + 1) u1 (fuelF L) [na] seen next).2 = R2) := by
            show _ = _
            rw [if_pos (by rw [decide_eq_true hle]; rfl), len_eq] at hst3
            exact hst3
           have hlei : (u1 : Int) ≤ (t11 : Int) := by omega
           clear HST hle hst3 hal
           refine wp_region_laterq (by kernel_rfl) (by kernel_rfl) ?_
           repeat (go_big_quiet_step (fail))
           go_big_quiet_step (((go_at_call 86; (with_reducible refine Calls.laterq (HHAS.out _)))))
           set_option maxHeartbeats 100000 in
           go_big_quiet_want
           set_option maxHeartbeats 200000 in
           go_big_quiet_op
           set_option maxHeartbeats 100000 in
           go_big_quiet_on
           set_option maxHeartbeats 100000 in
           go_big_quiet_want
           set_option maxHeartbeats 100000 in
           go_big_quiet_op
           set_option maxHeartbeats 100000 in
           go_big_quiet_on
           set_option maxHeartbeats 400000 in
           repeat (go_big_quiet_step (fail))
           refine wpQuiet_nil ?_
           intro _ hwq
           obtain ⟨xz, rfl⟩ := hwq
           clear k0 k1 k2 k3 k4 k5
           have hlz := xz.later
           have z5 : xz.val.cell? ⟨b19, 5, none⟩ = some (.int .i64 (na : Int)) := (blkL hlz B19).cell 5
           have z1 : xz.val.cell? ⟨b18, 1, none⟩ = some (.int .i64 (u1 : Int)) := (blkL hlz B18).cell 1
           go_wp2_with fail
           refine (HRC.out _ hlz).mono ?_
           rintro e w9 ⟨rfl, A9, n9, c9, hru9, hf9, hnew9⟩
           go_wp2_with fail
           go_roundw
           case rel => exact ⟨j + 1, _, _, A9, n9, c9, by omega, by go_num, hru9, (hnow7.later hlz).fr hf9 HNR.out, (hM7.later hlz).fr hf9 (inR_ty (hru7.later hlz)), (hlw7.trans hlz).inR (hru7.later hlz) HBIG.out.2.1 HBIG.out.2.2.1 hf9, fun k hk => HNE.out _ hlz k (hnew9 k hk), HS2, HBIG.out.2.2.2.1.1, HBIG.out.2.2.2.1.2.1, HBIG.out.2.2.2.1.2.2⟩
           case measure => simp [intOf]; omega
          ·have HS2 : Hid (eatF L S.data.toList p h (R1.2.drop (j + 1)) seen next = R2) := by
            show _ = _
            rw [if_neg (by rw [decide_eq_false hle]; decide)] at hst3
            exact hst3
           have hlei : ¬ (u1 : Int) ≤ (t11 : Int) := by omega
           have hled : decide ((u1 : Int) ≤ (t11 : Int)) = false := decide_eq_false hlei
           clear HST hle hst3 hal
           refine wp_region_laterq (by kernel_rfl) (by kernel_rfl) ?_
           repeat (go_big_quiet_step (fail))
           go_big_quiet_step (((go_at_call 86; (with_reducible refine Calls.laterq (HHAS.out _)))))
           set_option maxHeartbeats 100000 in
           go_big_quiet_want
           set_option maxHeartbeats 200000 in
           go_big_quiet_op
           set_option maxHeartbeats 100000 in
           go_big_quiet_on
           set_option maxHeartbeats 100000 in
           go_big_quiet_want
           set_option maxHeartbeats 100000 in
           go_big_quiet_op
           set_option maxHeartbeats 100000 in
           go_big_quiet_on
           set_option maxHeartbeats 400000 in
           repeat (go_big_quiet_step (fail))
           refine wpQuiet_nil ?_
           intro _ hwq
           obtain ⟨xz, rfl⟩ := hwq
           clear k0 k1 k2 k3 k4 k5
           have hlz := xz.later
           go_wp2_with fail
           go_roundw
           case rel => exact ⟨j + 1, seen, next, A5, n5, c5, by omega, by go_num, hru7.later hlz, hnow7.later hlz, hM7.later hlz, hlw7.trans hlz, HN5.out, HS2, HBIG.out.2.2.2.2.1, HBIG.out.2.2.2.2.2.1, HBIG.out.2.2.2.2.2.2⟩
           case measure => simp [intOf]; omega
       ·have HS2 : Hid (eatF L S.data.toList p h (R1.2.drop (j + 1)) seen next = R2) := by
         show _ = _
         have := HST.out
         rw [if_neg (by rw [show (kd == 0) = false by rw [beq_eq_false_iff_ne]; exact hk0]; simp)] at this
         exact this
        have hk0i : ((kd : Int) == 0) = false := by rw [beq_eq_false_iff_ne]; omega
        clear HST hk0
        refine wp_region_laterq (by kernel_rfl) (by kernel_rfl) ?_
        repeat (go_big_quiet_step (((go_at_call 86; (with_reducible refine Calls.laterq (HHAS.out _))))))
        refine wpQuiet_nil ?_
        intro _ hwq
        obtain ⟨xz, rfl⟩ := hwq
        clear k0 k1 k2 k3 k4 k5
        have hlz := xz.later
        go_wp2_with fail
        go_roundw
        case rel => exact ⟨j + 1, seen, next, A5, n5, c5, by omega, by go_num, hru7.later hlz, hnow7.later hlz, hM7.later hlz, hlw7.trans hlz, HN5.out, HS2, HBIG.out.2.2.2.2.1, HBIG.out.2.2.2.2.2.1, HBIG.out.2.2.2.2.2.2⟩
        case measure => simp [intOf]; omega
      ·obtain rfl : n = j := by omega
       have hfin : (seen, next) = R2 := by
        have := HS.out
        rw [List.drop_of_length_le (by rw [HNL.out]; exact Nat.le_refl _), eatF] at this
        exact this
       subst hfin
       clear HS
       go_wp2_with fail
       go_step3
       have ho13 := HO13.out
       have ht11 := HT11.out
       have ht12 := HT12.out
       subst ho13 ht11 ht12
       exact ⟨rfl, f, Nat.lt_succ_self _, p + 1, gr, gs, h, (seen, next), rfl, ⟨A5, n5, c5, _, hru, hMr, hlw⟩, hgr, hgs, HRE, hps, by omega, hlen5, hin5, hcnt5, hhb⟩
end Go.Proofs.YtmkddhkpeiajhaaGreatDoor
namespace Go.Proofs.YtmkddhkpeiajhaaGreatDoor
open Go.RowKit
structure RunsM (w : World) (mb g : Nat) (L : List NSt) (B : Nat) : Prop where
 mem : MacW w mb g L (B : Int)
 wf : WfM L
 beg : B < L.length
 sets : ∀ (s : Nat) (n : NSt), L[s]? = some n → okW n.set
 len : L.length ≤ 20000
theorem RunsM.later {w w' : World} {mb g : Nat} {L : List NSt} {B : Nat} (h : RunsM w mb g L B) (hl : Later w w') : RunsM w' mb g L B := ⟨h.mem.later hl, h.wf, h.beg, h.sets, h.len⟩
theorem build_sets : ∀ (r : Rx) (q : Nat) (l : List NSt), okR r → (∀ (s : Nat) (n : NSt), l[s]? = some n → okW n.set) → ∀ (s : Nat) (n : NSt), (buildF r q l).1[s]? = some n → okW n.set
 | .eps, q, l, _, hl, s, n, h => hl s n h
 | .set x, q, l, hk, hl, s, n, h => by unfold buildF at h; exact snoc_ok (m := ⟨0, x, q, 0⟩) hl hk s n h
 | .first, q, l, _, hl, s, n, h => by unfold buildF at h; exact snoc_ok hl z4_ok s n h
 | .last, q, l, _, hl, s, n, h => by unfold buildF at h; exact snoc_ok hl z4_ok s n h
 | .cat a b, q, l, hk, hl, s, n, h => by unfold buildF at h; exact build_sets a _ _ hk.1 (build_sets b q l hk.2 hl) s n h
 | .alt a b, q, l, hk, hl, s, n, h => by unfold buildF at h; exact snoc_ok (build_sets b q _ hk.2 (build_sets a q l hk.1 hl)) z4_ok s n h
 | .opt a, q, l, hk, hl, s, n, h => by unfold buildF at h; exact snoc_ok (build_sets a q l hk hl) z4_ok s n h
 | .star a, q, l, hk, hl, s, n, h => by unfold buildF at h; exact setNA_ok (build_sets a _ _ hk (snoc_ok hl z4_ok)) s n h
 | .plus a, q, l, hk, hl, s, n, h => by unfold buildF at h; exact setNA_ok (build_sets a _ _ hk (snoc_ok hl z4_ok)) s n h
where
 z4_ok : okW z4 := by unfold okW z4; simp
 snoc_ok {l : List NSt} {m : NSt} (hl : ∀ (s : Nat) (n : NSt), l[s]? = some n → okW n.set) (hm : okW m.set) : ∀ (s : Nat) (n : NSt), (l ++ [m])[s]? = some n → okW n.set := fun s n h => by
  by_cases hs : s < l.length
  ·rw [List.getElem?_append_left hs] at h; exact hl s n h
  ·rw [List.getElem?_append_right (by omega)] at h
   have : s - l.length = 0 := by have := (List.getElem?_eq_some_iff.1 h).1; simp at this; omega
   rw [this] at h; injection h with h; subst h; exact hm
 setNA_ok {l : List NSt} {i a : Nat} (hl : ∀ (s : Nat) (n : NSt), l[s]? = some n → okW n.set) : ∀ (s : Nat) (n : NSt), (setNA l i a)[s]? = some n → okW n.set := fun s n h => by
  by_cases hs : i = s
  ·subst hs
   rw [setNA_eq] at h
   cases hq : l[i]? with
   | none => rw [hq] at h; cases h
   | some m => rw [hq] at h; injection h with h; subst h; exact hl i m hq
  ·rw [setNA_ne _ hs] at h; exact hl s n h
theorem MadeM.runs {w w' : World} {r : Rx} {g : Nat} (h : MadeM w r g w') (hk : okR r) (hr : rightT (rxT r) = true) : RunsM w' w.heap.size g (machF r).1 (machF r).2 :=
 ⟨h.1, (mach_wf r).1, (mach_wf r).2, build_sets r 0 _ hk (fun s n hn => by
  have hs : s = 0 := by have := (List.getElem?_eq_some_iff.1 hn).1; simp at this; omega
  subst hs; injection hn with hn; subst hn; exact build_sets.z4_ok), by have := mach_len hr; omega⟩
theorem find_at (S : ByteArray) (lo most : Nat) (w : World) (mb g : Nat) (L : List NSt) (B : Nat) (h : RunsM w mb g L B) (hlo : lo ≤ S.size) (hmo : most ≤ S.size) (hS : S.size ≤ 1000000) :
  Calls Tryz.prog 70 #[.pointer (some ⟨g, 0, none⟩), .string S, .int .i64 (lo : Int), .int .i64 (most : Int)] w (Found w (findF (L, B) S.data.toList lo most)) :=
 find_yes S lo most w mb g L B h.mem h.wf h.beg h.sets hlo hmo hS h.len
set_option maxRecDepth 100000 in
theorem find_no (S : ByteArray) (lo most : Int) (p : Value) (w : World) (hlo : lo < 0 ∨ (S.size : Int) < lo) :
  Calls Tryz.prog 70 #[p, .string S, .int .i64 lo, .int .i64 most] w (Found w none) := by
 rcases hlo with h | h
 ·go_enter Tryz.func70, Tryz.ntmps70
  go_wp2_with fail
  refine wp_scope_rank 0 (fun _ _ _ => False) rfl (fun _ => ?_) (fun _ _ _ h => h.elim)
  go_wp2_with fail
  simp only [Exit.jump]
  go_ret2
  exact ⟨by rw [show fl (stN none : Int) = 0 from fl_0.symm, show fl (enN none : Int) = 0 from fl_0.symm]; rfl, Later.refl _⟩
 ·have h1 : ¬ lo < 0 := by omega
  have h2 : decide (lo < 0) = false := decide_eq_false h1
  go_enter Tryz.func70, Tryz.ntmps70
  go_wp2_with fail
  refine wp_scope_rank 0 (fun _ _ _ => False) rfl (fun _ => ?_) (fun _ _ _ h => h.elim)
  go_wp2_with fail
  simp only [Exit.jump]
  go_ret2
  exact ⟨by rw [show fl (stN none : Int) = 0 from fl_0.symm, show fl (enN none : Int) = 0 from fl_0.symm]; rfl, Later.refl _⟩
theorem conv_fi (n : Nat) (hn : n ≤ 1000000) (W : World) : (convert 106 3 (.float .f64 (fl (n : Int)))).run Tryz.prog W = .ok (.int .i64 (n : Int)) W :=
 run_convert_float_int W _ _ .f64 .i64 _ n (by kernel_rfl) Tryz.underlying3 (fl_toI64 n (by omega))
end Go.Proofs.YtmkddhkpeiajhaaGreatDoor
namespace Go.Proofs.YtmkddhkpeiajhaaGreatDoor
open Go.RowKit
def cV (u : Nat × Nat) : Value := .complex .f64 (fl (u.1 : Int)) (fl (u.2 : Int))
def OwnC (w : World) (base : Nat) (A : Option Addr) (n c : Nat) (l : List (Nat × Nat)) : Prop := l.length = n ∧ w.ownsRow base 105 1 (.slice A n c) n (l.map cV)
theorem complex_info : (Tryz.prog.info? 105).map (fun i => (i.zero, i.size, i.bytes)) = some (some (.complex .f64 0 0), 1, 16) := by kernel_rfl
theorem OwnC.nil {w : World} {base : Nat} : OwnC w base none 0 0 [] := ⟨rfl, World.ownsRow_nil _ _ _ _⟩
theorem OwnC.later {w w' : World} {base n c : Nat} {A : Option Addr} {l : List (Nat × Nat)} (h : OwnC w base A n c l) (hl : Later w w') : OwnC w' base A n c l := ⟨h.1, ownsRow_fr h.2 (Fr.laterF hl) (fun _ _ h => h)⟩
theorem OwnC.blk {w : World} {base n c : Nat} {A : Option Addr} {l : List (Nat × Nat)} (h : OwnC w base A n c l) {k : Nat} (hk : ob A = some k) : k < w.heap.size ∧ base ≤ k ∧ ∃ cs, Blk w k 105 cs := own_row_blk h.2 hk
theorem OwnC.at_ {w : World} {base n c : Nat} {A : Option Addr} {l : List (Nat × Nat)} (h : OwnC w base A n c l) {k : Nat} {x : Nat × Nat} (hx : l[k]? = some x) : ∃ g, A = some ⟨g, 0, none⟩ ∧ g < w.heap.size ∧ base ≤ g ∧ w.cell? ⟨g, k, none⟩ = some (cV x) := by
 have hk : k < n := by have := (List.getElem?_eq_some_iff.1 hx).1; have := h.1; omega
 obtain ⟨g, cap, hv, hb, hlt⟩ := World.ownsRow.form h.2 (by omega)
 injection hv with hA
 subst hA
 refine ⟨g, rfl, hlt, hb, ?_⟩
 rw [World.ownsRow.cellAt h.2 k (by omega), List.getElem?_map, hx]
 rfl
theorem reads_c (w : World) (x y : Nat) (t : TypeId) {b : Nat} (hb : b = w.heap.size) : Reads (w.alloc (.cells #[.complex .f64 (fl (x : Int)) (fl (y : Int))] t)) (w.heap.size + 1) 1 (some ⟨b, 0, none⟩) 1 [cV (x, y)] := by
 subst hb
 refine ⟨rfl, fun _ => ⟨_, rfl, Nat.lt_succ_self _, fun j u hu => ?_⟩⟩
 rw [Addr.add_lit, Nat.zero_add, cell_of_row _ _ _ _ _ _ (heap_alloc_new w _), ← Array.getElem?_toList]
 exact hu
theorem wpList_append_c (w : World) {ops : Array Oper} {rest : List Oper} {o : Oper} {a : Act} {Q : Exit → Act → World → Prop} (hgd : o.guard = none) (s x : Operand)
  (ho : o.op = .call { callee := .builtin .append, args := #[s, x], argTypes := #[103, 103] })
  (base : Nat) (A : Option Addr) (n c : Nat) (l : List (Nat × Nat)) (hs : a.eval s = .slice A n c) (hown : OwnC w base A n c l) (y : Nat × Nat)
  (B : Nat) (A2 : Option Addr) (hx : a.eval x = .slice A2 1 1) (hr : Reads w B 1 A2 1 [cV y]) (hbd : n < 1000000000) (hbase : base ≤ w.heap.size)
  (h : ∀ A' n' c' w', n' = n + 1 → OwnC w' base A' n' c' (l ++ [y]) → w.grownBy w' (ob A) → wpList Tryz.prog ops Q rest (a.put o.dst (.slice A' n' c')) w') :
  wpList Tryz.prog ops Q (o :: rest) a w := by
 obtain ⟨i0, hi, hz0, hz1, hz2⟩ := info_parts complex_info
 refine wpList_append_any w hgd s x 103 ho base 105 i0 _ 1 16 Tryz.underlying103 hi hz0 hz1 hz2 rfl (by decide) (.slice A n c) n _ hs hown.2 B A2 1 1 [cV y] hx hr (by intro u hu; rw [List.mem_singleton.1 hu]; rfl) (by unfold maxLen; omega) (by omega) hbase ?_
 intro v' w' h2 h3 h4
 have hv : ∃ A' c', v' = .slice A' (n + 1) c' := by
  rcases h2.2 with ⟨_, e⟩ | ⟨g, cap, cur, rfl, _⟩
  ·omega
  ·exact ⟨_, _, rfl⟩
 obtain ⟨A', c', rfl⟩ := hv
 rw [ob_own] at h3
 exact h A' _ c' w' rfl ⟨by rw [List.length_append, hown.1]; rfl, by rw [List.map_append]; exact h2⟩ h3
def allF (fd : Nat → Option (Nat × Nat)) (len : Nat) : Nat → Nat → Int → List (Nat × Nat) → List (Nat × Nat)
 | 0, _, _, out => out
 | f + 1, p, bh, out =>
  match (if p ≤ len then fd p else none) with
  | none => out
  | some h =>
   if h.1 < h.2 then allF fd len f h.2 (h.2 : Int) (out ++ [h])
   else if (h.1 : Int) = bh then allF fd len f (h.2 + 1) bh out
   else allF fd len f (h.2 + 1) bh (out ++ [h])
def allFr (g : Nat) (S : ByteArray) (A : Option Addr) (n c p : Nat) (bh : Int) (u : Nat → Value) : Act := { tmps := #[.pointer (some ⟨g, 0, none⟩), .string S, u 2, u 3, u 4, .slice A n c, .int .i64 (p : Int), .int .i64 bh, u 8, u 9, u 10, u 11, u 12, u 13, u 14, u 15, u 16, u 17, u 18, u 19, u 20, u 21, u 22, u 23, u 24, u 25, u 26, u 27, u 28, u 29, u 30, u 31, u 32, u 33, u 34, u 35, u 36, u 37, u 38, u 39, u 40, u 41, u 42, u 43, u 44, u 45, u 46, u 47, u 48, u 49, u 50, u 51], defers := [] }
def AllJ (w : World) (mb g : Nat) (L : List NSt) (B : Nat) (S : ByteArray) (R : List (Nat × Nat)) (f : Nat) (a' : Act) (w' : World) : Prop :=
 ∃ (p : Nat) (bh : Int) (out : List (Nat × Nat)) (A : Option Addr) (n c : Nat), a' = allFr g S A n c p bh (fun i => a'.tmps.getD i undef) ∧ OwnC w' w.heap.size A n c out ∧ RunsM w' mb g L B ∧ Later w w' ∧
  Hid (allF (fun p => findF (L, B) S.data.toList p S.size) S.size f p bh out = R) ∧ S.size + 2 ≤ f + p ∧ p ≤ S.size + 1 ∧ n ≤ p ∧ -1 ≤ bh ∧ bh ≤ 1000000
def RetAll (w : World) (R : List (Nat × Nat)) (e : Ending) (w' : World) : Prop := ∃ A n c, e = .returned (.slice A n c) ∧ OwnC w' w.heap.size A n c R ∧ Later w w'
set_option maxRecDepth 100000 in
set_option maxHeartbeats 8000000 in
theorem all_m (S : ByteArray) (w : World) (mb g : Nat) (L : List NSt) (B : Nat) (hM : RunsM w mb g L B) (hS : S.size ≤ 100000)
  (hb : ∀ lo, lo ≤ S.size → ∀ h, findF (L, B) S.data.toList lo S.size = some h → lo ≤ h.1 ∧ h.1 ≤ h.2 ∧ h.2 ≤ S.size) :
  Calls Tryz.prog 57 #[.pointer (some ⟨g, 0, none⟩), .string S] w (RetAll w (allF (fun p => findF (L, B) S.data.toList p S.size) S.size (S.size + 2) 0 (-1) [])) := by
 obtain ⟨R, hR⟩ : ∃ R, R = allF (fun p => findF (L, B) S.data.toList p S.size) S.size (S.size + 2) 0 (-1) [] := ⟨_, rfl⟩
 rw [← hR]
 have HR := Lib.hid hR.symm
 have HB := Lib.hid hb
 have HM := Lib.hid hM
 clear hR hb hM
 go_enter Tryz.func57, Tryz.ntmps57
 go_wp2_with fail
 refine wp_scope_rank 0 (AllJ w mb g L B S R) rfl ?_ ?_
 ·intro hpass
  go_wp2_with fail
  go_step3
  rename_i kk
  exact kk _ _ (hpass _ _ _ ⟨0, -1, [], none, 0, 0, rfl, OwnC.nil, HM.out, Later.refl w, HR, Nat.le_refl _, Nat.zero_le _, Nat.le_refl _, by omega, by omega⟩)
 ·clear HR HM
  rintro f a' w' ⟨p, bh, out, A, n, c, ha, hown, hM, hlw, hres, hfp, hpS, hnp, hb1, hb2⟩
  generalize (fun i => a'.tmps.getD i undef) = u at ha
  subst ha
  unfold allFr
  rcases f with _ | f
  ·exact absurd hfp (by omega)
  ·have hres' := hres.out
   rw [allF] at hres'
   have hfd : ∀ wx, Later w' wx → Calls Tryz.prog 70 #[.pointer (some ⟨g, 0, none⟩), .string S, .int .i64 (p : Int), .int .i64 (S.size : Int)] wx (Found wx (if p ≤ S.size then findF (L, B) S.data.toList p S.size else none)) := fun wx hwx => by
    by_cases hp : p ≤ S.size
    ·rw [if_pos hp]; exact find_at S p S.size wx mb g L B (hM.later hwx) hp (Nat.le_refl _) (by omega)
    ·rw [if_neg hp]; exact find_no S _ _ _ wx (.inr (by omega))
   have HFD := Lib.hid hfd
   obtain ⟨o, ho⟩ : ∃ o, o = (if p ≤ S.size then findF (L, B) S.data.toList p S.size else none) := ⟨_, rfl⟩
   have hbo : ∀ h, o = some h → p ≤ h.1 ∧ h.1 ≤ h.2 ∧ h.2 ≤ S.size := fun h e => by
    rw [ho] at e
    split at e
    ·exact HB.out p (by assumption) h e
    ·cases e
   rw [← ho] at hres' HFD
   have HM2 := Lib.hid hM
   have HG : Hid (∀ wx : World, Later w' wx → ∀ {w9 : World}, RunsM wx mb g L B → wx.grownBy w9 (ob A) → RunsM w9 mb g L B) := by
    intro wx hlx w9 hx hg
    refine ⟨hx.mem.fr (Fr.of_grown hg) (fun k hk => ?_), hx.wf, hx.beg, hx.sets, hx.len⟩
    obtain ⟨_, _, cs, hB⟩ := (hown.later hlx).blk hk
    exact ⟨_, cs, hB, by decide, by decide⟩
   have HLW := Lib.hid hlw
   clear hfd ho hM hlw hres
   cases o with
   | none =>
    have HRR : Hid (R = out) := Lib.hid hres'.symm
    clear hres' hbo
    go_wp2_with fail
    refine (HFD.out _ (Later.refl _)).mono ?_
    rintro e w1 ⟨rfl, hl1⟩
    simp only [Option.isSome]
    go_wp2_with fail
    simp only [Exit.jump]
    go_ret
    exact ⟨A, n, c, rfl, by rw [HRR.out]; exact hown.later hl1, HLW.out.trans hl1⟩
   | some h =>
    obtain ⟨hb3, hb4, hb5⟩ := hbo h rfl
    obtain ⟨h0, h1⟩ := h
    simp only at hb3 hb4 hb5 hres'
    have ht1 := conv_fi h0 (by omega)
    have ht2 := conv_fi h1 (by omega)
    clear hbo
    by_cases hlt : h0 < h1
    ·have hlti : (h0 : Int) < (h1 : Int) := by omega
     have HRR : Hid (allF (fun p => findF (L, B) S.data.toList p S.size) S.size f h1 (h1 : Int) (out ++ [(h0, h1)]) = R) := by rw [if_pos hlt] at hres'; exact Lib.hid hres'
     clear hres'
     go_wp2_with fail
     refine (HFD.out _ (Later.refl _)).mono ?_
     rintro e w1 ⟨rfl, hl1⟩
     simp only [Option.isSome, stN, enN]
     have hsz1 := (HLW.out.trans hl1).size
     go_wp2_with (at_builtin; go_loud (refine wpList_append_c _ rfl (.tmp 40) (.tmp 42) rfl w.heap.size A n c out rfl ((hown.later hl1).later ((Later.refl w1).alloc _)) (h0, h1) _ _ rfl (reads_c _ _ _ _ (by simp)) (by omega) (by simp; omega) ?_); intro A9 n9 c9 w9 hn9 hown9 hg9; have hn9 := Lib.hid hn9)
     go_step3
     have hn9' := hn9.out
     subst hn9'
     have hl9 : Later w w9 := ((HLW.out.trans hl1).alloc _).grown hg9 (fun k hk => (hown.blk hk).2.1)
     have hm9 : RunsM w9 mb g L B := HG.out _ (hl1.alloc _) ((HM2.out.later hl1).later ((Later.refl w1).alloc _)) hg9
     exact ⟨rfl, f, Nat.lt_succ_self _, h1, (h1 : Int), out ++ [(h0, h1)], A9, n + 1, c9, rfl, hown9, hm9, hl9, HRR, by omega, by omega, by omega, by omega, by omega⟩
    ·have hlti : ¬ (h0 : Int) < (h1 : Int) := by omega
     have hltd : decide ((h0 : Int) < (h1 : Int)) = false := decide_eq_false hlti
     by_cases hbh : (h0 : Int) = bh
     ·have hbi : ((h0 : Int) == bh) = true := by rw [beq_iff_eq]; exact hbh
      have HRR : Hid (allF (fun p => findF (L, B) S.data.toList p S.size) S.size f (h1 + 1) bh out = R) := by rw [if_neg hlt, if_pos hbh] at hres'; exact Lib.hid hres'
      clear hres' hbh
      go_wp2_with fail
      refine (HFD.out _ (Later.refl _)).mono ?_
      rintro e w1 ⟨rfl, hl1⟩
      simp only [Option.isSome, stN, enN]
      go_wp2_with fail
      go_step3
      exact ⟨rfl, f, Nat.lt_succ_self _, h1 + 1, bh, out, A, n, c, rfl, hown.later hl1, HM2.out.later hl1, HLW.out.trans hl1, HRR, by omega, by omega, by omega, by omega, by omega⟩
     ·have hbi : ((h0 : Int) == bh) = false := by rw [beq_eq_false_iff_ne]; exact hbh
      have HRR : Hid (allF (fun p => findF (L, B) S.data.toList p S.size) S.size f (h1 + 1) bh (out ++ [(h0, h1)]) = R) := by rw [if_neg hlt, if_neg hbh] at hres'; exact Lib.hid hres'
      clear hres' hbh
      go_wp2_with fail
      refine (HFD.out _ (Later.refl _)).mono ?_
      rintro e w1 ⟨rfl, hl1⟩
      simp only [Option.isSome, stN, enN]
      have hsz1 := (HLW.out.trans hl1).size
      go_wp2_with (at_builtin; go_loud (refine wpList_append_c _ rfl (.tmp 30) (.tmp 32) rfl w.heap.size A n c out rfl ((hown.later hl1).later ((Later.refl w1).alloc _)) (h0, h1) _ _ rfl (reads_c _ _ _ _ (by simp)) (by omega) (by simp; omega) ?_); intro A9 n9 c9 w9 hn9 hown9 hg9; have hn9 := Lib.hid hn9)
      go_step3
      have hn9' := hn9.out
      subst hn9'
      have hl9 : Later w w9 := ((HLW.out.trans hl1).alloc _).grown hg9 (fun k hk => (hown.blk hk).2.1)
      have hm9 : RunsM w9 mb g L B := HG.out _ (hl1.alloc _) ((HM2.out.later hl1).later ((Later.refl w1).alloc _)) hg9
      exact ⟨rfl, f, Nat.lt_succ_self _, h1 + 1, bh, out ++ [(h0, h1)], A9, n + 1, c9, rfl, hown9, hm9, hl9, HRR, by omega, by omega, by omega, by omega, by omega⟩
end Go.Proofs.YtmkddhkpeiajhaaGreatDoor
namespace Go.Proofs.YtmkddhkpeiajhaaGreatDoor
open Go.RowKit
set_option maxRecDepth 100000 in
set_option maxHeartbeats 4000000 in
theorem new_yes (S : ByteArray) [Txt S] (r : Rx) (w : World) (hs : S.size ≤ 999999990) (hp : parseF S.data.toList = (rxT r, 0, 0)) (hrr : rightT (rxT r) = true) :
  Calls Tryz.prog 43 #[.string S] w fun e w' => ∃ g, e = .returned (.tuple #[.pointer (some ⟨g, 0, none⟩), .int .i64 0, .int .i64 0]) ∧ MadeM w r g w' := by
 have hpp := parse_any S (fun _ => True) w hs (fun _ _ => trivial)
 rw [hp] at hpp
 have HP := Lib.hid hpp
 have HRR := Lib.hid hrr
 clear hpp hp hrr
 go_enter Tryz.func43, Tryz.ntmps43
 go_wp2_with fail
 refine HP.out.mono ?_
 rintro e w1 ⟨k, a, b, c, d, A, n, cp, rfl, hC, hl1⟩
 have hC : ReC w1 (fun _ => True) (rxT r) ⟨k, a, b, c, d, A, n, cp⟩ := hC
 have hco := compile_yes r (fun _ => True) k a b c d A n cp _ (hC.later ((Later.refl w1).alloc (.cells #[.int .i64 k, .int .u64 a, .int .u64 b, .int .u64 c, .int .u64 d, .slice A n cp] 98))) HRR.out
 have HCO := Lib.hid hco
 clear hco hC
 simp only
 go_wp2_with fail
 refine HCO.out.mono ?_
 rintro e w2 ⟨g, rfl, hm2, hg2, hl2⟩
 go_wp2_with fail
 go_ret3
 have hlw := hl1.trans ((Later.refl w1).alloc (.cells #[.int .i64 k, .int .u64 a, .int .u64 b, .int .u64 c, .int .u64 d, .slice A n cp] 98))
 have hsz := hlw.size
 refine ⟨g, rfl, ?_, Nat.le_trans hsz hg2, hlw.trans hl2⟩
 obtain ⟨A', n', c', h1, h2⟩ := hm2
 exact ⟨A', n', c', h1, h2.1, own_base h2.2 hsz⟩
theorem new_at (S : ByteArray) [Txt S] (r : Rx) (w : World) (hs : S.size ≤ 999999990) (hp : parseF S.data.toList = (rxT r, 0, 0)) (hrr : rightT (rxT r) = true) (hk : okR r) :
  Calls Tryz.prog 43 #[.string S] w fun e w' => ∃ g, e = .returned (.tuple #[.pointer (some ⟨g, 0, none⟩), .int .i64 0, .int .i64 0]) ∧ RunsM w' w.heap.size g (machF r).1 (machF r).2 ∧ Later w w' :=
 (new_yes S r w hs hp hrr).mono fun _ _ ⟨g, h1, h2⟩ => ⟨g, h1, h2.runs hk hrr, h2.2.2⟩
theorem all_at (S : ByteArray) (w : World) (mb g : Nat) (r : Rx) (h : RunsM w mb g (machF r).1 (machF r).2) (hS : S.size ≤ 100000) (R : List (Nat × Nat)) (hR : allF (fun p => findF (machF r) S.data.toList p S.size) S.size (S.size + 2) 0 (-1) [] = R) :
  Calls Tryz.prog 57 #[.pointer (some ⟨g, 0, none⟩), .string S] w (RetAll w R) := by
 subst hR
 refine all_m S w mb g _ _ h hS (fun lo hlo u hu => ?_)
 have hl := find_law r S.data.toList lo S.size (by rw [len_eq]; exact hlo) (by rw [len_eq]; exact Nat.le_refl _)
 have hu : findF (machF r) S.data.toList lo S.size = some u := hu
 rw [hu] at hl
 obtain ⟨h1, h2, h3, _⟩ := hl
 have := Mt.mono S.data.toList r h3 (by rw [len_eq]; exact h2)
 rw [len_eq] at this
 exact ⟨h1, this.1, this.2⟩
end Go.Proofs.YtmkddhkpeiajhaaGreatDoor
