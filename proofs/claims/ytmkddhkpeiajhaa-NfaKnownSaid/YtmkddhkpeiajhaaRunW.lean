import Derived.Test.YtmkddhkpeiajhaaJumps
import Derived.Test.YtmkddhkpeiajhaaMachine
import Derived.Test.YtmkddhkpeiajhaaRxs
/-
  A scope of one label: what holds at each jump has a rank, which every pass lowers.
-/
namespace Go.Proofs.Ytmkddhkpeiajhaa

open Classical in
/-- the least rank at which it holds -/
noncomputable def rankOf (J : Nat → Act → World → Prop) (a : Act) (w : World) : Nat := if h : ∃ n, J n a w then Nat.find_ h else 0
where
  Nat.find_ {p : Nat → Prop} (h : ∃ n, p n) : Nat := Classical.choose (least h)
  least {p : Nat → Prop} (h : ∃ n, p n) : ∃ n, p n ∧ ∀ m, p m → n ≤ m := by
    obtain ⟨n, hn⟩ := h
    induction n using Nat.strongRecOn with
    | _ n ih =>
      by_cases hm : ∃ m, m < n ∧ p m
      · obtain ⟨m, h1, h2⟩ := hm
        exact ih m h1 h2
      · exact ⟨n, hn, fun m h => Nat.le_of_not_lt fun h' => hm ⟨m, h', h⟩⟩
theorem rankOf_spec {J : Nat → Act → World → Prop} {a : Act} {w : World} (h : ∃ n, J n a w) : J (rankOf J a w) a w ∧ ∀ m, J m a w → rankOf J a w ≤ m := by
  have e : rankOf J a w = rankOf.Nat.find_ h := by unfold rankOf; rw [dif_pos h]
  rw [e]
  exact Classical.choose_spec (rankOf.least h)

theorem wp_scope_rank {P : Program} {a : Act} {w : World} {Q : Exit → Act → World → Prop} {c r : Code} (l : Nat) (J : Nat → Act → World → Prop) (hf : findLabel c l = some (Code.skip.seq r))
    (first : (∀ n a w, J n a w → r.wp P (Exit.jump l (fun a w => ∃ n, J n a w) Q) a w) → c.wp P (Exit.jump l (fun a w => ∃ n, J n a w) Q) a w)
    (pass : ∀ n a w, J n a w → r.wp P (Exit.jump l (fun a' w' => ∃ m, m < n ∧ J m a' w') Q) a w) : (Code.scope c).wp P Q a w := by
  have up : ∀ n a w, J n a w → r.wp P (Exit.jump l (fun a w => ∃ n, J n a w) Q) a w := fun n a w h =>
    Code.wp_mono (fun e a' w' q => by
      cases e with
      | goto l' => exact ⟨q.1, q.2.elim fun m h => ⟨m, h.2⟩⟩
      | _ => exact q) (pass n a w h)
  refine wp_scope_jumps1 l (fun a w => ∃ n, J n a w) (rankOf J) hf (fun _ => first up) ?_
  rintro a w h
  obtain ⟨h1, _⟩ := rankOf_spec h
  refine Code.wp_mono (fun e a' w' q => ?_) (pass _ a w h1)
  cases e with
  | goto l' =>
    obtain ⟨q1, m, q2, q3⟩ := q
    exact ⟨q1, ⟨m, q3⟩, Nat.lt_of_le_of_lt ((rankOf_spec ⟨m, q3⟩).2 m q3) q2⟩
  | _ => exact q

end Go.Proofs.Ytmkddhkpeiajhaa

/-
  The walk of a machine over a text in memory: rows of numbers and of walkers of the call's own.
-/
namespace Go.Proofs.Ytmkddhkpeiajhaa
open Go.RowKit

def natL (l : List Nat) : List Value := l.map fun x : Nat => Value.int .i64 (x : Int)
/-- numbers that a call gathers in a row of its own -/
def OwnS (w : World) (base : Nat) (A : Option Addr) (n c : Nat) (l : List Nat) : Prop := l.length = n ∧ w.ownsRow base 3 1 (.slice A n c) n (natL l)
def wkL (u : Nat × Nat) : List Value := [.int .i64 (u.1 : Int), .int .i64 (u.2 : Int)]
/-- walkers that a call gathers in a row of its own -/
def OwnW (w : World) (base : Nat) (A : Option Addr) (n c : Nat) (l : List (Nat × Nat)) : Prop := l.length = n ∧ w.ownsRow base 97 2 (.slice A n c) n (l.flatMap wkL)
theorem num_info : (Try.prog.info? 3).map (fun i => (i.zero, i.size, i.bytes)) = some (some (.int .i64 0), 1, 8) := by kernel_rfl
theorem walker_info : (Try.prog.info? 97).map (fun i => (i.zero, i.size, i.bytes)) = some (some (.agg #[.int .i64 0, .int .i64 0]), 2, 16) := by kernel_rfl

section
variable {w w' : World} {base n c : Nat} {A : Option Addr} {l : List Nat} {ls : List (Nat × Nat)}
theorem OwnS.nil : OwnS w base none 0 0 [] := ⟨rfl, World.ownsRow_nil _ _ _ _⟩
theorem OwnW.nil : OwnW w base none 0 0 [] := ⟨rfl, World.ownsRow_nil _ _ _ _⟩
theorem OwnS.fr {p : Nat → Prop} (h : OwnS w base A n c l) (hf : Fr w w' p) (hA : ∀ k, ob A = some k → ¬ p k) : OwnS w' base A n c l := ⟨h.1, ownsRow_fr h.2 hf (fun k hk => hA k (by rw [← ob_own A n c]; exact hk))⟩
theorem OwnW.fr {p : Nat → Prop} (h : OwnW w base A n c ls) (hf : Fr w w' p) (hA : ∀ k, ob A = some k → ¬ p k) : OwnW w' base A n c ls := ⟨h.1, ownsRow_fr h.2 hf (fun k hk => hA k (by rw [← ob_own A n c]; exact hk))⟩
theorem OwnS.later (h : OwnS w base A n c l) (hl : Later w w') : OwnS w' base A n c l := h.fr (Fr.laterF hl) (fun _ _ h => h)
theorem OwnW.later (h : OwnW w base A n c ls) (hl : Later w w') : OwnW w' base A n c ls := h.fr (Fr.laterF hl) (fun _ _ h => h)
theorem OwnS.blk (h : OwnS w base A n c l) {k : Nat} (hk : ob A = some k) : k < w.heap.size ∧ base ≤ k ∧ ∃ cs, Blk w k 3 cs := own_row_blk h.2 hk
theorem OwnW.blk (h : OwnW w base A n c ls) {k : Nat} (hk : ob A = some k) : k < w.heap.size ∧ base ≤ k ∧ ∃ cs, Blk w k 97 cs := own_row_blk h.2 hk
theorem OwnS.cap (h : OwnS w base A n c l) : n ≤ c := own_row_form h.2
theorem natL_get (l : List Nat) {k x : Nat} (h : l[k]? = some x) : (natL l)[k]? = some (.int .i64 (x : Int)) := by unfold natL; rw [List.getElem?_map, h]; rfl
theorem OwnS.at_ (h : OwnS w base A n c l) {k x : Nat} (hx : l[k]? = some x) : ∃ g, A = some ⟨g, 0, none⟩ ∧ g < w.heap.size ∧ base ≤ g ∧ w.cell? ⟨g, k, none⟩ = some (.int .i64 (x : Int)) ∧ w.frozen? ⟨g, k, none⟩ = false := by
  have hk : k < n := by have := (List.getElem?_eq_some_iff.1 hx).1; have := h.1; omega
  obtain ⟨g, cap, hv, hb, hlt⟩ := World.ownsRow.form h.2 (by omega)
  injection hv with hA
  subst hA
  obtain ⟨_, _, cs, hB⟩ := h.blk (k := g) rfl
  refine ⟨g, rfl, hlt, hb, ?_, hB.frozen _⟩
  rw [World.ownsRow.cellAt h.2 k (by omega)]
  exact natL_get l hx
theorem flatw_get : ∀ (xs : List (Nat × Nat)) (i j : Nat) (x : Nat × Nat) (u : Value), xs[i]? = some x → (wkL x)[j]? = some u → (xs.flatMap wkL)[i * 2 + j]? = some u
  | [], _, _, _, _, h, _ => by cases h
  | y :: ys, 0, j, x, u, h, hu => by
    injection h with h
    subst h
    have hj : j < 2 := (List.getElem?_eq_some_iff.1 hu).1
    rw [List.flatMap_cons, Nat.zero_mul, Nat.zero_add, List.getElem?_append_left hj]
    exact hu
  | y :: ys, i + 1, j, x, u, h, hu => by
    have hl : (wkL y).length = 2 := rfl
    rw [List.flatMap_cons, List.getElem?_append_right (by omega), hl, show (i + 1) * 2 + j - 2 = i * 2 + j by omega]
    exact flatw_get ys i j x u h hu
theorem OwnW.at_ (h : OwnW w base A n c ls) {k : Nat} {x : Nat × Nat} (hx : ls[k]? = some x) : ∃ g, A = some ⟨g, 0, none⟩ ∧ g < w.heap.size ∧ base ≤ g ∧ w.cell? ⟨g, k * 2, none⟩ = some (.int .i64 (x.1 : Int)) ∧ w.cell? ⟨g, k * 2 + 1, none⟩ = some (.int .i64 (x.2 : Int)) := by
  have hk : k < n := by have := (List.getElem?_eq_some_iff.1 hx).1; have := h.1; omega
  obtain ⟨g, cap, hv, hb, hlt⟩ := World.ownsRow.form h.2 (by omega)
  injection hv with hA
  subst hA
  refine ⟨g, rfl, hlt, hb, ?_, ?_⟩
  · rw [World.ownsRow.cellAt h.2 (k * 2) (by omega)]
    exact flatw_get ls k 0 x _ hx rfl
  · rw [World.ownsRow.cellAt h.2 (k * 2 + 1) (by omega)]
    exact flatw_get ls k 1 x _ hx rfl
theorem natL_set (l : List Nat) (k x : Nat) : natL (l.set k x) = (natL l).set k (.int .i64 (x : Int)) := by unfold natL; rw [List.map_set]
theorem OwnS.set_ {g k x : Nat} (h : OwnS w base (some ⟨g, 0, none⟩) n c l) (hk : k < n) : OwnS (w.setCell ⟨g, k, none⟩ (.int .i64 (x : Int))) base (some ⟨g, 0, none⟩) n c (l.set k x) := by
  refine ⟨by rw [List.length_set]; exact h.1, ?_⟩
  rw [natL_set]
  have := own_set (sp := none) h.2 (j := k) (.int .i64 (x : Int)) (by omega)
  rw [Nat.zero_add] at this
  exact this
theorem OwnS.cut {m : Nat} (h : OwnS w base A n c l) (hm : m ≤ n) (hA : A ≠ none) : OwnS w base A m c (l.take m) := by
  refine ⟨by rw [List.length_take]; have := h.1; omega, ?_⟩
  have := own_cut h.2 hm hA
  unfold natL at this ⊢
  rw [List.map_take]
  rwa [Nat.mul_one] at this
theorem OwnS.one (w : World) {base : Nat} (hb : base ≤ w.heap.size) (x : Nat) : OwnS (w.alloc (.cells #[.int .i64 (x : Int)] 3)) base (some ⟨w.heap.size, 0, none⟩) 1 1 [x] :=
  ⟨rfl, rfl, .inr ⟨w.heap.size, 1, _, rfl, hb, Blk.new w _ _, Nat.le_refl _, by unfold maxLen; omega, rfl, rfl⟩⟩
end

theorem reads_nat1 (w : World) (x : Nat) (t : TypeId) {b : Nat} (hb : b = w.heap.size) : Reads (w.alloc (.cells #[.int .i64 (x : Int)] t)) (w.heap.size + 1) 1 (some ⟨b, 0, none⟩) 1 (natL [x]) := by
  subst hb
  refine ⟨rfl, fun _ => ⟨_, rfl, Nat.lt_succ_self _, fun j u hu => ?_⟩⟩
  rw [Addr.add_lit, Nat.zero_add, cell_of_row _ _ _ _ _ _ (heap_alloc_new w _), ← Array.getElem?_toList]
  exact hu
theorem reads_nat2 (w : World) (x y : Nat) (t : TypeId) {b : Nat} (hb : b = w.heap.size) : Reads (w.alloc (.cells #[.int .i64 (x : Int), .int .i64 (y : Int)] t)) (w.heap.size + 1) 1 (some ⟨b, 0, none⟩) 2 (natL [x, y]) := by
  subst hb
  refine ⟨rfl, fun _ => ⟨_, rfl, Nat.lt_succ_self _, fun j u hu => ?_⟩⟩
  rw [Addr.add_lit, Nat.zero_add, cell_of_row _ _ _ _ _ _ (heap_alloc_new w _), ← Array.getElem?_toList]
  exact hu
theorem reads_wk (w : World) (x y : Nat) (t : TypeId) {b : Nat} (hb : b = w.heap.size) : Reads (w.alloc (.cells #[.int .i64 (x : Int), .int .i64 (y : Int)] t)) (w.heap.size + 1) 2 (some ⟨b, 0, none⟩) 1 (wkL (x, y)) := by
  subst hb
  refine ⟨rfl, fun _ => ⟨_, rfl, Nat.lt_succ_self _, fun j u hu => ?_⟩⟩
  rw [Addr.add_lit, Nat.zero_add, cell_of_row _ _ _ _ _ _ (heap_alloc_new w _), ← Array.getElem?_toList]
  exact hu
/-- where a row lies behind an append -/
def NewOb (w : World) (A A' : Option Addr) : Prop := ∀ k, ob A' = some k → ob A = some k ∨ w.heap.size ≤ k

theorem wpList_append_s (w : World) {ops : Array Oper} {rest : List Oper} {o : Oper} {a : Act} {Q : Exit → Act → World → Prop} (hgd : o.guard = none) (s x : Operand)
    (ho : o.op = .call { callee := .builtin .append, args := #[s, x], argTypes := #[91, 91] })
    (base : Nat) (A : Option Addr) (n c : Nat) (l : List Nat) (hs : a.eval s = .slice A n c) (hown : OwnS w base A n c l) (m : Nat) (ys : List Nat)
    (B : Nat) (A2 : Option Addr) (hm : m ≠ 0) (hx : a.eval x = .slice A2 m m) (hr : Reads w B 1 A2 m (natL ys)) (hm2 : m ≤ 1000) (hbd : n < 1000000000) (hbase : base ≤ w.heap.size)
    (h : ∀ A' n' c' w', n' = n + m → OwnS w' base A' n' c' (l ++ ys) → w.grownBy w' (ob A) → NewOb w A A' → wpList Try.prog ops Q rest (a.put o.dst (.slice A' n' c')) w') :
    wpList Try.prog ops Q (o :: rest) a w := by
  obtain ⟨i0, hi, hz0, hz1, hz2⟩ := info_parts num_info
  have hml : ys.length = m := by have := hr.1; unfold natL at this; rw [List.length_map] at this; omega
  refine wpList_append_any w hgd s x 91 ho base 3 i0 _ 1 8 Try.underlying91 hi hz0 hz1 hz2 rfl (by decide) (.slice A n c) n _ hs hown.2 B A2 m m (natL ys) hx hr (by intro u hu; unfold natL at hu; obtain ⟨y, _, rfl⟩ := List.mem_map.1 hu; rfl) (by unfold maxLen; omega) (by omega) hbase ?_
  intro v' w' h2 h3 h4
  have hv : ∃ A' c', v' = .slice A' (n + m) c' := by
    rcases h2.2 with ⟨_, e⟩ | ⟨g, cap, cur, rfl, _⟩
    · omega
    · exact ⟨_, _, rfl⟩
  obtain ⟨A', c', rfl⟩ := hv
  rw [ob_own] at h3
  refine h A' _ c' w' rfl ⟨by rw [List.length_append, hown.1, hml], by unfold natL at h2 ⊢; rw [List.map_append]; exact h2⟩ h3 (fun k hk => ?_)
  rw [ob_own, ob_own] at h4
  rcases h4 with h4 | h4
  · exact .inl (by rw [← h4]; exact hk)
  · rw [h4] at hk; injection hk with hk; exact .inr (by omega)
theorem wpList_append_w (w : World) {ops : Array Oper} {rest : List Oper} {o : Oper} {a : Act} {Q : Exit → Act → World → Prop} (hgd : o.guard = none) (s x : Operand)
    (ho : o.op = .call { callee := .builtin .append, args := #[s, x], argTypes := #[92, 92] })
    (base : Nat) (A : Option Addr) (n c : Nat) (l : List (Nat × Nat)) (hs : a.eval s = .slice A n c) (hown : OwnW w base A n c l) (y : Nat × Nat)
    (B : Nat) (A2 : Option Addr) (hx : a.eval x = .slice A2 1 1) (hr : Reads w B 2 A2 1 (wkL y)) (hbd : n < 1000000000) (hbase : base ≤ w.heap.size)
    (h : ∀ A' n' c' w', n' = n + 1 → OwnW w' base A' n' c' (l ++ [y]) → w.grownBy w' (ob A) → NewOb w A A' → wpList Try.prog ops Q rest (a.put o.dst (.slice A' n' c')) w') :
    wpList Try.prog ops Q (o :: rest) a w := by
  obtain ⟨i0, hi, hz0, hz1, hz2⟩ := info_parts walker_info
  refine wpList_append_any w hgd s x 92 ho base 97 i0 _ 2 16 Try.underlying92 hi hz0 hz1 hz2 rfl (by decide) (.slice A n c) n _ hs hown.2 B A2 1 1 (wkL y) hx hr (by intro u hu; simp [wkL] at hu; rcases hu with rfl | rfl <;> rfl) (by unfold maxLen; omega) (by omega) hbase ?_
  intro v' w' h2 h3 h4
  have hv : ∃ A' c', v' = .slice A' (n + 1) c' := by
    rcases h2.2 with ⟨_, e⟩ | ⟨g, cap, cur, rfl, _⟩
    · omega
    · exact ⟨_, _, rfl⟩
  obtain ⟨A', c', rfl⟩ := hv
  rw [ob_own] at h3
  refine h A' _ c' w' rfl ⟨by rw [List.length_append, hown.1]; rfl, by rw [List.flatMap_append]; simpa using h2⟩ h3 (fun k hk => ?_)
  rw [ob_own, ob_own] at h4
  rcases h4 with h4 | h4
  · exact .inl (by rw [← h4]; exact hk)
  · rw [h4] at hk; injection hk with hk; exact .inr (by omega)

/-- a machine stays where no machine's, no states' block is turned -/
theorem MacW.fr {w w' : World} {base g : Nat} {l : List NSt} {b : Int} {p : Nat → Prop} (h : MacW w base g l b) (hf : Fr w w' p) (hp : ∀ k, p k → ∃ t cs, Blk w k t cs ∧ t ≠ 63 ∧ t ≠ 67) : MacW w' base g l b := by
  obtain ⟨A, n, c, h1, h2⟩ := h
  refine ⟨A, n, c, h1.fr hf (fun hg => ?_), h2.fr hf (fun k hk hpk => ?_)⟩
  · obtain ⟨t, cs, hB, ht, _⟩ := hp g hg
    exact Blk.ne_ hB h1 ht rfl
  · obtain ⟨t, cs, hB, _, ht⟩ := hp k hpk
    obtain ⟨_, _, cs', hB'⟩ := h2.blk hk
    exact Blk.ne_ hB hB' ht rfl

/-- the run in memory: its cells, its marks, the list of those reached; which blocks are its own -/
structure RunW (w : World) (base g gr gs : Nat) (S : ByteArray) (vn : Value) (seen : List Nat) (A : Option Addr) (n c : Nat) (next : List (Nat × Nat)) : Prop where
  blk : ∃ ns cs, Blk w gr 94 #[.pointer (some ⟨g, 0, none⟩), .string S, .slice (some ⟨gs, 0, none⟩) ns cs, vn, .slice A n c] ∧ OwnS w base (some ⟨gs, 0, none⟩) ns cs seen
  row : OwnW w base A n c next
/-- what reach may turn -/
def InR (gr gs : Nat) (A : Option Addr) (k : Nat) : Prop := k = gr ∨ k = gs ∨ ob A = some k
/-- what reach leaves -/
def Reached (w : World) (base g gr gs : Nat) (S : ByteArray) (vn : Value) (A : Option Addr) (R : List Nat × List (Nat × Nat)) (w' : World) : Prop :=
  ∃ A' n' c', RunW w' base g gr gs S vn R.1 A' n' c' R.2 ∧ Fr w w' (InR gr gs A) ∧ NewOb w A A'

theorem reach_count (L : List NSt) (len p fr : Nat) : ∀ (f : Nat) (st seen : List Nat) (next : List (Nat × Nat)), (∀ s ∈ st, s < seen.length) → WfM L → seen.length = L.length →
    (reachF L len p fr f st seen next).2.length + unmk p (reachF L len p fr f st seen next).1 ≤ next.length + unmk p seen
  | 0, _, _, _, _, _, _ => Nat.le_refl _
  | f + 1, [], _, _, _, _, _ => Nat.le_refl _
  | f + 1, s :: st, seen, next, hs, hW, hlen => by
    unfold reachF
    have hs0 := hs s (List.mem_cons_self ..)
    have hst : ∀ t ∈ st, t < seen.length := fun t ht => hs t (List.mem_cons_of_mem _ ht)
    by_cases hk : seen[s]? = some (p + 1)
    · rw [if_pos hk]; exact reach_count L len p fr f st seen next hst hW hlen
    · rw [if_neg hk]
      obtain ⟨n, hn⟩ : ∃ n, L[s]? = some n := ⟨_, List.getElem?_eq_getElem (by omega)⟩
      have hu : unmk p (seen.set s (p + 1)) + 1 = unmk p seen := by
        obtain ⟨v, hv⟩ : ∃ v, seen[s]? = some v := ⟨_, List.getElem?_eq_getElem hs0⟩
        exact unmk_set hv (fun e => hk (by rw [hv, e]))
      have hw := hW s n hn
      have hl2 : (seen.set s (p + 1)).length = L.length := by rw [List.length_set, hlen]
      have hset : ∀ t, t < L.length → t < (seen.set s (p + 1)).length := fun t ht => by rw [hl2]; exact ht
      have hst2 : ∀ t ∈ st, t < (seen.set s (p + 1)).length := fun t ht => by rw [List.length_set]; exact hst t ht
      rw [hn]
      simp only
      split
      · have := reach_count L len p fr f (n.a :: n.b :: st) (seen.set s (p + 1)) next (fun t ht => by
          rcases List.mem_cons.1 ht with rfl | ht
          · exact hset _ hw.1
          · rcases List.mem_cons.1 ht with rfl | ht
            · exact hset _ hw.2.1
            · exact hst2 t ht) hW hl2
        omega
      · split
        · have := reach_count L len p fr f (if p = 0 then n.a :: st else st) (seen.set s (p + 1)) next (fun t ht => by
            split at ht
            · rcases List.mem_cons.1 ht with rfl | ht
              · exact hset _ hw.1
              · exact hst2 t ht
            · exact hst2 t ht) hW hl2
          omega
        · split
          · have := reach_count L len p fr f (if p = len then n.a :: st else st) (seen.set s (p + 1)) next (fun t ht => by
              split at ht
              · rcases List.mem_cons.1 ht with rfl | ht
                · exact hset _ hw.1
                · exact hst2 t ht
              · exact hst2 t ht) hW hl2
            omega
          · have := reach_count L len p fr f st (seen.set s (p + 1)) (next ++ [(s, fr)]) hst2 hW hl2
            rw [List.length_append, List.length_singleton] at this
            omega

end Go.Proofs.Ytmkddhkpeiajhaa
