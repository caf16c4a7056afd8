/-
  Rows of trees and of pieces of the call's own: append of one.
-/
import Derived.Test.YtmkddhkpeiajhaaPcRow
namespace Go.Proofs.Ytmkddhkpeiajhaa
open Go.RowKit

theorem re_info : (Try.prog.info? 30).map (fun i => (i.zero, i.size, i.bytes)) = some (some (.agg #[.int .i64 0, .int .u64 0, .int .u64 0, .int .u64 0, .int .u64 0, .slice none 0 0]), 6, 64) := by kernel_rfl
theorem piece_info : (Try.prog.info? 87).map (fun i => (i.zero, i.size, i.bytes)) = some (some (.agg #[.int .i64 0, .int .u64 0, .int .u64 0, .int .u64 0, .int .u64 0, .slice none 0 0, .int .i64 0, .int .i64 0, .bool false]), 9, 88) := by kernel_rfl

theorem own_row_blk {w : World} {base : Nat} {e : TypeId} {size n c : Nat} {A : Option Addr} {xs : List Value} (h : w.ownsRow base e size (.slice A n c) n xs) {k : Nat} (hk : ob A = some k) : k < w.heap.size ∧ base ≤ k ∧ ∃ cs, Blk w k e cs := by
  rcases h.2 with ⟨e1, _⟩ | ⟨g, cap, cur, hv, h1, h2, h3⟩
  · injection e1 with e1
    subst e1
    cases hk
  · injection hv with hv
    subst hv
    have hk' : g = k := by simpa [ob] using hk
    subst hk'
    exact ⟨Blk.lt (t := e) h2, h1, cur, h2⟩
theorem own_row_form {w : World} {base : Nat} {e : TypeId} {size n c : Nat} {A : Option Addr} {xs : List Value} (h : w.ownsRow base e size (.slice A n c) n xs) : n ≤ c := by
  rcases h.2 with ⟨e1, _⟩ | ⟨g, cap, cur, hv, h1, h2, h3, h4, _⟩
  · injection e1 with _ e1 e2; omega
  · injection hv with _ _ hv; omega

/-- trees that a call gathers in a row of its own -/
def OwnT (w : World) (lo : Nat → Prop) (base : Nat) (A : Option Addr) (n c : Nat) (ts : List Tree) : Prop :=
  ts.length = n ∧ ∃ xs : List ReX, ReCs w (fun k => lo k ∧ ob A ≠ some k) ts xs ∧ w.ownsRow base 30 6 (.slice A n c) n (xs.flatMap reL)
/-- pieces that a call gathers in a row of its own -/
def OwnP (w : World) (lo : Nat → Prop) (base : Nat) (A : Option Addr) (n c : Nat) (ps : List Pc) : Prop :=
  ps.length = n ∧ ∃ xs : List ReX, ReCs w lo (ps.map Pc.re) xs ∧ w.ownsRow base 87 9 (.slice A n c) n (pcsL ps xs)

section
variable {w w' : World} {lo : Nat → Prop} {base n c : Nat} {A : Option Addr} {ts : List Tree} {ps : List Pc}
theorem OwnT.nil : OwnT w lo base none 0 0 [] := ⟨rfl, [], by unfold ReCs; rfl, World.ownsRow_nil _ _ _ _⟩
theorem OwnP.nil : OwnP w lo base none 0 0 [] := ⟨rfl, [], by unfold ReCs; rfl, World.ownsRow_nil _ _ _ _⟩
theorem OwnT.cap (h : OwnT w lo base A n c ts) : n ≤ c := by obtain ⟨_, xs, _, h3⟩ := h; exact own_row_form h3
theorem OwnT.fr {p : Nat → Prop} (h : OwnT w lo base A n c ts) (hf : Fr w w' p) (hp : Spares w lo p) (hA : ∀ k, ob A = some k → ¬ p k) : OwnT w' lo base A n c ts := by
  obtain ⟨h1, xs, h2, h3⟩ := h
  exact ⟨h1, xs, ReCs.fr hf (fun k cs hk hB => hp k cs hk.1 hB) ts h2, ownsRow_fr h3 hf (fun k hk => hA k (by rw [← ob_own A n c]; exact hk))⟩
theorem OwnT.later (h : OwnT w lo base A n c ts) (hl : Later w w') : OwnT w' lo base A n c ts := h.fr (Fr.laterF hl) (spares_false _ _) (fun _ _ h => h)
theorem OwnP.fr {p : Nat → Prop} (h : OwnP w lo base A n c ps) (hf : Fr w w' p) (hp : Spares w lo p) (hA : ∀ k, ob A = some k → ¬ p k) : OwnP w' lo base A n c ps := by
  obtain ⟨h1, xs, h2, h3⟩ := h
  exact ⟨h1, xs, ReCs.fr hf hp _ h2, ownsRow_fr h3 hf (fun k hk => hA k (by rw [← ob_own A n c]; exact hk))⟩
theorem OwnP.later (h : OwnP w lo base A n c ps) (hl : Later w w') : OwnP w' lo base A n c ps := h.fr (Fr.laterF hl) (spares_false _ _) (fun _ _ h => h)
theorem OwnP.rd (h : OwnP w lo base A n c ps) : RdP w lo A n ps := by
  obtain ⟨h1, xs, h2, h3⟩ := h
  exact ⟨h1, xs, h2, Reads.of_own h3⟩
/-- a block of another type is not the row's -/
theorem OwnP.ne {g : Nat} {t : TypeId} {cs : Array Value} (h : OwnP w lo base A n c ps) (hB : Blk w g t cs) (ht : 87 ≠ t) : ∀ k, ob A = some k → ¬ k = g := by
  rintro k hk rfl
  obtain ⟨_, xs, _, h3⟩ := h
  obtain ⟨_, _, cs', hB'⟩ := own_row_blk h3 hk
  exact Blk.ne_ hB' hB ht rfl
theorem OwnP.lt (h : OwnP w lo base A n c ps) : ∀ k, ob A = some k → base ≤ k ∧ k < w.heap.size := fun k hk => by
  obtain ⟨_, xs, _, h3⟩ := h
  obtain ⟨a, b, _⟩ := own_row_blk h3 hk
  exact ⟨b, a⟩
theorem OwnT.lt (h : OwnT w lo base A n c ts) : ∀ k, ob A = some k → base ≤ k ∧ k < w.heap.size := fun k hk => by
  obtain ⟨_, xs, _, h3⟩ := h
  obtain ⟨a, b, _⟩ := own_row_blk h3 hk
  exact ⟨b, a⟩
/-- a tree of gathered kids -/
theorem OwnT.tree (h : OwnT w lo base A n c ts) (hlo : ∀ k, base ≤ k → lo k) (k : Int) (s : W4) : ReC w lo (.node k s ts) ⟨k, s.1, s.2.1, s.2.2.1, s.2.2.2, A, n, c⟩ := by
  have hc := h.cap
  obtain ⟨h1, xs, h2, h3⟩ := h
  unfold ReC
  refine ⟨rfl, ⟨rfl, rfl, rfl, rfl⟩, h1, hc, xs, ⟨Reads.of_own h3, fun hn ad e => ?_⟩, ReCs.weaken (fun k _ hk => hk.1) ts h2⟩
  obtain ⟨g, cap, hv, hg, hlt⟩ := h3.form hn
  injection hv with hv
  have e : A = some ad := e
  rw [e] at hv
  injection hv with hv
  subst hv
  obtain ⟨_, hb, cs, hB⟩ := own_row_blk h3 (k := g) (by rw [e]; rfl)
  exact ⟨hlo _ hb, cs, hB⟩
end

theorem wpList_append_t (w : World) {ops : Array Oper} {rest : List Oper} {o : Oper} {a : Act} {Q : Exit → Act → World → Prop} (hgd : o.guard = none) (s x : Operand)
    (ho : o.op = .call { callee := .builtin .append, args := #[s, x], argTypes := #[28, 28] })
    (lo : Nat → Prop) (base : Nat) (A : Option Addr) (n c : Nat) (ts : List Tree) (hs : a.eval s = .slice A n c) (hown : OwnT w lo base A n c ts) (t : Tree) (rx : ReX) (ht : ReC w (fun k => lo k ∧ ob A ≠ some k) t rx)
    (B : Nat) (A2 : Option Addr) (hx : a.eval x = .slice A2 1 1) (hr : Reads w B 6 A2 1 (reL rx)) (hbd : n < 1000000000) (hbase : base ≤ w.heap.size)
    (h : ∀ A' n' c' w', n' = n + 1 → OwnT w' lo base A' n' c' (ts ++ [t]) → w.grownBy w' (ob A) → wpList Try.prog ops Q rest (a.put o.dst (.slice A' n' c')) w') :
    wpList Try.prog ops Q (o :: rest) a w := by
  obtain ⟨i0, hi, hz0, hz1, hz2⟩ := info_parts re_info
  obtain ⟨h1, xs, h2, h3⟩ := hown
  refine wpList_append_any w hgd s x 28 ho base 30 i0 _ 6 64 Try.underlying28 hi hz0 hz1 hz2 rfl (by decide) (.slice A n c) n _ hs h3 B A2 1 1 (reL rx) hx hr (by intro u hu; simp [reL] at hu; rcases hu with rfl | rfl | rfl | rfl | rfl | rfl <;> rfl) (by unfold maxLen; omega) (by omega) hbase ?_
  intro v' w' g2 g3 g4
  have hv : ∃ A' c', v' = .slice A' (n + 1) c' := by
    rcases g2.2 with ⟨_, e⟩ | ⟨g, cap, cur, rfl, _⟩
    · omega
    · exact ⟨_, _, rfl⟩
  obtain ⟨A', c', rfl⟩ := hv
  rw [ob_own] at g3 g4
  refine h A' _ c' w' rfl ⟨by rw [List.length_append, h1]; rfl, xs ++ [rx], ?_, by rw [List.flatMap_append]; simpa using g2⟩ g3
  have hmid : ∀ k, k < w.heap.size → (lo k ∧ ob A ≠ some k) → (lo k ∧ ob A ≠ some k ∧ k < w.heap.size) := fun k hk hq => ⟨hq.1, hq.2, hk⟩
  have hsp : Spares w (fun k => lo k ∧ ob A ≠ some k ∧ k < w.heap.size) (fun k => ob A = some k) := fun k _ hk _ e => hk.2.1 e
  have hend : ∀ k, k < w'.heap.size → (lo k ∧ ob A ≠ some k ∧ k < w.heap.size) → (lo k ∧ ob A' ≠ some k) := fun k _ hq => ⟨hq.1, by
    rw [ob_own] at g4
    rcases g4 with g4 | g4
    · rw [g4]; exact hq.2.1
    · rw [g4]; intro e; injection e with e; omega⟩
  exact ReCs.snoc (ReCs.weaken hend _ (ReCs.fr (Fr.of_grown g3) hsp _ (ReCs.weaken hmid ts h2))) (ReC.weaken hend _ (ReC.fr (Fr.of_grown g3) hsp _ (ReC.weaken hmid t ht)))

theorem wpList_append_p (w : World) {ops : Array Oper} {rest : List Oper} {o : Oper} {a : Act} {Q : Exit → Act → World → Prop} (hgd : o.guard = none) (s x : Operand)
    (ho : o.op = .call { callee := .builtin .append, args := #[s, x], argTypes := #[99, 99] })
    (lo : Nat → Prop) (base : Nat) (A : Option Addr) (n c : Nat) (ps : List Pc) (hs : a.eval s = .slice A n c) (hown : OwnP w lo base A n c ps) (p : Pc) (rx : ReX) (ht : ReC w lo p.re rx)
    (B : Nat) (A2 : Option Addr) (hx : a.eval x = .slice A2 1 1) (hr : Reads w B 9 A2 1 (pcL p rx)) (hbd : n < 1000000000) (hbase : base ≤ w.heap.size)
    (h : ∀ A' n' c' w', n' = n + 1 → OwnP w' lo base A' n' c' (ps ++ [p]) → w.grownBy w' (ob A) → (∀ k cs, ob A = some k → ∀ t, Blk w k t cs → t = 87) → wpList Try.prog ops Q rest (a.put o.dst (.slice A' n' c')) w') :
    wpList Try.prog ops Q (o :: rest) a w := by
  obtain ⟨i0, hi, hz0, hz1, hz2⟩ := info_parts piece_info
  obtain ⟨h1, xs, h2, h3⟩ := hown
  have hbl : ∀ k, ob A = some k → ∃ cs, Blk w k 87 cs := fun k hk => (own_row_blk h3 hk).2.2
  refine wpList_append_any w hgd s x 99 ho base 87 i0 _ 9 88 Try.underlying99 hi hz0 hz1 hz2 rfl (by decide) (.slice A n c) n _ hs h3 B A2 1 1 (pcL p rx) hx hr (by intro u hu; simp [pcL, reL] at hu; rcases hu with rfl | rfl | rfl | rfl | rfl | rfl | rfl | rfl | rfl <;> rfl) (by unfold maxLen; omega) (by omega) hbase ?_
  intro v' w' g2 g3 g4
  have hv : ∃ A' c', v' = .slice A' (n + 1) c' := by
    rcases g2.2 with ⟨_, e⟩ | ⟨g, cap, cur, rfl, _⟩
    · omega
    · exact ⟨_, _, rfl⟩
  obtain ⟨A', c', rfl⟩ := hv
  rw [ob_own] at g3
  have hlen := h2.len
  rw [List.length_map] at hlen
  have hsp : Spares w lo (fun k => ob A = some k) := fun k cs hk hB e => by
    obtain ⟨cs', hB'⟩ := hbl k e
    exact Blk.ne_ hB hB' (by decide) rfl
  refine h A' _ c' w' rfl ⟨by rw [List.length_append, h1]; rfl, xs ++ [rx], ?_, by rw [pcsL_snoc ps xs p rx hlen]; exact g2⟩ g3 (fun k cs hk t hB => ?_)
  · rw [List.map_append]
    exact ReCs.snoc (ReCs.fr (Fr.of_grown g3) hsp _ h2) (ReC.fr (Fr.of_grown g3) hsp _ ht)
  · obtain ⟨cs', hB'⟩ := hbl k hk
    rcases Nat.decEq t 87 with hne | he
    · exact (Blk.ne_ hB hB' hne rfl).elim
    · exact he

theorem reads_t (w : World) (x : ReX) (t : TypeId) : Reads (w.alloc (.cells #[.int .i64 x.k, .int .u64 x.a, .int .u64 x.b, .int .u64 x.c, .int .u64 x.d, .slice x.A x.n x.cp] t)) (w.heap.size + 1) 6 (some ⟨w.heap.size, 0, none⟩) 1 (reL x) :=
  ⟨rfl, fun _ => ⟨_, rfl, Nat.lt_succ_self _, fun j u hu => by
    rw [Addr.add_lit, Nat.zero_add, cell_of_row _ _ _ _ _ _ (heap_alloc_new w _), ← Array.getElem?_toList]
    exact hu⟩⟩
theorem reads_p (w : World) (p : Pc) (x : ReX) (t : TypeId) : Reads (w.alloc (.cells #[.int .i64 x.k, .int .u64 x.a, .int .u64 x.b, .int .u64 x.c, .int .u64 x.d, .slice x.A x.n x.cp, .int .i64 (p.deep : Int), .int .i64 (p.leaves : Int), .bool p.big] t)) (w.heap.size + 1) 9 (some ⟨w.heap.size, 0, none⟩) 1 (pcL p x) :=
  ⟨rfl, fun _ => ⟨_, rfl, Nat.lt_succ_self _, fun j u hu => by
    rw [Addr.add_lit, Nat.zero_add, cell_of_row _ _ _ _ _ _ (heap_alloc_new w _), ← Array.getElem?_toList]
    exact hu⟩⟩

end Go.Proofs.Ytmkddhkpeiajhaa
