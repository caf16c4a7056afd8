import Derived.Test.YtmkddhkpeiajhaaHTree
import Derived.Test.YtmkddhkpeiajhaaTwin
import Derived.Test.YtmkddhkpeiajhaaSame
import Derived.Test.YtmkddhkpeiajhaaPick
import Derived.Deep.DeepCutAuto
import Derived.Deep.RegionHeldLaw
import Derived.StillTailTactics
import Derived.Test.YtmkddhkpeiajhaaRightLaw
/-
  The law's twisted: a raw tree as a tree that may be anything.
-/
namespace Go.Proofs.Ytmkddhkpeiajhaa
open Go.RowKit

def wrapN (n : Int) : Nat := (n % 18446744073709551616).toNat
def twSet (n : Int) : W4 := if n % 3 = 0 then (if n % 4 = 0 then (wrapN n, 0, 0, 0) else if n % 4 = 1 then (0, wrapN n, 0, 0) else if n % 4 = 2 then (0, 0, wrapN n, 0) else (0, 0, 0, wrapN n)) else z4
/-- the tree that a raw one is twisted to -/
def twistF : Nat → HTree → Tree
  | 0, t => .node (t.kind % 11 - 1) (twSet t.num) []
  | d + 1, t => .node (t.kind % 11 - 1) (twSet t.num) (t.kids.map (twistF d))

theorem tmod3 (n : Int) : (n.tmod 3 == 0) = decide (n % 3 = 0) := by
  rw [Bool.eq_iff_iff, beq_iff_eq, decide_eq_true_eq]
  have h := tmod_emod (n := n) (m := 3) (by omega)
  have b := tmod_bds (n := n) (m := 3) (by omega)
  split at h <;> omega

theorem Blk.set6 {w : World} {g : Nat} {t : TypeId} {y0 y1 y2 y3 y4 y5 x0 x1 x2 x3 x4 x5 : Value} (h : Blk w g t #[y0, y1, y2, y3, y4, y5]) : Blk (Proofs.Ytmkddhkpeiajhaa.set6 w g x0 x1 x2 x3 x4 x5) g t #[x0, x1, x2, x3, x4, x5] := by
  unfold Proofs.Ytmkddhkpeiajhaa.set6
  have h0 := (h.set_ 0 x0).set_ 1 x1
  simp only [List.setIfInBounds_toArray, List.set_cons_zero, List.set_cons_succ] at h0
  have h1 := (h0.set_ 2 x2).set_ 3 x3
  simp only [List.setIfInBounds_toArray, List.set_cons_zero, List.set_cons_succ] at h1
  have h2 := (h1.set_ 4 x4).set_ 5 x5
  simp only [List.setIfInBounds_toArray, List.set_cons_zero, List.set_cons_succ] at h2
  exact h2
/-- r, with so much of its set -/
def TwA (w : World) (k n : Int) (A : Option Addr) (m cp : Nat) (kd : Int) (s : W4) (wx : World) : Prop :=
  Blk wx w.heap.size 24 #[.int .i64 k, .int .i64 n, .slice A m cp] ∧ Blk wx (w.heap.size + 1) 30 #[.int .i64 0, .int .u64 0, .int .u64 0, .int .u64 0, .int .u64 0, .slice none 0 0] ∧
    Blk wx (w.heap.size + 2) 30 #[.int .i64 kd, .int .u64 (s.1 : Nat), .int .u64 (s.2.1 : Nat), .int .u64 (s.2.2.1 : Nat), .int .u64 (s.2.2.2 : Nat), .slice none 0 0] ∧ Later w wx
theorem TwA.mk (w : World) (k n : Int) (A : Option Addr) (m cp : Nat) (kd : Int) : TwA w k n A m cp kd z4 (((w.alloc (.cells #[.int .i64 k, .int .i64 n, .slice A m cp] 24)).alloc (.cells #[.int .i64 0, .int .u64 0, .int .u64 0, .int .u64 0, .int .u64 0, .slice none 0 0] 30)).alloc (.cells #[.int .i64 kd, .int .u64 0, .int .u64 0, .int .u64 0, .int .u64 0, .slice none 0 0] 30)) := by
  refine ⟨?_, ?_, ?_, (((Later.refl w).alloc _).alloc _).alloc _⟩
  · exact ((Blk.new w _ _).alloc _).alloc _
  · have h := ((Blk.new (w.alloc (.cells #[.int .i64 k, .int .i64 n, .slice A m cp] 24)) 30 #[.int .i64 0, .int .u64 0, .int .u64 0, .int .u64 0, .int .u64 0, .slice none 0 0]).alloc (.cells #[.int .i64 kd, .int .u64 0, .int .u64 0, .int .u64 0, .int .u64 0, .slice none 0 0] 30))
    simp only [World.size_alloc] at h
    exact h
  · have h := Blk.new ((w.alloc (.cells #[.int .i64 k, .int .i64 n, .slice A m cp] 24)).alloc (.cells #[.int .i64 0, .int .u64 0, .int .u64 0, .int .u64 0, .int .u64 0, .slice none 0 0] 30)) 30 #[.int .i64 kd, .int .u64 0, .int .u64 0, .int .u64 0, .int .u64 0, .slice none 0 0]
    simp only [World.size_alloc] at h
    exact h
/-- in the midst of twisted -/
def TwL (w : World) (k n : Int) (A : Option Addr) (m cp : Nat) (kd : Int) (s : W4) (ts : List Tree) (s6 : Value) (wx : World) : Prop :=
  ∃ (j : Nat) (Al : Option Addr) (cl : Nat), j ≤ m ∧ s6 = .int .i64 (j : Int) ∧ OwnT wx (fun g => w.heap.size + 3 ≤ g) (w.heap.size + 3) Al j cl (ts.take j) ∧
  Blk wx w.heap.size 24 #[.int .i64 k, .int .i64 n, .slice A m cp] ∧ Blk wx (w.heap.size + 1) 30 #[.int .i64 0, .int .u64 0, .int .u64 0, .int .u64 0, .int .u64 0, .slice none 0 0] ∧
    Blk wx (w.heap.size + 2) 30 #[.int .i64 kd, .int .u64 (s.1 : Nat), .int .u64 (s.2.1 : Nat), .int .u64 (s.2.2.1 : Nat), .int .u64 (s.2.2.2 : Nat), .slice Al j cl] ∧ Later w wx
theorem RetTw.mk {w w1 : World} {t : Tree} {k a b c d : Int} {A : Option Addr} {n cp g1 : Nat} (h : ReC w1 (fun g => w.heap.size + 3 ≤ g) t ⟨k, a, b, c, d, A, n, cp⟩) (hl : Later w w1) (hg : g1 = w.heap.size + 1) :
    RetT w (fun g => w.heap.size ≤ g) t (.returned (.agg #[.int .i64 k, .int .u64 a, .int .u64 b, .int .u64 c, .int .u64 d, .slice A n cp])) (set6 w1 g1 (.int .i64 k) (.int .u64 a) (.int .u64 b) (.int .u64 c) (.int .u64 d) (.slice A n cp)) := by
  subst hg
  refine ⟨k, a, b, c, d, A, n, cp, rfl, ?_, hl.set6 (Nat.le_succ _)⟩
  refine ReC.weaken (lo := fun g => w.heap.size + 3 ≤ g) (fun k _ h => by omega) _ ?_
  exact ReC.fr (Fr.set6 (w.heap.size + 1) _ _ _ _ _ _) (spares_not _ (by omega)) _ h
/-- what the round reads -/
theorem tw_cells {w : World} {k n : Int} {A : Option Addr} {m cp g2 b off : Nat} {y0 y1 y2 : Value} (h2 : Blk w g2 24 #[.int .i64 k, .int .i64 n, .slice A m cp])
    (e : w.cell? ⟨b, off, none⟩ = some y0 ∧ w.cell? ⟨b, off + 1, none⟩ = some y1 ∧ w.cell? ⟨b, off + 2, none⟩ = some y2) :
    w.cell? ⟨g2, 2, none⟩ = some (.slice A m cp) ∧ w.cell? ⟨b, off, none⟩ = some y0 ∧ w.cell? ⟨b, off + 1, none⟩ = some y1 ∧ w.cell? ⟨b, off + 2, none⟩ = some y2 :=
  ⟨h2.cell 2, e⟩

/-- append of one tree, in a region -/
theorem step_append_t (w : World) {ops : Array Oper} {o : Oper} {a : Act} {K : Act → World → Prop} {Q : Exit → Act → World → Prop} {E : Prop} (hgd : o.guard = none) (s x : Operand)
    (ho : o.op = .call { callee := .builtin .append, args := #[s, x], argTypes := #[28, 28] })
    (lo : Nat → Prop) (base : Nat) (A : Option Addr) (n c : Nat) (ts : List Tree) (hs : a.eval s = .slice A n c) (hown : OwnT w lo base A n c ts) (t : Tree) (rx : ReX) (ht : ReC w (fun k => lo k ∧ ob A ≠ some k) t rx)
    (B : Nat) (A2 : Option Addr) (hx : a.eval x = .slice A2 1 1) (hr : Reads w B 6 A2 1 (reL rx)) (hbd : n < 1000000000) (hbase : base ≤ w.heap.size)
    (h : ∀ A' n' c' w', n' = n + 1 → OwnT w' lo base A' n' c' (ts ++ [t]) → w.grownBy w' (ob A) → K (a.put o.dst (.slice A' n' c')) w') :
    if Region.wanted o (yielded ops a.tmps) = true then Oper.wp Try.prog o a w K Q else E := by
  obtain ⟨i0, hi, hz0, hz1, hz2⟩ := info_parts re_info
  obtain ⟨h1, xs, h2, h3⟩ := hown
  refine step_append_any w hgd s x 28 ho base 30 i0 _ 6 64 Try.underlying28 hi hz0 hz1 hz2 rfl (by decide) (.slice A n c) n _ hs h3 B A2 1 1 (reL rx) hx hr (by intro u hu; simp [reL] at hu; rcases hu with rfl | rfl | rfl | rfl | rfl | rfl <;> rfl) (by unfold maxLen; omega) (by omega) hbase ?_
  intro v' w' g2 g3 g4
  have hv : ∃ A' c', v' = .slice A' (n + 1) c' := by
    rcases g2.2 with ⟨_, e⟩ | ⟨g, cap, cur, rfl, _⟩
    · omega
    · exact ⟨_, _, rfl⟩
  obtain ⟨A', c', rfl⟩ := hv
  rw [ob_own] at g3 g4
  refine h A' _ c' w' rfl ⟨by rw [List.length_append, h1]; rfl, xs ++ [rx], ?_, by rw [List.flatMap_append]; simpa using g2⟩ g3
  have hmid : ∀ k, k < w.heap.size → (lo k ∧ ob A ≠ some k) → (lo k ∧ ob A ≠ some k ∧ k < w.heap.size) := fun k hk hq => ⟨hq.1, hq.2, hk⟩
  have hsp : Spares w (fun k => lo k ∧ ob A ≠ some k ∧ k < w.heap.size) (fun k => ob A = some k) := fun k _ hk _ e => hk.2.1 e
  have hend : ∀ k, k < w'.heap.size → (lo k ∧ ob A ≠ some k ∧ k < w.heap.size) → (lo k ∧ ob A' ≠ some k) := fun k _ hq => ⟨hq.1, by
    rw [ob_own] at g4
    rcases g4 with g4 | g4
    · rw [g4]; exact hq.2.1
    · rw [g4]; intro e; injection e with e; omega⟩
  exact ReCs.snoc (ReCs.weaken hend _ (ReCs.fr (Fr.of_grown g3) hsp _ (ReCs.weaken hmid ts h2))) (ReC.weaken hend _ (ReC.fr (Fr.of_grown g3) hsp _ (ReC.weaken hmid t ht)))

end Go.Proofs.Ytmkddhkpeiajhaa

/-
  tailracehand.Re: a raw tree as a tree that is right; and its closure.
-/
namespace Go.Proofs.Ytmkddhkpeiajhaa
open Go.RowKit

def abOf (n : Int) : Nat := if n % 2 = 0 then 97 else 98
def abcOf (n : Int) : Nat := if n % 3 = 0 then 97 else if n % 3 = 1 then 98 else 99
def reKid (f : HTree → Tree) (D : Nat) (t : HTree) (i : Nat) : Tree :=
  match t.kids[i]? with
  | some u => if 0 < D then f u else tOne (abOf (t.num + i))
  | none => tOne (abOf (t.num + i))
def hSet (n : Int) : Mem := fun b => decide (b = 97) || (decide (b = 98) && decide (n % 2 = 0)) || decide (n % 5 = 0)
/-- what the switch on a kind makes -/
def reSw (f : HTree → Tree) (D : Nat) (t : HTree) (k : Nat) : Tree :=
  if k = 5 ∨ k = 6 then .node 2 z4 [reKid f D t 0, reKid f D t 1]
  else if k = 7 ∨ k = 8 then .node 3 z4 [reKid f D t 0, reKid f D t 1]
  else if k = 9 then .node 4 z4 [reKid f D t 0]
  else if k = 10 then .node 5 z4 [reKid f D t 0]
  else if k = 11 then .node 6 z4 [reKid f D t 0]
  else if k = 0 ∨ k = 1 then tOne (abcOf t.num)
  else if k = 2 then .node 1 (w4 (hSet t.num)) []
  else if k = 3 then .node (if t.num % 3 = 0 then 0 else if t.num % 3 = 1 then 7 else 8) z4 []
  else tOne (abOf t.num)
def reStep (f : HTree → Tree) (D : Nat) (t : HTree) : Tree := reSw f D t (if D = 0 ∧ 4 < (t.kind % 12).toNat then 0 else (t.kind % 12).toNat)
/-- tailracehand.Re -/
def reF : Nat → HTree → Tree
  | 0, t => reStep (fun _ => tEmpty) 0 t
  | D + 1, t => reStep (reF D) (D + 1) t

theorem one_a (lo : Nat → Prop) (w : World) : Calls Try.prog 19 #[.int .u8 97] w (RetT w lo (tOne 97)) := refOne_any lo 97 (by decide) w
theorem one_b (lo : Nat → Prop) (w : World) : Calls Try.prog 19 #[.int .u8 98] w (RetT w lo (tOne 98)) := refOne_any lo 98 (by decide) w
theorem one_c (lo : Nat → Prop) (w : World) : Calls Try.prog 19 #[.int .u8 99] w (RetT w lo (tOne 99)) := refOne_any lo 99 (by decide) w
theorem RetT.store6 {w w1 : World} {b g1 : Nat} {t : Tree} {k a b' c d : Int} {A : Option Addr} {n cp : Nat} (h : ReC w1 (fun g => b ≤ g) t ⟨k, a, b', c, d, A, n, cp⟩) (hl : Later w w1) (hg : g1 < b) (hw : w.heap.size ≤ g1) :
    RetT w (fun g => w.heap.size ≤ g) t (.returned (.agg #[.int .i64 k, .int .u64 a, .int .u64 b', .int .u64 c, .int .u64 d, .slice A n cp])) (set6 w1 g1 (.int .i64 k) (.int .u64 a) (.int .u64 b') (.int .u64 c) (.int .u64 d) (.slice A n cp)) := by
  refine ⟨k, a, b', c, d, A, n, cp, rfl, ?_, hl.set6 hw⟩
  refine ReC.weaken (lo := fun g => b ≤ g) (fun k _ h => by omega) _ ?_
  exact ReC.fr (Fr.set6 g1 _ _ _ _ _ _) (spares_not _ (by omega)) _ h
theorem wrap_add2 (n : Int) (i : Nat) : IntKind.i64.wrap (n + (i : Int)) % 2 = (n + (i : Int)) % 2 := by rw [IntKind.wrap_i64]; omega
theorem ab_of {n N : Int} {q : Nat} (h : N % 2 = (q : Int)) (e : N % 2 = n % 2) : tOne (abOf n) = if q = 0 then tOne 97 else tOne 98 := by
  unfold abOf
  by_cases hq : q = 0
  · rw [if_pos hq, if_pos (by omega)]
  · rw [if_neg hq, if_neg (by omega)]
theorem abc_of {n : Int} {q : Nat} (h : n % 3 = (q : Int)) (_hq : q < 3) : tOne (abcOf n) = if q = 0 then tOne 97 else if q = 1 then tOne 98 else tOne 99 := by
  unfold abcOf
  by_cases h0 : q = 0
  · rw [if_pos h0, if_pos (by omega)]
  · rw [if_neg h0, if_neg (by omega)]
    by_cases h1 : q = 1
    · rw [if_pos h1, if_pos (by omega)]
    · rw [if_neg h1, if_neg (by omega)]
theorem kid_cells {w : World} {k n D : Int} {A : Option Addr} {m cp g2 g3 b off : Nat} {y0 y1 y2 : Value} (h2 : Blk w g2 24 #[.int .i64 k, .int .i64 n, .slice A m cp]) (h3 : Blk w g3 3 #[.int .i64 D])
    (e : w.cell? ⟨b, off, none⟩ = some y0 ∧ w.cell? ⟨b, off + 1, none⟩ = some y1 ∧ w.cell? ⟨b, off + 2, none⟩ = some y2) :
    w.cell? ⟨g2, 2, none⟩ = some (.slice A m cp) ∧ w.cell? ⟨g3, 0, none⟩ = some (.int .i64 D) ∧ w.cell? ⟨b, off, none⟩ = some y0 ∧ w.cell? ⟨b, off + 1, none⟩ = some y1 ∧ w.cell? ⟨b, off + 2, none⟩ = some y2 :=
  ⟨h2.cell 2, h3.cell 0, e⟩

/-- what Re makes of trees, at a depth -/
def ReAt (f : HTree → Tree) (M : Nat) (D : Int) : Prop :=
  ∀ (t : HTree) (k n : Int) (A : Option Addr) (m cp : Nat) (w : World), HdC w M t ⟨k, n, A, m, cp⟩ → Calls Try.prog 8 #[.agg #[.int .i64 k, .int .i64 n, .slice A m cp], .int .i64 D] w (RetT w (fun g => w.heap.size ≤ g) (f t))

set_option maxRecDepth 100000 in
set_option maxHeartbeats 16000000 in
theorem kid_any (f : HTree → Tree) (M : Nat) (D : Nat) (hf : 0 < D → ReAt f M ((D : Int) - 1)) (hD : D ≤ 100) (t : HTree) (k n : Int) (A : Option Addr) (m cp : Nat) (i : Nat) (g2 g3 : Nat) (w : World) (hC : HdC w M t ⟨k, n, A, m, cp⟩)
    (h2 : Blk w g2 24 #[.int .i64 k, .int .i64 n, .slice A m cp]) (h3 : Blk w g3 3 #[.int .i64 (D : Int)]) :
    Calls Try.prog 18 #[.int .i64 (i : Int), .pointer (some ⟨g2, 0, none⟩), .pointer (some ⟨g3, 0, none⟩)] w (RetT w (fun g => w.heap.size ≤ g) (reKid f D t i)) := by
  obtain ⟨k', n', ks⟩ := t
  have hC0 := hC
  unfold HdC at hC
  obtain ⟨hk, hn, -, -, hm, hmM, xs, hL, hKs⟩ := hC
  obtain rfl : k = k' := hk
  obtain rfl : n = n' := hn
  simp only at hm hmM hL
  obtain ⟨N, hN⟩ : ∃ N, IntKind.i64.wrap (n + (i : Int)) = N := ⟨_, rfl⟩
  obtain ⟨q, hq, hq1⟩ := pick_nat N 2 (by omega)
  obtain ⟨R, hR⟩ : ∃ R, R = reKid f D (.node k n ks) i := ⟨_, rfl⟩
  rw [← hR]
  have HR := Lib.hid hR
  have HNN := Lib.hid hN
  have HM := Lib.hid hm
  have HL := Lib.hid hL
  have HK := Lib.hid hKs
  have HF := Lib.hid hf
  clear hR hm hL hKs hf hC0
  by_cases hlt : i < m
  · have hlti : (i : Int) < (m : Int) := by omega
    obtain ⟨u, hu⟩ : ∃ u, ks[i]? = some u := ⟨_, List.getElem?_eq_getElem (by rw [HM.out]; exact hlt)⟩
    rcases Nat.eq_zero_or_pos D with rfl | hDp
    · have HRN : Hid (R = tOne (abOf (n + (i : Int)))) := by
        show _ = _
        rw [HR.out]; unfold reKid
        have e : (HTree.node k n ks).kids[i]? = some u := hu
        rw [e]; rfl
      have hz : ((0 : Nat) : Int) = 0 := rfl
      rw [hz] at h3
      clear hz hu HF
      have HR2 : Hid (R = if q = 0 then tOne 97 else tOne 98) := by show _ = _; rw [HRN.out]; exact ab_of hq.out (by rw [← HNN.out]; exact wrap_add2 n i)
      have hq2 : q = 0 ∨ q = 1 := by omega
      clear HR HRN
      go_enter Try.func18, Try.ntmps18
      go_upto_region 1 with fail
      have B2 := h2.alloc (.cells #[.int .i64 0, .int .u64 0, .int .u64 0, .int .u64 0, .int .u64 0, .slice none 0 0] 30)
      have B3 := h3.alloc (.cells #[.int .i64 0, .int .u64 0, .int .u64 0, .int .u64 0, .int .u64 0, .slice none 0 0] 30)
      have B4 := Blk.new w 30 #[.int .i64 0, .int .u64 0, .int .u64 0, .int .u64 0, .int .u64 0, .slice none 0 0]
      have c1 := B2.cell 1
      have c2 := B2.cell 2
      have c3 := B3.cell 0
      clear h2 h3 B2 B3
      rcases hq2 with rfl | rfl
      · have HRq : Hid (R = tOne 97) := by show _ = _; rw [HR2.out]; rfl
        go_wp2_with (go_at_call 9; (with_reducible refine (pick_at N 2 _ _ (by omega) (by omega) hq).mono ?_); rintro e w1 ⟨rfl, rfl⟩)
        refine (one_a (fun g => w.heap.size + 1 ≤ g) _).mono ?_
        rintro e w1 ⟨k1, a1, b1, c1, d1, A1, n1, cp1, rfl, hC1, hl1⟩
        have B4 := blkL hl1 (by repeat (first | (with_reducible exact B4) | (with_reducible apply Blk.drew) | (with_reducible apply Blk.alloc)))
        obtain ⟨u0, u1, u2, u3, u4, u5, f0, f1, f2, f3, f4, f5⟩ := cells6 B4
        have hl2 : Later w w1 := Later.trans (by repeat (first | (with_reducible exact (Later.refl w)) | (with_reducible apply Later.drew) | (with_reducible apply Later.alloc))) hl1
        clear hl1 B4
        go_wp2_with fail
        refine bodyPost_ret (v := .agg #[.int .i64 k1, .int .u64 a1, .int .u64 b1, .int .u64 c1, .int .u64 d1, .slice A1 n1 cp1]) (by simp [results, Try.results18, go_sem, u0, u1, u2, u3, u4, u5]) rfl ?_
        rw [HRq.out]
        exact RetT.store6 hC1 hl2 (Nat.lt_succ_self _) (Nat.le_refl _)
      · have HRq : Hid (R = tOne 98) := by show _ = _; rw [HR2.out]; rfl
        go_wp2_with (go_at_call 9; (with_reducible refine (pick_at N 2 _ _ (by omega) (by omega) hq).mono ?_); rintro e w1 ⟨rfl, rfl⟩)
        refine (one_b (fun g => w.heap.size + 1 ≤ g) _).mono ?_
        rintro e w1 ⟨k1, a1, b1, c1, d1, A1, n1, cp1, rfl, hC1, hl1⟩
        have B4 := blkL hl1 (by repeat (first | (with_reducible exact B4) | (with_reducible apply Blk.drew) | (with_reducible apply Blk.alloc)))
        obtain ⟨u0, u1, u2, u3, u4, u5, f0, f1, f2, f3, f4, f5⟩ := cells6 B4
        have hl2 : Later w w1 := Later.trans (by repeat (first | (with_reducible exact (Later.refl w)) | (with_reducible apply Later.drew) | (with_reducible apply Later.alloc))) hl1
        clear hl1 B4
        go_wp2_with fail
        refine bodyPost_ret (v := .agg #[.int .i64 k1, .int .u64 a1, .int .u64 b1, .int .u64 c1, .int .u64 d1, .slice A1 n1 cp1]) (by simp [results, Try.results18, go_sem, u0, u1, u2, u3, u4, u5]) rfl ?_
        rw [HRq.out]
        exact RetT.store6 hC1 hl2 (Nat.lt_succ_self _) (Nat.le_refl _)

    · have HRN : Hid (R = f u) := by
        show _ = _
        rw [HR.out]; unfold reKid
        have e : (HTree.node k n ks).kids[i]? = some u := hu
        rw [e]; show (if 0 < D then _ else _) = _; rw [if_pos hDp]
      have hDi : (0 : Int) < (D : Int) := by omega
      obtain ⟨x, hx, hCx⟩ := HK.out.get i u hu
      obtain ⟨jk, jn, jA, jm, jcp⟩ := x
      obtain ⟨b0, off, hA, hbs, e0, e1, e2⟩ := reads_three HL.out hlt hx
      have hkid : ∀ wx, Later w wx → wx.cell? ⟨b0, off + i * 3, none⟩ = some (.int .i64 jk) ∧ wx.cell? ⟨b0, off + i * 3 + 1, none⟩ = some (.int .i64 jn) ∧ wx.cell? ⟨b0, off + i * 3 + 2, none⟩ = some (.slice jA jm jcp) :=
        fun wx hwx => ⟨(hwx.cell (p := ⟨b0, _, none⟩) hbs).trans e0, (hwx.cell (p := ⟨b0, _, none⟩) hbs).trans e1, (hwx.cell (p := ⟨b0, _, none⟩) hbs).trans e2⟩
      have hih : ∀ wx, Later w wx → w.heap.size + 1 ≤ wx.heap.size → Calls Try.prog 8 #[.agg #[.int .i64 jk, .int .i64 jn, .slice jA jm jcp], .int .i64 ((D : Int) - 1)] wx (RetT wx (fun g => w.heap.size + 1 ≤ g) (f u)) :=
        fun wx hwx hsz => (HF.out hDp u jk jn jA jm jcp wx (HdC.later hwx u hCx)).mono fun e w' he => by
          obtain ⟨k1, a1, b1, c1, d1, A1, n1, cp1, e1, e2, e3⟩ := he
          exact ⟨k1, a1, b1, c1, d1, A1, n1, cp1, e1, ReC.weaken (fun g _ hg => by omega) _ e2, e3⟩
      have HKID := Lib.hid hkid
      have HIH := Lib.hid hih
      have hDw : IntKind.i64.wrap ((D : Int) - 1) = (D : Int) - 1 := by rw [IntKind.wrap_i64]; omega
      clear hih hkid hCx hu hx e0 e1 e2 HF hN HNN hq HR
      subst hA
      go_enter Try.func18, Try.ntmps18
      go_upto_region 1 with fail
      have B2 := h2.alloc (.cells #[.int .i64 0, .int .u64 0, .int .u64 0, .int .u64 0, .int .u64 0, .slice none 0 0] 30)
      have B3 := h3.alloc (.cells #[.int .i64 0, .int .u64 0, .int .u64 0, .int .u64 0, .int .u64 0, .slice none 0 0] 30)
      have B4 := Blk.new w 30 #[.int .i64 0, .int .u64 0, .int .u64 0, .int .u64 0, .int .u64 0, .slice none 0 0]
      have c1 := B2.cell 1
      have c2 := B2.cell 2
      have c3 := B3.cell 0
      have hn2 : g2 < w.heap.size := h2.lt
      have hn3 : g3 < w.heap.size := h3.lt
      have hne2 : g2 ≠ w.heap.size := by omega
      have hne3 : g3 ≠ w.heap.size := by omega
      have lw : Later w (w.alloc (.cells #[.int .i64 0, .int .u64 0, .int .u64 0, .int .u64 0, .int .u64 0, .slice none 0 0] 30)) := (Later.refl w).alloc _
      have lz : w.heap.size + 1 ≤ (w.alloc (.cells #[.int .i64 0, .int .u64 0, .int .u64 0, .int .u64 0, .int .u64 0, .slice none 0 0] 30)).heap.size := by simp
      obtain ⟨W1, hW1⟩ : ∃ W1, W1 = w.alloc (.cells #[.int .i64 0, .int .u64 0, .int .u64 0, .int .u64 0, .int .u64 0, .slice none 0 0] 30) := ⟨_, rfl⟩
      rw [← hW1] at B2 B3 B4 lw lz c1 c2 c3 ⊢
      clear hW1 h2 h3
      have lt : Later W1 W1 := Later.refl _
      have hge : w.heap.size ≤ w.heap.size := Nat.le_refl _
      go_wp2_with fail
      go_region_held_law (fun w' => w'.cell? ⟨g2, 2, none⟩ = some (.slice (some ⟨b0, off, none⟩) m cp) ∧ w'.cell? ⟨g3, 0, none⟩ = some (.int .i64 (D : Int)) ∧ w'.cell? ⟨b0, off + i * 3, none⟩ = some (.int .i64 jk) ∧ w'.cell? ⟨b0, off + i * 3 + 1, none⟩ = some (.int .i64 jn) ∧ w'.cell? ⟨b0, off + i * 3 + 2, none⟩ = some (.slice jA jm jcp))
        (exact kid_cells (by repeat (first | (with_reducible exact B2) | (with_reducible apply Blk.drew) | (with_reducible apply Blk.alloc) | (with_reducible refine Blk.far ?_ hne2 _))) (by repeat (first | (with_reducible exact B3) | (with_reducible apply Blk.drew) | (with_reducible apply Blk.alloc) | (with_reducible refine Blk.far ?_ hne3 _))) (HKID.out _ (by repeat (first | (with_reducible exact lw) | (with_reducible apply Later.drew) | (with_reducible apply Later.alloc) | (with_reducible refine Later.setCell ?_ hge _)))))
        (((go_at_call 8; (with_reducible refine (HIH.out _ (by repeat (first | (with_reducible exact lw) | (with_reducible apply Later.drew) | (with_reducible apply Later.alloc))) (Nat.le_trans lz (Later.size (by repeat (first | (with_reducible exact lt) | (with_reducible apply Later.drew) | (with_reducible apply Later.alloc)))))).mono ?_)); rintro e w1 ⟨k1, a1, b1, c1, d1, A1, n1, cp1, rfl, hC1, hl1⟩;
          have B4 := blkL hl1 (by repeat (first | (with_reducible exact B4) | (with_reducible apply Blk.drew) | (with_reducible apply Blk.alloc)));
          have B2 := blkL hl1 (by repeat (first | (with_reducible exact B2) | (with_reducible apply Blk.drew) | (with_reducible apply Blk.alloc)));
          have B3 := blkL hl1 (by repeat (first | (with_reducible exact B3) | (with_reducible apply Blk.drew) | (with_reducible apply Blk.alloc)));
          have f0 := B4.frozen 0;
          have f1 := B4.frozen 1;
          have f2 := B4.frozen 2;
          have f3 := B4.frozen 3;
          have f4 := B4.frozen 4;
          have f5 := B4.frozen 5;
          have u0 := B4.cell 0;
          have u1 := B4.cell 1;
          have u2 := B4.cell 2;
          have u3 := B4.cell 3;
          have u4 := B4.cell 4;
          have u5 := B4.cell 5;
          have lw : Later w w1 := Later.trans (by repeat (first | (with_reducible exact lw) | (with_reducible apply Later.drew) | (with_reducible apply Later.alloc))) hl1))
      all_goals
        go_wp2_with fail
        refine bodyPost_ret (v := .agg #[.int .i64 k1, .int .u64 a1, .int .u64 b1, .int .u64 c1, .int .u64 d1, .slice A1 n1 cp1]) (by simp [results, Try.results18, go_sem, u0, u1, u2, u3, u4, u5]) rfl ?_
        rw [HRN.out]
        exact RetT.store6 hC1 lw (Nat.lt_succ_self _) (Nat.le_refl _)
  · have HRN : Hid (R = tOne (abOf (n + (i : Int)))) := by
      show _ = _
      rw [HR.out]; unfold reKid
      have e : (HTree.node k n ks).kids[i]? = none := List.getElem?_eq_none (by show ks.length ≤ i; rw [HM.out]; omega)
      rw [e]
      rfl
    have hlti : decide (i < m) = false := by simp; omega
    clear HF hlt
    have HR2 : Hid (R = if q = 0 then tOne 97 else tOne 98) := by show _ = _; rw [HRN.out]; exact ab_of hq.out (by rw [← HNN.out]; exact wrap_add2 n i)
    have hq2 : q = 0 ∨ q = 1 := by omega
    clear HR HRN
    go_enter Try.func18, Try.ntmps18
    go_upto_region 1 with fail
    have B2 := h2.alloc (.cells #[.int .i64 0, .int .u64 0, .int .u64 0, .int .u64 0, .int .u64 0, .slice none 0 0] 30)
    have B3 := h3.alloc (.cells #[.int .i64 0, .int .u64 0, .int .u64 0, .int .u64 0, .int .u64 0, .slice none 0 0] 30)
    have B4 := Blk.new w 30 #[.int .i64 0, .int .u64 0, .int .u64 0, .int .u64 0, .int .u64 0, .slice none 0 0]
    have c1 := B2.cell 1
    have c2 := B2.cell 2
    have c3 := B3.cell 0
    clear h2 h3 B2 B3
    rcases hq2 with rfl | rfl
    · have HRq : Hid (R = tOne 97) := by show _ = _; rw [HR2.out]; rfl
      go_wp2_with (go_at_call 9; (with_reducible refine (pick_at N 2 _ _ (by omega) (by omega) hq).mono ?_); rintro e w1 ⟨rfl, rfl⟩)
      refine (one_a (fun g => w.heap.size + 1 ≤ g) _).mono ?_
      rintro e w1 ⟨k1, a1, b1, c1, d1, A1, n1, cp1, rfl, hC1, hl1⟩
      have B4 := blkL hl1 (by repeat (first | (with_reducible exact B4) | (with_reducible apply Blk.drew) | (with_reducible apply Blk.alloc)))
      obtain ⟨u0, u1, u2, u3, u4, u5, f0, f1, f2, f3, f4, f5⟩ := cells6 B4
      have hl2 : Later w w1 := Later.trans (by repeat (first | (with_reducible exact (Later.refl w)) | (with_reducible apply Later.drew) | (with_reducible apply Later.alloc))) hl1
      clear hl1 B4
      go_wp2_with fail
      refine bodyPost_ret (v := .agg #[.int .i64 k1, .int .u64 a1, .int .u64 b1, .int .u64 c1, .int .u64 d1, .slice A1 n1 cp1]) (by simp [results, Try.results18, go_sem, u0, u1, u2, u3, u4, u5]) rfl ?_
      rw [HRq.out]
      exact RetT.store6 hC1 hl2 (Nat.lt_succ_self _) (Nat.le_refl _)
    · have HRq : Hid (R = tOne 98) := by show _ = _; rw [HR2.out]; rfl
      go_wp2_with (go_at_call 9; (with_reducible refine (pick_at N 2 _ _ (by omega) (by omega) hq).mono ?_); rintro e w1 ⟨rfl, rfl⟩)
      refine (one_b (fun g => w.heap.size + 1 ≤ g) _).mono ?_
      rintro e w1 ⟨k1, a1, b1, c1, d1, A1, n1, cp1, rfl, hC1, hl1⟩
      have B4 := blkL hl1 (by repeat (first | (with_reducible exact B4) | (with_reducible apply Blk.drew) | (with_reducible apply Blk.alloc)))
      obtain ⟨u0, u1, u2, u3, u4, u5, f0, f1, f2, f3, f4, f5⟩ := cells6 B4
      have hl2 : Later w w1 := Later.trans (by repeat (first | (with_reducible exact (Later.refl w)) | (with_reducible apply Later.drew) | (with_reducible apply Later.alloc))) hl1
      clear hl1 B4
      go_wp2_with fail
      refine bodyPost_ret (v := .agg #[.int .i64 k1, .int .u64 a1, .int .u64 b1, .int .u64 c1, .int .u64 d1, .slice A1 n1 cp1]) (by simp [results, Try.results18, go_sem, u0, u1, u2, u3, u4, u5]) rfl ?_
      rw [HRq.out]
      exact RetT.store6 hC1 hl2 (Nat.lt_succ_self _) (Nat.le_refl _)

end Go.Proofs.Ytmkddhkpeiajhaa

/-
  tailracehand.Re: a raw tree as a tree that is right.
-/
namespace Go.Proofs.Ytmkddhkpeiajhaa
open Go.RowKit

/-- the switch's start -/
def HrA (w : World) (k n : Int) (A : Option Addr) (m cp : Nat) (D : Int) (q : Nat) (s5 : Value) (wx : World) : Prop :=
  s5 = .int .i64 (q : Int) ∧ Blk wx w.heap.size 24 #[.int .i64 k, .int .i64 n, .slice A m cp] ∧ Blk wx (w.heap.size + 1) 3 #[.int .i64 D] ∧ Blk wx (w.heap.size + 2) 30 #[.int .i64 0, .int .u64 0, .int .u64 0, .int .u64 0, .int .u64 0, .slice none 0 0] ∧ Later w wx
theorem HrA.mk (w : World) (k n : Int) (A : Option Addr) (m cp : Nat) (D : Int) (q : Nat) : HrA w k n A m cp D q (.int .i64 (q : Int)) (((w.alloc (.cells #[.int .i64 k, .int .i64 n, .slice A m cp] 24)).alloc (.cells #[.int .i64 D] 3)).alloc (.cells #[.int .i64 0, .int .u64 0, .int .u64 0, .int .u64 0, .int .u64 0, .slice none 0 0] 30)) := by
  refine ⟨rfl, ?_, ?_, ?_, (((Later.refl w).alloc _).alloc _).alloc _⟩
  · exact ((Blk.new w _ _).alloc _).alloc _
  · have h := (Blk.new (w.alloc (.cells #[.int .i64 k, .int .i64 n, .slice A m cp] 24)) 3 #[.int .i64 D]).alloc (.cells #[.int .i64 0, .int .u64 0, .int .u64 0, .int .u64 0, .int .u64 0, .slice none 0 0] 30)
    simp only [World.size_alloc] at h
    exact h
  · have h := Blk.new ((w.alloc (.cells #[.int .i64 k, .int .i64 n, .slice A m cp] 24)).alloc (.cells #[.int .i64 D] 3)) 30 #[.int .i64 0, .int .u64 0, .int .u64 0, .int .u64 0, .int .u64 0, .slice none 0 0]
    simp only [World.size_alloc] at h
    exact h
theorem hset_step (n : Int) (b : Nat) : (decide (b = 97) || (decide (b = 98) && decide (n % 2 = 0)) || decide (n % 5 = 0)) = hSet n b := rfl
theorem tmod2 (n : Int) : (n.tmod 2 == 0) = decide (n % 2 = 0) := by
  rw [Bool.eq_iff_iff, beq_iff_eq, decide_eq_true_eq]
  have h := tmod_emod (n := n) (m := 2) (by omega)
  have b := tmod_bds (n := n) (m := 2) (by omega)
  split at h <;> omega
theorem tmod5 (n : Int) : (n.tmod 5 == 0) = decide (n % 5 = 0) := by
  rw [Bool.eq_iff_iff, beq_iff_eq, decide_eq_true_eq]
  have h := tmod_emod (n := n) (m := 5) (by omega)
  have b := tmod_bds (n := n) (m := 5) (by omega)
  split at h <;> omega

set_option maxRecDepth 100000 in
set_option maxHeartbeats 16000000 in
theorem reStep_any (f : HTree → Tree) (M : Nat) (D : Nat) (hf : 0 < D → ReAt f M ((D : Int) - 1)) (hD : D ≤ 100) (t : HTree) (k n : Int) (A : Option Addr) (m cp : Nat) (w : World) (hC : HdC w M t ⟨k, n, A, m, cp⟩) :
    Calls Try.prog 8 #[.agg #[.int .i64 k, .int .i64 n, .slice A m cp], .int .i64 (D : Int)] w (RetT w (fun g => w.heap.size ≤ g) (reStep f D t)) := by
  have hkd : t.kind = k := by cases t; unfold HdC at hC; exact hC.1.symm
  have hnd : t.num = n := by cases t; unfold HdC at hC; exact hC.2.1.symm
  have hkid : ∀ (i : Nat) (g2 g3 : Nat) (wx : World), Blk wx g2 24 #[.int .i64 k, .int .i64 n, .slice A m cp] → Blk wx g3 3 #[.int .i64 (D : Int)] → Later w wx → g2 = w.heap.size → g3 = w.heap.size + 1 → w.heap.size + 3 ≤ wx.heap.size →
      Calls Try.prog 18 #[.int .i64 (i : Int), .pointer (some ⟨g2, 0, none⟩), .pointer (some ⟨g3, 0, none⟩)] wx (RetT wx (fun g => w.heap.size + 3 ≤ g) (reKid f D t i)) := fun i g2 g3 wx h2 h3 hl _ _ hsz =>
    (kid_any f M D hf hD t k n A m cp i g2 g3 wx (HdC.later hl t hC) h2 h3).mono fun e w' he => by
      obtain ⟨k1, a1, b1, c1, d1, A1, n1, cp1, e1, e2, e3⟩ := he
      exact ⟨k1, a1, b1, c1, d1, A1, n1, cp1, e1, ReC.weaken (fun g _ hg => by omega) _ e2, e3⟩
  obtain ⟨p, hp, hp1⟩ := pick_nat k 12 (by omega)
  obtain ⟨q, hq⟩ : ∃ q, q = if D = 0 ∧ 4 < p then 0 else p := ⟨_, rfl⟩
  obtain ⟨R, hR⟩ : ∃ R, R = reStep f D t := ⟨_, rfl⟩
  have hR1 : R = reSw f D t q := by
    rw [hR, hq]; unfold reStep; rw [hkd, hp.out]; rfl
  rw [← hR]
  have HKid := Lib.hid hkid
  have HR0 := Lib.hid hR1
  have HND := Lib.hid hnd
  have HQ := Lib.hid hq
  have hq1 : q < 12 := by rw [hq]; split <;> omega
  clear hR hR1 hkid hf hkd hnd hC hq
  have hD1 : (0 : Int) ≤ (D : Int) := by omega
  go_enter Try.func8, Try.ntmps8
  go_upto_region 3 with (go_at_call 9; (with_reducible refine (pick_at k 12 p _ (by omega) (by omega) hp).mono ?_); rintro e w1 ⟨rfl, rfl⟩)
  obtain ⟨W1, hW1⟩ : ∃ W1, W1 = (((w.alloc (.cells #[.int .i64 k, .int .i64 n, .slice A m cp] 24)).alloc (.cells #[.int .i64 (D : Int)] 3)).alloc (.cells #[.int .i64 0, .int .u64 0, .int .u64 0, .int .u64 0, .int .u64 0, .slice none 0 0] 30)) := ⟨_, rfl⟩
  have hA : HrA w k n A m cp D p (.int .i64 (p : Int)) W1 := by rw [hW1]; exact HrA.mk w k n A m cp D p
  rw [← hW1]
  clear hW1
  obtain ⟨-, B2, B3, B4, lw⟩ := hA
  have c3 := B3.cell 0
  obtain ⟨v, hv⟩ : ∃ v, v = decide (D = 0 ∧ 4 < p) := ⟨_, rfl⟩
  have HVV := Lib.hid hv
  clear hv
  go_cut [18] (fun s18 wx => s18 = .bool v ∧ HrA w k n A m cp D p (.int .i64 (p : Int)) wx)
  case first =>
    rcases Nat.eq_zero_or_pos D with rfl | hDp
    · have hz : ((0 : Nat) : Int) = 0 := rfl
      rw [hz] at c3 B3
      rcases Nat.lt_or_ge 4 p with h4 | h4
      · have h4i : (4 : Int) < (p : Int) := by omega
        have HQ2 : Hid (v = true) := by show _ = _; rw [HVV.out]; simp; omega
        clear hz HQ
        go_wp2_with fail
        go_meet
        rw [HQ2.out]
        exact ⟨rfl, rfl, B2, B3, B4, lw⟩
      · have h4i : ¬ (4 : Int) < (p : Int) := by omega
        have h4d : decide ((4 : Int) < (p : Int)) = false := by simp; omega
        have HQ2 : Hid (v = false) := by show _ = _; rw [HVV.out]; simp; omega
        clear hz HQ
        go_wp2_with fail
        go_meet
        rw [HQ2.out]
        exact ⟨rfl, rfl, B2, B3, B4, lw⟩
    · have hDi : ¬ (D : Int) ≤ 0 := by omega
      have hDd : decide ((D : Int) ≤ 0) = false := by simp; omega
      have HQ2 : Hid (v = false) := by show _ = _; rw [HVV.out]; simp; omega
      clear HQ
      go_wp2_with fail
      go_meet
      rw [HQ2.out]
      exact ⟨rfl, rfl, B2, B3, B4, lw⟩
  case rest =>
  clear c3 B2 B3 B4 lw
  obtain ⟨rfl, -, B2, B3, B4, lw⟩ := hcut
  go_upto_if 18 with (fail)
  go_cut [5] (fun s5 wx => HrA w k n A m cp D q s5 wx)
  case first =>
    cases v with
    | true =>
      have HQ2 : Hid (q = 0) := by show _ = _; rw [HQ.out, if_pos (by have := HVV.out; simpa using this.symm)]
      clear HQ
      go_wp2_with fail
      go_meet
      rw [HQ2.out]
      exact ⟨rfl, B2, B3, B4, lw⟩
    | false =>
      have HQ2 : Hid (q = p) := by show _ = _; rw [HQ.out, if_neg (by have := HVV.out; simpa using this.symm)]
      clear HQ
      go_wp2_with fail
      go_meet
      rw [HQ2.out]
      exact ⟨rfl, B2, B3, B4, lw⟩
  case rest =>
    clear B2 B3 B4 lw HQ HVV
    obtain ⟨h5, B2, B3, B4, lw⟩ := hcut
    have hsz : w.heap.size + 3 ≤ wc.heap.size := by have := B4.lt; omega
    have HK : Hid (∀ (i : Nat) (wx : World), Blk wx w.heap.size 24 #[.int .i64 k, .int .i64 n, .slice A m cp] → Blk wx (w.heap.size + 1) 3 #[.int .i64 (D : Int)] → Blk wx (w.heap.size + 2) 30 #[.int .i64 0, .int .u64 0, .int .u64 0, .int .u64 0, .int .u64 0, .slice none 0 0] → Later w wx →
      Calls Try.prog 18 #[.int .i64 (i : Int), .pointer (some ⟨w.heap.size, 0, none⟩), .pointer (some ⟨w.heap.size + 1, 0, none⟩)] wx (RetT wx (fun g => w.heap.size + 3 ≤ g) (reKid f D t i))) := fun i wx h2 h3 h4 hl => HKid.out i _ _ wx h2 h3 hl rfl rfl (by have := h4.lt; omega)
    have hR2 : R = reSw f D t q := HR0.out
    have HR := Lib.hid hR2
    clear hR2 HKid HR0
    have hq3 : q = 0 ∨ q = 1 ∨ q = 2 ∨ q = 3 ∨ q = 4 ∨ q = 5 ∨ q = 6 ∨ q = 7 ∨ q = 8 ∨ q = 9 ∨ q = 10 ∨ q = 11 := by omega
    rcases hq3 with rfl | rfl | rfl | rfl | rfl | rfl | rfl | rfl | rfl | rfl | rfl | rfl
    all_goals subst h5
    · have HR2 : Hid (R = tOne (abcOf n)) := by show _ = _; rw [HR.out]; unfold reSw; rw [HND.out]; rfl
      obtain ⟨x, hx, hx1⟩ := pick_nat n 3 (by omega)
      have hx2 : x = 0 ∨ x = 1 ∨ x = 2 := by omega
      have HR1 : Hid (R = if x = 0 then tOne 97 else if x = 1 then tOne 98 else tOne 99) := by show _ = _; rw [HR2.out]; exact abc_of hx.out (by omega)
      have c1 := B2.cell 1
      rcases hx2 with rfl | rfl | rfl
      · have HR3 : Hid (R = tOne 97) := by show _ = _; rw [HR1.out]; rfl
        clear HR HR1 HR2
        go_wp2_with (go_at_call 9; (with_reducible refine (pick_at n 3 _ _ (by omega) (by omega) hx).mono ?_); rintro e w1 ⟨rfl, rfl⟩)
        refine (one_a (fun g => w.heap.size + 3 ≤ g) _).mono ?_
        rintro e w1 ⟨k1, a1, b1, c1, d1, A1, n1, cp1, rfl, hC1, hl1⟩
        have B4 := blkL hl1 B4
        have lw := lw.trans hl1
        obtain ⟨u0, u1, u2, u3, u4, u5, f0, f1, f2, f3, f4, f5⟩ := cells6 B4
        clear hl1 B2 B3
        go_wp2_with fail
        refine bodyPost_ret (v := .agg #[.int .i64 k1, .int .u64 a1, .int .u64 b1, .int .u64 c1, .int .u64 d1, .slice A1 n1 cp1]) (by simp [results, Try.results8, go_sem, u0, u1, u2, u3, u4, u5]) rfl ?_
        rw [HR3.out]
        exact RetT.store6 hC1 lw (Nat.lt_succ_self _) (by omega)
      · have HR3 : Hid (R = tOne 98) := by show _ = _; rw [HR1.out]; rfl
        clear HR HR1 HR2
        go_wp2_with (go_at_call 9; (with_reducible refine (pick_at n 3 _ _ (by omega) (by omega) hx).mono ?_); rintro e w1 ⟨rfl, rfl⟩)
        refine (one_b (fun g => w.heap.size + 3 ≤ g) _).mono ?_
        rintro e w1 ⟨k1, a1, b1, c1, d1, A1, n1, cp1, rfl, hC1, hl1⟩
        have B4 := blkL hl1 B4
        have lw := lw.trans hl1
        obtain ⟨u0, u1, u2, u3, u4, u5, f0, f1, f2, f3, f4, f5⟩ := cells6 B4
        clear hl1 B2 B3
        go_wp2_with fail
        refine bodyPost_ret (v := .agg #[.int .i64 k1, .int .u64 a1, .int .u64 b1, .int .u64 c1, .int .u64 d1, .slice A1 n1 cp1]) (by simp [results, Try.results8, go_sem, u0, u1, u2, u3, u4, u5]) rfl ?_
        rw [HR3.out]
        exact RetT.store6 hC1 lw (Nat.lt_succ_self _) (by omega)
      · have HR3 : Hid (R = tOne 99) := by show _ = _; rw [HR1.out]; rfl
        clear HR HR1 HR2
        go_wp2_with (go_at_call 9; (with_reducible refine (pick_at n 3 _ _ (by omega) (by omega) hx).mono ?_); rintro e w1 ⟨rfl, rfl⟩)
        refine (one_c (fun g => w.heap.size + 3 ≤ g) _).mono ?_
        rintro e w1 ⟨k1, a1, b1, c1, d1, A1, n1, cp1, rfl, hC1, hl1⟩
        have B4 := blkL hl1 B4
        have lw := lw.trans hl1
        obtain ⟨u0, u1, u2, u3, u4, u5, f0, f1, f2, f3, f4, f5⟩ := cells6 B4
        clear hl1 B2 B3
        go_wp2_with fail
        refine bodyPost_ret (v := .agg #[.int .i64 k1, .int .u64 a1, .int .u64 b1, .int .u64 c1, .int .u64 d1, .slice A1 n1 cp1]) (by simp [results, Try.results8, go_sem, u0, u1, u2, u3, u4, u5]) rfl ?_
        rw [HR3.out]
        exact RetT.store6 hC1 lw (Nat.lt_succ_self _) (by omega)
    · have HR2 : Hid (R = tOne (abcOf n)) := by show _ = _; rw [HR.out]; unfold reSw; rw [HND.out]; rfl
      obtain ⟨x, hx, hx1⟩ := pick_nat n 3 (by omega)
      have hx2 : x = 0 ∨ x = 1 ∨ x = 2 := by omega
      have HR1 : Hid (R = if x = 0 then tOne 97 else if x = 1 then tOne 98 else tOne 99) := by show _ = _; rw [HR2.out]; exact abc_of hx.out (by omega)
      have c1 := B2.cell 1
      rcases hx2 with rfl | rfl | rfl
      · have HR3 : Hid (R = tOne 97) := by show _ = _; rw [HR1.out]; rfl
        clear HR HR1 HR2
        go_wp2_with (go_at_call 9; (with_reducible refine (pick_at n 3 _ _ (by omega) (by omega) hx).mono ?_); rintro e w1 ⟨rfl, rfl⟩)
        refine (one_a (fun g => w.heap.size + 3 ≤ g) _).mono ?_
        rintro e w1 ⟨k1, a1, b1, c1, d1, A1, n1, cp1, rfl, hC1, hl1⟩
        have B4 := blkL hl1 B4
        have lw := lw.trans hl1
        obtain ⟨u0, u1, u2, u3, u4, u5, f0, f1, f2, f3, f4, f5⟩ := cells6 B4
        clear hl1 B2 B3
        go_wp2_with fail
        refine bodyPost_ret (v := .agg #[.int .i64 k1, .int .u64 a1, .int .u64 b1, .int .u64 c1, .int .u64 d1, .slice A1 n1 cp1]) (by simp [results, Try.results8, go_sem, u0, u1, u2, u3, u4, u5]) rfl ?_
        rw [HR3.out]
        exact RetT.store6 hC1 lw (Nat.lt_succ_self _) (by omega)
      · have HR3 : Hid (R = tOne 98) := by show _ = _; rw [HR1.out]; rfl
        clear HR HR1 HR2
        go_wp2_with (go_at_call 9; (with_reducible refine (pick_at n 3 _ _ (by omega) (by omega) hx).mono ?_); rintro e w1 ⟨rfl, rfl⟩)
        refine (one_b (fun g => w.heap.size + 3 ≤ g) _).mono ?_
        rintro e w1 ⟨k1, a1, b1, c1, d1, A1, n1, cp1, rfl, hC1, hl1⟩
        have B4 := blkL hl1 B4
        have lw := lw.trans hl1
        obtain ⟨u0, u1, u2, u3, u4, u5, f0, f1, f2, f3, f4, f5⟩ := cells6 B4
        clear hl1 B2 B3
        go_wp2_with fail
        refine bodyPost_ret (v := .agg #[.int .i64 k1, .int .u64 a1, .int .u64 b1, .int .u64 c1, .int .u64 d1, .slice A1 n1 cp1]) (by simp [results, Try.results8, go_sem, u0, u1, u2, u3, u4, u5]) rfl ?_
        rw [HR3.out]
        exact RetT.store6 hC1 lw (Nat.lt_succ_self _) (by omega)
      · have HR3 : Hid (R = tOne 99) := by show _ = _; rw [HR1.out]; rfl
        clear HR HR1 HR2
        go_wp2_with (go_at_call 9; (with_reducible refine (pick_at n 3 _ _ (by omega) (by omega) hx).mono ?_); rintro e w1 ⟨rfl, rfl⟩)
        refine (one_c (fun g => w.heap.size + 3 ≤ g) _).mono ?_
        rintro e w1 ⟨k1, a1, b1, c1, d1, A1, n1, cp1, rfl, hC1, hl1⟩
        have B4 := blkL hl1 B4
        have lw := lw.trans hl1
        obtain ⟨u0, u1, u2, u3, u4, u5, f0, f1, f2, f3, f4, f5⟩ := cells6 B4
        clear hl1 B2 B3
        go_wp2_with fail
        refine bodyPost_ret (v := .agg #[.int .i64 k1, .int .u64 a1, .int .u64 b1, .int .u64 c1, .int .u64 d1, .slice A1 n1 cp1]) (by simp [results, Try.results8, go_sem, u0, u1, u2, u3, u4, u5]) rfl ?_
        rw [HR3.out]
        exact RetT.store6 hC1 lw (Nat.lt_succ_self _) (by omega)
    · have HR2 : Hid (R = .node 1 (w4 (hSet n)) []) := by show _ = _; rw [HR.out]; unfold reSw; rw [HND.out]; rfl
      have c1 := B2.cell 1
      obtain ⟨v2, hv2⟩ : ∃ v, v = decide (n % 2 = 0) := ⟨_, rfl⟩
      obtain ⟨v5, hv5⟩ : ∃ v, v = decide (n % 5 = 0) := ⟨_, rfl⟩
      have t2 := tmod2 n
      have t5 := tmod5 n
      rw [← hv2] at t2
      rw [← hv5] at t5
      obtain ⟨hz, hsz⟩ := zero_set
      obtain ⟨mm, hmm⟩ : ∃ mm, mm = hSet n := ⟨_, rfl⟩
      have hb : ∀ b : Nat, (decide (b = 97) || (decide (b = 98) && v2) || v5) = mm b := fun b => by rw [hv2, hv5, hmm]; rfl
      have HB := Lib.hid hb
      have HR3 : Hid (R = .node 1 (w4 mm) []) := by show _ = _; rw [HR2.out, hmm]
      have hpk : ∀ wx : World, Calls Try.prog 20 #[.agg (boolC mm)] wx fun e w' => e = .returned (.agg #[.int .u64 (word mm 0 : Nat), .int .u64 (word mm 1 : Nat), .int .u64 (word mm 2 : Nat), .int .u64 (word mm 3 : Nat)]) ∧ Later wx w' := fun wx => packed_any mm wx
      have HPK := Lib.hid hpk
      clear hb hpk hv2 hv5 hmm HR HR2
      go_wp2_with fail
      go_loopw [8] (fun s8 wr => ∃ kk : Nat, kk ≤ 256 ∧ s8 = .int .i64 (kk : Int) ∧ Blk wr wc.heap.size 58 (boolC (mLow mm kk)) ∧ Blk wr w.heap.size 24 #[.int .i64 k, .int .i64 n, .slice A m cp] ∧ Blk wr (w.heap.size + 2) 30 #[.int .i64 0, .int .u64 0, .int .u64 0, .int .u64 0, .int .u64 0, .slice none 0 0] ∧ Later w wr) (fun s8 _ => 256 - (intOf s8).toNat)
      case atStart => exact ⟨0, by omega, rfl, by rw [boolC_ext (mLow mm 0) mNone (fun b _ => by unfold mLow; rfl)]; exact Blk.new wc _ _, B2.alloc _, B4.alloc _, lw.alloc _⟩
      case round =>
        clear B2 B3 B4 lw c1
        obtain ⟨kk, hkk, rfl, B7, B2, B4, lw⟩ := hrel
        have c1 := B2.cell 1
        by_cases hlt : kk < 256
        · have hlti : (kk : Int) < 256 := by omega
          have hst := Lib.hid (boolC_step mm kk hlt)
          have hbk := HB.out kk
          have c7 : wr.cell? ⟨wc.heap.size, kk, none⟩ = some (.bool (mLow mm kk kk)) := by rw [B7.cell, boolC_get _ hlt]
          have f7 := B7.frozen kk
          have hne2 : w.heap.size ≠ wc.heap.size := by omega
          have hne4 : w.heap.size + 2 ≠ wc.heap.size := by omega
          have hge7 : w.heap.size ≤ wc.heap.size := by omega
          obtain ⟨x97, hx97⟩ : ∃ x, x = decide (kk = 97) := ⟨_, rfl⟩
          obtain ⟨x98, hx98⟩ : ∃ x, x = decide (kk = 98) := ⟨_, rfl⟩
          have e97 : ((kk : Int) == 97) = x97 := by rw [hx97, Bool.eq_iff_iff, beq_iff_eq, decide_eq_true_eq]; omega
          have e98 : ((kk : Int) == 98) = x98 := by rw [hx98, Bool.eq_iff_iff, beq_iff_eq, decide_eq_true_eq]; omega
          rw [← hx97, ← hx98] at hbk
          have HBK := Lib.hid hbk
          clear hbk hx97 hx98
          cases x97
          case true =>
            have hv : Hid (mm kk = true) := by show _ = _; rw [← HBK.out]; rfl
            go_wp2_with fail
            go_roundw
            case rel => exact ⟨kk + 1, by omega, by go_num, by rw [← hst.out, hv.out]; exact B7.set_ kk _, B2.far (p := ⟨wc.heap.size, kk, none⟩) hne2 _, B4.far (p := ⟨wc.heap.size, kk, none⟩) hne4 _, Later.setCell (p := ⟨wc.heap.size, kk, none⟩) lw hge7 _⟩
            case measure => simp [intOf]; omega
          case false =>
            cases x98
            case false =>
              have hv : Hid (mm kk = v5) := by show _ = _; rw [← HBK.out]; simp
              cases v5
              all_goals
                go_wp2_with fail
                go_roundw
                case rel => exact ⟨kk + 1, by omega, by go_num, by rw [← hst.out, hv.out]; exact B7.set_ kk _, B2.far (p := ⟨wc.heap.size, kk, none⟩) hne2 _, B4.far (p := ⟨wc.heap.size, kk, none⟩) hne4 _, Later.setCell (p := ⟨wc.heap.size, kk, none⟩) lw hge7 _⟩
                case measure => simp [intOf]; omega
            case true =>
              have hv : Hid (mm kk = (v2 || v5)) := by show _ = _; rw [← HBK.out]; simp
              cases v2
              all_goals
                cases v5
                all_goals
                  go_wp2_with fail
                  go_roundw
                  case rel => exact ⟨kk + 1, by omega, by go_num, by rw [← hst.out, hv.out]; exact B7.set_ kk _, B2.far (p := ⟨wc.heap.size, kk, none⟩) hne2 _, B4.far (p := ⟨wc.heap.size, kk, none⟩) hne4 _, Later.setCell (p := ⟨wc.heap.size, kk, none⟩) lw hge7 _⟩
                  case measure => simp [intOf]; omega
        · obtain rfl : kk = 256 := by omega
          have he : boolC (mLow mm 256) = boolC mm := boolC_ext _ _ fun b hb => by unfold mLow; rw [decide_eq_true hb, Bool.true_and]
          rw [he] at B7
          clear he
          have R1 : Hid (wr.rangeAt wc.heap.size 0 (boolC mm).toList) := rangeB B7
          go_wp2_with (refine wpList_load_mid (P := Try.prog) rfl 58 (.tmp 7) rfl wc.heap.size 0 rfl (boolC mm).toList _ R1.out Try.underlying58 rfl (sizeB mm) ?_)
          refine (HPK.out _).mono ?_
          rintro e w1 ⟨rfl, hl1⟩
          have B4 := blkL hl1 B4
          have lw := lw.trans hl1
          obtain ⟨u0, u1, u2, u3, u4, u5, f0, f1, f2, f3, f4, f5⟩ := cells6 B4
          clear hl1 B2
          go_wp2_with fail
          refine bodyPost_ret (v := .agg #[.int .i64 1, .int .u64 (word mm 0 : Nat), .int .u64 (word mm 1 : Nat), .int .u64 (word mm 2 : Nat), .int .u64 (word mm 3 : Nat), .slice none 0 0]) (by simp [results, Try.results8, go_sem, u0, u1, u2, u3, u4, u5]) rfl ?_
          rw [HR3.out]
          exact RetT.store6 (ReC.leaf _ _ 1 (w4 mm) none 0) lw (Nat.lt_succ_self _) (by omega)
    · have HR2 : Hid (R = .node (if n % 3 = 0 then 0 else if n % 3 = 1 then 7 else 8) z4 []) := by show _ = _; rw [HR.out]; unfold reSw; rw [HND.out]; rfl
      obtain ⟨x, hx, hx1⟩ := pick_nat n 3 (by omega)
      have hx2 : x = 0 ∨ x = 1 ∨ x = 2 := by omega
      have HR1 : Hid (R = .node (if (x : Int) = 0 then 0 else if (x : Int) = 1 then 7 else 8) z4 []) := by show _ = _; rw [HR2.out, hx.out]
      have c1 := B2.cell 1
      obtain ⟨u0, u1, u2, u3, u4, u5, f0, f1, f2, f3, f4, f5⟩ := cells6 B4
      rcases hx2 with rfl | rfl | rfl
      · have HR3 : Hid (R = .node 0 z4 []) := by show _ = _; rw [HR1.out]; rfl
        have hix : ∀ w, (Instr.index 60 (.agg #[.int .i64 0, .int .i64 7, .int .i64 8]) (.int .i64 0)).run Try.prog w = .ok (.int .i64 0) w := fun _ => rfl
        clear HR HR1 HR2
        go_wp2_with (go_at_call 9; (with_reducible refine (pick_at n 3 _ _ (by omega) (by omega) hx).mono ?_); rintro e w1 ⟨rfl, rfl⟩)
        refine bodyPost_ret (v := .agg #[.int .i64 0, .int .u64 0, .int .u64 0, .int .u64 0, .int .u64 0, .slice none 0 0]) (by simp [results, Try.results8, go_sem, u0, u1, u2, u3, u4, u5]) rfl ?_
        rw [HR3.out]
        exact RetT.store6 (ReC.leaf _ _ 0 z4 none 0) lw (Nat.lt_succ_self _) (by omega)
      · have HR3 : Hid (R = .node 7 z4 []) := by show _ = _; rw [HR1.out]; rfl
        have hix : ∀ w, (Instr.index 60 (.agg #[.int .i64 0, .int .i64 7, .int .i64 8]) (.int .i64 1)).run Try.prog w = .ok (.int .i64 7) w := fun _ => rfl
        clear HR HR1 HR2
        go_wp2_with (go_at_call 9; (with_reducible refine (pick_at n 3 _ _ (by omega) (by omega) hx).mono ?_); rintro e w1 ⟨rfl, rfl⟩)
        refine bodyPost_ret (v := .agg #[.int .i64 7, .int .u64 0, .int .u64 0, .int .u64 0, .int .u64 0, .slice none 0 0]) (by simp [results, Try.results8, go_sem, u0, u1, u2, u3, u4, u5]) rfl ?_
        rw [HR3.out]
        exact RetT.store6 (ReC.leaf _ _ 7 z4 none 0) lw (Nat.lt_succ_self _) (by omega)
      · have HR3 : Hid (R = .node 8 z4 []) := by show _ = _; rw [HR1.out]; rfl
        have hix : ∀ w, (Instr.index 60 (.agg #[.int .i64 0, .int .i64 7, .int .i64 8]) (.int .i64 2)).run Try.prog w = .ok (.int .i64 8) w := fun _ => rfl
        clear HR HR1 HR2
        go_wp2_with (go_at_call 9; (with_reducible refine (pick_at n 3 _ _ (by omega) (by omega) hx).mono ?_); rintro e w1 ⟨rfl, rfl⟩)
        refine bodyPost_ret (v := .agg #[.int .i64 8, .int .u64 0, .int .u64 0, .int .u64 0, .int .u64 0, .slice none 0 0]) (by simp [results, Try.results8, go_sem, u0, u1, u2, u3, u4, u5]) rfl ?_
        rw [HR3.out]
        exact RetT.store6 (ReC.leaf _ _ 8 z4 none 0) lw (Nat.lt_succ_self _) (by omega)
    · have HR2 : Hid (R = tOne (abOf n)) := by show _ = _; rw [HR.out]; unfold reSw; rw [HND.out]; rfl
      obtain ⟨x, hx, hx1⟩ := pick_nat n 2 (by omega)
      have hx2 : x = 0 ∨ x = 1 := by omega
      have HR1 : Hid (R = if x = 0 then tOne 97 else tOne 98) := by show _ = _; rw [HR2.out]; exact ab_of hx.out rfl
      have c1 := B2.cell 1
      rcases hx2 with rfl | rfl
      · have HR3 : Hid (R = tOne 97) := by show _ = _; rw [HR1.out]; rfl
        clear HR HR1 HR2
        go_wp2_with (go_at_call 9; (with_reducible refine (pick_at n 2 _ _ (by omega) (by omega) hx).mono ?_); rintro e w1 ⟨rfl, rfl⟩)
        refine (one_a (fun g => w.heap.size + 3 ≤ g) _).mono ?_
        rintro e w1 ⟨k1, a1, b1, c1, d1, A1, n1, cp1, rfl, hC1, hl1⟩
        have B4 := blkL hl1 B4
        have lw := lw.trans hl1
        obtain ⟨u0, u1, u2, u3, u4, u5, f0, f1, f2, f3, f4, f5⟩ := cells6 B4
        clear hl1 B2 B3
        go_wp2_with fail
        refine bodyPost_ret (v := .agg #[.int .i64 k1, .int .u64 a1, .int .u64 b1, .int .u64 c1, .int .u64 d1, .slice A1 n1 cp1]) (by simp [results, Try.results8, go_sem, u0, u1, u2, u3, u4, u5]) rfl ?_
        rw [HR3.out]
        exact RetT.store6 hC1 lw (Nat.lt_succ_self _) (by omega)
      · have HR3 : Hid (R = tOne 98) := by show _ = _; rw [HR1.out]; rfl
        clear HR HR1 HR2
        go_wp2_with (go_at_call 9; (with_reducible refine (pick_at n 2 _ _ (by omega) (by omega) hx).mono ?_); rintro e w1 ⟨rfl, rfl⟩)
        refine (one_b (fun g => w.heap.size + 3 ≤ g) _).mono ?_
        rintro e w1 ⟨k1, a1, b1, c1, d1, A1, n1, cp1, rfl, hC1, hl1⟩
        have B4 := blkL hl1 B4
        have lw := lw.trans hl1
        obtain ⟨u0, u1, u2, u3, u4, u5, f0, f1, f2, f3, f4, f5⟩ := cells6 B4
        clear hl1 B2 B3
        go_wp2_with fail
        refine bodyPost_ret (v := .agg #[.int .i64 k1, .int .u64 a1, .int .u64 b1, .int .u64 c1, .int .u64 d1, .slice A1 n1 cp1]) (by simp [results, Try.results8, go_sem, u0, u1, u2, u3, u4, u5]) rfl ?_
        rw [HR3.out]
        exact RetT.store6 hC1 lw (Nat.lt_succ_self _) (by omega)
    · have HR2 : Hid (R = .node 2 z4 [reKid f D t 0, reKid f D t 1]) := by show _ = _; rw [HR.out]; rfl
      go_wp2_with fail
      refine (HK.out 0 _ B2 B3 B4 lw).mono ?_
      rintro e w1 ⟨k1, a1, b1, c1, d1, A1, n1, cp1, rfl, hC1, hl1⟩
      have B2 := blkL hl1 B2
      have B3 := blkL hl1 B3
      have B4 := blkL hl1 B4
      have lw := lw.trans hl1
      clear hl1
      go_wp2_with fail
      refine (HK.out 1 _ B2 B3 B4 lw).mono ?_
      rintro e w2 ⟨k2, a2, b2, c2, d2, A2, n2, cp2, rfl, hC2, hl1⟩
      have hC1 := hC1.later hl1
      have B4 := blkL hl1 B4
      have lw := lw.trans hl1
      clear hl1
      have hup : Up w2 (fun g => w.heap.size + 3 ≤ g) := fun g hg => by have := B4.lt; show w.heap.size + 3 ≤ g; omega
      have hR2 := ReC.two 2 hC1 hC2 hup
      have B4 := B4.alloc (.cells #[.int .i64 k1, .int .u64 a1, .int .u64 b1, .int .u64 c1, .int .u64 d1, .slice A1 n1 cp1, .int .i64 k2, .int .u64 a2, .int .u64 b2, .int .u64 c2, .int .u64 d2, .slice A2 n2 cp2] 30)
      have lw := lw.alloc (.cells #[.int .i64 k1, .int .u64 a1, .int .u64 b1, .int .u64 c1, .int .u64 d1, .slice A1 n1 cp1, .int .i64 k2, .int .u64 a2, .int .u64 b2, .int .u64 c2, .int .u64 d2, .slice A2 n2 cp2] 30)
      obtain ⟨g, hg⟩ : ∃ g, g = w2.heap.size := ⟨_, rfl⟩
      rw [← hg] at hR2
      obtain ⟨u0, u1, u2, u3, u4, u5, f0, f1, f2, f3, f4, f5⟩ := cells6 B4
      have HG := Lib.hid hg
      clear hg hC1 hC2 hup B2 B3
      go_wp2_with fail
      rw [← HG.out]
      refine bodyPost_ret (v := .agg #[.int .i64 2, .int .u64 0, .int .u64 0, .int .u64 0, .int .u64 0, .slice (some ⟨g, 0, none⟩) 2 2]) (by simp [results, Try.results8, go_sem, u0, u1, u2, u3, u4, u5]) rfl ?_
      rw [HR2.out]
      exact RetT.store6 hR2 lw (Nat.lt_succ_self _) (by omega)
    · have HR2 : Hid (R = .node 2 z4 [reKid f D t 0, reKid f D t 1]) := by show _ = _; rw [HR.out]; rfl
      go_wp2_with fail
      refine (HK.out 0 _ B2 B3 B4 lw).mono ?_
      rintro e w1 ⟨k1, a1, b1, c1, d1, A1, n1, cp1, rfl, hC1, hl1⟩
      have B2 := blkL hl1 B2
      have B3 := blkL hl1 B3
      have B4 := blkL hl1 B4
      have lw := lw.trans hl1
      clear hl1
      go_wp2_with fail
      refine (HK.out 1 _ B2 B3 B4 lw).mono ?_
      rintro e w2 ⟨k2, a2, b2, c2, d2, A2, n2, cp2, rfl, hC2, hl1⟩
      have hC1 := hC1.later hl1
      have B4 := blkL hl1 B4
      have lw := lw.trans hl1
      clear hl1
      have hup : Up w2 (fun g => w.heap.size + 3 ≤ g) := fun g hg => by have := B4.lt; show w.heap.size + 3 ≤ g; omega
      have hR2 := ReC.two 2 hC1 hC2 hup
      have B4 := B4.alloc (.cells #[.int .i64 k1, .int .u64 a1, .int .u64 b1, .int .u64 c1, .int .u64 d1, .slice A1 n1 cp1, .int .i64 k2, .int .u64 a2, .int .u64 b2, .int .u64 c2, .int .u64 d2, .slice A2 n2 cp2] 30)
      have lw := lw.alloc (.cells #[.int .i64 k1, .int .u64 a1, .int .u64 b1, .int .u64 c1, .int .u64 d1, .slice A1 n1 cp1, .int .i64 k2, .int .u64 a2, .int .u64 b2, .int .u64 c2, .int .u64 d2, .slice A2 n2 cp2] 30)
      obtain ⟨g, hg⟩ : ∃ g, g = w2.heap.size := ⟨_, rfl⟩
      rw [← hg] at hR2
      obtain ⟨u0, u1, u2, u3, u4, u5, f0, f1, f2, f3, f4, f5⟩ := cells6 B4
      have HG := Lib.hid hg
      clear hg hC1 hC2 hup B2 B3
      go_wp2_with fail
      rw [← HG.out]
      refine bodyPost_ret (v := .agg #[.int .i64 2, .int .u64 0, .int .u64 0, .int .u64 0, .int .u64 0, .slice (some ⟨g, 0, none⟩) 2 2]) (by simp [results, Try.results8, go_sem, u0, u1, u2, u3, u4, u5]) rfl ?_
      rw [HR2.out]
      exact RetT.store6 hR2 lw (Nat.lt_succ_self _) (by omega)
    · have HR2 : Hid (R = .node 3 z4 [reKid f D t 0, reKid f D t 1]) := by show _ = _; rw [HR.out]; rfl
      go_wp2_with fail
      refine (HK.out 0 _ B2 B3 B4 lw).mono ?_
      rintro e w1 ⟨k1, a1, b1, c1, d1, A1, n1, cp1, rfl, hC1, hl1⟩
      have B2 := blkL hl1 B2
      have B3 := blkL hl1 B3
      have B4 := blkL hl1 B4
      have lw := lw.trans hl1
      clear hl1
      go_wp2_with fail
      refine (HK.out 1 _ B2 B3 B4 lw).mono ?_
      rintro e w2 ⟨k2, a2, b2, c2, d2, A2, n2, cp2, rfl, hC2, hl1⟩
      have hC1 := hC1.later hl1
      have B4 := blkL hl1 B4
      have lw := lw.trans hl1
      clear hl1
      have hup : Up w2 (fun g => w.heap.size + 3 ≤ g) := fun g hg => by have := B4.lt; show w.heap.size + 3 ≤ g; omega
      have hR2 := ReC.two 3 hC1 hC2 hup
      have B4 := B4.alloc (.cells #[.int .i64 k1, .int .u64 a1, .int .u64 b1, .int .u64 c1, .int .u64 d1, .slice A1 n1 cp1, .int .i64 k2, .int .u64 a2, .int .u64 b2, .int .u64 c2, .int .u64 d2, .slice A2 n2 cp2] 30)
      have lw := lw.alloc (.cells #[.int .i64 k1, .int .u64 a1, .int .u64 b1, .int .u64 c1, .int .u64 d1, .slice A1 n1 cp1, .int .i64 k2, .int .u64 a2, .int .u64 b2, .int .u64 c2, .int .u64 d2, .slice A2 n2 cp2] 30)
      obtain ⟨g, hg⟩ : ∃ g, g = w2.heap.size := ⟨_, rfl⟩
      rw [← hg] at hR2
      obtain ⟨u0, u1, u2, u3, u4, u5, f0, f1, f2, f3, f4, f5⟩ := cells6 B4
      have HG := Lib.hid hg
      clear hg hC1 hC2 hup B2 B3
      go_wp2_with fail
      rw [← HG.out]
      refine bodyPost_ret (v := .agg #[.int .i64 3, .int .u64 0, .int .u64 0, .int .u64 0, .int .u64 0, .slice (some ⟨g, 0, none⟩) 2 2]) (by simp [results, Try.results8, go_sem, u0, u1, u2, u3, u4, u5]) rfl ?_
      rw [HR2.out]
      exact RetT.store6 hR2 lw (Nat.lt_succ_self _) (by omega)
    · have HR2 : Hid (R = .node 3 z4 [reKid f D t 0, reKid f D t 1]) := by show _ = _; rw [HR.out]; rfl
      go_wp2_with fail
      refine (HK.out 0 _ B2 B3 B4 lw).mono ?_
      rintro e w1 ⟨k1, a1, b1, c1, d1, A1, n1, cp1, rfl, hC1, hl1⟩
      have B2 := blkL hl1 B2
      have B3 := blkL hl1 B3
      have B4 := blkL hl1 B4
      have lw := lw.trans hl1
      clear hl1
      go_wp2_with fail
      refine (HK.out 1 _ B2 B3 B4 lw).mono ?_
      rintro e w2 ⟨k2, a2, b2, c2, d2, A2, n2, cp2, rfl, hC2, hl1⟩
      have hC1 := hC1.later hl1
      have B4 := blkL hl1 B4
      have lw := lw.trans hl1
      clear hl1
      have hup : Up w2 (fun g => w.heap.size + 3 ≤ g) := fun g hg => by have := B4.lt; show w.heap.size + 3 ≤ g; omega
      have hR2 := ReC.two 3 hC1 hC2 hup
      have B4 := B4.alloc (.cells #[.int .i64 k1, .int .u64 a1, .int .u64 b1, .int .u64 c1, .int .u64 d1, .slice A1 n1 cp1, .int .i64 k2, .int .u64 a2, .int .u64 b2, .int .u64 c2, .int .u64 d2, .slice A2 n2 cp2] 30)
      have lw := lw.alloc (.cells #[.int .i64 k1, .int .u64 a1, .int .u64 b1, .int .u64 c1, .int .u64 d1, .slice A1 n1 cp1, .int .i64 k2, .int .u64 a2, .int .u64 b2, .int .u64 c2, .int .u64 d2, .slice A2 n2 cp2] 30)
      obtain ⟨g, hg⟩ : ∃ g, g = w2.heap.size := ⟨_, rfl⟩
      rw [← hg] at hR2
      obtain ⟨u0, u1, u2, u3, u4, u5, f0, f1, f2, f3, f4, f5⟩ := cells6 B4
      have HG := Lib.hid hg
      clear hg hC1 hC2 hup B2 B3
      go_wp2_with fail
      rw [← HG.out]
      refine bodyPost_ret (v := .agg #[.int .i64 3, .int .u64 0, .int .u64 0, .int .u64 0, .int .u64 0, .slice (some ⟨g, 0, none⟩) 2 2]) (by simp [results, Try.results8, go_sem, u0, u1, u2, u3, u4, u5]) rfl ?_
      rw [HR2.out]
      exact RetT.store6 hR2 lw (Nat.lt_succ_self _) (by omega)
    · have HR2 : Hid (R = .node 4 z4 [reKid f D t 0]) := by show _ = _; rw [HR.out]; rfl
      go_wp2_with fail
      refine (HK.out 0 _ B2 B3 B4 lw).mono ?_
      rintro e w1 ⟨k1, a1, b1, c1, d1, A1, n1, cp1, rfl, hC1, hl1⟩
      have B2 := blkL hl1 B2
      have B3 := blkL hl1 B3
      have B4 := blkL hl1 B4
      have lw := lw.trans hl1
      clear hl1
      have hup : Up w1 (fun g => w.heap.size + 3 ≤ g) := fun g hg => by have := B4.lt; show w.heap.size + 3 ≤ g; omega
      have hR2 := ReC.one 4 hC1 hup
      have B4 := B4.alloc (.cells #[.int .i64 k1, .int .u64 a1, .int .u64 b1, .int .u64 c1, .int .u64 d1, .slice A1 n1 cp1] 30)
      have lw := lw.alloc (.cells #[.int .i64 k1, .int .u64 a1, .int .u64 b1, .int .u64 c1, .int .u64 d1, .slice A1 n1 cp1] 30)
      obtain ⟨g, hg⟩ : ∃ g, g = w1.heap.size := ⟨_, rfl⟩
      rw [← hg] at hR2
      obtain ⟨u0, u1, u2, u3, u4, u5, f0, f1, f2, f3, f4, f5⟩ := cells6 B4
      have HG := Lib.hid hg
      clear hg hC1 hup B2 B3
      go_wp2_with fail
      rw [← HG.out]
      refine bodyPost_ret (v := .agg #[.int .i64 4, .int .u64 0, .int .u64 0, .int .u64 0, .int .u64 0, .slice (some ⟨g, 0, none⟩) 1 1]) (by simp [results, Try.results8, go_sem, u0, u1, u2, u3, u4, u5]) rfl ?_
      rw [HR2.out]
      exact RetT.store6 hR2 lw (Nat.lt_succ_self _) (by omega)
    · have HR2 : Hid (R = .node 5 z4 [reKid f D t 0]) := by show _ = _; rw [HR.out]; rfl
      go_wp2_with fail
      refine (HK.out 0 _ B2 B3 B4 lw).mono ?_
      rintro e w1 ⟨k1, a1, b1, c1, d1, A1, n1, cp1, rfl, hC1, hl1⟩
      have B2 := blkL hl1 B2
      have B3 := blkL hl1 B3
      have B4 := blkL hl1 B4
      have lw := lw.trans hl1
      clear hl1
      have hup : Up w1 (fun g => w.heap.size + 3 ≤ g) := fun g hg => by have := B4.lt; show w.heap.size + 3 ≤ g; omega
      have hR2 := ReC.one 5 hC1 hup
      have B4 := B4.alloc (.cells #[.int .i64 k1, .int .u64 a1, .int .u64 b1, .int .u64 c1, .int .u64 d1, .slice A1 n1 cp1] 30)
      have lw := lw.alloc (.cells #[.int .i64 k1, .int .u64 a1, .int .u64 b1, .int .u64 c1, .int .u64 d1, .slice A1 n1 cp1] 30)
      obtain ⟨g, hg⟩ : ∃ g, g = w1.heap.size := ⟨_, rfl⟩
      rw [← hg] at hR2
      obtain ⟨u0, u1, u2, u3, u4, u5, f0, f1, f2, f3, f4, f5⟩ := cells6 B4
      have HG := Lib.hid hg
      clear hg hC1 hup B2 B3
      go_wp2_with fail
      rw [← HG.out]
      refine bodyPost_ret (v := .agg #[.int .i64 5, .int .u64 0, .int .u64 0, .int .u64 0, .int .u64 0, .slice (some ⟨g, 0, none⟩) 1 1]) (by simp [results, Try.results8, go_sem, u0, u1, u2, u3, u4, u5]) rfl ?_
      rw [HR2.out]
      exact RetT.store6 hR2 lw (Nat.lt_succ_self _) (by omega)
    · have HR2 : Hid (R = .node 6 z4 [reKid f D t 0]) := by show _ = _; rw [HR.out]; rfl
      go_wp2_with fail
      refine (HK.out 0 _ B2 B3 B4 lw).mono ?_
      rintro e w1 ⟨k1, a1, b1, c1, d1, A1, n1, cp1, rfl, hC1, hl1⟩
      have B2 := blkL hl1 B2
      have B3 := blkL hl1 B3
      have B4 := blkL hl1 B4
      have lw := lw.trans hl1
      clear hl1
      have hup : Up w1 (fun g => w.heap.size + 3 ≤ g) := fun g hg => by have := B4.lt; show w.heap.size + 3 ≤ g; omega
      have hR2 := ReC.one 6 hC1 hup
      have B4 := B4.alloc (.cells #[.int .i64 k1, .int .u64 a1, .int .u64 b1, .int .u64 c1, .int .u64 d1, .slice A1 n1 cp1] 30)
      have lw := lw.alloc (.cells #[.int .i64 k1, .int .u64 a1, .int .u64 b1, .int .u64 c1, .int .u64 d1, .slice A1 n1 cp1] 30)
      obtain ⟨g, hg⟩ : ∃ g, g = w1.heap.size := ⟨_, rfl⟩
      rw [← hg] at hR2
      obtain ⟨u0, u1, u2, u3, u4, u5, f0, f1, f2, f3, f4, f5⟩ := cells6 B4
      have HG := Lib.hid hg
      clear hg hC1 hup B2 B3
      go_wp2_with fail
      rw [← HG.out]
      refine bodyPost_ret (v := .agg #[.int .i64 6, .int .u64 0, .int .u64 0, .int .u64 0, .int .u64 0, .slice (some ⟨g, 0, none⟩) 1 1]) (by simp [results, Try.results8, go_sem, u0, u1, u2, u3, u4, u5]) rfl ?_
      rw [HR2.out]
      exact RetT.store6 hR2 lw (Nat.lt_succ_self _) (by omega)

theorem hre_any : ∀ (D : Nat) (M : Nat) (_hD : D ≤ 100), ReAt (reF D) M (D : Int)
  | 0, M, _ => fun t k n A m cp w hC => reStep_any (fun _ => tEmpty) M 0 (fun h => absurd h (by omega)) (by omega) t k n A m cp w hC
  | D + 1, M, hD => fun t k n A m cp w hC => reStep_any (reF D) M (D + 1) (fun _ => by
      have h := hre_any D M (by omega)
      rw [show ((D + 1 : Nat) : Int) - 1 = (D : Int) by omega]
      exact h) hD t k n A m cp w hC

end Go.Proofs.Ytmkddhkpeiajhaa

/-
  Trees of small height: plain.
-/
namespace Go.Proofs.Ytmkddhkpeiajhaa

/-- of so many storeys at most -/
def lowT : Nat → Tree → Prop
  | 0, _ => False
  | D + 1, t => ∀ u ∈ t.kids, lowT D u
theorem low_leaf (D : Nat) (k : Int) (s : W4) : lowT (D + 1) (.node k s []) := fun _ h => by cases h
theorem low_sets : ∀ (D : Nat) (t : Tree), lowT D t → shapedR t = true → setsR t ≤ 2 ^ D
  | 0, _, h, _ => h.elim
  | D + 1, .node k s ks, h, hs => by
    unfold shapedR at hs
    simp only [Bool.and_eq_true, decide_eq_true_eq] at hs
    have hlen := kids_two hs.1.1
    have hp : 0 < 2 ^ D := Nat.pow_pos (by omega)
    rw [Nat.pow_succ]
    match ks, hlen with
    | [], _ => rw [setsR]; simp; omega
    | [a], _ =>
      have ha := low_sets D a (h a (by show a ∈ [a]; simp)) (by have := hs.2; rw [shapedRL, shapedRL, Bool.and_true] at this; exact this)
      rw [setsR, if_neg (by simp), setsRL, setsRL]; omega
    | [a, b], _ =>
      have h2 := hs.2
      rw [shapedRL, shapedRL, shapedRL, Bool.and_true, Bool.and_eq_true] at h2
      have ha := low_sets D a (h a (by show a ∈ [a, b]; simp)) h2.1
      have hb := low_sets D b (h b (by show b ∈ [a, b]; simp)) h2.2
      rw [setsR, if_neg (by simp), setsRL, setsRL, setsRL]; omega
theorem low_twist : ∀ (D : Nat) (t : HTree), lowT (D + 1) (twistF D t)
  | 0, t => by unfold twistF; exact low_leaf 0 _ _
  | D + 1, t => by
    unfold twistF
    intro u hu
    obtain ⟨v, _, rfl⟩ := List.mem_map.1 (show u ∈ t.kids.map (twistF D) from hu)
    exact low_twist D v
theorem low_kid (f : HTree → Tree) (D : Nat) (hf : ∀ u, lowT (D + 1) (f u)) (t : HTree) (i : Nat) : lowT (D + 1) (reKid f (D + 1) t i) := by
  unfold reKid
  cases t.kids[i]? with
  | none => exact low_leaf D _ _
  | some u => show lowT _ (if _ then _ else _); rw [if_pos (by omega)]; exact hf u
theorem low_sw (f : HTree → Tree) (D : Nat) (hf : ∀ u, lowT (D + 1) (f u)) (t : HTree) (k : Nat) : lowT (D + 2) (reSw f (D + 1) t k) := by
  have hk := low_kid f D hf t
  unfold reSw
  have two : ∀ c, lowT (D + 2) (.node c z4 [reKid f (D + 1) t 0, reKid f (D + 1) t 1]) := fun c u hu => by
    have hu : u ∈ [reKid f (D + 1) t 0, reKid f (D + 1) t 1] := hu
    simp only [List.mem_cons, List.not_mem_nil, or_false] at hu
    rcases hu with rfl | rfl <;> exact hk _
  have one : ∀ c, lowT (D + 2) (.node c z4 [reKid f (D + 1) t 0]) := fun c u hu => by
    have hu : u ∈ [reKid f (D + 1) t 0] := hu
    simp only [List.mem_cons, List.not_mem_nil, or_false] at hu
    subst hu; exact hk _
  repeat' split
  all_goals first | exact two _ | exact one _ | exact low_leaf _ _ _
theorem low_sw0 (f : HTree → Tree) (t : HTree) (k : Nat) (hk : k ≤ 4) : lowT 1 (reSw f 0 t k) := by
  unfold reSw
  rw [if_neg (by omega), if_neg (by omega), if_neg (by omega), if_neg (by omega), if_neg (by omega)]
  repeat' split
  all_goals exact low_leaf _ _ _
theorem low_re : ∀ (D : Nat) (t : HTree), lowT (D + 1) (reF D t)
  | 0, t => by
    unfold reF reStep
    exact low_sw0 _ _ _ (by split <;> omega)
  | D + 1, t => by
    unfold reF reStep
    exact low_sw _ D (low_re D) t _

end Go.Proofs.Ytmkddhkpeiajhaa
