/-
  The law's twisted: a raw tree as a tree that may be anything.
-/
import Derived.Test.YthmjnelnnhidkaaHTree
import Derived.Test.YthmjnelnnhidkaaTwin
import Derived.Test.YthmjnelnnhidkaaSame
import Derived.Test.YthmjnelnnhidkaaPick
import Derived.Deep.DeepCutAuto
import Derived.Deep.RegionHeldLaw
import Derived.StillTailTactics
namespace Go.Proofs.Ythmjnelnnhidkaa
open Go.RowKit

def wrapN (n : Int) : Nat := (n % 18446744073709551616).toNat
def twSet (n : Int) : W4 := if n % 3 = 0 then (if n % 4 = 0 then (wrapN n, 0, 0, 0) else if n % 4 = 1 then (0, wrapN n, 0, 0) else if n % 4 = 2 then (0, 0, wrapN n, 0) else (0, 0, 0, wrapN n)) else z4
/-- the tree that a raw one is twisted to -/
def twistF : Nat → HTree → Tree
  | 0, t => .node (t.kind % 11 - 1) (twSet t.num) []
  | d + 1, t => .node (t.kind % 11 - 1) (twSet t.num) (t.kids.map (twistF d))

theorem tmod3 (n : Int) : (n.tmod 3 == 0) = decide (n % 3 = 0) := by
  rw [Bool.eq_iff_iff, beq_iff_eq, decide_eq_true_eq]
  have h := tmod_emod (n := n) (m := 3) (by omega)
  have b := tmod_bds (n := n) (m := 3) (by omega)
  split at h <;> omega

theorem Blk.set6 {w : World} {g : Nat} {t : TypeId} {y0 y1 y2 y3 y4 y5 x0 x1 x2 x3 x4 x5 : Value} (h : Blk w g t #[y0, y1, y2, y3, y4, y5]) : Blk (Proofs.Ythmjnelnnhidkaa.set6 w g x0 x1 x2 x3 x4 x5) g t #[x0, x1, x2, x3, x4, x5] := by
  unfold Proofs.Ythmjnelnnhidkaa.set6
  have h0 := (h.set_ 0 x0).set_ 1 x1
  simp only [List.setIfInBounds_toArray, List.set_cons_zero, List.set_cons_succ] at h0
  have h1 := (h0.set_ 2 x2).set_ 3 x3
  simp only [List.setIfInBounds_toArray, List.set_cons_zero, List.set_cons_succ] at h1
  have h2 := (h1.set_ 4 x4).set_ 5 x5
  simp only [List.setIfInBounds_toArray, List.set_cons_zero, List.set_cons_succ] at h2
  exact h2
/-- r, with so much of its set -/
def TwA (w : World) (k n : Int) (A : Option Addr) (m cp : Nat) (kd : Int) (s : W4) (wx : World) : Prop :=
  Blk wx w.heap.size 59 #[.int .i64 k, .int .i64 n, .slice A m cp] ∧ Blk wx (w.heap.size + 1) 49 #[.int .i64 0, .int .u64 0, .int .u64 0, .int .u64 0, .int .u64 0, .slice none 0 0] ∧
    Blk wx (w.heap.size + 2) 49 #[.int .i64 kd, .int .u64 (s.1 : Nat), .int .u64 (s.2.1 : Nat), .int .u64 (s.2.2.1 : Nat), .int .u64 (s.2.2.2 : Nat), .slice none 0 0] ∧ Later w wx
theorem TwA.mk (w : World) (k n : Int) (A : Option Addr) (m cp : Nat) (kd : Int) : TwA w k n A m cp kd z4 (((w.alloc (.cells #[.int .i64 k, .int .i64 n, .slice A m cp] 59)).alloc (.cells #[.int .i64 0, .int .u64 0, .int .u64 0, .int .u64 0, .int .u64 0, .slice none 0 0] 49)).alloc (.cells #[.int .i64 kd, .int .u64 0, .int .u64 0, .int .u64 0, .int .u64 0, .slice none 0 0] 49)) := by
  refine ⟨?_, ?_, ?_, (((Later.refl w).alloc _).alloc _).alloc _⟩
  · exact ((Blk.new w _ _).alloc _).alloc _
  · have h := ((Blk.new (w.alloc (.cells #[.int .i64 k, .int .i64 n, .slice A m cp] 59)) 49 #[.int .i64 0, .int .u64 0, .int .u64 0, .int .u64 0, .int .u64 0, .slice none 0 0]).alloc (.cells #[.int .i64 kd, .int .u64 0, .int .u64 0, .int .u64 0, .int .u64 0, .slice none 0 0] 49))
    simp only [World.size_alloc] at h
    exact h
  · have h := Blk.new ((w.alloc (.cells #[.int .i64 k, .int .i64 n, .slice A m cp] 59)).alloc (.cells #[.int .i64 0, .int .u64 0, .int .u64 0, .int .u64 0, .int .u64 0, .slice none 0 0] 49)) 49 #[.int .i64 kd, .int .u64 0, .int .u64 0, .int .u64 0, .int .u64 0, .slice none 0 0]
    simp only [World.size_alloc] at h
    exact h
/-- in the midst of twisted -/
def TwL (w : World) (k n : Int) (A : Option Addr) (m cp : Nat) (kd : Int) (s : W4) (ts : List Tree) (s6 : Value) (wx : World) : Prop :=
  ∃ (j : Nat) (Al : Option Addr) (cl : Nat), j ≤ m ∧ s6 = .int .i64 (j : Int) ∧ OwnT wx (fun g => w.heap.size + 3 ≤ g) (w.heap.size + 3) Al j cl (ts.take j) ∧
  Blk wx w.heap.size 59 #[.int .i64 k, .int .i64 n, .slice A m cp] ∧ Blk wx (w.heap.size + 1) 49 #[.int .i64 0, .int .u64 0, .int .u64 0, .int .u64 0, .int .u64 0, .slice none 0 0] ∧
    Blk wx (w.heap.size + 2) 49 #[.int .i64 kd, .int .u64 (s.1 : Nat), .int .u64 (s.2.1 : Nat), .int .u64 (s.2.2.1 : Nat), .int .u64 (s.2.2.2 : Nat), .slice Al j cl] ∧ Later w wx
theorem RetTw.mk {w w1 : World} {t : Tree} {k a b c d : Int} {A : Option Addr} {n cp g1 : Nat} (h : ReC w1 (fun g => w.heap.size + 3 ≤ g) t ⟨k, a, b, c, d, A, n, cp⟩) (hl : Later w w1) (hg : g1 = w.heap.size + 1) :
    RetT w (fun g => w.heap.size ≤ g) t (.returned (.agg #[.int .i64 k, .int .u64 a, .int .u64 b, .int .u64 c, .int .u64 d, .slice A n cp])) (set6 w1 g1 (.int .i64 k) (.int .u64 a) (.int .u64 b) (.int .u64 c) (.int .u64 d) (.slice A n cp)) := by
  subst hg
  refine ⟨k, a, b, c, d, A, n, cp, rfl, ?_, hl.set6 (Nat.le_succ _)⟩
  refine ReC.weaken (lo := fun g => w.heap.size + 3 ≤ g) (fun k _ h => by omega) _ ?_
  exact ReC.fr (Fr.set6 (w.heap.size + 1) _ _ _ _ _ _) (spares_not _ (by omega)) _ h
/-- what the round reads -/
theorem tw_cells {w : World} {k n : Int} {A : Option Addr} {m cp g2 b off : Nat} {y0 y1 y2 : Value} (h2 : Blk w g2 59 #[.int .i64 k, .int .i64 n, .slice A m cp])
    (e : w.cell? ⟨b, off, none⟩ = some y0 ∧ w.cell? ⟨b, off + 1, none⟩ = some y1 ∧ w.cell? ⟨b, off + 2, none⟩ = some y2) :
    w.cell? ⟨g2, 2, none⟩ = some (.slice A m cp) ∧ w.cell? ⟨b, off, none⟩ = some y0 ∧ w.cell? ⟨b, off + 1, none⟩ = some y1 ∧ w.cell? ⟨b, off + 2, none⟩ = some y2 :=
  ⟨h2.cell 2, e⟩

/-- append of one tree, in a region -/
theorem step_append_t (w : World) {ops : Array Oper} {o : Oper} {a : Act} {K : Act → World → Prop} {Q : Exit → Act → World → Prop} {E : Prop} (hgd : o.guard = none) (s x : Operand)
    (ho : o.op = .call { callee := .builtin .append, args := #[s, x], argTypes := #[47, 47] })
    (lo : Nat → Prop) (base : Nat) (A : Option Addr) (n c : Nat) (ts : List Tree) (hs : a.eval s = .slice A n c) (hown : OwnT w lo base A n c ts) (t : Tree) (rx : ReX) (ht : ReC w (fun k => lo k ∧ ob A ≠ some k) t rx)
    (B : Nat) (A2 : Option Addr) (hx : a.eval x = .slice A2 1 1) (hr : Reads w B 6 A2 1 (reL rx)) (hbd : n < 1000000000) (hbase : base ≤ w.heap.size)
    (h : ∀ A' n' c' w', n' = n + 1 → OwnT w' lo base A' n' c' (ts ++ [t]) → w.grownBy w' (ob A) → K (a.put o.dst (.slice A' n' c')) w') :
    if Region.wanted o (yielded ops a.tmps) = true then Oper.wp Try.prog o a w K Q else E := by
  obtain ⟨i0, hi, hz0, hz1, hz2⟩ := info_parts re_info
  obtain ⟨h1, xs, h2, h3⟩ := hown
  refine step_append_any w hgd s x 47 ho base 49 i0 _ 6 64 Try.underlying47 hi hz0 hz1 hz2 rfl (by decide) (.slice A n c) n _ hs h3 B A2 1 1 (reL rx) hx hr (by intro u hu; simp [reL] at hu; rcases hu with rfl | rfl | rfl | rfl | rfl | rfl <;> rfl) (by unfold maxLen; omega) (by omega) hbase ?_
  intro v' w' g2 g3 g4
  have hv : ∃ A' c', v' = .slice A' (n + 1) c' := by
    rcases g2.2 with ⟨_, e⟩ | ⟨g, cap, cur, rfl, _⟩
    · omega
    · exact ⟨_, _, rfl⟩
  obtain ⟨A', c', rfl⟩ := hv
  rw [ob_own] at g3 g4
  refine h A' _ c' w' rfl ⟨by rw [List.length_append, h1]; rfl, xs ++ [rx], ?_, by rw [List.flatMap_append]; simpa using g2⟩ g3
  have hmid : ∀ k, k < w.heap.size → (lo k ∧ ob A ≠ some k) → (lo k ∧ ob A ≠ some k ∧ k < w.heap.size) := fun k hk hq => ⟨hq.1, hq.2, hk⟩
  have hsp : Spares w (fun k => lo k ∧ ob A ≠ some k ∧ k < w.heap.size) (fun k => ob A = some k) := fun k _ hk _ e => hk.2.1 e
  have hend : ∀ k, k < w'.heap.size → (lo k ∧ ob A ≠ some k ∧ k < w.heap.size) → (lo k ∧ ob A' ≠ some k) := fun k _ hq => ⟨hq.1, by
    rw [ob_own] at g4
    rcases g4 with g4 | g4
    · rw [g4]; exact hq.2.1
    · rw [g4]; intro e; injection e with e; omega⟩
  exact ReCs.snoc (ReCs.weaken hend _ (ReCs.fr (Fr.of_grown g3) hsp _ (ReCs.weaken hmid ts h2))) (ReC.weaken hend _ (ReC.fr (Fr.of_grown g3) hsp _ (ReC.weaken hmid t ht)))

set_option maxRecDepth 100000 in
set_option maxHeartbeats 16000000 in
theorem twisted_any : ∀ (D : Nat) (t : HTree) (M : Nat) (k n : Int) (A : Option Addr) (m cp : Nat) (w : World), D ≤ 100 → M ≤ 100000000 → HdC w M t ⟨k, n, A, m, cp⟩ →
    Calls Try.prog 32 #[.agg #[.int .i64 k, .int .i64 n, .slice A m cp], .int .i64 (D : Int)] w (RetT w (fun g => w.heap.size ≤ g) (twistF D t)) := by
  intro D
  induction D with
  | zero =>
    intro t M k n A m cp w _ hM hC
    obtain ⟨k', n', ks⟩ := t
    unfold HdC at hC
    obtain ⟨hk, hn, hk64, hn64, hm, hmM, xs, hL, hKs⟩ := hC
    obtain rfl : k = k' := hk
    obtain rfl : n = n' := hn
    simp only at hm hmM hL
    obtain ⟨p, hp, hp1⟩ := pick_nat k 11 (by omega)
    obtain ⟨q, hq, hq1⟩ := pick_nat n 4 (by omega)
    obtain ⟨T, hT⟩ : ∃ T, T = ([] : List Tree) := ⟨_, rfl⟩
    obtain ⟨s, hs⟩ : ∃ s, s = twSet n := ⟨_, rfl⟩
    have hR : twistF 0 (.node k n ks) = .node ((p : Int) - 1) s T := by
      rw [twistF, hT, hs]
      show Tree.node (k % 11 - 1) (twSet n) [] = _
      rw [hp.out]
    rw [hR]
    have HT := Lib.hid hT
    have HS := Lib.hid hs
    have HM := Lib.hid hm
    have HL := Lib.hid hL
    have HK := Lib.hid hKs
    obtain ⟨v3, hv3⟩ : ∃ v, (n.tmod 3 == 0) = v := ⟨_, rfl⟩
    have h3 := tmod3 n
    rw [hv3] at h3
    have HV3 := Lib.hid h3
    have hwn : IntKind.u64.wrap n = (wrapN n : Int) := by
      rw [IntKind.wrap_u64]; unfold wrapN; omega
    obtain ⟨wn, hwn2⟩ : ∃ x, x = wrapN n := ⟨_, rfl⟩
    rw [← hwn2] at hwn
    have HWN := Lib.hid hwn2
    clear hR hT hs hm hL hKs h3 hwn2
    obtain ⟨hk1, hk2⟩ := hk64
    obtain ⟨hn1, hn2⟩ := hn64
    have hDc : ((0 : Nat) : Int) = 0 := rfl
    rw [hDc]
    clear hDc
    go_enter Try.func32, Try.ntmps32
    go_upto_region 1 with fail
    go_cut [5] (fun s5 wx => s5 = .pointer (some ⟨w.heap.size + 2, 0, none⟩) ∧ TwA w k n A m cp ((p : Int) - 1) z4 wx)
    case first =>
      go_wp2_with (go_at_call 26; (with_reducible refine (pick_at k 11 p _ (by omega) (by omega) hp).mono ?_); rintro e w1 ⟨rfl, rfl⟩)
      go_meet
      exact ⟨rfl, TwA.mk w k n A m cp _⟩
    case rest =>
      obtain ⟨rfl, B2, B4, B5, hl⟩ := hcut
      obtain ⟨f0, f1, f2, f3, f4, f5, g0, g1, g2, g3, g4, g5⟩ := cells6 B5
      have c0 := B2.cell 0
      have c1 := B2.cell 1
      go_upto_if 15 with (fail)
      go_cut [] (fun wx => TwA w k n A m cp ((p : Int) - 1) s wx)
      case first =>
        cases v3 with
        | false =>
          have hs4 : s = z4 := by rw [HS.out]; unfold twSet; rw [if_neg (by have := HV3.out; simpa using this.symm)]
          have HS4 := Lib.hid hs4
          clear hs4
          go_wp2_with fail
          go_meet
          rw [HS4.out]
          exact ⟨B2, B4, B5, hl⟩
        | true =>
          have h4 : q = 0 ∨ q = 1 ∨ q = 2 ∨ q = 3 := by omega
          have hs4 : s = (if (q : Int) = 0 then (wn, 0, 0, 0) else if (q : Int) = 1 then (0, wn, 0, 0) else if (q : Int) = 2 then (0, 0, wn, 0) else (0, 0, 0, wn)) := by
            rw [HS.out]; unfold twSet; rw [if_pos (by have := HV3.out; simpa using this.symm), hq.out, HWN.out]
          have HS4 := Lib.hid hs4
          clear hs4
          rcases h4 with rfl | rfl | rfl | rfl
          · have hs5 : s = (wn, 0, 0, 0) := by rw [HS4.out]; rfl
            have HS5 := Lib.hid hs5
            clear hs5
            go_wp2_with fail
            refine wp_region_still_tail 8 (by kernel_rfl) (by kernel_rfl) ?_
            simp only [List.take_succ_cons, List.take_zero, List.drop_succ_cons, List.drop_zero]
            repeat still_step
            still_call ((pick_at n 4 _ _ (by omega) (by omega) hq).mono fun _ _ h => ⟨h.1, h.2.symm⟩)
            repeat still_step
            refine wpStill_nil ?_
            go_wp2_with fail
            go_meet
            rw [HS5.out]
            have h5 := B5.set_ 1 (.int .u64 (wn : Int))
            simp only [List.setIfInBounds_toArray, List.set_cons_zero, List.set_cons_succ] at h5
            exact ⟨(B2.far (p := ⟨w.heap.size + 2, 1, none⟩) (by show w.heap.size ≠ w.heap.size + 2; omega) _).drew, (B4.far (p := ⟨w.heap.size + 2, 1, none⟩) (by show w.heap.size + 1 ≠ w.heap.size + 2; omega) _).drew, h5.drew, (Later.setCell (p := ⟨w.heap.size + 2, 1, none⟩) hl (by show w.heap.size ≤ w.heap.size + 2; omega) _).drew⟩
          · have hs5 : s = (0, wn, 0, 0) := by rw [HS4.out]; rfl
            have HS5 := Lib.hid hs5
            clear hs5
            go_wp2_with fail
            refine wp_region_still_tail 8 (by kernel_rfl) (by kernel_rfl) ?_
            simp only [List.take_succ_cons, List.take_zero, List.drop_succ_cons, List.drop_zero]
            repeat still_step
            still_call ((pick_at n 4 _ _ (by omega) (by omega) hq).mono fun _ _ h => ⟨h.1, h.2.symm⟩)
            repeat still_step
            refine wpStill_nil ?_
            go_wp2_with fail
            go_meet
            rw [HS5.out]
            have h5 := B5.set_ 2 (.int .u64 (wn : Int))
            simp only [List.setIfInBounds_toArray, List.set_cons_zero, List.set_cons_succ] at h5
            exact ⟨(B2.far (p := ⟨w.heap.size + 2, 2, none⟩) (by show w.heap.size ≠ w.heap.size + 2; omega) _).drew, (B4.far (p := ⟨w.heap.size + 2, 2, none⟩) (by show w.heap.size + 1 ≠ w.heap.size + 2; omega) _).drew, h5.drew, (Later.setCell (p := ⟨w.heap.size + 2, 2, none⟩) hl (by show w.heap.size ≤ w.heap.size + 2; omega) _).drew⟩
          · have hs5 : s = (0, 0, wn, 0) := by rw [HS4.out]; rfl
            have HS5 := Lib.hid hs5
            clear hs5
            go_wp2_with fail
            refine wp_region_still_tail 8 (by kernel_rfl) (by kernel_rfl) ?_
            simp only [List.take_succ_cons, List.take_zero, List.drop_succ_cons, List.drop_zero]
            repeat still_step
            still_call ((pick_at n 4 _ _ (by omega) (by omega) hq).mono fun _ _ h => ⟨h.1, h.2.symm⟩)
            repeat still_step
            refine wpStill_nil ?_
            go_wp2_with fail
            go_meet
            rw [HS5.out]
            have h5 := B5.set_ 3 (.int .u64 (wn : Int))
            simp only [List.setIfInBounds_toArray, List.set_cons_zero, List.set_cons_succ] at h5
            exact ⟨(B2.far (p := ⟨w.heap.size + 2, 3, none⟩) (by show w.heap.size ≠ w.heap.size + 2; omega) _).drew, (B4.far (p := ⟨w.heap.size + 2, 3, none⟩) (by show w.heap.size + 1 ≠ w.heap.size + 2; omega) _).drew, h5.drew, (Later.setCell (p := ⟨w.heap.size + 2, 3, none⟩) hl (by show w.heap.size ≤ w.heap.size + 2; omega) _).drew⟩
          · have hs5 : s = (0, 0, 0, wn) := by rw [HS4.out]; rfl
            have HS5 := Lib.hid hs5
            clear hs5
            go_wp2_with fail
            refine wp_region_still_tail 8 (by kernel_rfl) (by kernel_rfl) ?_
            simp only [List.take_succ_cons, List.take_zero, List.drop_succ_cons, List.drop_zero]
            repeat still_step
            still_call ((pick_at n 4 _ _ (by omega) (by omega) hq).mono fun _ _ h => ⟨h.1, h.2.symm⟩)
            repeat still_step
            refine wpStill_nil ?_
            go_wp2_with fail
            go_meet
            rw [HS5.out]
            have h5 := B5.set_ 4 (.int .u64 (wn : Int))
            simp only [List.setIfInBounds_toArray, List.set_cons_zero, List.set_cons_succ] at h5
            exact ⟨(B2.far (p := ⟨w.heap.size + 2, 4, none⟩) (by show w.heap.size ≠ w.heap.size + 2; omega) _).drew, (B4.far (p := ⟨w.heap.size + 2, 4, none⟩) (by show w.heap.size + 1 ≠ w.heap.size + 2; omega) _).drew, h5.drew, (Later.setCell (p := ⟨w.heap.size + 2, 4, none⟩) hl (by show w.heap.size ≤ w.heap.size + 2; omega) _).drew⟩
      case rest =>
        clear f0 f1 f2 f3 f4 f5 g0 g1 g2 g3 g4 g5 c0 c1 B2 B4 B5 hl HS HV3 HWN hwn hv3
        obtain ⟨B2, B4, B5, hl⟩ := hcut
        obtain ⟨s0, s1, s2, s3⟩ := s
        simp only at B5
        go_wp2_with fail
        go_loopw [6] (fun s6 wr => TwL w k n A m cp ((p : Int) - 1) (s0, s1, s2, s3) T s6 wr) (fun s6 _ => m - (intOf s6).toNat)
        case atStart => exact ⟨0, none, 0, Nat.zero_le _, rfl, OwnT.nil, B2, B4, B5, hl⟩
        case round =>
          clear B2 B4 B5 hl
          obtain ⟨j, Al, cl, hj, rfl, hO, B2, B4, B5, hl⟩ := hrel
          simp only at B5
          have c2 := B2.cell 2
          have hcase : j < m ∨ ¬ j < m := Decidable.em _
          have hj0 : j = 0 := by have := hO.1; rw [HT.out] at this; simpa using this.symm
          subst hj0
          rcases hcase with hlt | hlt
          · have hlti : (0 : Int) < (m : Int) := by omega
            have hlt2 : 0 < m := hlt
            have hO2 : OwnT wr (fun g => w.heap.size + 3 ≤ g) (w.heap.size + 3) Al 0 cl T := by rw [HT.out] at hO ⊢; exact hO
            have hfin := hO2.tree (fun _ h => h) ((p : Int) - 1) (s0, s1, s2, s3)
            obtain ⟨u0, u1, u2, u3, u4, u5, f0, f1, f2, f3, f4, f5⟩ := cells6 B4
            obtain ⟨v0, v1, v2, v3, v4, v5, g0, g1, g2, g3, g4, g5⟩ := cells6 B5
            clear hO hO2
            go_wp2_with fail
            refine bodyPost_ret (v := .agg #[.int .i64 ((p : Int) - 1), .int .u64 (s0 : Nat), .int .u64 (s1 : Nat), .int .u64 (s2 : Nat), .int .u64 (s3 : Nat), .slice Al 0 cl]) (by simp [results, Try.results32, go_sem, u0, u1, u2, u3, u4, u5]) rfl ?_
            exact RetTw.mk hfin hl rfl
          · obtain rfl : m = 0 := by omega
            have hO2 : OwnT wr (fun g => w.heap.size + 3 ≤ g) (w.heap.size + 3) Al 0 cl T := by rw [HT.out] at hO ⊢; exact hO
            have hfin := hO2.tree (fun _ h => h) ((p : Int) - 1) (s0, s1, s2, s3)
            obtain ⟨u0, u1, u2, u3, u4, u5, f0, f1, f2, f3, f4, f5⟩ := cells6 B4
            obtain ⟨v0, v1, v2, v3, v4, v5, g0, g1, g2, g3, g4, g5⟩ := cells6 B5
            clear hO hO2
            go_wp2_with fail
            refine bodyPost_ret (v := .agg #[.int .i64 ((p : Int) - 1), .int .u64 (s0 : Nat), .int .u64 (s1 : Nat), .int .u64 (s2 : Nat), .int .u64 (s3 : Nat), .slice Al 0 cl]) (by simp [results, Try.results32, go_sem, u0, u1, u2, u3, u4, u5]) rfl ?_
            exact RetTw.mk hfin hl rfl
  | succ D ih =>
    intro t M k n A m cp w hD hM hC
    obtain ⟨k', n', ks⟩ := t
    unfold HdC at hC
    obtain ⟨hk, hn, hk64, hn64, hm, hmM, xs, hL, hKs⟩ := hC
    obtain rfl : k = k' := hk
    obtain rfl : n = n' := hn
    simp only at hm hmM hL
    obtain ⟨p, hp, hp1⟩ := pick_nat k 11 (by omega)
    obtain ⟨q, hq, hq1⟩ := pick_nat n 4 (by omega)
    obtain ⟨T, hT⟩ : ∃ T, T = (ks.map (twistF D)) := ⟨_, rfl⟩
    obtain ⟨s, hs⟩ : ∃ s, s = twSet n := ⟨_, rfl⟩
    have hR : twistF (D + 1) (.node k n ks) = .node ((p : Int) - 1) s T := by
      rw [twistF, hT, hs]
      show Tree.node (k % 11 - 1) (twSet n) (ks.map (twistF D)) = _
      rw [hp.out]
    rw [hR]
    have hTl : T.length = m := by rw [hT, List.length_map, hm]
    have HT := Lib.hid hT
    have HS := Lib.hid hs
    have HM := Lib.hid hm
    have HTL := Lib.hid hTl
    have HL := Lib.hid hL
    have HK := Lib.hid hKs
    obtain ⟨v3, hv3⟩ : ∃ v, (n.tmod 3 == 0) = v := ⟨_, rfl⟩
    have h3 := tmod3 n
    rw [hv3] at h3
    have HV3 := Lib.hid h3
    have hwn : IntKind.u64.wrap n = (wrapN n : Int) := by
      rw [IntKind.wrap_u64]; unfold wrapN; omega
    obtain ⟨wn, hwn2⟩ : ∃ x, x = wrapN n := ⟨_, rfl⟩
    rw [← hwn2] at hwn
    have HWN := Lib.hid hwn2
    clear hR hT hs hm hL hKs h3 hwn2 hTl
    obtain ⟨hk1, hk2⟩ := hk64
    obtain ⟨hn1, hn2⟩ := hn64
    have hDc : ((D + 1 : Nat) : Int) = (D : Int) + 1 := by omega
    rw [hDc]
    clear hDc
    go_enter Try.func32, Try.ntmps32
    go_upto_region 1 with fail
    go_cut [5] (fun s5 wx => s5 = .pointer (some ⟨w.heap.size + 2, 0, none⟩) ∧ TwA w k n A m cp ((p : Int) - 1) z4 wx)
    case first =>
      go_wp2_with (go_at_call 26; (with_reducible refine (pick_at k 11 p _ (by omega) (by omega) hp).mono ?_); rintro e w1 ⟨rfl, rfl⟩)
      go_meet
      exact ⟨rfl, TwA.mk w k n A m cp _⟩
    case rest =>
      obtain ⟨rfl, B2, B4, B5, hl⟩ := hcut
      obtain ⟨f0, f1, f2, f3, f4, f5, g0, g1, g2, g3, g4, g5⟩ := cells6 B5
      have c0 := B2.cell 0
      have c1 := B2.cell 1
      go_upto_if 15 with (fail)
      go_cut [] (fun wx => TwA w k n A m cp ((p : Int) - 1) s wx)
      case first =>
        cases v3 with
        | false =>
          have hs4 : s = z4 := by rw [HS.out]; unfold twSet; rw [if_neg (by have := HV3.out; simpa using this.symm)]
          have HS4 := Lib.hid hs4
          clear hs4
          go_wp2_with fail
          go_meet
          rw [HS4.out]
          exact ⟨B2, B4, B5, hl⟩
        | true =>
          have h4 : q = 0 ∨ q = 1 ∨ q = 2 ∨ q = 3 := by omega
          have hs4 : s = (if (q : Int) = 0 then (wn, 0, 0, 0) else if (q : Int) = 1 then (0, wn, 0, 0) else if (q : Int) = 2 then (0, 0, wn, 0) else (0, 0, 0, wn)) := by
            rw [HS.out]; unfold twSet; rw [if_pos (by have := HV3.out; simpa using this.symm), hq.out, HWN.out]
          have HS4 := Lib.hid hs4
          clear hs4
          rcases h4 with rfl | rfl | rfl | rfl
          · have hs5 : s = (wn, 0, 0, 0) := by rw [HS4.out]; rfl
            have HS5 := Lib.hid hs5
            clear hs5
            go_wp2_with fail
            refine wp_region_still_tail 8 (by kernel_rfl) (by kernel_rfl) ?_
            simp only [List.take_succ_cons, List.take_zero, List.drop_succ_cons, List.drop_zero]
            repeat still_step
            still_call ((pick_at n 4 _ _ (by omega) (by omega) hq).mono fun _ _ h => ⟨h.1, h.2.symm⟩)
            repeat still_step
            refine wpStill_nil ?_
            go_wp2_with fail
            go_meet
            rw [HS5.out]
            have h5 := B5.set_ 1 (.int .u64 (wn : Int))
            simp only [List.setIfInBounds_toArray, List.set_cons_zero, List.set_cons_succ] at h5
            exact ⟨(B2.far (p := ⟨w.heap.size + 2, 1, none⟩) (by show w.heap.size ≠ w.heap.size + 2; omega) _).drew, (B4.far (p := ⟨w.heap.size + 2, 1, none⟩) (by show w.heap.size + 1 ≠ w.heap.size + 2; omega) _).drew, h5.drew, (Later.setCell (p := ⟨w.heap.size + 2, 1, none⟩) hl (by show w.heap.size ≤ w.heap.size + 2; omega) _).drew⟩
          · have hs5 : s = (0, wn, 0, 0) := by rw [HS4.out]; rfl
            have HS5 := Lib.hid hs5
            clear hs5
            go_wp2_with fail
            refine wp_region_still_tail 8 (by kernel_rfl) (by kernel_rfl) ?_
            simp only [List.take_succ_cons, List.take_zero, List.drop_succ_cons, List.drop_zero]
            repeat still_step
            still_call ((pick_at n 4 _ _ (by omega) (by omega) hq).mono fun _ _ h => ⟨h.1, h.2.symm⟩)
            repeat still_step
            refine wpStill_nil ?_
            go_wp2_with fail
            go_meet
            rw [HS5.out]
            have h5 := B5.set_ 2 (.int .u64 (wn : Int))
            simp only [List.setIfInBounds_toArray, List.set_cons_zero, List.set_cons_succ] at h5
            exact ⟨(B2.far (p := ⟨w.heap.size + 2, 2, none⟩) (by show w.heap.size ≠ w.heap.size + 2; omega) _).drew, (B4.far (p := ⟨w.heap.size + 2, 2, none⟩) (by show w.heap.size + 1 ≠ w.heap.size + 2; omega) _).drew, h5.drew, (Later.setCell (p := ⟨w.heap.size + 2, 2, none⟩) hl (by show w.heap.size ≤ w.heap.size + 2; omega) _).drew⟩
          · have hs5 : s = (0, 0, wn, 0) := by rw [HS4.out]; rfl
            have HS5 := Lib.hid hs5
            clear hs5
            go_wp2_with fail
            refine wp_region_still_tail 8 (by kernel_rfl) (by kernel_rfl) ?_
            simp only [List.take_succ_cons, List.take_zero, List.drop_succ_cons, List.drop_zero]
            repeat still_step
            still_call ((pick_at n 4 _ _ (by omega) (by omega) hq).mono fun _ _ h => ⟨h.1, h.2.symm⟩)
            repeat still_step
            refine wpStill_nil ?_
            go_wp2_with fail
            go_meet
            rw [HS5.out]
            have h5 := B5.set_ 3 (.int .u64 (wn : Int))
            simp only [List.setIfInBounds_toArray, List.set_cons_zero, List.set_cons_succ] at h5
            exact ⟨(B2.far (p := ⟨w.heap.size + 2, 3, none⟩) (by show w.heap.size ≠ w.heap.size + 2; omega) _).drew, (B4.far (p := ⟨w.heap.size + 2, 3, none⟩) (by show w.heap.size + 1 ≠ w.heap.size + 2; omega) _).drew, h5.drew, (Later.setCell (p := ⟨w.heap.size + 2, 3, none⟩) hl (by show w.heap.size ≤ w.heap.size + 2; omega) _).drew⟩
          · have hs5 : s = (0, 0, 0, wn) := by rw [HS4.out]; rfl
            have HS5 := Lib.hid hs5
            clear hs5
            go_wp2_with fail
            refine wp_region_still_tail 8 (by kernel_rfl) (by kernel_rfl) ?_
            simp only [List.take_succ_cons, List.take_zero, List.drop_succ_cons, List.drop_zero]
            repeat still_step
            still_call ((pick_at n 4 _ _ (by omega) (by omega) hq).mono fun _ _ h => ⟨h.1, h.2.symm⟩)
            repeat still_step
            refine wpStill_nil ?_
            go_wp2_with fail
            go_meet
            rw [HS5.out]
            have h5 := B5.set_ 4 (.int .u64 (wn : Int))
            simp only [List.setIfInBounds_toArray, List.set_cons_zero, List.set_cons_succ] at h5
            exact ⟨(B2.far (p := ⟨w.heap.size + 2, 4, none⟩) (by show w.heap.size ≠ w.heap.size + 2; omega) _).drew, (B4.far (p := ⟨w.heap.size + 2, 4, none⟩) (by show w.heap.size + 1 ≠ w.heap.size + 2; omega) _).drew, h5.drew, (Later.setCell (p := ⟨w.heap.size + 2, 4, none⟩) hl (by show w.heap.size ≤ w.heap.size + 2; omega) _).drew⟩
      case rest =>
        clear f0 f1 f2 f3 f4 f5 g0 g1 g2 g3 g4 g5 c0 c1 B2 B4 B5 hl HS HV3 HWN hwn hv3
        obtain ⟨B2, B4, B5, hl⟩ := hcut
        obtain ⟨s0, s1, s2, s3⟩ := s
        simp only at B5
        go_wp2_with fail
        go_loopw [6] (fun s6 wr => TwL w k n A m cp ((p : Int) - 1) (s0, s1, s2, s3) T s6 wr) (fun s6 _ => m - (intOf s6).toNat)
        case atStart => exact ⟨0, none, 0, Nat.zero_le _, rfl, OwnT.nil, B2, B4, B5, hl⟩
        case round =>
          clear B2 B4 B5 hl
          obtain ⟨j, Al, cl, hj, rfl, hO, B2, B4, B5, hl⟩ := hrel
          simp only at B5
          have c2 := B2.cell 2
          by_cases hlt : j < m
          · have hlti : (j : Int) < (m : Int) := by omega
            have hDp : (0 : Int) < (D : Int) + 1 := by omega
            obtain ⟨tj, htj⟩ : ∃ tj, ks[j]? = some tj := ⟨_, List.getElem?_eq_getElem (by rw [HM.out]; exact hlt)⟩
            obtain ⟨x, hx, hCx⟩ := HK.out.get j tj htj
            obtain ⟨jk, jn, jA, jm, jcp⟩ := x
            obtain ⟨b0, off, hA, hbs, e0, e1, e2⟩ := reads_three HL.out hlt hx
            have hszw : w.heap.size + 3 ≤ wr.heap.size := by have := B5.lt; omega
            have hOl := hO.lt
            have hkid : ∀ wx, Later w wx → wx.cell? ⟨b0, off + j * 3, none⟩ = some (.int .i64 jk) ∧ wx.cell? ⟨b0, off + j * 3 + 1, none⟩ = some (.int .i64 jn) ∧ wx.cell? ⟨b0, off + j * 3 + 2, none⟩ = some (.slice jA jm jcp) :=
              fun wx hwx => ⟨(hwx.cell (p := ⟨b0, _, none⟩) hbs).trans e0, (hwx.cell (p := ⟨b0, _, none⟩) hbs).trans e1, (hwx.cell (p := ⟨b0, _, none⟩) hbs).trans e2⟩
            have HKID := Lib.hid hkid
            have hih : ∀ wx, Later wr wx → Calls Try.prog 32 #[.agg #[.int .i64 jk, .int .i64 jn, .slice jA jm jcp], .int .i64 (D : Int)] wx (RetT wx (fun g => w.heap.size + 3 ≤ g ∧ ob Al ≠ some g) (twistF D tj)) :=
              fun wx hwx => (ih tj M jk jn jA jm jcp wx (by omega) hM (HdC.later (hl.trans hwx) tj hCx)).mono fun e w' he => by
                obtain ⟨k1, a1, b1, c1, d1, A1, n1, cp1, e1, e2, e3⟩ := he
                exact ⟨k1, a1, b1, c1, d1, A1, n1, cp1, e1, ReC.weaken (fun g _ hg => ⟨by have := hwx.size; omega, fun e => by have := (hOl g e).2; have := hwx.size; omega⟩) _ e2, e3⟩
            have htk : T.take (j + 1) = T.take j ++ [twistF D tj] := by
              have hTj : T[j]? = some (twistF D tj) := by rw [HT.out, List.getElem?_map, htj]; rfl
              obtain ⟨hq, e⟩ := List.getElem?_eq_some_iff.1 hTj
              rw [List.take_succ_eq_append_getElem hq, e]
            have HIH := Lib.hid hih
            have HTK := Lib.hid htk
            have hDw : IntKind.i64.wrap (D : Int) = (D : Int) := by rw [IntKind.wrap_i64]; omega
            have hjn : ((j : Int)).toNat = j := by omega
            clear hih hkid hCx htj hx e0 e1 e2 htk
            subst hA
            have lt : Later wr wr := Later.refl _
            have lw : Later w wr := hl
            have hne2 : w.heap.size ≠ w.heap.size + 2 := by omega
            have hge2 : w.heap.size ≤ w.heap.size + 2 := by omega
            have c5 := B5.cell 5
            have f5 := B5.frozen 5
            obtain ⟨e0, e1, e2⟩ := HKID.out _ lw
            go_wp2_with fail
            go_region_law
              ((first
                | (((go_simp; go_at_call 32; (with_reducible refine (HIH.out _ (by repeat (first | (with_reducible exact lt) | (with_reducible apply Later.drew) | (with_reducible apply Later.alloc)))).mono ?_)); rintro e w1 ⟨k1, a1, b1, c1, d1, A1, n1, cp1, rfl, hC1, hl1⟩);
                      have B5 := blkL hl1 (by repeat (first | (with_reducible exact B5) | (with_reducible apply Blk.drew) | (with_reducible apply Blk.alloc)));
                      have B2 := blkL hl1 (by repeat (first | (with_reducible exact B2) | (with_reducible apply Blk.drew) | (with_reducible apply Blk.alloc)));
                      have B4 := blkL hl1 (by repeat (first | (with_reducible exact B4) | (with_reducible apply Blk.drew) | (with_reducible apply Blk.alloc)));
                      have lt1 : Later wr w1 := Later.trans (by repeat (first | (with_reducible exact lt) | (with_reducible apply Later.drew) | (with_reducible apply Later.alloc))) hl1;
                      have lt := lt1;
                      have lw : Later w w1 := hl.trans lt1;
                      have hO := hO.later lt1;
                      have hsz1 : w.heap.size + 2 < w1.heap.size := B5.lt;
                      have c2 := B2.cell 2;
                      have c5 := B5.cell 5;
                      have f5 := B5.frozen 5)
                | (((refine step_append_t (o := ⟨some 46, _, _, _, _, _⟩) _ rfl (.tmp 36) (.tmp 45) rfl (fun g => w.heap.size + 3 ≤ g) (w.heap.size + 3) Al j cl (T.take j) rfl (hO.later (by repeat (first | (with_reducible exact Later.refl _) | (with_reducible apply Later.drew) | (with_reducible apply Later.alloc)))) (twistF D tj) ⟨k1, a1, b1, c1, d1, A1, n1, cp1⟩ (hC1.later (by repeat (first | (with_reducible exact Later.refl _) | (with_reducible apply Later.drew) | (with_reducible apply Later.alloc)))) _ _ rfl (by repeat (first | (with_reducible exact reads_t _ ⟨k1, a1, b1, c1, d1, A1, n1, cp1⟩ _) | (with_reducible apply Reads.drew))) (by omega) (by simp; omega) ?_)); intro A9 n9 c9 w4 hn9 hown9 hg9;
                      have B5 := Blk.grown (by repeat (first | (with_reducible exact B5) | (with_reducible apply Blk.drew) | (with_reducible apply Blk.alloc))) hg9 (fun e => by have := (hOl _ e.symm).1; omega);
                      have B2 := Blk.grown (by repeat (first | (with_reducible exact B2) | (with_reducible apply Blk.drew) | (with_reducible apply Blk.alloc))) hg9 (fun e => by have := (hOl _ e.symm).1; omega);
                      have B4 := Blk.grown (by repeat (first | (with_reducible exact B4) | (with_reducible apply Blk.drew) | (with_reducible apply Blk.alloc))) hg9 (fun e => by have := (hOl _ e.symm).1; omega);
                      have c5 := B5.cell 5;
                      have f5 := B5.frozen 5;
                      have lw : Later w w4 := Later.grown (by repeat (first | (with_reducible exact lw) | (with_reducible apply Later.drew) | (with_reducible apply Later.alloc))) hg9 (fun k e => by have := (hOl k e).1; omega))))
            all_goals
              subst hn9
              have hF5 : Fr w4 (w4.setCell ⟨w.heap.size + 2, 5, none⟩ (.slice A9 (j + 1) c9)) (fun k => k = w.heap.size + 2) := Fr.set (p := fun k => k = w.heap.size + 2) (Fr.refl w4 _) (a := ⟨w.heap.size + 2, 5, none⟩) (fun _ => rfl) _
              have hO9 : OwnT (w4.setCell ⟨w.heap.size + 2, 5, none⟩ (.slice A9 (j + 1) c9)) (fun g => w.heap.size + 3 ≤ g) (w.heap.size + 3) A9 (j + 1) c9 (T.take (j + 1)) := by
                rw [HTK.out]
                exact hown9.fr hF5 (spares_not _ (by omega)) (fun k hk e => by have := (hown9.lt k hk).1; omega)
              have D2 := Blk.fr B2 hF5 (by omega)
              have D4 := Blk.fr B4 hF5 (by omega)
              have D5 := B5.set_ 5 (.slice A9 (j + 1) c9)
              simp only [List.setIfInBounds_toArray, List.set_cons_zero, List.set_cons_succ] at D5
              have D6 := Later.setCell (p := ⟨w.heap.size + 2, 5, none⟩) lw (by show w.heap.size ≤ w.heap.size + 2; omega) (.slice A9 (j + 1) c9)
              clear hF5 hown9 hg9 B2 B4 B5 lw
              go_wp2_with fail
              go_roundw
              case rel => exact ⟨j + 1, A9, c9, by omega, by go_num, hO9, D2, D4, D5, D6⟩
              case measure => simp [intOf]; omega
          · obtain rfl : m = j := by omega
            have hO2 : OwnT wr (fun g => w.heap.size + 3 ≤ g) (w.heap.size + 3) Al m cl T := by rw [List.take_of_length_le (by rw [HTL.out]; exact Nat.le_refl _)] at hO; exact hO
            have hfin := hO2.tree (fun _ h => h) ((p : Int) - 1) (s0, s1, s2, s3)
            obtain ⟨u0, u1, u2, u3, u4, u5, f0, f1, f2, f3, f4, f5⟩ := cells6 B4
            obtain ⟨v0, v1, v2, v3, v4, v5, g0, g1, g2, g3, g4, g5⟩ := cells6 B5
            clear hO hO2
            go_wp2_with fail
            refine bodyPost_ret (v := .agg #[.int .i64 ((p : Int) - 1), .int .u64 (s0 : Nat), .int .u64 (s1 : Nat), .int .u64 (s2 : Nat), .int .u64 (s3 : Nat), .slice Al m cl]) (by simp [results, Try.results32, go_sem, u0, u1, u2, u3, u4, u5]) rfl ?_
            exact RetTw.mk hfin hl rfl

end Go.Proofs.Ythmjnelnnhidkaa
