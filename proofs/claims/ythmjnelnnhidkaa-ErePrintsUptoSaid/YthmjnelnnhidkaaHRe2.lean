/-
  tailracehand.Re: a raw tree as a tree that is right.
-/
import Derived.Test.YthmjnelnnhidkaaHRe
namespace Go.Proofs.Ythmjnelnnhidkaa
open Go.RowKit

/-- the switch's start -/
def HrA (w : World) (k n : Int) (A : Option Addr) (m cp : Nat) (D : Int) (q : Nat) (s5 : Value) (wx : World) : Prop :=
  s5 = .int .i64 (q : Int) ∧ Blk wx w.heap.size 59 #[.int .i64 k, .int .i64 n, .slice A m cp] ∧ Blk wx (w.heap.size + 1) 3 #[.int .i64 D] ∧ Blk wx (w.heap.size + 2) 49 #[.int .i64 0, .int .u64 0, .int .u64 0, .int .u64 0, .int .u64 0, .slice none 0 0] ∧ Later w wx
theorem HrA.mk (w : World) (k n : Int) (A : Option Addr) (m cp : Nat) (D : Int) (q : Nat) : HrA w k n A m cp D q (.int .i64 (q : Int)) (((w.alloc (.cells #[.int .i64 k, .int .i64 n, .slice A m cp] 59)).alloc (.cells #[.int .i64 D] 3)).alloc (.cells #[.int .i64 0, .int .u64 0, .int .u64 0, .int .u64 0, .int .u64 0, .slice none 0 0] 49)) := by
  refine ⟨rfl, ?_, ?_, ?_, (((Later.refl w).alloc _).alloc _).alloc _⟩
  · exact ((Blk.new w _ _).alloc _).alloc _
  · have h := (Blk.new (w.alloc (.cells #[.int .i64 k, .int .i64 n, .slice A m cp] 59)) 3 #[.int .i64 D]).alloc (.cells #[.int .i64 0, .int .u64 0, .int .u64 0, .int .u64 0, .int .u64 0, .slice none 0 0] 49)
    simp only [World.size_alloc] at h
    exact h
  · have h := Blk.new ((w.alloc (.cells #[.int .i64 k, .int .i64 n, .slice A m cp] 59)).alloc (.cells #[.int .i64 D] 3)) 49 #[.int .i64 0, .int .u64 0, .int .u64 0, .int .u64 0, .int .u64 0, .slice none 0 0]
    simp only [World.size_alloc] at h
    exact h
theorem hset_step (n : Int) (b : Nat) : (decide (b = 97) || (decide (b = 98) && decide (n % 2 = 0)) || decide (n % 5 = 0)) = hSet n b := rfl
theorem tmod2 (n : Int) : (n.tmod 2 == 0) = decide (n % 2 = 0) := by
  rw [Bool.eq_iff_iff, beq_iff_eq, decide_eq_true_eq]
  have h := tmod_emod (n := n) (m := 2) (by omega)
  have b := tmod_bds (n := n) (m := 2) (by omega)
  split at h <;> omega
theorem tmod5 (n : Int) : (n.tmod 5 == 0) = decide (n % 5 = 0) := by
  rw [Bool.eq_iff_iff, beq_iff_eq, decide_eq_true_eq]
  have h := tmod_emod (n := n) (m := 5) (by omega)
  have b := tmod_bds (n := n) (m := 5) (by omega)
  split at h <;> omega

set_option maxRecDepth 100000 in
set_option maxHeartbeats 16000000 in
theorem reStep_any (f : HTree → Tree) (M : Nat) (D : Nat) (hf : 0 < D → ReAt f M ((D : Int) - 1)) (hD : D ≤ 100) (t : HTree) (k n : Int) (A : Option Addr) (m cp : Nat) (w : World) (hC : HdC w M t ⟨k, n, A, m, cp⟩) :
    Calls Try.prog 33 #[.agg #[.int .i64 k, .int .i64 n, .slice A m cp], .int .i64 (D : Int)] w (RetT w (fun g => w.heap.size ≤ g) (reStep f D t)) := by
  have hkd : t.kind = k := by cases t; unfold HdC at hC; exact hC.1.symm
  have hnd : t.num = n := by cases t; unfold HdC at hC; exact hC.2.1.symm
  have hkid : ∀ (i : Nat) (g2 g3 : Nat) (wx : World), Blk wx g2 59 #[.int .i64 k, .int .i64 n, .slice A m cp] → Blk wx g3 3 #[.int .i64 (D : Int)] → Later w wx → g2 = w.heap.size → g3 = w.heap.size + 1 → w.heap.size + 3 ≤ wx.heap.size →
      Calls Try.prog 52 #[.int .i64 (i : Int), .pointer (some ⟨g2, 0, none⟩), .pointer (some ⟨g3, 0, none⟩)] wx (RetT wx (fun g => w.heap.size + 3 ≤ g) (reKid f D t i)) := fun i g2 g3 wx h2 h3 hl _ _ hsz =>
    (kid_any f M D hf hD t k n A m cp i g2 g3 wx (HdC.later hl t hC) h2 h3).mono fun e w' he => by
      obtain ⟨k1, a1, b1, c1, d1, A1, n1, cp1, e1, e2, e3⟩ := he
      exact ⟨k1, a1, b1, c1, d1, A1, n1, cp1, e1, ReC.weaken (fun g _ hg => by omega) _ e2, e3⟩
  obtain ⟨p, hp, hp1⟩ := pick_nat k 12 (by omega)
  obtain ⟨q, hq⟩ : ∃ q, q = if D = 0 ∧ 4 < p then 0 else p := ⟨_, rfl⟩
  obtain ⟨R, hR⟩ : ∃ R, R = reStep f D t := ⟨_, rfl⟩
  have hR1 : R = reSw f D t q := by
    rw [hR, hq]; unfold reStep; rw [hkd, hp.out]; rfl
  rw [← hR]
  have HKid := Lib.hid hkid
  have HR0 := Lib.hid hR1
  have HND := Lib.hid hnd
  have HQ := Lib.hid hq
  have hq1 : q < 12 := by rw [hq]; split <;> omega
  clear hR hR1 hkid hf hkd hnd hC hq
  have hD1 : (0 : Int) ≤ (D : Int) := by omega
  go_enter Try.func33, Try.ntmps33
  go_upto_region 3 with (go_at_call 26; (with_reducible refine (pick_at k 12 p _ (by omega) (by omega) hp).mono ?_); rintro e w1 ⟨rfl, rfl⟩)
  obtain ⟨W1, hW1⟩ : ∃ W1, W1 = (((w.alloc (.cells #[.int .i64 k, .int .i64 n, .slice A m cp] 59)).alloc (.cells #[.int .i64 (D : Int)] 3)).alloc (.cells #[.int .i64 0, .int .u64 0, .int .u64 0, .int .u64 0, .int .u64 0, .slice none 0 0] 49)) := ⟨_, rfl⟩
  have hA : HrA w k n A m cp D p (.int .i64 (p : Int)) W1 := by rw [hW1]; exact HrA.mk w k n A m cp D p
  rw [← hW1]
  clear hW1
  obtain ⟨-, B2, B3, B4, lw⟩ := hA
  have c3 := B3.cell 0
  obtain ⟨v, hv⟩ : ∃ v, v = decide (D = 0 ∧ 4 < p) := ⟨_, rfl⟩
  have HVV := Lib.hid hv
  clear hv
  go_cut [18] (fun s18 wx => s18 = .bool v ∧ HrA w k n A m cp D p (.int .i64 (p : Int)) wx)
  case first =>
    rcases Nat.eq_zero_or_pos D with rfl | hDp
    · have hz : ((0 : Nat) : Int) = 0 := rfl
      rw [hz] at c3 B3
      rcases Nat.lt_or_ge 4 p with h4 | h4
      · have h4i : (4 : Int) < (p : Int) := by omega
        have HQ2 : Hid (v = true) := by show _ = _; rw [HVV.out]; simp; omega
        clear hz HQ
        go_wp2_with fail
        go_meet
        rw [HQ2.out]
        exact ⟨rfl, rfl, B2, B3, B4, lw⟩
      · have h4i : ¬ (4 : Int) < (p : Int) := by omega
        have h4d : decide ((4 : Int) < (p : Int)) = false := by simp; omega
        have HQ2 : Hid (v = false) := by show _ = _; rw [HVV.out]; simp; omega
        clear hz HQ
        go_wp2_with fail
        go_meet
        rw [HQ2.out]
        exact ⟨rfl, rfl, B2, B3, B4, lw⟩
    · have hDi : ¬ (D : Int) ≤ 0 := by omega
      have hDd : decide ((D : Int) ≤ 0) = false := by simp; omega
      have HQ2 : Hid (v = false) := by show _ = _; rw [HVV.out]; simp; omega
      clear HQ
      go_wp2_with fail
      go_meet
      rw [HQ2.out]
      exact ⟨rfl, rfl, B2, B3, B4, lw⟩
  case rest =>
  clear c3 B2 B3 B4 lw
  obtain ⟨rfl, -, B2, B3, B4, lw⟩ := hcut
  go_upto_if 18 with (fail)
  go_cut [5] (fun s5 wx => HrA w k n A m cp D q s5 wx)
  case first =>
    cases v with
    | true =>
      have HQ2 : Hid (q = 0) := by show _ = _; rw [HQ.out, if_pos (by have := HVV.out; simpa using this.symm)]
      clear HQ
      go_wp2_with fail
      go_meet
      rw [HQ2.out]
      exact ⟨rfl, B2, B3, B4, lw⟩
    | false =>
      have HQ2 : Hid (q = p) := by show _ = _; rw [HQ.out, if_neg (by have := HVV.out; simpa using this.symm)]
      clear HQ
      go_wp2_with fail
      go_meet
      rw [HQ2.out]
      exact ⟨rfl, B2, B3, B4, lw⟩
  case rest =>
    clear B2 B3 B4 lw HQ HVV
    obtain ⟨h5, B2, B3, B4, lw⟩ := hcut
    have hsz : w.heap.size + 3 ≤ wc.heap.size := by have := B4.lt; omega
    have HK : Hid (∀ (i : Nat) (wx : World), Blk wx w.heap.size 59 #[.int .i64 k, .int .i64 n, .slice A m cp] → Blk wx (w.heap.size + 1) 3 #[.int .i64 (D : Int)] → Blk wx (w.heap.size + 2) 49 #[.int .i64 0, .int .u64 0, .int .u64 0, .int .u64 0, .int .u64 0, .slice none 0 0] → Later w wx →
      Calls Try.prog 52 #[.int .i64 (i : Int), .pointer (some ⟨w.heap.size, 0, none⟩), .pointer (some ⟨w.heap.size + 1, 0, none⟩)] wx (RetT wx (fun g => w.heap.size + 3 ≤ g) (reKid f D t i))) := fun i wx h2 h3 h4 hl => HKid.out i _ _ wx h2 h3 hl rfl rfl (by have := h4.lt; omega)
    have hR2 : R = reSw f D t q := HR0.out
    have HR := Lib.hid hR2
    clear hR2 HKid HR0
    have hq3 : q = 0 ∨ q = 1 ∨ q = 2 ∨ q = 3 ∨ q = 4 ∨ q = 5 ∨ q = 6 ∨ q = 7 ∨ q = 8 ∨ q = 9 ∨ q = 10 ∨ q = 11 := by omega
    rcases hq3 with rfl | rfl | rfl | rfl | rfl | rfl | rfl | rfl | rfl | rfl | rfl | rfl
    all_goals subst h5
    · have HR2 : Hid (R = tOne (abcOf n)) := by show _ = _; rw [HR.out]; unfold reSw; rw [HND.out]; rfl
      obtain ⟨x, hx, hx1⟩ := pick_nat n 3 (by omega)
      have hx2 : x = 0 ∨ x = 1 ∨ x = 2 := by omega
      have HR1 : Hid (R = if x = 0 then tOne 97 else if x = 1 then tOne 98 else tOne 99) := by show _ = _; rw [HR2.out]; exact abc_of hx.out (by omega)
      have c1 := B2.cell 1
      rcases hx2 with rfl | rfl | rfl
      · have HR3 : Hid (R = tOne 97) := by show _ = _; rw [HR1.out]; rfl
        clear HR HR1 HR2
        go_wp2_with (go_at_call 26; (with_reducible refine (pick_at n 3 _ _ (by omega) (by omega) hx).mono ?_); rintro e w1 ⟨rfl, rfl⟩)
        refine (one_a (fun g => w.heap.size + 3 ≤ g) _).mono ?_
        rintro e w1 ⟨k1, a1, b1, c1, d1, A1, n1, cp1, rfl, hC1, hl1⟩
        have B4 := blkL hl1 B4
        have lw := lw.trans hl1
        obtain ⟨u0, u1, u2, u3, u4, u5, f0, f1, f2, f3, f4, f5⟩ := cells6 B4
        clear hl1 B2 B3
        go_wp2_with fail
        refine bodyPost_ret (v := .agg #[.int .i64 k1, .int .u64 a1, .int .u64 b1, .int .u64 c1, .int .u64 d1, .slice A1 n1 cp1]) (by simp [results, Try.results33, go_sem, u0, u1, u2, u3, u4, u5]) rfl ?_
        rw [HR3.out]
        exact RetT.store6 hC1 lw (Nat.lt_succ_self _) (by omega)
      · have HR3 : Hid (R = tOne 98) := by show _ = _; rw [HR1.out]; rfl
        clear HR HR1 HR2
        go_wp2_with (go_at_call 26; (with_reducible refine (pick_at n 3 _ _ (by omega) (by omega) hx).mono ?_); rintro e w1 ⟨rfl, rfl⟩)
        refine (one_b (fun g => w.heap.size + 3 ≤ g) _).mono ?_
        rintro e w1 ⟨k1, a1, b1, c1, d1, A1, n1, cp1, rfl, hC1, hl1⟩
        have B4 := blkL hl1 B4
        have lw := lw.trans hl1
        obtain ⟨u0, u1, u2, u3, u4, u5, f0, f1, f2, f3, f4, f5⟩ := cells6 B4
        clear hl1 B2 B3
        go_wp2_with fail
        refine bodyPost_ret (v := .agg #[.int .i64 k1, .int .u64 a1, .int .u64 b1, .int .u64 c1, .int .u64 d1, .slice A1 n1 cp1]) (by simp [results, Try.results33, go_sem, u0, u1, u2, u3, u4, u5]) rfl ?_
        rw [HR3.out]
        exact RetT.store6 hC1 lw (Nat.lt_succ_self _) (by omega)
      · have HR3 : Hid (R = tOne 99) := by show _ = _; rw [HR1.out]; rfl
        clear HR HR1 HR2
        go_wp2_with (go_at_call 26; (with_reducible refine (pick_at n 3 _ _ (by omega) (by omega) hx).mono ?_); rintro e w1 ⟨rfl, rfl⟩)
        refine (one_c (fun g => w.heap.size + 3 ≤ g) _).mono ?_
        rintro e w1 ⟨k1, a1, b1, c1, d1, A1, n1, cp1, rfl, hC1, hl1⟩
        have B4 := blkL hl1 B4
        have lw := lw.trans hl1
        obtain ⟨u0, u1, u2, u3, u4, u5, f0, f1, f2, f3, f4, f5⟩ := cells6 B4
        clear hl1 B2 B3
        go_wp2_with fail
        refine bodyPost_ret (v := .agg #[.int .i64 k1, .int .u64 a1, .int .u64 b1, .int .u64 c1, .int .u64 d1, .slice A1 n1 cp1]) (by simp [results, Try.results33, go_sem, u0, u1, u2, u3, u4, u5]) rfl ?_
        rw [HR3.out]
        exact RetT.store6 hC1 lw (Nat.lt_succ_self _) (by omega)
    · have HR2 : Hid (R = tOne (abcOf n)) := by show _ = _; rw [HR.out]; unfold reSw; rw [HND.out]; rfl
      obtain ⟨x, hx, hx1⟩ := pick_nat n 3 (by omega)
      have hx2 : x = 0 ∨ x = 1 ∨ x = 2 := by omega
      have HR1 : Hid (R = if x = 0 then tOne 97 else if x = 1 then tOne 98 else tOne 99) := by show _ = _; rw [HR2.out]; exact abc_of hx.out (by omega)
      have c1 := B2.cell 1
      rcases hx2 with rfl | rfl | rfl
      · have HR3 : Hid (R = tOne 97) := by show _ = _; rw [HR1.out]; rfl
        clear HR HR1 HR2
        go_wp2_with (go_at_call 26; (with_reducible refine (pick_at n 3 _ _ (by omega) (by omega) hx).mono ?_); rintro e w1 ⟨rfl, rfl⟩)
        refine (one_a (fun g => w.heap.size + 3 ≤ g) _).mono ?_
        rintro e w1 ⟨k1, a1, b1, c1, d1, A1, n1, cp1, rfl, hC1, hl1⟩
        have B4 := blkL hl1 B4
        have lw := lw.trans hl1
        obtain ⟨u0, u1, u2, u3, u4, u5, f0, f1, f2, f3, f4, f5⟩ := cells6 B4
        clear hl1 B2 B3
        go_wp2_with fail
        refine bodyPost_ret (v := .agg #[.int .i64 k1, .int .u64 a1, .int .u64 b1, .int .u64 c1, .int .u64 d1, .slice A1 n1 cp1]) (by simp [results, Try.results33, go_sem, u0, u1, u2, u3, u4, u5]) rfl ?_
        rw [HR3.out]
        exact RetT.store6 hC1 lw (Nat.lt_succ_self _) (by omega)
      · have HR3 : Hid (R = tOne 98) := by show _ = _; rw [HR1.out]; rfl
        clear HR HR1 HR2
        go_wp2_with (go_at_call 26; (with_reducible refine (pick_at n 3 _ _ (by omega) (by omega) hx).mono ?_); rintro e w1 ⟨rfl, rfl⟩)
        refine (one_b (fun g => w.heap.size + 3 ≤ g) _).mono ?_
        rintro e w1 ⟨k1, a1, b1, c1, d1, A1, n1, cp1, rfl, hC1, hl1⟩
        have B4 := blkL hl1 B4
        have lw := lw.trans hl1
        obtain ⟨u0, u1, u2, u3, u4, u5, f0, f1, f2, f3, f4, f5⟩ := cells6 B4
        clear hl1 B2 B3
        go_wp2_with fail
        refine bodyPost_ret (v := .agg #[.int .i64 k1, .int .u64 a1, .int .u64 b1, .int .u64 c1, .int .u64 d1, .slice A1 n1 cp1]) (by simp [results, Try.results33, go_sem, u0, u1, u2, u3, u4, u5]) rfl ?_
        rw [HR3.out]
        exact RetT.store6 hC1 lw (Nat.lt_succ_self _) (by omega)
      · have HR3 : Hid (R = tOne 99) := by show _ = _; rw [HR1.out]; rfl
        clear HR HR1 HR2
        go_wp2_with (go_at_call 26; (with_reducible refine (pick_at n 3 _ _ (by omega) (by omega) hx).mono ?_); rintro e w1 ⟨rfl, rfl⟩)
        refine (one_c (fun g => w.heap.size + 3 ≤ g) _).mono ?_
        rintro e w1 ⟨k1, a1, b1, c1, d1, A1, n1, cp1, rfl, hC1, hl1⟩
        have B4 := blkL hl1 B4
        have lw := lw.trans hl1
        obtain ⟨u0, u1, u2, u3, u4, u5, f0, f1, f2, f3, f4, f5⟩ := cells6 B4
        clear hl1 B2 B3
        go_wp2_with fail
        refine bodyPost_ret (v := .agg #[.int .i64 k1, .int .u64 a1, .int .u64 b1, .int .u64 c1, .int .u64 d1, .slice A1 n1 cp1]) (by simp [results, Try.results33, go_sem, u0, u1, u2, u3, u4, u5]) rfl ?_
        rw [HR3.out]
        exact RetT.store6 hC1 lw (Nat.lt_succ_self _) (by omega)
    · have HR2 : Hid (R = .node 1 (w4 (hSet n)) []) := by show _ = _; rw [HR.out]; unfold reSw; rw [HND.out]; rfl
      have c1 := B2.cell 1
      obtain ⟨v2, hv2⟩ : ∃ v, v = decide (n % 2 = 0) := ⟨_, rfl⟩
      obtain ⟨v5, hv5⟩ : ∃ v, v = decide (n % 5 = 0) := ⟨_, rfl⟩
      have t2 := tmod2 n
      have t5 := tmod5 n
      rw [← hv2] at t2
      rw [← hv5] at t5
      obtain ⟨hz, hsz⟩ := zero_set
      obtain ⟨mm, hmm⟩ : ∃ mm, mm = hSet n := ⟨_, rfl⟩
      have hb : ∀ b : Nat, (decide (b = 97) || (decide (b = 98) && v2) || v5) = mm b := fun b => by rw [hv2, hv5, hmm]; rfl
      have HB := Lib.hid hb
      have HR3 : Hid (R = .node 1 (w4 mm) []) := by show _ = _; rw [HR2.out, hmm]
      have hpk : ∀ wx : World, Calls Try.prog 22 #[.agg (boolC mm)] wx fun e w' => e = .returned (.agg #[.int .u64 (word mm 0 : Nat), .int .u64 (word mm 1 : Nat), .int .u64 (word mm 2 : Nat), .int .u64 (word mm 3 : Nat)]) ∧ Later wx w' := fun wx => packed_any mm wx
      have HPK := Lib.hid hpk
      clear hb hpk hv2 hv5 hmm HR HR2
      go_wp2_with fail
      go_loopw [8] (fun s8 wr => ∃ kk : Nat, kk ≤ 256 ∧ s8 = .int .i64 (kk : Int) ∧ Blk wr wc.heap.size 36 (boolC (mLow mm kk)) ∧ Blk wr w.heap.size 59 #[.int .i64 k, .int .i64 n, .slice A m cp] ∧ Blk wr (w.heap.size + 2) 49 #[.int .i64 0, .int .u64 0, .int .u64 0, .int .u64 0, .int .u64 0, .slice none 0 0] ∧ Later w wr) (fun s8 _ => 256 - (intOf s8).toNat)
      case atStart => exact ⟨0, by omega, rfl, by rw [boolC_ext (mLow mm 0) mNone (fun b _ => by unfold mLow; rfl)]; exact Blk.new wc _ _, B2.alloc _, B4.alloc _, lw.alloc _⟩
      case round =>
        clear B2 B3 B4 lw c1
        obtain ⟨kk, hkk, rfl, B7, B2, B4, lw⟩ := hrel
        have c1 := B2.cell 1
        by_cases hlt : kk < 256
        · have hlti : (kk : Int) < 256 := by omega
          have hst := Lib.hid (boolC_step mm kk hlt)
          have hbk := HB.out kk
          have c7 : wr.cell? ⟨wc.heap.size, kk, none⟩ = some (.bool (mLow mm kk kk)) := by rw [B7.cell, boolC_get _ hlt]
          have f7 := B7.frozen kk
          have hne2 : w.heap.size ≠ wc.heap.size := by omega
          have hne4 : w.heap.size + 2 ≠ wc.heap.size := by omega
          have hge7 : w.heap.size ≤ wc.heap.size := by omega
          obtain ⟨x97, hx97⟩ : ∃ x, x = decide (kk = 97) := ⟨_, rfl⟩
          obtain ⟨x98, hx98⟩ : ∃ x, x = decide (kk = 98) := ⟨_, rfl⟩
          have e97 : ((kk : Int) == 97) = x97 := by rw [hx97, Bool.eq_iff_iff, beq_iff_eq, decide_eq_true_eq]; omega
          have e98 : ((kk : Int) == 98) = x98 := by rw [hx98, Bool.eq_iff_iff, beq_iff_eq, decide_eq_true_eq]; omega
          rw [← hx97, ← hx98] at hbk
          have HBK := Lib.hid hbk
          clear hbk hx97 hx98
          cases x97
          case true =>
            have hv : Hid (mm kk = true) := by show _ = _; rw [← HBK.out]; rfl
            go_wp2_with fail
            go_roundw
            case rel => exact ⟨kk + 1, by omega, by go_num, by rw [← hst.out, hv.out]; exact B7.set_ kk _, B2.far (p := ⟨wc.heap.size, kk, none⟩) hne2 _, B4.far (p := ⟨wc.heap.size, kk, none⟩) hne4 _, Later.setCell (p := ⟨wc.heap.size, kk, none⟩) lw hge7 _⟩
            case measure => simp [intOf]; omega
          case false =>
            cases x98
            case false =>
              have hv : Hid (mm kk = v5) := by show _ = _; rw [← HBK.out]; simp
              cases v5
              all_goals
                go_wp2_with fail
                go_roundw
                case rel => exact ⟨kk + 1, by omega, by go_num, by rw [← hst.out, hv.out]; exact B7.set_ kk _, B2.far (p := ⟨wc.heap.size, kk, none⟩) hne2 _, B4.far (p := ⟨wc.heap.size, kk, none⟩) hne4 _, Later.setCell (p := ⟨wc.heap.size, kk, none⟩) lw hge7 _⟩
                case measure => simp [intOf]; omega
            case true =>
              have hv : Hid (mm kk = (v2 || v5)) := by show _ = _; rw [← HBK.out]; simp
              cases v2
              all_goals
                cases v5
                all_goals
                  go_wp2_with fail
                  go_roundw
                  case rel => exact ⟨kk + 1, by omega, by go_num, by rw [← hst.out, hv.out]; exact B7.set_ kk _, B2.far (p := ⟨wc.heap.size, kk, none⟩) hne2 _, B4.far (p := ⟨wc.heap.size, kk, none⟩) hne4 _, Later.setCell (p := ⟨wc.heap.size, kk, none⟩) lw hge7 _⟩
                  case measure => simp [intOf]; omega
        · obtain rfl : kk = 256 := by omega
          have he : boolC (mLow mm 256) = boolC mm := boolC_ext _ _ fun b hb => by unfold mLow; rw [decide_eq_true hb, Bool.true_and]
          rw [he] at B7
          clear he
          have R1 : Hid (wr.rangeAt wc.heap.size 0 (boolC mm).toList) := rangeB B7
          go_wp2_with (refine wpList_load_mid (P := Try.prog) rfl 36 (.tmp 7) rfl wc.heap.size 0 rfl (boolC mm).toList _ R1.out Try.underlying36 rfl (sizeB mm) ?_)
          refine (HPK.out _).mono ?_
          rintro e w1 ⟨rfl, hl1⟩
          have B4 := blkL hl1 B4
          have lw := lw.trans hl1
          obtain ⟨u0, u1, u2, u3, u4, u5, f0, f1, f2, f3, f4, f5⟩ := cells6 B4
          clear hl1 B2
          go_wp2_with fail
          refine bodyPost_ret (v := .agg #[.int .i64 1, .int .u64 (word mm 0 : Nat), .int .u64 (word mm 1 : Nat), .int .u64 (word mm 2 : Nat), .int .u64 (word mm 3 : Nat), .slice none 0 0]) (by simp [results, Try.results33, go_sem, u0, u1, u2, u3, u4, u5]) rfl ?_
          rw [HR3.out]
          exact RetT.store6 (ReC.leaf _ _ 1 (w4 mm) none 0) lw (Nat.lt_succ_self _) (by omega)
    · have HR2 : Hid (R = .node (if n % 3 = 0 then 0 else if n % 3 = 1 then 7 else 8) z4 []) := by show _ = _; rw [HR.out]; unfold reSw; rw [HND.out]; rfl
      obtain ⟨x, hx, hx1⟩ := pick_nat n 3 (by omega)
      have hx2 : x = 0 ∨ x = 1 ∨ x = 2 := by omega
      have HR1 : Hid (R = .node (if (x : Int) = 0 then 0 else if (x : Int) = 1 then 7 else 8) z4 []) := by show _ = _; rw [HR2.out, hx.out]
      have c1 := B2.cell 1
      obtain ⟨u0, u1, u2, u3, u4, u5, f0, f1, f2, f3, f4, f5⟩ := cells6 B4
      rcases hx2 with rfl | rfl | rfl
      · have HR3 : Hid (R = .node 0 z4 []) := by show _ = _; rw [HR1.out]; rfl
        have hix : ∀ w, (Instr.index 96 (.agg #[.int .i64 0, .int .i64 7, .int .i64 8]) (.int .i64 0)).run Try.prog w = .ok (.int .i64 0) w := fun _ => rfl
        clear HR HR1 HR2
        go_wp2_with (go_at_call 26; (with_reducible refine (pick_at n 3 _ _ (by omega) (by omega) hx).mono ?_); rintro e w1 ⟨rfl, rfl⟩)
        refine bodyPost_ret (v := .agg #[.int .i64 0, .int .u64 0, .int .u64 0, .int .u64 0, .int .u64 0, .slice none 0 0]) (by simp [results, Try.results33, go_sem, u0, u1, u2, u3, u4, u5]) rfl ?_
        rw [HR3.out]
        exact RetT.store6 (ReC.leaf _ _ 0 z4 none 0) lw (Nat.lt_succ_self _) (by omega)
      · have HR3 : Hid (R = .node 7 z4 []) := by show _ = _; rw [HR1.out]; rfl
        have hix : ∀ w, (Instr.index 96 (.agg #[.int .i64 0, .int .i64 7, .int .i64 8]) (.int .i64 1)).run Try.prog w = .ok (.int .i64 7) w := fun _ => rfl
        clear HR HR1 HR2
        go_wp2_with (go_at_call 26; (with_reducible refine (pick_at n 3 _ _ (by omega) (by omega) hx).mono ?_); rintro e w1 ⟨rfl, rfl⟩)
        refine bodyPost_ret (v := .agg #[.int .i64 7, .int .u64 0, .int .u64 0, .int .u64 0, .int .u64 0, .slice none 0 0]) (by simp [results, Try.results33, go_sem, u0, u1, u2, u3, u4, u5]) rfl ?_
        rw [HR3.out]
        exact RetT.store6 (ReC.leaf _ _ 7 z4 none 0) lw (Nat.lt_succ_self _) (by omega)
      · have HR3 : Hid (R = .node 8 z4 []) := by show _ = _; rw [HR1.out]; rfl
        have hix : ∀ w, (Instr.index 96 (.agg #[.int .i64 0, .int .i64 7, .int .i64 8]) (.int .i64 2)).run Try.prog w = .ok (.int .i64 8) w := fun _ => rfl
        clear HR HR1 HR2
        go_wp2_with (go_at_call 26; (with_reducible refine (pick_at n 3 _ _ (by omega) (by omega) hx).mono ?_); rintro e w1 ⟨rfl, rfl⟩)
        refine bodyPost_ret (v := .agg #[.int .i64 8, .int .u64 0, .int .u64 0, .int .u64 0, .int .u64 0, .slice none 0 0]) (by simp [results, Try.results33, go_sem, u0, u1, u2, u3, u4, u5]) rfl ?_
        rw [HR3.out]
        exact RetT.store6 (ReC.leaf _ _ 8 z4 none 0) lw (Nat.lt_succ_self _) (by omega)
    · have HR2 : Hid (R = tOne (abOf n)) := by show _ = _; rw [HR.out]; unfold reSw; rw [HND.out]; rfl
      obtain ⟨x, hx, hx1⟩ := pick_nat n 2 (by omega)
      have hx2 : x = 0 ∨ x = 1 := by omega
      have HR1 : Hid (R = if x = 0 then tOne 97 else tOne 98) := by show _ = _; rw [HR2.out]; exact ab_of hx.out rfl
      have c1 := B2.cell 1
      rcases hx2 with rfl | rfl
      · have HR3 : Hid (R = tOne 97) := by show _ = _; rw [HR1.out]; rfl
        clear HR HR1 HR2
        go_wp2_with (go_at_call 26; (with_reducible refine (pick_at n 2 _ _ (by omega) (by omega) hx).mono ?_); rintro e w1 ⟨rfl, rfl⟩)
        refine (one_a (fun g => w.heap.size + 3 ≤ g) _).mono ?_
        rintro e w1 ⟨k1, a1, b1, c1, d1, A1, n1, cp1, rfl, hC1, hl1⟩
        have B4 := blkL hl1 B4
        have lw := lw.trans hl1
        obtain ⟨u0, u1, u2, u3, u4, u5, f0, f1, f2, f3, f4, f5⟩ := cells6 B4
        clear hl1 B2 B3
        go_wp2_with fail
        refine bodyPost_ret (v := .agg #[.int .i64 k1, .int .u64 a1, .int .u64 b1, .int .u64 c1, .int .u64 d1, .slice A1 n1 cp1]) (by simp [results, Try.results33, go_sem, u0, u1, u2, u3, u4, u5]) rfl ?_
        rw [HR3.out]
        exact RetT.store6 hC1 lw (Nat.lt_succ_self _) (by omega)
      · have HR3 : Hid (R = tOne 98) := by show _ = _; rw [HR1.out]; rfl
        clear HR HR1 HR2
        go_wp2_with (go_at_call 26; (with_reducible refine (pick_at n 2 _ _ (by omega) (by omega) hx).mono ?_); rintro e w1 ⟨rfl, rfl⟩)
        refine (one_b (fun g => w.heap.size + 3 ≤ g) _).mono ?_
        rintro e w1 ⟨k1, a1, b1, c1, d1, A1, n1, cp1, rfl, hC1, hl1⟩
        have B4 := blkL hl1 B4
        have lw := lw.trans hl1
        obtain ⟨u0, u1, u2, u3, u4, u5, f0, f1, f2, f3, f4, f5⟩ := cells6 B4
        clear hl1 B2 B3
        go_wp2_with fail
        refine bodyPost_ret (v := .agg #[.int .i64 k1, .int .u64 a1, .int .u64 b1, .int .u64 c1, .int .u64 d1, .slice A1 n1 cp1]) (by simp [results, Try.results33, go_sem, u0, u1, u2, u3, u4, u5]) rfl ?_
        rw [HR3.out]
        exact RetT.store6 hC1 lw (Nat.lt_succ_self _) (by omega)
    · have HR2 : Hid (R = .node 2 z4 [reKid f D t 0, reKid f D t 1]) := by show _ = _; rw [HR.out]; rfl
      go_wp2_with fail
      refine (HK.out 0 _ B2 B3 B4 lw).mono ?_
      rintro e w1 ⟨k1, a1, b1, c1, d1, A1, n1, cp1, rfl, hC1, hl1⟩
      have B2 := blkL hl1 B2
      have B3 := blkL hl1 B3
      have B4 := blkL hl1 B4
      have lw := lw.trans hl1
      clear hl1
      go_wp2_with fail
      refine (HK.out 1 _ B2 B3 B4 lw).mono ?_
      rintro e w2 ⟨k2, a2, b2, c2, d2, A2, n2, cp2, rfl, hC2, hl1⟩
      have hC1 := hC1.later hl1
      have B4 := blkL hl1 B4
      have lw := lw.trans hl1
      clear hl1
      have hup : Up w2 (fun g => w.heap.size + 3 ≤ g) := fun g hg => by have := B4.lt; show w.heap.size + 3 ≤ g; omega
      have hR2 := ReC.two 2 hC1 hC2 hup
      have B4 := B4.alloc (.cells #[.int .i64 k1, .int .u64 a1, .int .u64 b1, .int .u64 c1, .int .u64 d1, .slice A1 n1 cp1, .int .i64 k2, .int .u64 a2, .int .u64 b2, .int .u64 c2, .int .u64 d2, .slice A2 n2 cp2] 49)
      have lw := lw.alloc (.cells #[.int .i64 k1, .int .u64 a1, .int .u64 b1, .int .u64 c1, .int .u64 d1, .slice A1 n1 cp1, .int .i64 k2, .int .u64 a2, .int .u64 b2, .int .u64 c2, .int .u64 d2, .slice A2 n2 cp2] 49)
      obtain ⟨g, hg⟩ : ∃ g, g = w2.heap.size := ⟨_, rfl⟩
      rw [← hg] at hR2
      obtain ⟨u0, u1, u2, u3, u4, u5, f0, f1, f2, f3, f4, f5⟩ := cells6 B4
      have HG := Lib.hid hg
      clear hg hC1 hC2 hup B2 B3
      go_wp2_with fail
      rw [← HG.out]
      refine bodyPost_ret (v := .agg #[.int .i64 2, .int .u64 0, .int .u64 0, .int .u64 0, .int .u64 0, .slice (some ⟨g, 0, none⟩) 2 2]) (by simp [results, Try.results33, go_sem, u0, u1, u2, u3, u4, u5]) rfl ?_
      rw [HR2.out]
      exact RetT.store6 hR2 lw (Nat.lt_succ_self _) (by omega)
    · have HR2 : Hid (R = .node 2 z4 [reKid f D t 0, reKid f D t 1]) := by show _ = _; rw [HR.out]; rfl
      go_wp2_with fail
      refine (HK.out 0 _ B2 B3 B4 lw).mono ?_
      rintro e w1 ⟨k1, a1, b1, c1, d1, A1, n1, cp1, rfl, hC1, hl1⟩
      have B2 := blkL hl1 B2
      have B3 := blkL hl1 B3
      have B4 := blkL hl1 B4
      have lw := lw.trans hl1
      clear hl1
      go_wp2_with fail
      refine (HK.out 1 _ B2 B3 B4 lw).mono ?_
      rintro e w2 ⟨k2, a2, b2, c2, d2, A2, n2, cp2, rfl, hC2, hl1⟩
      have hC1 := hC1.later hl1
      have B4 := blkL hl1 B4
      have lw := lw.trans hl1
      clear hl1
      have hup : Up w2 (fun g => w.heap.size + 3 ≤ g) := fun g hg => by have := B4.lt; show w.heap.size + 3 ≤ g; omega
      have hR2 := ReC.two 2 hC1 hC2 hup
      have B4 := B4.alloc (.cells #[.int .i64 k1, .int .u64 a1, .int .u64 b1, .int .u64 c1, .int .u64 d1, .slice A1 n1 cp1, .int .i64 k2, .int .u64 a2, .int .u64 b2, .int .u64 c2, .int .u64 d2, .slice A2 n2 cp2] 49)
      have lw := lw.alloc (.cells #[.int .i64 k1, .int .u64 a1, .int .u64 b1, .int .u64 c1, .int .u64 d1, .slice A1 n1 cp1, .int .i64 k2, .int .u64 a2, .int .u64 b2, .int .u64 c2, .int .u64 d2, .slice A2 n2 cp2] 49)
      obtain ⟨g, hg⟩ : ∃ g, g = w2.heap.size := ⟨_, rfl⟩
      rw [← hg] at hR2
      obtain ⟨u0, u1, u2, u3, u4, u5, f0, f1, f2, f3, f4, f5⟩ := cells6 B4
      have HG := Lib.hid hg
      clear hg hC1 hC2 hup B2 B3
      go_wp2_with fail
      rw [← HG.out]
      refine bodyPost_ret (v := .agg #[.int .i64 2, .int .u64 0, .int .u64 0, .int .u64 0, .int .u64 0, .slice (some ⟨g, 0, none⟩) 2 2]) (by simp [results, Try.results33, go_sem, u0, u1, u2, u3, u4, u5]) rfl ?_
      rw [HR2.out]
      exact RetT.store6 hR2 lw (Nat.lt_succ_self _) (by omega)
    · have HR2 : Hid (R = .node 3 z4 [reKid f D t 0, reKid f D t 1]) := by show _ = _; rw [HR.out]; rfl
      go_wp2_with fail
      refine (HK.out 0 _ B2 B3 B4 lw).mono ?_
      rintro e w1 ⟨k1, a1, b1, c1, d1, A1, n1, cp1, rfl, hC1, hl1⟩
      have B2 := blkL hl1 B2
      have B3 := blkL hl1 B3
      have B4 := blkL hl1 B4
      have lw := lw.trans hl1
      clear hl1
      go_wp2_with fail
      refine (HK.out 1 _ B2 B3 B4 lw).mono ?_
      rintro e w2 ⟨k2, a2, b2, c2, d2, A2, n2, cp2, rfl, hC2, hl1⟩
      have hC1 := hC1.later hl1
      have B4 := blkL hl1 B4
      have lw := lw.trans hl1
      clear hl1
      have hup : Up w2 (fun g => w.heap.size + 3 ≤ g) := fun g hg => by have := B4.lt; show w.heap.size + 3 ≤ g; omega
      have hR2 := ReC.two 3 hC1 hC2 hup
      have B4 := B4.alloc (.cells #[.int .i64 k1, .int .u64 a1, .int .u64 b1, .int .u64 c1, .int .u64 d1, .slice A1 n1 cp1, .int .i64 k2, .int .u64 a2, .int .u64 b2, .int .u64 c2, .int .u64 d2, .slice A2 n2 cp2] 49)
      have lw := lw.alloc (.cells #[.int .i64 k1, .int .u64 a1, .int .u64 b1, .int .u64 c1, .int .u64 d1, .slice A1 n1 cp1, .int .i64 k2, .int .u64 a2, .int .u64 b2, .int .u64 c2, .int .u64 d2, .slice A2 n2 cp2] 49)
      obtain ⟨g, hg⟩ : ∃ g, g = w2.heap.size := ⟨_, rfl⟩
      rw [← hg] at hR2
      obtain ⟨u0, u1, u2, u3, u4, u5, f0, f1, f2, f3, f4, f5⟩ := cells6 B4
      have HG := Lib.hid hg
      clear hg hC1 hC2 hup B2 B3
      go_wp2_with fail
      rw [← HG.out]
      refine bodyPost_ret (v := .agg #[.int .i64 3, .int .u64 0, .int .u64 0, .int .u64 0, .int .u64 0, .slice (some ⟨g, 0, none⟩) 2 2]) (by simp [results, Try.results33, go_sem, u0, u1, u2, u3, u4, u5]) rfl ?_
      rw [HR2.out]
      exact RetT.store6 hR2 lw (Nat.lt_succ_self _) (by omega)
    · have HR2 : Hid (R = .node 3 z4 [reKid f D t 0, reKid f D t 1]) := by show _ = _; rw [HR.out]; rfl
      go_wp2_with fail
      refine (HK.out 0 _ B2 B3 B4 lw).mono ?_
      rintro e w1 ⟨k1, a1, b1, c1, d1, A1, n1, cp1, rfl, hC1, hl1⟩
      have B2 := blkL hl1 B2
      have B3 := blkL hl1 B3
      have B4 := blkL hl1 B4
      have lw := lw.trans hl1
      clear hl1
      go_wp2_with fail
      refine (HK.out 1 _ B2 B3 B4 lw).mono ?_
      rintro e w2 ⟨k2, a2, b2, c2, d2, A2, n2, cp2, rfl, hC2, hl1⟩
      have hC1 := hC1.later hl1
      have B4 := blkL hl1 B4
      have lw := lw.trans hl1
      clear hl1
      have hup : Up w2 (fun g => w.heap.size + 3 ≤ g) := fun g hg => by have := B4.lt; show w.heap.size + 3 ≤ g; omega
      have hR2 := ReC.two 3 hC1 hC2 hup
      have B4 := B4.alloc (.cells #[.int .i64 k1, .int .u64 a1, .int .u64 b1, .int .u64 c1, .int .u64 d1, .slice A1 n1 cp1, .int .i64 k2, .int .u64 a2, .int .u64 b2, .int .u64 c2, .int .u64 d2, .slice A2 n2 cp2] 49)
      have lw := lw.alloc (.cells #[.int .i64 k1, .int .u64 a1, .int .u64 b1, .int .u64 c1, .int .u64 d1, .slice A1 n1 cp1, .int .i64 k2, .int .u64 a2, .int .u64 b2, .int .u64 c2, .int .u64 d2, .slice A2 n2 cp2] 49)
      obtain ⟨g, hg⟩ : ∃ g, g = w2.heap.size := ⟨_, rfl⟩
      rw [← hg] at hR2
      obtain ⟨u0, u1, u2, u3, u4, u5, f0, f1, f2, f3, f4, f5⟩ := cells6 B4
      have HG := Lib.hid hg
      clear hg hC1 hC2 hup B2 B3
      go_wp2_with fail
      rw [← HG.out]
      refine bodyPost_ret (v := .agg #[.int .i64 3, .int .u64 0, .int .u64 0, .int .u64 0, .int .u64 0, .slice (some ⟨g, 0, none⟩) 2 2]) (by simp [results, Try.results33, go_sem, u0, u1, u2, u3, u4, u5]) rfl ?_
      rw [HR2.out]
      exact RetT.store6 hR2 lw (Nat.lt_succ_self _) (by omega)
    · have HR2 : Hid (R = .node 4 z4 [reKid f D t 0]) := by show _ = _; rw [HR.out]; rfl
      go_wp2_with fail
      refine (HK.out 0 _ B2 B3 B4 lw).mono ?_
      rintro e w1 ⟨k1, a1, b1, c1, d1, A1, n1, cp1, rfl, hC1, hl1⟩
      have B2 := blkL hl1 B2
      have B3 := blkL hl1 B3
      have B4 := blkL hl1 B4
      have lw := lw.trans hl1
      clear hl1
      have hup : Up w1 (fun g => w.heap.size + 3 ≤ g) := fun g hg => by have := B4.lt; show w.heap.size + 3 ≤ g; omega
      have hR2 := ReC.one 4 hC1 hup
      have B4 := B4.alloc (.cells #[.int .i64 k1, .int .u64 a1, .int .u64 b1, .int .u64 c1, .int .u64 d1, .slice A1 n1 cp1] 49)
      have lw := lw.alloc (.cells #[.int .i64 k1, .int .u64 a1, .int .u64 b1, .int .u64 c1, .int .u64 d1, .slice A1 n1 cp1] 49)
      obtain ⟨g, hg⟩ : ∃ g, g = w1.heap.size := ⟨_, rfl⟩
      rw [← hg] at hR2
      obtain ⟨u0, u1, u2, u3, u4, u5, f0, f1, f2, f3, f4, f5⟩ := cells6 B4
      have HG := Lib.hid hg
      clear hg hC1 hup B2 B3
      go_wp2_with fail
      rw [← HG.out]
      refine bodyPost_ret (v := .agg #[.int .i64 4, .int .u64 0, .int .u64 0, .int .u64 0, .int .u64 0, .slice (some ⟨g, 0, none⟩) 1 1]) (by simp [results, Try.results33, go_sem, u0, u1, u2, u3, u4, u5]) rfl ?_
      rw [HR2.out]
      exact RetT.store6 hR2 lw (Nat.lt_succ_self _) (by omega)
    · have HR2 : Hid (R = .node 5 z4 [reKid f D t 0]) := by show _ = _; rw [HR.out]; rfl
      go_wp2_with fail
      refine (HK.out 0 _ B2 B3 B4 lw).mono ?_
      rintro e w1 ⟨k1, a1, b1, c1, d1, A1, n1, cp1, rfl, hC1, hl1⟩
      have B2 := blkL hl1 B2
      have B3 := blkL hl1 B3
      have B4 := blkL hl1 B4
      have lw := lw.trans hl1
      clear hl1
      have hup : Up w1 (fun g => w.heap.size + 3 ≤ g) := fun g hg => by have := B4.lt; show w.heap.size + 3 ≤ g; omega
      have hR2 := ReC.one 5 hC1 hup
      have B4 := B4.alloc (.cells #[.int .i64 k1, .int .u64 a1, .int .u64 b1, .int .u64 c1, .int .u64 d1, .slice A1 n1 cp1] 49)
      have lw := lw.alloc (.cells #[.int .i64 k1, .int .u64 a1, .int .u64 b1, .int .u64 c1, .int .u64 d1, .slice A1 n1 cp1] 49)
      obtain ⟨g, hg⟩ : ∃ g, g = w1.heap.size := ⟨_, rfl⟩
      rw [← hg] at hR2
      obtain ⟨u0, u1, u2, u3, u4, u5, f0, f1, f2, f3, f4, f5⟩ := cells6 B4
      have HG := Lib.hid hg
      clear hg hC1 hup B2 B3
      go_wp2_with fail
      rw [← HG.out]
      refine bodyPost_ret (v := .agg #[.int .i64 5, .int .u64 0, .int .u64 0, .int .u64 0, .int .u64 0, .slice (some ⟨g, 0, none⟩) 1 1]) (by simp [results, Try.results33, go_sem, u0, u1, u2, u3, u4, u5]) rfl ?_
      rw [HR2.out]
      exact RetT.store6 hR2 lw (Nat.lt_succ_self _) (by omega)
    · have HR2 : Hid (R = .node 6 z4 [reKid f D t 0]) := by show _ = _; rw [HR.out]; rfl
      go_wp2_with fail
      refine (HK.out 0 _ B2 B3 B4 lw).mono ?_
      rintro e w1 ⟨k1, a1, b1, c1, d1, A1, n1, cp1, rfl, hC1, hl1⟩
      have B2 := blkL hl1 B2
      have B3 := blkL hl1 B3
      have B4 := blkL hl1 B4
      have lw := lw.trans hl1
      clear hl1
      have hup : Up w1 (fun g => w.heap.size + 3 ≤ g) := fun g hg => by have := B4.lt; show w.heap.size + 3 ≤ g; omega
      have hR2 := ReC.one 6 hC1 hup
      have B4 := B4.alloc (.cells #[.int .i64 k1, .int .u64 a1, .int .u64 b1, .int .u64 c1, .int .u64 d1, .slice A1 n1 cp1] 49)
      have lw := lw.alloc (.cells #[.int .i64 k1, .int .u64 a1, .int .u64 b1, .int .u64 c1, .int .u64 d1, .slice A1 n1 cp1] 49)
      obtain ⟨g, hg⟩ : ∃ g, g = w1.heap.size := ⟨_, rfl⟩
      rw [← hg] at hR2
      obtain ⟨u0, u1, u2, u3, u4, u5, f0, f1, f2, f3, f4, f5⟩ := cells6 B4
      have HG := Lib.hid hg
      clear hg hC1 hup B2 B3
      go_wp2_with fail
      rw [← HG.out]
      refine bodyPost_ret (v := .agg #[.int .i64 6, .int .u64 0, .int .u64 0, .int .u64 0, .int .u64 0, .slice (some ⟨g, 0, none⟩) 1 1]) (by simp [results, Try.results33, go_sem, u0, u1, u2, u3, u4, u5]) rfl ?_
      rw [HR2.out]
      exact RetT.store6 hR2 lw (Nat.lt_succ_self _) (by omega)

theorem hre_any : ∀ (D : Nat) (M : Nat) (_hD : D ≤ 100), ReAt (reF D) M (D : Int)
  | 0, M, _ => fun t k n A m cp w hC => reStep_any (fun _ => tEmpty) M 0 (fun h => absurd h (by omega)) (by omega) t k n A m cp w hC
  | D + 1, M, hD => fun t k n A m cp w hC => reStep_any (reF D) M (D + 1) (fun _ => by
      have h := hre_any D M (by omega)
      rw [show ((D + 1 : Nat) : Int) - 1 = (D : Int) by omega]
      exact h) hD t k n A m cp w hC

end Go.Proofs.Ythmjnelnnhidkaa
