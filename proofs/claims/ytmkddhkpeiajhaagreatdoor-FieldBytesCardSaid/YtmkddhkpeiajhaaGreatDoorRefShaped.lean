import Derived.Test.YtmkddhkpeiajhaaGreatDoorLeaf
import Derived.Test.YtmkddhkpeiajhaaGreatDoorParser
namespace Go.Proofs.YtmkddhkpeiajhaaGreatDoor
open Go.RowKit
theorem refKids_any (k : Int) (w : World) : Calls Tryz.prog 105 #[.int .i64 k] w fun e w' => e = .returned (.int .i64 (kidsOf k)) ∧ w = w' := by
  have h : k = 0 ∨ k = 1 ∨ k = 2 ∨ k = 3 ∨ k = 4 ∨ k = 5 ∨ k = 6 ∨ k = 7 ∨ k = 8 ∨ (k < 0 ∨ 8 < k) := by omega
  rcases h with rfl | rfl | rfl | rfl | rfl | rfl | rfl | rfl | rfl | h
  case inr.inr.inr.inr.inr.inr.inr.inr.inr =>
    have e : kidsOf k = -1 := by unfold kidsOf; rw [if_neg (by omega), if_neg (by omega), if_neg (by omega)]
    rw [e]
    have h0 : (k == 0) = false := by rw [beq_eq_false_iff_ne]; omega
    have h1 : (k == 1) = false := by rw [beq_eq_false_iff_ne]; omega
    have h2 : (k == 2) = false := by rw [beq_eq_false_iff_ne]; omega
    have h3 : (k == 3) = false := by rw [beq_eq_false_iff_ne]; omega
    have h4 : (k == 4) = false := by rw [beq_eq_false_iff_ne]; omega
    have h5 : (k == 5) = false := by rw [beq_eq_false_iff_ne]; omega
    have h6 : (k == 6) = false := by rw [beq_eq_false_iff_ne]; omega
    have h7 : (k == 7) = false := by rw [beq_eq_false_iff_ne]; omega
    have h8 : (k == 8) = false := by rw [beq_eq_false_iff_ne]; omega
    clear e h
    go_enter Tryz.func105, Tryz.ntmps105
    go_wp2_with fail
    go_ret
    exact ⟨rfl, rfl⟩
  all_goals
    go_enter Tryz.func105, Tryz.ntmps105
    go_wp2_with fail
    go_ret
    exact ⟨rfl, rfl⟩
theorem thin_kid {k : Int} {s : W4} {ks : List Tree} (h : thinT (.node k s ks)) {t : Tree} (ht : t ∈ ks) : thinT t := by
  unfold thinT at h
  exact thinL_get h.2 ht
theorem shapedRL_drop {ks : List Tree} {j : Nat} {t : Tree} (h : ks[j]? = some t) : shapedRL (ks.drop j) = (shapedR t && shapedRL (ks.drop (j + 1))) := by
  rw [drop_at h, shapedRL]
theorem deepRL_drop {ks : List Tree} {j : Nat} {t : Tree} (k : Int) (n : Nat) (h : ks[j]? = some t) : deepRL (ks.drop j) k n j = (deepR t (if j = 1 ∧ (k = 2 ∨ k = 3) then n else n - 1) && deepRL (ks.drop (j + 1)) k n (j + 1)) := by
  rw [drop_at h, deepRL]
theorem setsRL_drop {ks : List Tree} {j : Nat} {t : Tree} (h : ks[j]? = some t) : setsRL (ks.drop j) = setsR t + setsRL (ks.drop (j + 1)) := by
  rw [drop_at h, setsRL]
set_option maxHeartbeats 8000000 in
theorem refShaped_any : ∀ (fuel : Nat) (t : Tree) (lo : Nat → Prop) (k a b c d : Int) (A : Option Addr) (n cp : Nat) (w : World), SizeOf.sizeOf t ≤ fuel → ReC w lo t ⟨k, a, b, c, d, A, n, cp⟩ →
    Calls Tryz.prog 90 #[.agg #[.int .i64 k, .int .u64 a, .int .u64 b, .int .u64 c, .int .u64 d, .slice A n cp]] w fun e w' => e = .returned (.bool (shapedR t)) ∧ Later w w' := by
  intro fuel
  induction fuel with
  | zero => intro t lo k a b c d A n cp  w hf; cases t; simp at hf
  | succ fuel ih =>
    intro t lo k a b c d A n cp  w hf  hC
    obtain ⟨k', s, ks⟩ := t
    unfold ReC at hC
    obtain ⟨hk, hset, hn, hcp, xs, hL, hKs⟩ := hC
    obtain rfl : k = k' := hk
    obtain ⟨v, hv, keq⟩ := set_zero s a b c d hset
    simp only at hn hL hcp
    have hR : shapedR (.node k s ks) = (decide (kidsOf k = (ks.length : Int)) && (decide (k = 1) || decide (s = z4)) && shapedRL ks) := by rw [shapedR]
    obtain ⟨R, hRe⟩ : ∃ R, R = shapedR (.node k s ks) := ⟨_, rfl⟩
    rw [← hRe] at hR ⊢
    have hkl : ∀ t ∈ ks, SizeOf.sizeOf t ≤ fuel := fun t ht => by
      have := List.sizeOf_lt_of_mem ht
      simp at hf
      omega
    have HKL := Lib.hid hkl
    have HR : Hid (R = _) := Lib.hid hR
    have HN := Lib.hid hn
    have HV := Lib.hid hv
    have HL := Lib.hid hL
    have HK := Lib.hid hKs
    clear hRe hkl hf hR hn hset hv hL hKs hcp
    by_cases hkn : kidsOf k = (n : Int)
    · have hn2 := kids_two hkn
      have HKD : Hid (∀ w, Calls Tryz.prog 105 #[.int .i64 k] w fun e w' => e = .returned (.int .i64 (n : Int)) ∧ Later w w') := fun w => (refKids_any k w).mono fun e w' h => ⟨by rw [h.1, hkn], by rw [← h.2]; exact Later.refl w⟩
      have HKN := Lib.hid hkn
      have e8 : ((n : Int) == (n : Int)) = true := beq_self_eq_true _
      have e9 : ((n : Int) != (n : Int)) = false := by rw [bne, e8]; rfl
      clear hkn
      by_cases hk1 : k = 1
      · subst hk1
        have HR2 : Hid (R = shapedRL ks) := by
          show _ = _
          rw [HR.out, decide_eq_true (by rw [HN.out]; exact HKN.out), decide_eq_true rfl, Bool.true_or, Bool.true_and, Bool.true_and]
        clear keq
        go_enter Tryz.func90, Tryz.ntmps90
        go_upto_region 1 with fail
        obtain ⟨W0, hW0⟩ : ∃ W0, W0 = w.alloc (.cells #[.int .i64 1, .int .u64 a, .int .u64 b, .int .u64 c, .int .u64 d, .slice A n cp] 98) := ⟨_, rfl⟩
        have B0 : Blk W0 w.heap.size 98 #[.int .i64 1, .int .u64 a, .int .u64 b, .int .u64 c, .int .u64 d, .slice A n cp] := by rw [hW0]; exact Blk.new w _ _
        have hl0 : Later w W0 := by rw [hW0]; exact (Later.refl w).alloc _
        rw [← hW0]
        clear hW0
        have q0 : ∀ x : LW W0, x.val.cell? ⟨w.heap.size, 0, none⟩ = some (.int .i64 1) := LW.cell_ (B0.cell 0)
        have q1 : ∀ x : LW W0, x.val.cell? ⟨w.heap.size, 1, none⟩ = some (.int .u64 a) := LW.cell_ (B0.cell 1)
        have q2 : ∀ x : LW W0, x.val.cell? ⟨w.heap.size, 2, none⟩ = some (.int .u64 b) := LW.cell_ (B0.cell 2)
        have q3 : ∀ x : LW W0, x.val.cell? ⟨w.heap.size, 3, none⟩ = some (.int .u64 c) := LW.cell_ (B0.cell 3)
        have q4 : ∀ x : LW W0, x.val.cell? ⟨w.heap.size, 4, none⟩ = some (.int .u64 d) := LW.cell_ (B0.cell 4)
        have q5 : ∀ x : LW W0, x.val.cell? ⟨w.heap.size, 5, none⟩ = some (.slice A n cp) := LW.cell_ (B0.cell 5)
        refine wp_region_laterq (by kernel_rfl) (by kernel_rfl) ?_
        repeat (go_big_quiet_step (((go_at_call 105; (with_reducible refine Calls.laterq (HKD.out _))))))
        refine wpQuiet_nil ?_
        intro _ hwq
        obtain ⟨xz, rfl⟩ := hwq
        have hlz := hl0.trans xz.later
        have B1 := blkL xz.later B0
        clear q0 q1 q2 q3 q4 q5 B0 hl0
        obtain ⟨W1, hW1⟩ : ∃ W1, W1 = xz.val := ⟨_, rfl⟩
        rw [← hW1] at hlz B1 ⊢
        clear hW1
        clear xz
        go_wp2_with fail
        go_loopw [3] (fun v3 wr => ∃ j : Nat, j ≤ n ∧ v3 = .int .i64 (j : Int) ∧ Hid (shapedRL (ks.drop j) = R) ∧ Blk wr w.heap.size 98 #[.int .i64 1, .int .u64 a, .int .u64 b, .int .u64 c, .int .u64 d, .slice A n cp] ∧ Later w wr) (fun v3 _ => n - (intOf v3).toNat)
        case atStart => exact ⟨0, Nat.zero_le _, rfl, by rw [List.drop_zero]; exact HR2.out.symm, B1, hlz⟩
        case round =>
          clear B1 hlz
          obtain ⟨j, hj, rfl, HS, B1, hl⟩ := hrel
          have c5 := B1.cell 5
          by_cases hlt : j < n
          · have hlti : (j : Int) < (n : Int) := by omega
            obtain ⟨tj, htj⟩ : ∃ tj, ks[j]? = some tj := ⟨_, List.getElem?_eq_getElem (by rw [HN.out]; exact hlt)⟩
            obtain ⟨x, hx, hCx⟩ := HK.out.get j tj htj
            obtain ⟨jk, ja, jb, jc, jd, jA, jn, jp⟩ := x
            obtain ⟨p0, off, hA, e0, e1, e2, e3, e4, e5⟩ := (HL.out.fr (Fr.laterF hl) (spares_false _ _)).six hlt hx
            obtain ⟨v, hv⟩ : ∃ v, v = shapedR tj := ⟨_, rfl⟩
            have hih : ∀ wx, Later wr wx → Calls Tryz.prog 90 #[.agg #[.int .i64 jk, .int .u64 ja, .int .u64 jb, .int .u64 jc, .int .u64 jd, .slice jA jn jp]] wx fun e w' => e = .returned (.bool v) ∧ Later wx w' := fun wx hwx => by
              rw [hv]
              exact ih tj lo jk ja jb jc jd jA jn jp wx (HKL.out tj (List.mem_of_getElem? htj)) (hCx.later (hl.trans hwx))
            have hst := shapedRL_drop htj
            rw [HS.out, ← hv] at hst
            have HST := Lib.hid hst
            have HIH := Lib.hid hih
            subst hA
            clear hih hCx htj hx hv hst HS
            cases v with
            | false =>
              go_wp2_with fail
              refine (HIH.out _ (Later.refl _)).mono ?_
              rintro e w1 ⟨rfl, hl1⟩
              go_wp2_with fail
              go_ret
              exact ⟨by rw [HST.out]; rfl, hl.trans hl1⟩
            | true =>
              go_wp2_with fail
              refine (HIH.out _ (Later.refl _)).mono ?_
              rintro e w1 ⟨rfl, hl1⟩
              have D1 := blkL hl1 B1
              have hl2 := hl.trans hl1
              clear c5 e0 e1 e2 e3 e4 e5 B1 hl1
              go_wp2_with fail
              go_roundw
              case rel => exact ⟨j + 1, by omega, by go_num, by show _ = _; rw [HST.out, Bool.true_and], D1, hl2⟩
              case measure => simp [intOf]; omega
          · obtain rfl : n = j := by omega
            have HE : Hid (R = true) := by
              show _ = _
              have := HS.out
              rw [List.drop_of_length_le (by rw [HN.out]; exact Nat.le_refl _), shapedRL] at this
              exact this.symm
            clear HS
            go_wp2_with fail
            go_ret
            exact ⟨by rw [HE.out]; rfl, hl⟩
      · have hk2 : (k == 1) = false := by rw [beq_eq_false_iff_ne]; exact hk1
        have hk3 : (k != 1) = true := by rw [bne, hk2]; rfl
        cases v with
        | true =>
          have HR2 : Hid (R = shapedRL ks) := by
            show _ = _
            rw [HR.out, decide_eq_true (by rw [HN.out]; exact HKN.out), decide_eq_true (HV.out.1 rfl), Bool.or_true, Bool.true_and, Bool.true_and]
          clear hk1
          go_enter Tryz.func90, Tryz.ntmps90
          go_upto_region 1 with fail
          obtain ⟨W0, hW0⟩ : ∃ W0, W0 = w.alloc (.cells #[.int .i64 k, .int .u64 a, .int .u64 b, .int .u64 c, .int .u64 d, .slice A n cp] 98) := ⟨_, rfl⟩
          have B0 : Blk W0 w.heap.size 98 #[.int .i64 k, .int .u64 a, .int .u64 b, .int .u64 c, .int .u64 d, .slice A n cp] := by rw [hW0]; exact Blk.new w _ _
          have hl0 : Later w W0 := by rw [hW0]; exact (Later.refl w).alloc _
          rw [← hW0]
          clear hW0
          have q0 : ∀ x : LW W0, x.val.cell? ⟨w.heap.size, 0, none⟩ = some (.int .i64 k) := LW.cell_ (B0.cell 0)
          have q1 : ∀ x : LW W0, x.val.cell? ⟨w.heap.size, 1, none⟩ = some (.int .u64 a) := LW.cell_ (B0.cell 1)
          have q2 : ∀ x : LW W0, x.val.cell? ⟨w.heap.size, 2, none⟩ = some (.int .u64 b) := LW.cell_ (B0.cell 2)
          have q3 : ∀ x : LW W0, x.val.cell? ⟨w.heap.size, 3, none⟩ = some (.int .u64 c) := LW.cell_ (B0.cell 3)
          have q4 : ∀ x : LW W0, x.val.cell? ⟨w.heap.size, 4, none⟩ = some (.int .u64 d) := LW.cell_ (B0.cell 4)
          have q5 : ∀ x : LW W0, x.val.cell? ⟨w.heap.size, 5, none⟩ = some (.slice A n cp) := LW.cell_ (B0.cell 5)
          refine wp_region_laterq (by kernel_rfl) (by kernel_rfl) ?_
          repeat (go_big_quiet_step (((go_at_call 105; (with_reducible refine Calls.laterq (HKD.out _))))))
          refine wpQuiet_nil ?_
          intro _ hwq
          obtain ⟨xz, rfl⟩ := hwq
          have hlz := hl0.trans xz.later
          have B1 := blkL xz.later B0
          clear q0 q1 q2 q3 q4 q5 B0 hl0
          clear keq
          obtain ⟨W1, hW1⟩ : ∃ W1, W1 = xz.val := ⟨_, rfl⟩
          rw [← hW1] at hlz B1 ⊢
          clear hW1
          clear xz
          go_wp2_with fail
          go_loopw [3] (fun v3 wr => ∃ j : Nat, j ≤ n ∧ v3 = .int .i64 (j : Int) ∧ Hid (shapedRL (ks.drop j) = R) ∧ Blk wr w.heap.size 98 #[.int .i64 k, .int .u64 a, .int .u64 b, .int .u64 c, .int .u64 d, .slice A n cp] ∧ Later w wr) (fun v3 _ => n - (intOf v3).toNat)
          case atStart => exact ⟨0, Nat.zero_le _, rfl, by rw [List.drop_zero]; exact HR2.out.symm, B1, hlz⟩
          case round =>
            clear B1 hlz
            obtain ⟨j, hj, rfl, HS, B1, hl⟩ := hrel
            have c5 := B1.cell 5
            by_cases hlt : j < n
            · have hlti : (j : Int) < (n : Int) := by omega
              obtain ⟨tj, htj⟩ : ∃ tj, ks[j]? = some tj := ⟨_, List.getElem?_eq_getElem (by rw [HN.out]; exact hlt)⟩
              obtain ⟨x, hx, hCx⟩ := HK.out.get j tj htj
              obtain ⟨jk, ja, jb, jc, jd, jA, jn, jp⟩ := x
              obtain ⟨p0, off, hA, e0, e1, e2, e3, e4, e5⟩ := (HL.out.fr (Fr.laterF hl) (spares_false _ _)).six hlt hx
              obtain ⟨v, hv⟩ : ∃ v, v = shapedR tj := ⟨_, rfl⟩
              have hih : ∀ wx, Later wr wx → Calls Tryz.prog 90 #[.agg #[.int .i64 jk, .int .u64 ja, .int .u64 jb, .int .u64 jc, .int .u64 jd, .slice jA jn jp]] wx fun e w' => e = .returned (.bool v) ∧ Later wx w' := fun wx hwx => by
                rw [hv]
                exact ih tj lo jk ja jb jc jd jA jn jp wx (HKL.out tj (List.mem_of_getElem? htj)) (hCx.later (hl.trans hwx))
              have hst := shapedRL_drop htj
              rw [HS.out, ← hv] at hst
              have HST := Lib.hid hst
              have HIH := Lib.hid hih
              subst hA
              clear hih hCx htj hx hv hst HS
              cases v with
              | false =>
                go_wp2_with fail
                refine (HIH.out _ (Later.refl _)).mono ?_
                rintro e w1 ⟨rfl, hl1⟩
                go_wp2_with fail
                go_ret
                exact ⟨by rw [HST.out]; rfl, hl.trans hl1⟩
              | true =>
                go_wp2_with fail
                refine (HIH.out _ (Later.refl _)).mono ?_
                rintro e w1 ⟨rfl, hl1⟩
                have D1 := blkL hl1 B1
                have hl2 := hl.trans hl1
                clear c5 e0 e1 e2 e3 e4 e5 B1 hl1
                go_wp2_with fail
                go_roundw
                case rel => exact ⟨j + 1, by omega, by go_num, by show _ = _; rw [HST.out, Bool.true_and], D1, hl2⟩
                case measure => simp [intOf]; omega
            · obtain rfl : n = j := by omega
              have HE : Hid (R = true) := by
                show _ = _
                have := HS.out
                rw [List.drop_of_length_le (by rw [HN.out]; exact Nat.le_refl _), shapedRL] at this
                exact this.symm
              clear HS
              go_wp2_with fail
              go_ret
              exact ⟨by rw [HE.out]; rfl, hl⟩
        | false =>
          have HR2 : Hid (R = false) := by
            show _ = _
            have hs : ¬ s = z4 := fun e => by have := HV.out.2 e; cases this
            rw [HR.out, decide_eq_false hk1, decide_eq_false hs]
            simp
          clear hk1
          go_enter Tryz.func90, Tryz.ntmps90
          go_upto_region 1 with fail
          obtain ⟨W0, hW0⟩ : ∃ W0, W0 = w.alloc (.cells #[.int .i64 k, .int .u64 a, .int .u64 b, .int .u64 c, .int .u64 d, .slice A n cp] 98) := ⟨_, rfl⟩
          have B0 : Blk W0 w.heap.size 98 #[.int .i64 k, .int .u64 a, .int .u64 b, .int .u64 c, .int .u64 d, .slice A n cp] := by rw [hW0]; exact Blk.new w _ _
          have hl0 : Later w W0 := by rw [hW0]; exact (Later.refl w).alloc _
          rw [← hW0]
          clear hW0
          have q0 : ∀ x : LW W0, x.val.cell? ⟨w.heap.size, 0, none⟩ = some (.int .i64 k) := LW.cell_ (B0.cell 0)
          have q1 : ∀ x : LW W0, x.val.cell? ⟨w.heap.size, 1, none⟩ = some (.int .u64 a) := LW.cell_ (B0.cell 1)
          have q2 : ∀ x : LW W0, x.val.cell? ⟨w.heap.size, 2, none⟩ = some (.int .u64 b) := LW.cell_ (B0.cell 2)
          have q3 : ∀ x : LW W0, x.val.cell? ⟨w.heap.size, 3, none⟩ = some (.int .u64 c) := LW.cell_ (B0.cell 3)
          have q4 : ∀ x : LW W0, x.val.cell? ⟨w.heap.size, 4, none⟩ = some (.int .u64 d) := LW.cell_ (B0.cell 4)
          have q5 : ∀ x : LW W0, x.val.cell? ⟨w.heap.size, 5, none⟩ = some (.slice A n cp) := LW.cell_ (B0.cell 5)
          refine wp_region_laterq (by kernel_rfl) (by kernel_rfl) ?_
          repeat (go_big_quiet_step (((go_at_call 105; (with_reducible refine Calls.laterq (HKD.out _))))))
          refine wpQuiet_nil ?_
          intro _ hwq
          obtain ⟨xz, rfl⟩ := hwq
          have hlz := hl0.trans xz.later
          have B1 := blkL xz.later B0
          clear q0 q1 q2 q3 q4 q5 B0 hl0
          clear keq
          go_wp2_with fail
          go_ret
          exact ⟨by rw [HR2.out]; rfl, hlz⟩
    · have HR2 : Hid (R = false) := by
        show _ = _
        rw [HR.out, decide_eq_false (by rw [HN.out]; exact hkn)]
        simp
      have HKD : Hid (∀ w, Calls Tryz.prog 105 #[.int .i64 k] w fun e w' => e = .returned (.int .i64 (kidsOf k)) ∧ Later w w') := fun w => (refKids_any k w).mono fun e w' h => ⟨h.1, by rw [← h.2]; exact Later.refl w⟩
      have e8 : ((n : Int) == kidsOf k) = false := by rw [beq_eq_false_iff_ne]; exact fun e => hkn e.symm
      have e9 : ((n : Int) != kidsOf k) = true := by rw [bne, e8]; rfl
      clear hkn
      go_enter Tryz.func90, Tryz.ntmps90
      go_upto_region 1 with fail
      obtain ⟨W0, hW0⟩ : ∃ W0, W0 = w.alloc (.cells #[.int .i64 k, .int .u64 a, .int .u64 b, .int .u64 c, .int .u64 d, .slice A n cp] 98) := ⟨_, rfl⟩
      have B0 : Blk W0 w.heap.size 98 #[.int .i64 k, .int .u64 a, .int .u64 b, .int .u64 c, .int .u64 d, .slice A n cp] := by rw [hW0]; exact Blk.new w _ _
      have hl0 : Later w W0 := by rw [hW0]; exact (Later.refl w).alloc _
      rw [← hW0]
      clear hW0
      have q0 : ∀ x : LW W0, x.val.cell? ⟨w.heap.size, 0, none⟩ = some (.int .i64 k) := LW.cell_ (B0.cell 0)
      have q1 : ∀ x : LW W0, x.val.cell? ⟨w.heap.size, 1, none⟩ = some (.int .u64 a) := LW.cell_ (B0.cell 1)
      have q2 : ∀ x : LW W0, x.val.cell? ⟨w.heap.size, 2, none⟩ = some (.int .u64 b) := LW.cell_ (B0.cell 2)
      have q3 : ∀ x : LW W0, x.val.cell? ⟨w.heap.size, 3, none⟩ = some (.int .u64 c) := LW.cell_ (B0.cell 3)
      have q4 : ∀ x : LW W0, x.val.cell? ⟨w.heap.size, 4, none⟩ = some (.int .u64 d) := LW.cell_ (B0.cell 4)
      have q5 : ∀ x : LW W0, x.val.cell? ⟨w.heap.size, 5, none⟩ = some (.slice A n cp) := LW.cell_ (B0.cell 5)
      refine wp_region_laterq (by kernel_rfl) (by kernel_rfl) ?_
      repeat (go_big_quiet_step (((go_at_call 105; (with_reducible refine Calls.laterq (HKD.out _))))))
      refine wpQuiet_nil ?_
      intro _ hwq
      obtain ⟨xz, rfl⟩ := hwq
      have hlz := hl0.trans xz.later
      have B1 := blkL xz.later B0
      clear q0 q1 q2 q3 q4 q5 B0 hl0
      clear keq
      go_wp2_with fail
      go_ret
      exact ⟨by rw [HR2.out]; rfl, hlz⟩
end Go.Proofs.YtmkddhkpeiajhaaGreatDoor
namespace Go.Proofs.YtmkddhkpeiajhaaGreatDoor
open Go.RowKit
set_option maxHeartbeats 8000000 in
theorem refDeep_any : ∀ (fuel : Nat) (t : Tree) (lo : Nat → Prop) (k a b c d : Int) (A : Option Addr) (n cp : Nat) (D : Nat) (w : World), SizeOf.sizeOf t ≤ fuel → thinT t → D ≤ 1000 → ReC w lo t ⟨k, a, b, c, d, A, n, cp⟩ →
    Calls Tryz.prog 91 #[.agg #[.int .i64 k, .int .u64 a, .int .u64 b, .int .u64 c, .int .u64 d, .slice A n cp], .int .i64 (D : Int)] w fun e w' => e = .returned (.bool (deepR t D)) ∧ Later w w' := by
  intro fuel
  induction fuel with
  | zero => intro t lo k a b c d A n cp D w hf; cases t; simp at hf
  | succ fuel ih =>
    intro t lo k a b c d A n cp D w hf hth hD hC
    obtain ⟨k', s, ks⟩ := t
    unfold ReC at hC
    obtain ⟨hk, hset, hn, hcp, xs, hL, hKs⟩ := hC
    obtain rfl : k = k' := hk
    have hR : deepR (.node k s ks) D = (decide (D ≠ 0) && deepRL ks k D 0) := by rw [deepR]
    obtain ⟨R, hRe⟩ : ∃ R, R = deepR (.node k s ks) D := ⟨_, rfl⟩
    rw [← hRe] at hR ⊢
    have HR : Hid (R = _) := Lib.hid hR
    clear hRe hR
    simp only at hn hL hcp
    have hkl : ∀ t ∈ ks, SizeOf.sizeOf t ≤ fuel := fun t ht => by
      have := List.sizeOf_lt_of_mem ht
      simp at hf
      omega
    have HKL := Lib.hid hkl
    have HN := Lib.hid hn
    have HL := Lib.hid hL
    have HK := Lib.hid hKs
    have HTH := Lib.hid hth
    have hn2 : n ≤ 2 := by unfold thinT at hth; rw [hn] at hth; exact hth.1
    clear hkl hf hn hL hKs hcp hth hset
    have B0 : Blk (w.alloc (.cells #[.int .i64 k, .int .u64 a, .int .u64 b, .int .u64 c, .int .u64 d, .slice A n cp] 98)) w.heap.size 98 #[.int .i64 k, .int .u64 a, .int .u64 b, .int .u64 c, .int .u64 d, .slice A n cp] := Blk.new w _ _
    by_cases hz : D = 0
    · have HR2 : Hid (R = false) := by show _ = _; rw [HR.out, decide_eq_false (by omega)]; rfl
      subst hz
      go_enter Tryz.func91, Tryz.ntmps91
      go_wp2_with fail
      go_ret
      exact ⟨by rw [HR2.out]; rfl, (Later.refl w).alloc _⟩
    · have HR2 : Hid (deepRL ks k D 0 = R) := by show _ = _; rw [HR.out, decide_eq_true (by omega), Bool.true_and]
      have hz1 : ((D : Int) == 0) = false := by rw [beq_eq_false_iff_ne]; omega
      have hz2 : (D == 0) = false := by rw [beq_eq_false_iff_ne]; exact hz
      have HZ := Lib.hid hz
      clear hz HR
      go_enter Tryz.func91, Tryz.ntmps91
      go_wp2_with fail
      go_loopw [5] (fun v5 wr => ∃ j : Nat, j ≤ n ∧ v5 = .int .i64 (j : Int) ∧ Hid (deepRL (ks.drop j) k D j = R) ∧ Blk wr w.heap.size 98 #[.int .i64 k, .int .u64 a, .int .u64 b, .int .u64 c, .int .u64 d, .slice A n cp] ∧ Later w wr) (fun v5 _ => n - (intOf v5).toNat)
      case atStart => exact ⟨0, Nat.zero_le _, rfl, by rw [List.drop_zero]; exact HR2.out, B0, (Later.refl w).alloc _⟩
      case round =>
        clear B0 HR2
        obtain ⟨j, hj, rfl, HS, B1, hl⟩ := hrel
        have c5 := B1.cell 5
        have c0 := B1.cell 0
        by_cases hlt : j < n
        · have hlti : (j : Int) < (n : Int) := by omega
          obtain ⟨tj, htj⟩ : ∃ tj, ks[j]? = some tj := ⟨_, List.getElem?_eq_getElem (by rw [HN.out]; exact hlt)⟩
          obtain ⟨x, hx, hCx⟩ := HK.out.get j tj htj
          obtain ⟨jk, ja, jb, jc, jd, jA, jn, jp⟩ := x
          obtain ⟨p0, off, hA, e0, e1, e2, e3, e4, e5⟩ := (HL.out.fr (Fr.laterF hl) (spares_false _ _)).six hlt hx
          have hst := deepRL_drop k D htj
          rw [HS.out] at hst
          subst hA
          by_cases hj1 : j = 1
          · subst hj1
            have hkk : k = 2 ∨ k = 3 ∨ (k ≠ 2 ∧ k ≠ 3) := by omega
            rcases hkk with hk2 | hk2 | ⟨hk2, hk3⟩
            all_goals
              first
                | (rw [if_pos ⟨rfl, .inl hk2⟩] at hst
                   have u1 : (k == 2) = true := by rw [hk2]; rfl
                   obtain ⟨v, hv⟩ : ∃ v, v = deepR tj D := ⟨_, rfl⟩
                   have hih : ∀ wx, Later wr wx → Calls Tryz.prog 91 #[.agg #[.int .i64 jk, .int .u64 ja, .int .u64 jb, .int .u64 jc, .int .u64 jd, .slice jA jn jp], .int .i64 (D : Int)] wx fun e w' => e = .returned (.bool v) ∧ Later wx w' := fun wx hwx => by
                     rw [hv]
                     exact ih tj lo jk ja jb jc jd jA jn jp D wx (HKL.out tj (List.mem_of_getElem? htj)) (thin_kid HTH.out (List.mem_of_getElem? htj)) hD (hCx.later (hl.trans hwx)))
                | (rw [if_pos ⟨rfl, .inr hk2⟩] at hst
                   have u1 : (k == 2) = false := by rw [hk2]; rfl
                   have u2 : (k == 3) = true := by rw [hk2]; rfl
                   obtain ⟨v, hv⟩ : ∃ v, v = deepR tj D := ⟨_, rfl⟩
                   have hih : ∀ wx, Later wr wx → Calls Tryz.prog 91 #[.agg #[.int .i64 jk, .int .u64 ja, .int .u64 jb, .int .u64 jc, .int .u64 jd, .slice jA jn jp], .int .i64 (D : Int)] wx fun e w' => e = .returned (.bool v) ∧ Later wx w' := fun wx hwx => by
                     rw [hv]
                     exact ih tj lo jk ja jb jc jd jA jn jp D wx (HKL.out tj (List.mem_of_getElem? htj)) (thin_kid HTH.out (List.mem_of_getElem? htj)) hD (hCx.later (hl.trans hwx)))
                | (rw [if_neg (by omega)] at hst
                   have u1 : (k == 2) = false := by rw [beq_eq_false_iff_ne]; exact hk2
                   have u2 : (k == 3) = false := by rw [beq_eq_false_iff_ne]; exact hk3
                   obtain ⟨v, hv⟩ : ∃ v, v = deepR tj (D - 1) := ⟨_, rfl⟩
                   have hih : ∀ wx, Later wr wx → Calls Tryz.prog 91 #[.agg #[.int .i64 jk, .int .u64 ja, .int .u64 jb, .int .u64 jc, .int .u64 jd, .slice jA jn jp], .int .i64 ((D : Int) - 1)] wx fun e w' => e = .returned (.bool v) ∧ Later wx w' := fun wx hwx => by
                     rw [hv, show (D : Int) - 1 = ((D - 1 : Nat) : Int) by have := HZ.out; omega]
                     exact ih tj lo jk ja jb jc jd jA jn jp (D - 1) wx (HKL.out tj (List.mem_of_getElem? htj)) (thin_kid HTH.out (List.mem_of_getElem? htj)) (by omega) (hCx.later (hl.trans hwx)))
              rw [← hv] at hst
              have HST := Lib.hid hst
              have HIH := Lib.hid hih
              clear hih hCx htj hx hv hst HS
              try clear hk2
              try clear hk3
              cases v with
              | false =>
                go_wp2_with fail
                refine (HIH.out _ (Later.refl _)).mono ?_
                rintro e w1 ⟨rfl, hl1⟩
                go_wp2_with fail
                go_ret
                exact ⟨by rw [HST.out]; rfl, hl.trans hl1⟩
              | true =>
                go_wp2_with fail
                refine (HIH.out _ (Later.refl _)).mono ?_
                rintro e w1 ⟨rfl, hl1⟩
                have D1 := blkL hl1 B1
                have hl2 := hl.trans hl1
                clear c5 c0 e0 e1 e2 e3 e4 e5 B1 hl1
                go_wp2_with fail
                go_roundw
                case rel => exact ⟨2, by omega, by go_num, by show _ = _; rw [HST.out, Bool.true_and], D1, hl2⟩
                case measure => simp [intOf]; omega
          · have hji : ((j : Int) == 1) = false := by rw [beq_eq_false_iff_ne]; omega
            have hjn : (j == 1) = false := by rw [beq_eq_false_iff_ne]; exact hj1
            rw [if_neg (by omega)] at hst
            obtain ⟨v, hv⟩ : ∃ v, v = deepR tj (D - 1) := ⟨_, rfl⟩
            have hih : ∀ wx, Later wr wx → Calls Tryz.prog 91 #[.agg #[.int .i64 jk, .int .u64 ja, .int .u64 jb, .int .u64 jc, .int .u64 jd, .slice jA jn jp], .int .i64 ((D : Int) - 1)] wx fun e w' => e = .returned (.bool v) ∧ Later wx w' := fun wx hwx => by
              rw [hv, show (D : Int) - 1 = ((D - 1 : Nat) : Int) by have := HZ.out; omega]
              exact ih tj lo jk ja jb jc jd jA jn jp (D - 1) wx (HKL.out tj (List.mem_of_getElem? htj)) (thin_kid HTH.out (List.mem_of_getElem? htj)) (by omega) (hCx.later (hl.trans hwx))
            rw [← hv] at hst
            have HST := Lib.hid hst
            have HIH := Lib.hid hih
            clear hih hCx htj hx hv hst HS hj1
            cases v with
            | false =>
              go_wp2_with fail
              refine (HIH.out _ (Later.refl _)).mono ?_
              rintro e w1 ⟨rfl, hl1⟩
              go_wp2_with fail
              go_ret
              exact ⟨by rw [HST.out]; rfl, hl.trans hl1⟩
            | true =>
              go_wp2_with fail
              refine (HIH.out _ (Later.refl _)).mono ?_
              rintro e w1 ⟨rfl, hl1⟩
              have D1 := blkL hl1 B1
              have hl2 := hl.trans hl1
              clear c5 c0 e0 e1 e2 e3 e4 e5 B1 hl1
              go_wp2_with fail
              go_roundw
              case rel => exact ⟨j + 1, by omega, by go_num, by show _ = _; rw [HST.out, Bool.true_and], D1, hl2⟩
              case measure => simp [intOf]; omega
        · obtain rfl : n = j := by omega
          have HE : Hid (R = true) := by
            show _ = _
            have := HS.out
            rw [List.drop_of_length_le (by rw [HN.out]; exact Nat.le_refl _), deepRL] at this
            exact this.symm
          clear HS
          go_wp2_with fail
          go_ret
          exact ⟨by rw [HE.out]; rfl, hl⟩
set_option maxHeartbeats 8000000 in
theorem refSets_any : ∀ (fuel : Nat) (t : Tree) (lo : Nat → Prop) (k a b c d : Int) (A : Option Addr) (n cp : Nat) (w : World), SizeOf.sizeOf t ≤ fuel → thinT t → setsR t ≤ 1000000000 → ReC w lo t ⟨k, a, b, c, d, A, n, cp⟩ →
    Calls Tryz.prog 92 #[.agg #[.int .i64 k, .int .u64 a, .int .u64 b, .int .u64 c, .int .u64 d, .slice A n cp]] w fun e w' => e = .returned (.int .i64 (setsR t : Int)) ∧ Later w w' := by
  intro fuel
  induction fuel with
  | zero => intro t lo k a b c d A n cp  w hf; cases t; simp at hf
  | succ fuel ih =>
    intro t lo k a b c d A n cp  w hf hth hbd hC
    obtain ⟨k', s, ks⟩ := t
    unfold ReC at hC
    obtain ⟨hk, hset, hn, hcp, xs, hL, hKs⟩ := hC
    obtain rfl : k = k' := hk
    have hR : setsR (.node k s ks) = if ks.length = 0 then 1 else setsRL ks := by rw [setsR]
    obtain ⟨R, hRe⟩ : ∃ R, R = setsR (.node k s ks) := ⟨_, rfl⟩
    rw [← hRe] at hR hbd ⊢
    have HR : Hid (R = _) := Lib.hid hR
    clear hRe hR
    simp only at hn hL hcp
    have hkl : ∀ t ∈ ks, SizeOf.sizeOf t ≤ fuel := fun t ht => by
      have := List.sizeOf_lt_of_mem ht
      simp at hf
      omega
    have HKL := Lib.hid hkl
    have HN := Lib.hid hn
    have HL := Lib.hid hL
    have HK := Lib.hid hKs
    have HTH := Lib.hid hth
    have hn2 : n ≤ 2 := by unfold thinT at hth; rw [hn] at hth; exact hth.1
    clear hkl hf hn hL hKs hcp hth hset
    have B0 : Blk (w.alloc (.cells #[.int .i64 k, .int .u64 a, .int .u64 b, .int .u64 c, .int .u64 d, .slice A n cp] 98)) w.heap.size 98 #[.int .i64 k, .int .u64 a, .int .u64 b, .int .u64 c, .int .u64 d, .slice A n cp] := Blk.new w _ _
    by_cases hz : n = 0
    · have HR2 : Hid (R = 1) := by show _ = _; rw [HR.out, if_pos (by rw [HN.out]; exact hz)]
      subst hz
      go_enter Tryz.func92, Tryz.ntmps92
      go_wp2_with fail
      go_ret
      exact ⟨by rw [HR2.out]; rfl, (Later.refl w).alloc _⟩
    · have HR2 : Hid (0 + setsRL ks = R) := by show _ = _; rw [HR.out, if_neg (by rw [HN.out]; exact hz), Nat.zero_add]
      have hz1 : ((n : Int) == 0) = false := by rw [beq_eq_false_iff_ne]; omega
      have hz2 : (n == 0) = false := by rw [beq_eq_false_iff_ne]; exact hz
      clear hz HR
      go_enter Tryz.func92, Tryz.ntmps92
      go_wp2_with fail
      go_loopw [3, 4] (fun v3 v4 wr => ∃ j m : Nat, j ≤ n ∧ v4 = .int .i64 (j : Int) ∧ v3 = .int .i64 (m : Int) ∧ Hid (m + setsRL (ks.drop j) = R) ∧ Blk wr w.heap.size 98 #[.int .i64 k, .int .u64 a, .int .u64 b, .int .u64 c, .int .u64 d, .slice A n cp] ∧ Later w wr) (fun _ v4 _ => n - (intOf v4).toNat)
      case atStart => exact ⟨0, 0, Nat.zero_le _, rfl, rfl, by rw [List.drop_zero]; exact HR2.out, B0, (Later.refl w).alloc _⟩
      case round =>
        clear B0 HR2
        obtain ⟨j, m, hj, rfl, rfl, HS, B1, hl⟩ := hrel
        have c5 := B1.cell 5
        by_cases hlt : j < n
        · have hlti : (j : Int) < (n : Int) := by omega
          obtain ⟨tj, htj⟩ : ∃ tj, ks[j]? = some tj := ⟨_, List.getElem?_eq_getElem (by rw [HN.out]; exact hlt)⟩
          obtain ⟨x, hx, hCx⟩ := HK.out.get j tj htj
          obtain ⟨jk, ja, jb, jc, jd, jA, jn, jp⟩ := x
          obtain ⟨p0, off, hA, e0, e1, e2, e3, e4, e5⟩ := (HL.out.fr (Fr.laterF hl) (spares_false _ _)).six hlt hx
          have hst := setsRL_drop htj
          have hSo := HS.out
          obtain ⟨v, hv⟩ : ∃ v, v = setsR tj := ⟨_, rfl⟩
          rw [hst, ← hv] at hSo
          have hih : ∀ wx, Later wr wx → Calls Tryz.prog 92 #[.agg #[.int .i64 jk, .int .u64 ja, .int .u64 jb, .int .u64 jc, .int .u64 jd, .slice jA jn jp]] wx fun e w' => e = .returned (.int .i64 (v : Int)) ∧ Later wx w' := fun wx hwx => by
            rw [hv]
            exact ih tj lo jk ja jb jc jd jA jn jp wx (HKL.out tj (List.mem_of_getElem? htj)) (thin_kid HTH.out (List.mem_of_getElem? htj)) (by omega) (hCx.later (hl.trans hwx))
          have HIH := Lib.hid hih
          have HST : Hid (m + v + setsRL (ks.drop (j + 1)) = R) := by show _ = _; omega
          have hmv : (m : Int) + (v : Int) ≤ 1000000000 := by omega
          subst hA
          clear hih hCx htj hx hv hst HS hSo
          go_wp2_with fail
          refine (HIH.out _ (Later.refl _)).mono ?_
          rintro e w1 ⟨rfl, hl1⟩
          have D1 := blkL hl1 B1
          have hl2 := hl.trans hl1
          clear c5 e0 e1 e2 e3 e4 e5 B1 hl1
          go_wp2_with fail
          go_roundw
          case rel => exact ⟨j + 1, m + v, by omega, by go_num, by go_num, HST, D1, hl2⟩
          case measure => simp [intOf]; omega
        · obtain rfl : n = j := by omega
          have HE : Hid (m = R) := by
            show _ = _
            have := HS.out
            rw [List.drop_of_length_le (by rw [HN.out]; exact Nat.le_refl _), setsRL] at this
            omega
          clear HS
          go_wp2_with fail
          go_ret
          exact ⟨by rw [← HE.out]; rfl, hl⟩
set_option maxHeartbeats 2000000 in
theorem refRight_any (t : Tree) (lo : Nat → Prop) (k a b c d : Int) (A : Option Addr) (n cp : Nat) (w : World) (hbd : shapedR t = true → setsR t ≤ 1000000000) (hC : ReC w lo t ⟨k, a, b, c, d, A, n, cp⟩) :
    Calls Tryz.prog 73 #[.agg #[.int .i64 k, .int .u64 a, .int .u64 b, .int .u64 c, .int .u64 d, .slice A n cp]] w fun e w' => e = .returned (.bool (rightR t)) ∧ Later w w' := by
  obtain ⟨R, hRe⟩ : ∃ R, R = rightR t := ⟨_, rfl⟩
  rw [← hRe]
  obtain ⟨v, hv⟩ : ∃ v, v = shapedR t := ⟨_, rfl⟩
  have h1 := fun (wx : World) (hl : Later w wx) => refShaped_any _ t lo k a b c d A n cp wx (Nat.le_refl _) (hC.later hl)
  rw [← hv] at h1
  have H1 := Lib.hid h1
  unfold rightR at hRe
  rw [← hv] at hRe
  clear h1
  cases v with
  | false =>
    have HR : Hid (R = false) := hRe
    clear hRe hv
    go_enter Tryz.func73, Tryz.ntmps73
    go_wp2_with fail
    refine (H1.out _ ((Later.refl w).alloc _)).mono ?_
    rintro e w1 ⟨rfl, hl1⟩
    go_wp2_with fail
    go_ret
    exact ⟨by rw [HR.out]; rfl, ((Later.refl w).alloc _).trans hl1⟩
  | true =>
    have hth := shapedR_thin _ t (Nat.le_refl _) hv.symm
    have hb2 := hbd hv.symm
    obtain ⟨u, hu⟩ : ∃ u, u = deepR t 40 := ⟨_, rfl⟩
    have h2 := fun (wx : World) (hl : Later w wx) => refDeep_any _ t lo k a b c d A n cp 40 wx (Nat.le_refl _) hth (by omega) (hC.later hl)
    rw [← hu] at h2
    have H2 : Hid (∀ (wx : World) (hl : Later w wx), Calls Tryz.prog 91 #[.agg #[.int .i64 k, .int .u64 a, .int .u64 b, .int .u64 c, .int .u64 d, .slice A n cp], .int .i64 40] wx fun e w' => e = .returned (.bool u) ∧ Later wx w') := h2
    rw [← hu, Bool.true_and] at hRe
    obtain ⟨m, hm⟩ : ∃ m, m = setsR t := ⟨_, rfl⟩
    have h3 := fun (wx : World) (hl : Later w wx) => refSets_any _ t lo k a b c d A n cp wx (Nat.le_refl _) hth hb2 (hC.later hl)
    rw [← hm] at h3 hRe
    have H3 := Lib.hid h3
    have HR := Lib.hid hRe
    clear h2 h3 hRe hm hu hv hbd
    cases u with
    | false =>
      have HR2 : Hid (R = false) := by show _ = _; rw [HR.out]; rfl
      go_enter Tryz.func73, Tryz.ntmps73
      go_wp2_with fail
      refine (H1.out _ ((Later.refl w).alloc _)).mono ?_
      rintro e w1 ⟨rfl, hl1⟩
      have B1 : Blk w1 w.heap.size 98 #[.int .i64 k, .int .u64 a, .int .u64 b, .int .u64 c, .int .u64 d, .slice A n cp] := blkL hl1 (Blk.new w _ _)
      have hlw := ((Later.refl w).alloc _).trans hl1
      obtain ⟨u0, u1, u2, u3, u4, u5, -⟩ := cells6 B1
      go_wp2_with fail
      refine (H2.out _ hlw).mono ?_
      rintro e w2 ⟨rfl, hl2⟩
      go_wp2_with fail
      go_ret
      exact ⟨by rw [HR2.out]; rfl, hlw.trans hl2⟩
    | true =>
      have HR2 : Hid (R = decide ((m : Int) ≤ 400)) := by
        show _ = _
        rw [HR.out, Bool.true_and]
        by_cases h : m ≤ 400
        · rw [decide_eq_true h, decide_eq_true (by omega)]
        · rw [decide_eq_false h, decide_eq_false (by omega)]
      go_enter Tryz.func73, Tryz.ntmps73
      go_wp2_with fail
      refine (H1.out _ ((Later.refl w).alloc _)).mono ?_
      rintro e w1 ⟨rfl, hl1⟩
      have B1 : Blk w1 w.heap.size 98 #[.int .i64 k, .int .u64 a, .int .u64 b, .int .u64 c, .int .u64 d, .slice A n cp] := blkL hl1 (Blk.new w _ _)
      have hlw := ((Later.refl w).alloc _).trans hl1
      obtain ⟨u0, u1, u2, u3, u4, u5, -⟩ := cells6 B1
      go_wp2_with fail
      refine (H2.out _ hlw).mono ?_
      rintro e w2 ⟨rfl, hl2⟩
      have B2 := blkL hl2 B1
      have hlw := hlw.trans hl2
      clear u0 u1 u2 u3 u4 u5
      obtain ⟨u0, u1, u2, u3, u4, u5, -⟩ := cells6 B2
      go_wp2_with fail
      refine (H3.out _ hlw).mono ?_
      rintro e w3 ⟨rfl, hl3⟩
      go_wp2_with fail
      go_ret
      exact ⟨by rw [HR2.out]; simp, hlw.trans hl3⟩
end Go.Proofs.YtmkddhkpeiajhaaGreatDoor
