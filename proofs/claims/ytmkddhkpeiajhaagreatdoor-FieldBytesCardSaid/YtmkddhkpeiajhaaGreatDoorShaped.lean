import Derived.Test.YtmkddhkpeiajhaaGreatDoorTreeAll
import Derived.Test.YtmkddhkpeiajhaaGreatDoorSetAll
import Derived.Deep.CutBlock
import Derived.Deep.DeepCutAuto
import Derived.Test.YtmkddhkpeiajhaaGreatDoorStarW
import Derived.Deep.RegionHeldLaw
namespace Go.Proofs.YtmkddhkpeiajhaaGreatDoor
open Go.RowKit
theorem kids_any (k : Int) (w : World) : Calls Tryz.prog 102 #[.int .i64 k] w fun e w' => e = .returned (.int .i64 (kidsOf k)) ∧ w = w' := by
 have h : k = 0 ∨ k = 1 ∨ k = 2 ∨ k = 3 ∨ k = 4 ∨ k = 5 ∨ k = 6 ∨ k = 7 ∨ k = 8 ∨ (k < 0 ∨ 8 < k) := by omega
 rcases h with rfl | rfl | rfl | rfl | rfl | rfl | rfl | rfl | rfl | h
 case inr.inr.inr.inr.inr.inr.inr.inr.inr =>
  have e : kidsOf k = -1 := by unfold kidsOf; rw [if_neg (by omega), if_neg (by omega), if_neg (by omega)]
  rw [e]
  have h0 : (k == 0) = false := by rw [beq_eq_false_iff_ne]; omega
  have h1 : (k == 1) = false := by rw [beq_eq_false_iff_ne]; omega
  have h2 : (k == 2) = false := by rw [beq_eq_false_iff_ne]; omega
  have h3 : (k == 3) = false := by rw [beq_eq_false_iff_ne]; omega
  have h4 : (k == 4) = false := by rw [beq_eq_false_iff_ne]; omega
  have h5 : (k == 5) = false := by rw [beq_eq_false_iff_ne]; omega
  have h6 : (k == 6) = false := by rw [beq_eq_false_iff_ne]; omega
  have h7 : (k == 7) = false := by rw [beq_eq_false_iff_ne]; omega
  have h8 : (k == 8) = false := by rw [beq_eq_false_iff_ne]; omega
  clear e h
  go_enter Tryz.func102, Tryz.ntmps102
  go_wp2_with fail
  go_ret
  exact ⟨rfl, rfl⟩
 all_goals
  go_enter Tryz.func102, Tryz.ntmps102
  go_wp2_with fail
  go_ret
  exact ⟨rfl, rfl⟩
def retS : Option Nat → Value
 | none => .tuple #[.int .i64 0, .bool false]
 | some n => .tuple #[.int .i64 (n : Int), .bool true]
theorem set_zero (s : W4) (a b c d : Int) (h : a = (s.1 : Int) ∧ b = (s.2.1 : Int) ∧ c = (s.2.2.1 : Int) ∧ d = (s.2.2.2 : Int)) :
  ∃ v : Bool, (v = true ↔ s = z4) ∧ ∀ w, (Op.equalIn 10000 95 (.agg #[.int .u64 a, .int .u64 b, .int .u64 c, .int .u64 d]) (.agg #[.int .u64 0, .int .u64 0, .int .u64 0, .int .u64 0])).run Tryz.prog w = .ok v w := by
 obtain ⟨s0, s1, s2, s3⟩ := s
 obtain ⟨rfl, rfl, rfl, rfl⟩ := h
 refine ⟨_, ?_, fun w => run_eq_set _ _ _ _ 0 0 0 0 w⟩
 simp only [Bool.and_eq_true, beq_iff_eq, z4, Prod.mk.injEq]
 omega
def ShapedAt (ks : List Tree) (D : Int) (R : Option Nat) (w : World) (s4 s39 : Value) (wr : World) : Prop :=
 ∃ j m : Nat, j ≤ ks.length ∧ s39 = .int .i64 (j : Int) ∧ s4 = .int .i64 (m : Int) ∧ m ≤ 1000 ∧ Hid (shapedL (ks.drop j) D j m = R) ∧ Later w wr
theorem shapedL_nil (D : Int) (j m : Nat) : shapedL [] D j m = some m := by unfold shapedL; rfl
theorem shapedL_cons (t : Tree) (ts : List Tree) (D : Int) (j m : Nat) : shapedL (t :: ts) D j m = match shapedT t (D - 1 + (j : Int)) with
  | none => none
  | some q => if 400 < m + q then none else shapedL ts D (j + 1) (m + q) := by
 rw [shapedL]
 cases shapedT t (D - 1 + (j : Int)) <;> rfl
mutual
theorem shapedT_le : ∀ (t : Tree) (D : Int) (n : Nat), shapedT t D = some n → n ≤ 400
 | .node k s ks, D, n, h => by
  unfold shapedT at h
  by_cases hc : D < 1 ∨ kidsOf k ≠ (ks.length : Int) ∨ (k ≠ 1 ∧ s ≠ z4)
  ·rw [if_pos hc] at h; cases h
  ·rw [if_neg hc] at h
   exact shapedL_le ks D 0 _ n (by split <;> omega) h
theorem shapedL_le : ∀ (ts : List Tree) (D : Int) (j m n : Nat), m ≤ 400 → shapedL ts D j m = some n → n ≤ 400
 | [], D, j, m, n, hm, h => by rw [shapedL_nil] at h; injection h with h; omega
 | t :: ts, D, j, m, n, hm, h => by
  rw [shapedL_cons] at h
  cases hq : shapedT t (D - 1 + (j : Int)) with
  | none => rw [hq] at h; cases h
  | some q =>
   rw [hq] at h
   simp only at h
   by_cases h4 : 400 < m + q
   ·rw [if_pos h4] at h; cases h
   ·rw [if_neg h4] at h
    exact shapedL_le ts D (j + 1) (m + q) n (by omega) h
end
theorem kids_two {k : Int} {n : Nat} (hh : kidsOf k = (n : Int)) : n ≤ 2 := by
 unfold kidsOf at hh
 split at hh
 ·omega
 ·split at hh
  ·omega
  ·split at hh <;> omega
theorem drop_at {α : Type} {l : List α} {j : Nat} {x : α} (h : l[j]? = some x) : l.drop j = x :: l.drop (j + 1) := by
 obtain ⟨hl, rfl⟩ := List.getElem?_eq_some_iff.1 h
 exact List.drop_eq_getElem_cons hl
set_option maxHeartbeats 8000000 in
theorem shaped_any : ∀ (fuel : Nat) (t : Tree) (lo : Nat → Prop) (k a b c d : Int) (A : Option Addr) (n cp : Nat) (D : Int) (w : World), SizeOf.sizeOf t ≤ fuel → ReC w lo t ⟨k, a, b, c, d, A, n, cp⟩ → 0 ≤ D → D ≤ 1000 →
  Calls Tryz.prog 84 #[.agg #[.int .i64 k, .int .u64 a, .int .u64 b, .int .u64 c, .int .u64 d, .slice A n cp], .int .i64 D] w fun e w' => e = .returned (retS (shapedT t D)) ∧ Later w w' := by
 intro fuel
 induction fuel with
 | zero => intro t lo k a b c d A n cp D w hf; cases t; simp at hf
 | succ fuel ih =>
  intro t lo k a b c d A n cp D w hf hC hD0 hD1
  obtain ⟨k', s, ks⟩ := t
  unfold ReC at hC
  obtain ⟨hk, hset, hn, hcp, xs, hL, hKs⟩ := hC
  obtain rfl : k = k' := hk
  obtain ⟨v, hv, keq⟩ := set_zero s a b c d hset
  simp only at hn hL hcp
  have hR : shapedT (.node k s ks) D = if D < 1 ∨ kidsOf k ≠ (ks.length : Int) ∨ (k ≠ 1 ∧ s ≠ z4) then none else shapedL ks D 0 (if ks.length = 0 then 1 else 0) := by rw [shapedT]
  obtain ⟨R, hRe⟩ : ∃ R, R = shapedT (.node k s ks) D := ⟨_, rfl⟩
  rw [← hRe] at hR ⊢
  have hkl : ∀ t ∈ ks, SizeOf.sizeOf t ≤ fuel := fun t ht => by
   have := List.sizeOf_lt_of_mem ht
   simp at hf
   omega
  have HKL := Lib.hid hkl
  clear hRe hkl hf
  have HR : Hid (R = _) := Lib.hid hR
  have HN := Lib.hid hn
  have HV := Lib.hid hv
  clear hR hn hset hv
  go_enter Tryz.func84, Tryz.ntmps84
  go_wp2_with fail
  obtain ⟨W0, hW0⟩ : ∃ W0, W0 = w.alloc (.cells #[.int .i64 k, .int .u64 a, .int .u64 b, .int .u64 c, .int .u64 d, .slice A n cp] 98) := ⟨_, rfl⟩
  have B0 : Blk W0 w.heap.size 98 #[.int .i64 k, .int .u64 a, .int .u64 b, .int .u64 c, .int .u64 d, .slice A n cp] := by rw [hW0]; exact Blk.new w _ _
  have hl0 : Later w W0 := by rw [hW0]; exact (Later.refl w).alloc _
  rw [← hW0]
  clear hW0
  have q0 : ∀ x : LW W0, x.val.cell? ⟨w.heap.size, 0, none⟩ = some (.int .i64 k) := LW.cell_ (B0.cell 0)
  have q1 : ∀ x : LW W0, x.val.cell? ⟨w.heap.size, 1, none⟩ = some (.int .u64 a) := LW.cell_ (B0.cell 1)
  have q2 : ∀ x : LW W0, x.val.cell? ⟨w.heap.size, 2, none⟩ = some (.int .u64 b) := LW.cell_ (B0.cell 2)
  have q3 : ∀ x : LW W0, x.val.cell? ⟨w.heap.size, 3, none⟩ = some (.int .u64 c) := LW.cell_ (B0.cell 3)
  have q4 : ∀ x : LW W0, x.val.cell? ⟨w.heap.size, 4, none⟩ = some (.int .u64 d) := LW.cell_ (B0.cell 4)
  have q5 : ∀ x : LW W0, x.val.cell? ⟨w.heap.size, 5, none⟩ = some (.slice A n cp) := LW.cell_ (B0.cell 5)
  by_cases hD : D < 1
  ·have HR : Hid (R = none) := by show _ = _; rw [HR.out, if_pos (.inl hD)]
   refine wp_region_laterq (by kernel_rfl) (by kernel_rfl) ?_
   repeat (go_big_quiet_step (((go_at_call 102; (with_reducible refine Calls.laterq ((kids_any k _).mono fun e w' h => ⟨h.1, by rw [← h.2]; exact Later.refl _⟩))))))
   refine wpQuiet_nil ?_
   intro _ hwq
   obtain ⟨xz, rfl⟩ := hwq
   have B1 := blkL xz.later B0
   have hl1 := hl0.trans xz.later
   clear q0 q1 q2 q3 q4 q5 B0 hl0
   go_wp2_with fail
   go_ret2
   exact ⟨by rw [HR.out]; rfl, hl1⟩
  ·by_cases hkn : kidsOf k = (ks.length : Int)
   ·have hkd : ∀ w, Calls Tryz.prog 102 #[.int .i64 k] w fun e w' => e = .returned (.int .i64 (n : Int)) ∧ Later w w' := fun w => (kids_any k w).mono fun e w' h => ⟨by rw [h.1, hkn, HN.out], by rw [← h.2]; exact Later.refl w⟩
    have Hk : Hid (kidsOf k = (n : Int)) := Lib.hid (by rw [hkn, HN.out])
    have HKD := Lib.hid hkd
    clear hkd
    by_cases hk1 : k = 1
    ·subst hk1
     have HR : Hid (R = shapedL ks D 0 (if ks.length = 0 then 1 else 0)) := by show _ = _; rw [HR.out, if_neg (by rintro (h | h | h); exact hD h; exact h hkn; exact h.1 rfl)]
     clear hkn keq
     refine wp_region_laterq (by kernel_rfl) (by kernel_rfl) ?_
     repeat (go_big_quiet_step (((go_at_call 102; (with_reducible refine Calls.laterq (HKD.out _))))))
     refine wpQuiet_nil ?_
     intro _ hwq
     obtain ⟨xz, rfl⟩ := hwq
     have B1 := blkL xz.later B0
     have hl1 := hl0.trans xz.later
     clear q0 q1 q2 q3 q4 q5 B0 hl0
     have c2 : xz.val.cell? ⟨w.heap.size, 5, none⟩ = some (.slice A n cp) := B1.cell 5
     rcases Nat.eq_zero_or_pos n with hn0 | hn0
     ·subst hn0
      have hks : ks = [] := List.eq_nil_of_length_eq_zero HN.out
      have HR1 : Hid (R = some 1) := by show _ = _; rw [HR.out, hks]; show shapedL [] D 0 1 = _; rw [shapedL_nil]
      clear HR hks hL hKs HN hcp
      go_wp2_with fail
      go_loopw [4, 39] (fun s4 s39 wr => s4 = .int .i64 1 ∧ s39 = .int .i64 0 ∧ Later w wr) (fun _ _ _ => 0)
      case atStart => exact ⟨rfl, rfl, hl1⟩
      case round =>
       obtain ⟨rfl, rfl, hlr⟩ := hrel
       go_wp2_with fail
       go_ret2
       exact ⟨by rw [HR1.out]; rfl, hlr⟩
     ·have hni : ((n : Int) == 0) = false := by rw [beq_eq_false_iff_ne]; omega
      have HR1 : Hid (shapedL (ks.drop 0) D 0 0 = R) := by show _ = _; rw [HR.out, if_neg (by rw [HN.out]; omega)]; rfl
      have hn2 : n ≤ 2 := kids_two Hk.out
      have hD2 : 1 ≤ D := by omega
      clear HR hD
      go_wp2_with fail
      go_loopw [4, 39] (fun s4 s39 wr => ShapedAt ks D R w s4 s39 wr) (fun _ s39 _ => n - (intOf s39).toNat)
      case atStart => exact ⟨0, 0, Nat.zero_le _, rfl, rfl, by omega, HR1, hl1⟩
      case round =>
       clear c2 B1 hl1 HR1 HKD
       obtain ⟨j, m, hj, rfl, rfl, hm, HS, hlr⟩ := hrel
       by_cases hlt : j < n
       ·have hlti : (j : Int) < (n : Int) := by omega
        obtain ⟨tj, htj⟩ : ∃ tj, ks[j]? = some tj := ⟨_, List.getElem?_eq_getElem (by rw [HN.out]; exact hlt)⟩
        obtain ⟨x, hx, hCx⟩ := hKs.get j tj htj
        obtain ⟨jk, ja, jb, jc, jd, jA, jn, jp⟩ := x
        obtain ⟨b0, off, hA, e0, e1, e2, e3, e4, e5⟩ := (hL.fr (Fr.laterF hlr) (spares_false _ _)).six hlt hx
        have hst := HS.out
        rw [drop_at htj, shapedL_cons] at hst
        have hih : ∀ wx, Later wr wx → Calls Tryz.prog 84 #[.agg #[.int .i64 jk, .int .u64 ja, .int .u64 jb, .int .u64 jc, .int .u64 jd, .slice jA jn jp], .int .i64 (D - 1 + (j : Int))] wx fun e w' => e = .returned (retS (shapedT tj (D - 1 + (j : Int)))) ∧ Later wx w' :=
         fun wx hwx => ih tj lo jk ja jb jc jd jA jn jp _ wx (HKL.out tj (List.mem_of_getElem? htj)) (hCx.later (hlr.trans hwx)) (by omega) (by omega)
        have HIH := Lib.hid hih
        have HHL := Lib.hid hL
        have HHK := Lib.hid hKs
        clear hih HS hCx htj hx hL hKs hcp
        subst hA
        cases hq : shapedT tj (D - 1 + (j : Int)) with
        | none =>
         rw [hq] at hst HIH
         have HR2 : Hid (R = none) := Lib.hid hst.symm
         clear hq hst
         go_wp2_with fail
         refine (HIH.out _ ((Later.refl _).alloc _)).mono ?_
         rintro e w1 ⟨rfl, hl1⟩
         unfold retS
         go_wp2_with fail
         go_ret2
         exact ⟨by rw [HR2.out]; rfl, (hlr.alloc _).trans hl1⟩
        | some q =>
         have hq4 := shapedT_le tj _ q hq
         rw [hq] at hst HIH
         simp only at hst
         have HQ := Lib.hid hq
         by_cases h4 : 400 < m + q
         ·rw [if_pos h4] at hst
          have HR2 : Hid (R = none) := Lib.hid hst.symm
          have h4i : (400 : Int) < (m : Int) + (q : Int) := by omega
          clear hq hst
          go_wp2_with fail
          refine (HIH.out _ ((Later.refl _).alloc _)).mono ?_
          rintro e w1 ⟨rfl, hl1⟩
          unfold retS
          go_wp2_with fail
          go_ret2
          exact ⟨by rw [HR2.out]; rfl, (hlr.alloc _).trans hl1⟩
         ·rw [if_neg h4] at hst
          have HST : Hid (shapedL (ks.drop (j + 1)) D (j + 1) (m + q) = R) := Lib.hid hst
          have h4i : decide ((400 : Int) < (m : Int) + (q : Int)) = false := decide_eq_false (by omega)
          clear hq hst
          go_wp2_with fail
          refine (HIH.out _ ((Later.refl _).alloc _)).mono ?_
          rintro e w1 ⟨rfl, hl1⟩
          unfold retS
          go_wp2_with fail
          go_roundw
          case rel => exact ⟨j + 1, m + q, by have := HN.out; omega, by go_num, by go_num, by omega, HST, (hlr.alloc _).trans hl1⟩
          case measure => simp [intOf]; omega
       ·obtain rfl : n = j := by have := HN.out; omega
        have HR2 : Hid (R = some m) := by
         show _ = _
         have := HS.out
         rw [List.drop_of_length_le (by rw [HN.out]; exact Nat.le_refl _), shapedL_nil] at this
         exact this.symm
        clear HS
        go_wp2_with fail
        go_ret2
        exact ⟨by rw [HR2.out]; rfl, hlr⟩
    ·have hk1i : (k == 1) = false := by rw [beq_eq_false_iff_ne]; exact hk1
     have hk1j : (k != 1) = true := by rw [bne_iff_ne]; exact hk1
     cases v with
     | true =>
      have hs : s = z4 := HV.out.1 rfl
      have HR : Hid (R = shapedL ks D 0 (if ks.length = 0 then 1 else 0)) := by show _ = _; rw [HR.out, if_neg (by rintro (h | h | h); exact hD h; exact h hkn; exact h.2 hs)]
      clear hkn hs hk1
      refine wp_region_laterq (by kernel_rfl) (by kernel_rfl) ?_
      repeat (go_big_quiet_step (((go_at_call 102; (with_reducible refine Calls.laterq (HKD.out _))))))
      refine wpQuiet_nil ?_
      intro _ hwq
      obtain ⟨xz, rfl⟩ := hwq
      have B1 := blkL xz.later B0
      have hl1 := hl0.trans xz.later
      clear q0 q1 q2 q3 q4 q5 B0 hl0
      have c2 : xz.val.cell? ⟨w.heap.size, 5, none⟩ = some (.slice A n cp) := B1.cell 5
      rcases Nat.eq_zero_or_pos n with hn0 | hn0
      ·subst hn0
       have hks : ks = [] := List.eq_nil_of_length_eq_zero HN.out
       have HR1 : Hid (R = some 1) := by show _ = _; rw [HR.out, hks]; show shapedL [] D 0 1 = _; rw [shapedL_nil]
       clear HR hks hL hKs HN hcp
       go_wp2_with fail
       go_loopw [4, 39] (fun s4 s39 wr => s4 = .int .i64 1 ∧ s39 = .int .i64 0 ∧ Later w wr) (fun _ _ _ => 0)
       case atStart => exact ⟨rfl, rfl, hl1⟩
       case round =>
        obtain ⟨rfl, rfl, hlr⟩ := hrel
        go_wp2_with fail
        go_ret2
        exact ⟨by rw [HR1.out]; rfl, hlr⟩
      ·have hni : ((n : Int) == 0) = false := by rw [beq_eq_false_iff_ne]; omega
       have HR1 : Hid (shapedL (ks.drop 0) D 0 0 = R) := by show _ = _; rw [HR.out, if_neg (by rw [HN.out]; omega)]; rfl
       have hn2 : n ≤ 2 := kids_two Hk.out
       have hD2 : 1 ≤ D := by omega
       clear HR hD
       go_wp2_with fail
       go_loopw [4, 39] (fun s4 s39 wr => ShapedAt ks D R w s4 s39 wr) (fun _ s39 _ => n - (intOf s39).toNat)
       case atStart => exact ⟨0, 0, Nat.zero_le _, rfl, rfl, by omega, HR1, hl1⟩
       case round =>
        clear c2 B1 hl1 HR1 HKD
        obtain ⟨j, m, hj, rfl, rfl, hm, HS, hlr⟩ := hrel
        by_cases hlt : j < n
        ·have hlti : (j : Int) < (n : Int) := by omega
         obtain ⟨tj, htj⟩ : ∃ tj, ks[j]? = some tj := ⟨_, List.getElem?_eq_getElem (by rw [HN.out]; exact hlt)⟩
         obtain ⟨x, hx, hCx⟩ := hKs.get j tj htj
         obtain ⟨jk, ja, jb, jc, jd, jA, jn, jp⟩ := x
         obtain ⟨b0, off, hA, e0, e1, e2, e3, e4, e5⟩ := (hL.fr (Fr.laterF hlr) (spares_false _ _)).six hlt hx
         have hst := HS.out
         rw [drop_at htj, shapedL_cons] at hst
         have hih : ∀ wx, Later wr wx → Calls Tryz.prog 84 #[.agg #[.int .i64 jk, .int .u64 ja, .int .u64 jb, .int .u64 jc, .int .u64 jd, .slice jA jn jp], .int .i64 (D - 1 + (j : Int))] wx fun e w' => e = .returned (retS (shapedT tj (D - 1 + (j : Int)))) ∧ Later wx w' :=
          fun wx hwx => ih tj lo jk ja jb jc jd jA jn jp _ wx (HKL.out tj (List.mem_of_getElem? htj)) (hCx.later (hlr.trans hwx)) (by omega) (by omega)
         have HIH := Lib.hid hih
         have HHL := Lib.hid hL
         have HHK := Lib.hid hKs
         clear hih HS hCx htj hx hL hKs hcp
         subst hA
         cases hq : shapedT tj (D - 1 + (j : Int)) with
         | none =>
          rw [hq] at hst HIH
          have HR2 : Hid (R = none) := Lib.hid hst.symm
          clear hq hst
          go_wp2_with fail
          refine (HIH.out _ ((Later.refl _).alloc _)).mono ?_
          rintro e w1 ⟨rfl, hl1⟩
          unfold retS
          go_wp2_with fail
          go_ret2
          exact ⟨by rw [HR2.out]; rfl, (hlr.alloc _).trans hl1⟩
         | some q =>
          have hq4 := shapedT_le tj _ q hq
          rw [hq] at hst HIH
          simp only at hst
          have HQ := Lib.hid hq
          by_cases h4 : 400 < m + q
          ·rw [if_pos h4] at hst
           have HR2 : Hid (R = none) := Lib.hid hst.symm
           have h4i : (400 : Int) < (m : Int) + (q : Int) := by omega
           clear hq hst
           go_wp2_with fail
           refine (HIH.out _ ((Later.refl _).alloc _)).mono ?_
           rintro e w1 ⟨rfl, hl1⟩
           unfold retS
           go_wp2_with fail
           go_ret2
           exact ⟨by rw [HR2.out]; rfl, (hlr.alloc _).trans hl1⟩
          ·rw [if_neg h4] at hst
           have HST : Hid (shapedL (ks.drop (j + 1)) D (j + 1) (m + q) = R) := Lib.hid hst
           have h4i : decide ((400 : Int) < (m : Int) + (q : Int)) = false := decide_eq_false (by omega)
           clear hq hst
           go_wp2_with fail
           refine (HIH.out _ ((Later.refl _).alloc _)).mono ?_
           rintro e w1 ⟨rfl, hl1⟩
           unfold retS
           go_wp2_with fail
           go_roundw
           case rel => exact ⟨j + 1, m + q, by have := HN.out; omega, by go_num, by go_num, by omega, HST, (hlr.alloc _).trans hl1⟩
           case measure => simp [intOf]; omega
        ·obtain rfl : n = j := by have := HN.out; omega
         have HR2 : Hid (R = some m) := by
          show _ = _
          have := HS.out
          rw [List.drop_of_length_le (by rw [HN.out]; exact Nat.le_refl _), shapedL_nil] at this
          exact this.symm
         clear HS
         go_wp2_with fail
         go_ret2
         exact ⟨by rw [HR2.out]; rfl, hlr⟩
     | false =>
      have hs : s ≠ z4 := fun h => by have := HV.out.2 h; cases this
      have HR : Hid (R = none) := by show _ = _; rw [HR.out, if_pos (.inr (.inr ⟨hk1, hs⟩))]
      clear hkn hs hk1
      refine wp_region_laterq (by kernel_rfl) (by kernel_rfl) ?_
      repeat (go_big_quiet_step (((go_at_call 102; (with_reducible refine Calls.laterq (HKD.out _))))))
      refine wpQuiet_nil ?_
      intro _ hwq
      obtain ⟨xz, rfl⟩ := hwq
      have B1 := blkL xz.later B0
      have hl1 := hl0.trans xz.later
      clear q0 q1 q2 q3 q4 q5 B0 hl0
      go_wp2_with fail
      go_ret2
      exact ⟨by rw [HR.out]; rfl, hl1⟩
   ·have hkd : ∀ w, Calls Tryz.prog 102 #[.int .i64 k] w fun e w' => e = .returned (.int .i64 (kidsOf k)) ∧ Later w w' := fun w => (kids_any k w).mono fun e w' h => ⟨h.1, by rw [← h.2]; exact Later.refl w⟩
    have HKD := Lib.hid hkd
    have HR : Hid (R = none) := by show _ = _; rw [HR.out, if_pos (.inr (.inl hkn))]
    obtain ⟨K, hK⟩ : ∃ K, K = kidsOf k := ⟨_, rfl⟩
    have HKD : Hid (∀ w, Calls Tryz.prog 102 #[.int .i64 k] w fun e w' => e = .returned (.int .i64 K) ∧ Later w w') := by rw [hK]; exact HKD
    have hKn : (K == (n : Int)) = false := by rw [beq_eq_false_iff_ne, hK, ← HN.out]; exact hkn
    have hKn2 : (K != (n : Int)) = true := by rw [bne_iff_ne, hK, ← HN.out]; exact hkn
    clear hkd hkn hK
    refine wp_region_laterq (by kernel_rfl) (by kernel_rfl) ?_
    repeat (go_big_quiet_step (((go_at_call 102; (with_reducible refine Calls.laterq (HKD.out _))))))
    refine wpQuiet_nil ?_
    intro _ hwq
    obtain ⟨xz, rfl⟩ := hwq
    have B1 := blkL xz.later B0
    have hl1 := hl0.trans xz.later
    clear q0 q1 q2 q3 q4 q5 B0 hl0
    go_wp2_with fail
    go_ret2
    exact ⟨by rw [HR.out]; rfl, hl1⟩
theorem right_any (t : Tree) (lo : Nat → Prop) (k a b c d : Int) (A : Option Addr) (n cp : Nat) (w : World) (h : ReC w lo t ⟨k, a, b, c, d, A, n, cp⟩) :
  Calls Tryz.prog 67 #[.agg #[.int .i64 k, .int .u64 a, .int .u64 b, .int .u64 c, .int .u64 d, .slice A n cp]] w fun e w' => e = .returned (.bool (rightT t)) ∧ Later w w' := by
 have hc : ∀ wx, Later w wx → Calls Tryz.prog 84 #[.agg #[.int .i64 k, .int .u64 a, .int .u64 b, .int .u64 c, .int .u64 d, .slice A n cp], .int .i64 40] wx fun e w' => e = .returned (retS (shapedT t 40)) ∧ Later wx w' := fun wx hl => shaped_any _ t lo k a b c d A n cp 40 wx (Nat.le_refl _) (h.later hl) (by omega) (by omega)
 unfold rightT
 obtain ⟨R, hR⟩ : ∃ R, R = shapedT t 40 := ⟨_, rfl⟩
 rw [← hR] at hc ⊢
 have HC := Lib.hid hc
 clear hc hR
 cases R
 all_goals
  go_enter Tryz.func67, Tryz.ntmps67
  go_wp2_with fail
  refine (HC.out _ ((Later.refl _).alloc _)).mono ?_
  rintro e w1 ⟨rfl, hl1⟩
  unfold retS
  go_wp2_with fail
  go_ret
  exact ⟨rfl, ((Later.refl w).alloc _).trans hl1⟩
end Go.Proofs.YtmkddhkpeiajhaaGreatDoor
namespace Go.Proofs.YtmkddhkpeiajhaaGreatDoor
open Go.RowKit
theorem cells6 {w : World} {b : Nat} {t : TypeId} {x0 x1 x2 x3 x4 x5 : Value} (h : Blk w b t #[x0, x1, x2, x3, x4, x5]) :
    w.cell? ⟨b, 0, none⟩ = some x0 ∧ w.cell? ⟨b, 1, none⟩ = some x1 ∧ w.cell? ⟨b, 2, none⟩ = some x2 ∧ w.cell? ⟨b, 3, none⟩ = some x3 ∧ w.cell? ⟨b, 4, none⟩ = some x4 ∧ w.cell? ⟨b, 5, none⟩ = some x5 ∧
    w.frozen? ⟨b, 0, none⟩ = false ∧ w.frozen? ⟨b, 1, none⟩ = false ∧ w.frozen? ⟨b, 2, none⟩ = false ∧ w.frozen? ⟨b, 3, none⟩ = false ∧ w.frozen? ⟨b, 4, none⟩ = false ∧ w.frozen? ⟨b, 5, none⟩ = false :=
  ⟨h.cell 0, h.cell 1, h.cell 2, h.cell 3, h.cell 4, h.cell 5, h.frozen 0, h.frozen 1, h.frozen 2, h.frozen 3, h.frozen 4, h.frozen 5⟩
def set6 (w : World) (g : Nat) (x0 x1 x2 x3 x4 x5 : Value) : World :=
  (((((w.setCell ⟨g, 0, none⟩ x0).setCell ⟨g, 1, none⟩ x1).setCell ⟨g, 2, none⟩ x2).setCell ⟨g, 3, none⟩ x3).setCell ⟨g, 4, none⟩ x4).setCell ⟨g, 5, none⟩ x5
theorem Later.set6 {w w1 : World} {g : Nat} {x0 x1 x2 x3 x4 x5 : Value} (h : Later w w1) (hg : w.heap.size ≤ g) : Later w (set6 w1 g x0 x1 x2 x3 x4 x5) := by
  unfold Proofs.YtmkddhkpeiajhaaGreatDoor.set6
  repeat (first | (with_reducible exact h) | (with_reducible refine Later.setCell ?_ hg _))
theorem Fr.set6 {w : World} (g : Nat) (x0 x1 x2 x3 x4 x5 : Value) : Fr w (set6 w g x0 x1 x2 x3 x4 x5) (fun k => k = g) := by
  unfold Proofs.YtmkddhkpeiajhaaGreatDoor.set6
  repeat (first | (with_reducible exact Fr.refl _ _) | (with_reducible refine frG ?_ _))
end Go.Proofs.YtmkddhkpeiajhaaGreatDoor
namespace Go.Proofs.YtmkddhkpeiajhaaGreatDoor
open Go.RowKit
def RetPcS (w : World) (g : Nat) (lo : Nat → Prop) (S : ByteArray) (r : Pc × St) (e : Ending) (w' : World) : Prop :=
 ∃ (k a b c d : Int) (A : Option Addr) (n cp : Nat), e = .returned (.agg #[.int .i64 k, .int .u64 a, .int .u64 b, .int .u64 c, .int .u64 d, .slice A n cp, .int .i64 (r.1.deep : Int), .int .i64 (r.1.leaves : Int), .bool r.1.big]) ∧ ReC w' lo r.1.re ⟨k, a, b, c, d, A, n, cp⟩ ∧ RdC w' g S r.2 ∧ Fr w w' (fun k => k = g)
theorem frL {w w1 w2 : World} {g : Nat} (h : Fr w w1 (fun k => k = g)) (hl : Later w1 w2) : Fr w w2 (fun k => k = g) := h.andLater hl
theorem frF {w w1 w2 : World} {g : Nat} (h : Fr w w1 (fun k => k = g)) (hl : Fr w1 w2 (fun k => k = g)) : Fr w w2 (fun k => k = g) := h.trans hl (fun _ _ h => h)
theorem blkF {w w1 : World} {g b : Nat} {t : TypeId} {cs : Array Value} (hf : Fr w w1 (fun k => k = g)) (hb : b ≠ g) (h : Blk w b t cs) : Blk w1 b t cs := h.fr hf hb
theorem digitsF_bd (s : List UInt8) (a : Nat) : -1 ≤ (digitsF s a).1 ∧ (digitsF s a).1 ≤ 99 ∧ a ≤ (digitsF s a).2 ∧ (digitsF s a).2 ≤ a + 2 := by
 have hd : ∀ d : UInt8, isDig d = true → d.toNat - 48 ≤ 9 := fun d hd => by have := (isDig_iff d).1 hd; omega
 unfold digitsF
 cases h0 : s[a]? with
 | none =>
  rw [digF_none _ _ _ _ h0, if_pos rfl]
  exact ⟨by show (-1 : Int) ≤ -1; omega, by show (-1 : Int) ≤ 99; omega, Nat.le_refl _, by show a ≤ a + 2; omega⟩
 | some d =>
  by_cases o : isDig d = true
  ·have := hd d o
   rw [digF_some _ _ _ _ d h0 o]
   cases h1 : s[a + 1]? with
   | none =>
    rw [digF_none _ _ _ _ h1, if_neg (by simp)]
    simp only
    omega
   | some d2 =>
    by_cases o2 : isDig d2 = true
    ·have := hd d2 o2
     rw [digF_some _ _ _ _ d2 h1 o2, digF]
     rw [if_neg (by omega)]
     simp only
     omega
    ·rw [digF_not _ _ _ _ d2 h1 o2, if_neg (by simp)]
     simp only
     omega
  ·rw [digF_not _ _ _ _ d h0 o, if_pos rfl]
   exact ⟨by show (-1 : Int) ≤ -1; omega, by show (-1 : Int) ≤ 99; omega, Nat.le_refl _, by show a ≤ a + 2; omega⟩
theorem RetPcS.store9 {w w1 : World} {g g2 : Nat} {lo : Nat → Prop} {S : ByteArray} {R : Pc × St} {q : Pc} {st : St} {{k a b c d : Int}} {{A : Option Addr}} {{n cp : Nat}} {y0 y1 y2 y3 y4 y5 y6 y7 y8 : Value} (hR : R = (q, st)) (hB : Blk w1 g2 117 #[y0, y1, y2, y3, y4, y5, y6, y7, y8]) (hC : ReC w1 lo q.re ⟨k, a, b, c, d, A, n, cp⟩) (hr : RdC w1 g S st) (hF : Fr w w1 (fun k => k = g)) (hg : w.heap.size ≤ g2) :
  RetPcS w g lo S R (.returned (.agg #[.int .i64 k, .int .u64 a, .int .u64 b, .int .u64 c, .int .u64 d, .slice A n cp, .int .i64 (q.deep : Int), .int .i64 (q.leaves : Int), .bool q.big])) (set9 w1 g2 (.int .i64 k) (.int .u64 a) (.int .u64 b) (.int .u64 c) (.int .u64 d) (.slice A n cp) (.int .i64 (q.deep : Int)) (.int .i64 (q.leaves : Int)) (.bool q.big)) := by
 subst hR
 have hne : g ≠ g2 := by
  rintro rfl
  exact Blk.ne_ hB hr (by decide) rfl
 exact ⟨k, a, b, c, d, A, n, cp, rfl, ReC.fr (Fr.set9 g2 _ _ _ _ _ _ _ _ _) (spares_blk lo hB (by decide)) _ hC, Blk.fr hr (Fr.set9 g2 _ _ _ _ _ _ _ _ _) hne, (hF.trans (Fr.set9 g2 _ _ _ _ _ _ _ _ _) (fun k hk e => by omega))⟩
theorem leaf_z (lo : Nat → Prop) (kind : Int) (w : World) : Calls Tryz.prog 125 #[.int .i64 kind, .agg #[.int .u64 0, .int .u64 0, .int .u64 0, .int .u64 0]] w (RetPc w lo (pcLeaf kind z4)) := leaf_any lo kind z4 w
theorem copies_ok {p : Pc} (h : PcOk p) (L : Nat) (en : Bool) (i : Nat) : ∀ q ∈ copiesPc p L en i, PcOk q := by
 intro q hq
 unfold copiesPc at hq
 obtain ⟨j, _, rfl⟩ := List.mem_map.1 hq
 have h0 : PcOk ⟨p.re, p.deep, p.leaves, false⟩ := h
 unfold copyPc
 split
 ·exact h0
 ·exact pcOne_ok _ h0
theorem blkNw {w w1 : World} {t : TypeId} {cs : Array Value} (hl : Later (w.alloc (.cells cs t)) w1) : Blk w1 w.heap.size t cs := blkL hl (Blk.new w t cs)
theorem blkNwD {w w1 : World} {t : TypeId} {cs : Array Value} (hl : Later (w.alloc (.cells cs t)).drew w1) : Blk w1 w.heap.size t cs := blkL hl (Blk.new w t cs)
end Go.Proofs.YtmkddhkpeiajhaaGreatDoor
namespace Go.Proofs.YtmkddhkpeiajhaaGreatDoor
structure Res (len B : Nat) (st : St) (r : Pc × St) : Prop where
  ok : PcOk r.1
  good : r.2.bad = 0 → st.at_ < r.2.at_ ∧ r.2.at_ ≤ len ∧ r.2.op = st.op
  bd : r.2.at_ ≤ len + B
  op : r.2.op ≤ 11
  opl : st.op ≤ r.2.op
theorem fault_bad (e a : Nat) (st : St) (he : e ≠ 0) : (stFault e a st).bad ≠ 0 := by
  unfold stFault
  by_cases h : st.bad = 0
  · rw [if_pos h]; exact he
  · rw [if_neg h]; exact h
theorem fault_at (e a : Nat) (st : St) : (stFault e a st).at_ = st.at_ := by unfold stFault; split <;> rfl
theorem fault_op (e a : Nat) (st : St) : (stFault e a st).op = st.op := by unfold stFault; split <;> rfl
theorem isAt_lt {s : List UInt8} {a c : Nat} (h : isAt s a c = true) : a < s.length := by
  unfold isAt at h
  cases hx : s[a]? with
  | none => rw [hx] at h; cases h
  | some x => exact (List.getElem?_eq_some_iff.1 hx).1
theorem octF_max (s : List UInt8) : ∀ (j q n : Nat), q ≤ (octF s j q n).2 ∧ (octF s j q n).2 ≤ max q s.length
  | 0, q, n => by rw [octF]; exact ⟨Nat.le_refl _, Nat.le_max_left _ _⟩
  | j + 1, q, n => by
    cases h : s[q]? with
    | none => rw [octF_none _ _ _ _ h]; exact ⟨Nat.le_refl _, Nat.le_max_left _ _⟩
    | some d =>
      have hq := (List.getElem?_eq_some_iff.1 h).1
      by_cases ho : isOct d = true
      · rw [octF_some _ _ _ _ d h ho]
        have := octF_max s j (q + 1) (8 * n + (d.toNat - 48))
        omega
      · rw [octF_not _ _ _ _ d h ho]
        exact ⟨Nat.le_refl _, Nat.le_max_left _ _⟩
theorem esc_res (s : List UInt8) (st : St) (_hb : st.bad = 0) (hat : st.at_ ≤ s.length) :
    ((escF s st).2.bad = 0 → st.at_ ≤ (escF s st).2.at_ ∧ (escF s st).2.at_ ≤ s.length) ∧ (escF s st).2.at_ ≤ s.length ∧ (escF s st).2.op = st.op ∧ (escF s st).1 < 256 := by
  unfold escF
  cases hx : s[st.at_]? with
  | none => exact ⟨fun h => absurd h (fault_bad _ _ _ (by decide)), by rw [fault_at]; exact hat, fault_op _ _ _, by show 0 < 256; omega⟩
  | some c =>
    have hq := (List.getElem?_eq_some_iff.1 hx).1
    have hc := c.toNat_lt
    have hl : ∀ b, escLetter c.toNat = some b → b < 256 := by
      intro b hb
      unfold escLetter escTab at hb
      simp only [assocF] at hb
      repeat (split at hb; · injection hb with hb; omega)
      cases hb
    simp only
    cases he : escLetter c.toNat with
    | some b => exact ⟨fun _ => ⟨by show st.at_ ≤ st.at_ + 1; omega, by show st.at_ + 1 ≤ _; omega⟩, by show st.at_ + 1 ≤ _; omega, rfl, hl b he⟩
    | none =>
      simp only
      by_cases h : c.toNat < 48 ∨ 55 < c.toNat
      · rw [if_pos h]
        exact ⟨fun _ => ⟨by show st.at_ ≤ st.at_ + 1; omega, by show st.at_ + 1 ≤ _; omega⟩, by show st.at_ + 1 ≤ _; omega, rfl, by show c.toNat < 256; omega⟩
      · rw [if_neg h]
        have := octF_max s 2 (st.at_ + 1) (c.toNat - 48)
        have hm : max (st.at_ + 1) s.length = s.length := Nat.max_eq_right (by omega)
        rw [hm] at this
        exact ⟨fun _ => ⟨by show st.at_ ≤ (octF _ _ _ _).2; omega, by show (octF _ _ _ _).2 ≤ _; omega⟩, by show (octF _ _ _ _).2 ≤ _; omega, rfl, by show _ % 256 < 256; omega⟩
theorem rangeF_bd (s : List UInt8) (a : Nat) : a ≤ (rangeF s a).2.2.2 ∧ (rangeF s a).2.2.2 ≤ a + 5 := by
  have h1 := digitsF_bd s a
  have h2 := digitsF_bd s ((digitsF s a).2 + 1)
  unfold rangeF
  split
  · show _ ≤ (digitsF s ((digitsF s a).2 + 1)).2 ∧ (digitsF s ((digitsF s a).2 + 1)).2 ≤ _
    omega
  · show _ ≤ (digitsF s a).2 ∧ (digitsF s a).2 ≤ _
    omega
theorem times_res (s : List UInt8) (p : Pc) (st : St) (hp : PcOk p) (hat : st.at_ < s.length) :
    PcOk (timesF s p st).1 ∧ ((timesF s p st).2.bad = 0 → st.at_ < (timesF s p st).2.at_ ∧ (timesF s p st).2.at_ ≤ s.length) ∧ (timesF s p st).2.at_ ≤ s.length + 6 ∧ (timesF s p st).2.op = st.op := by
  have hr := rangeF_bd s (st.at_ + 1)
  unfold timesF
  by_cases h : rangeOk s (rangeF s (st.at_ + 1)) = true
  · rw [if_pos h]
    have hlt : (rangeF s (st.at_ + 1)).2.2.2 < s.length := by
      unfold rangeOk at h
      simp only [Bool.and_eq_true] at h
      exact isAt_lt h.2
    refine ⟨?_, fun _ => ⟨by show st.at_ < (rangeF s (st.at_ + 1)).2.2.2 + 1; omega, by show (rangeF s (st.at_ + 1)).2.2.2 + 1 ≤ _; omega⟩, by show (rangeF s (st.at_ + 1)).2.2.2 + 1 ≤ _; omega, rfl⟩
    show PcOk (if _ then _ else if _ then _ else _)
    split
    · exact pcLeaf_ok _ _
    · split
      · exact bigPc_ok
      · exact pcRow_ok 2 (copies_ok hp _ _ _)
  · rw [if_neg h]
    refine ⟨hp, fun hb => absurd hb (fault_bad _ _ _ (by decide)), ?_, fault_op _ _ _⟩
    rw [fault_at]
    show (rangeF s (st.at_ + 1)).2.2.2 ≤ _
    omega
theorem signs_res (s : List UInt8) (len B : Nat) (hlen : len = s.length) (hB : 6 ≤ B) : ∀ (f : Nat) (p : Pc) (st st0 : St), PcOk p → (st.bad = 0 → st0.at_ < st.at_ ∧ st.at_ ≤ len ∧ st.op = st0.op) → st.at_ ≤ len + B → st.op ≤ 11 → st0.op ≤ st.op → Res len B st0 (signsF s f p st)
  | 0, p, st, st0, hp, hg, hb, ho, hol => by rw [signsF]; exact ⟨hp, hg, hb, ho, hol⟩
  | f + 1, p, st, st0, hp, hg, hb, ho, hol => by
    rw [signsF]
    by_cases hbad : st.bad = 0
    · rw [if_pos hbad]
      obtain ⟨g1, g2, g3⟩ := hg hbad
      have step : ∀ (q : Pc) (c : Nat), PcOk q → isAt s st.at_ c = true → Res len B st0 (signsF s f q (stAt st (st.at_ + 1))) := fun q c hq hc => by
        have := isAt_lt hc
        exact signs_res s len B hlen hB f q (stAt st (st.at_ + 1)) st0 hq (fun _ => ⟨by show _ < st.at_ + 1; omega, by show st.at_ + 1 ≤ _; omega, g3⟩) (by show st.at_ + 1 ≤ _; omega) ho hol
      by_cases h1 : isAt s st.at_ 42 = true
      · rw [if_pos h1]; exact step _ _ (pcOne_ok 4 hp) h1
      · rw [if_neg h1]
        by_cases h2 : isAt s st.at_ 43 = true
        · rw [if_pos h2]; exact step _ _ (pcOne_ok 5 hp) h2
        · rw [if_neg h2]
          by_cases h3 : isAt s st.at_ 63 = true
          · rw [if_pos h3]; exact step _ _ (pcOne_ok 6 hp) h3
          · rw [if_neg h3]
            by_cases h4 : isAt s st.at_ 123 = true
            · rw [if_pos h4]
              have hlt := isAt_lt h4
              obtain ⟨t1, t2, t3, t4⟩ := times_res s p st hp hlt
              exact signs_res s len B hlen hB f _ _ st0 t1 (fun hb2 => by have := t2 hb2; exact ⟨by omega, by omega, by rw [t4]; exact g3⟩) (by omega) (by omega) (by omega)
            · rw [if_neg h4]; exact ⟨hp, hg, hb, ho, hol⟩
    · rw [if_neg hbad]; exact ⟨hp, hg, hb, ho, hol⟩
end Go.Proofs.YtmkddhkpeiajhaaGreatDoor
