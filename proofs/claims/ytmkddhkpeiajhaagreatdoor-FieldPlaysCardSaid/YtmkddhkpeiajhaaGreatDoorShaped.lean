import Derived.Test.YtmkddhkpeiajhaaGreatDoorTreeAll
import Derived.Test.YtmkddhkpeiajhaaGreatDoorLater
import Derived.Deep.CutBlock
import Derived.Deep.DeepCutAuto
namespace Go.Proofs.YtmkddhkpeiajhaaGreatDoor
open Go.RowKit
theorem kids_any (k : Int) (w : World) : Calls Tryz.prog 102 #[.int .i64 k] w fun e w' => e = .returned (.int .i64 (kidsOf k)) ∧ w = w' := by
 have h : k = 0 ∨ k = 1 ∨ k = 2 ∨ k = 3 ∨ k = 4 ∨ k = 5 ∨ k = 6 ∨ k = 7 ∨ k = 8 ∨ (k < 0 ∨ 8 < k) := by omega
 rcases h with rfl | rfl | rfl | rfl | rfl | rfl | rfl | rfl | rfl | h
 case inr.inr.inr.inr.inr.inr.inr.inr.inr =>
  have e : kidsOf k = -1 := by unfold kidsOf; rw [if_neg (by omega), if_neg (by omega), if_neg (by omega)]
  rw [e]
  have h0 : (k == 0) = false := by rw [beq_eq_false_iff_ne]; omega
  have h1 : (k == 1) = false := by rw [beq_eq_false_iff_ne]; omega
  have h2 : (k == 2) = false := by rw [beq_eq_false_iff_ne]; omega
  have h3 : (k == 3) = false := by rw [beq_eq_false_iff_ne]; omega
  have h4 : (k == 4) = false := by rw [beq_eq_false_iff_ne]; omega
  have h5 : (k == 5) = false := by rw [beq_eq_false_iff_ne]; omega
  have h6 : (k == 6) = false := by rw [beq_eq_false_iff_ne]; omega
  have h7 : (k == 7) = false := by rw [beq_eq_false_iff_ne]; omega
  have h8 : (k == 8) = false := by rw [beq_eq_false_iff_ne]; omega
  clear e h
  go_enter Tryz.func102, Tryz.ntmps102
  go_wp2_with fail
  go_ret
  exact ⟨rfl, rfl⟩
 all_goals
  go_enter Tryz.func102, Tryz.ntmps102
  go_wp2_with fail
  go_ret
  exact ⟨rfl, rfl⟩
def retS : Option Nat → Value
 | none => .tuple #[.int .i64 0, .bool false]
 | some n => .tuple #[.int .i64 (n : Int), .bool true]
theorem set_zero (s : W4) (a b c d : Int) (h : a = (s.1 : Int) ∧ b = (s.2.1 : Int) ∧ c = (s.2.2.1 : Int) ∧ d = (s.2.2.2 : Int)) :
  ∃ v : Bool, (v = true ↔ s = z4) ∧ ∀ w, (Op.equalIn 10000 95 (.agg #[.int .u64 a, .int .u64 b, .int .u64 c, .int .u64 d]) (.agg #[.int .u64 0, .int .u64 0, .int .u64 0, .int .u64 0])).run Tryz.prog w = .ok v w := by
 obtain ⟨s0, s1, s2, s3⟩ := s
 obtain ⟨rfl, rfl, rfl, rfl⟩ := h
 refine ⟨_, ?_, fun w => run_eq_set _ _ _ _ 0 0 0 0 w⟩
 simp only [Bool.and_eq_true, beq_iff_eq, z4, Prod.mk.injEq]
 omega
def ShapedAt (ks : List Tree) (D : Int) (R : Option Nat) (w : World) (s4 s39 : Value) (wr : World) : Prop :=
 ∃ j m : Nat, j ≤ ks.length ∧ s39 = .int .i64 (j : Int) ∧ s4 = .int .i64 (m : Int) ∧ m ≤ 1000 ∧ Hid (shapedL (ks.drop j) D j m = R) ∧ Later w wr
theorem shapedL_nil (D : Int) (j m : Nat) : shapedL [] D j m = some m := by unfold shapedL; rfl
theorem shapedL_cons (t : Tree) (ts : List Tree) (D : Int) (j m : Nat) : shapedL (t :: ts) D j m = match shapedT t (D - 1 + (j : Int)) with
  | none => none
  | some q => if 400 < m + q then none else shapedL ts D (j + 1) (m + q) := by
 rw [shapedL]
 cases shapedT t (D - 1 + (j : Int)) <;> rfl
mutual
theorem shapedT_le : ∀ (t : Tree) (D : Int) (n : Nat), shapedT t D = some n → n ≤ 400
 | .node k s ks, D, n, h => by
  unfold shapedT at h
  by_cases hc : D < 1 ∨ kidsOf k ≠ (ks.length : Int) ∨ (k ≠ 1 ∧ s ≠ z4)
  ·rw [if_pos hc] at h; cases h
  ·rw [if_neg hc] at h
   exact shapedL_le ks D 0 _ n (by split <;> omega) h
theorem shapedL_le : ∀ (ts : List Tree) (D : Int) (j m n : Nat), m ≤ 400 → shapedL ts D j m = some n → n ≤ 400
 | [], D, j, m, n, hm, h => by rw [shapedL_nil] at h; injection h with h; omega
 | t :: ts, D, j, m, n, hm, h => by
  rw [shapedL_cons] at h
  cases hq : shapedT t (D - 1 + (j : Int)) with
  | none => rw [hq] at h; cases h
  | some q =>
   rw [hq] at h
   simp only at h
   by_cases h4 : 400 < m + q
   ·rw [if_pos h4] at h; cases h
   ·rw [if_neg h4] at h
    exact shapedL_le ts D (j + 1) (m + q) n (by omega) h
end
theorem kids_two {k : Int} {n : Nat} (hh : kidsOf k = (n : Int)) : n ≤ 2 := by
 unfold kidsOf at hh
 split at hh
 ·omega
 ·split at hh
  ·omega
  ·split at hh <;> omega
theorem drop_at {α : Type} {l : List α} {j : Nat} {x : α} (h : l[j]? = some x) : l.drop j = x :: l.drop (j + 1) := by
 obtain ⟨hl, rfl⟩ := List.getElem?_eq_some_iff.1 h
 exact List.drop_eq_getElem_cons hl
set_option maxHeartbeats 8000000 in
theorem shaped_any : ∀ (fuel : Nat) (t : Tree) (lo : Nat → Prop) (k a b c d : Int) (A : Option Addr) (n cp : Nat) (D : Int) (w : World), SizeOf.sizeOf t ≤ fuel → ReC w lo t ⟨k, a, b, c, d, A, n, cp⟩ → 0 ≤ D → D ≤ 1000 →
  Calls Tryz.prog 84 #[.agg #[.int .i64 k, .int .u64 a, .int .u64 b, .int .u64 c, .int .u64 d, .slice A n cp], .int .i64 D] w fun e w' => e = .returned (retS (shapedT t D)) ∧ Later w w' := by
 intro fuel
 induction fuel with
 | zero => intro t lo k a b c d A n cp D w hf; cases t; simp at hf
 | succ fuel ih =>
  intro t lo k a b c d A n cp D w hf hC hD0 hD1
  obtain ⟨k', s, ks⟩ := t
  unfold ReC at hC
  obtain ⟨hk, hset, hn, hcp, xs, hL, hKs⟩ := hC
  obtain rfl : k = k' := hk
  obtain ⟨v, hv, keq⟩ := set_zero s a b c d hset
  simp only at hn hL hcp
  have hR : shapedT (.node k s ks) D = if D < 1 ∨ kidsOf k ≠ (ks.length : Int) ∨ (k ≠ 1 ∧ s ≠ z4) then none else shapedL ks D 0 (if ks.length = 0 then 1 else 0) := by rw [shapedT]
  obtain ⟨R, hRe⟩ : ∃ R, R = shapedT (.node k s ks) D := ⟨_, rfl⟩
  rw [← hRe] at hR ⊢
  have hkl : ∀ t ∈ ks, SizeOf.sizeOf t ≤ fuel := fun t ht => by
   have := List.sizeOf_lt_of_mem ht
   simp at hf
   omega
  have HKL := Lib.hid hkl
  clear hRe hkl hf
  have HR : Hid (R = _) := Lib.hid hR
  have HN := Lib.hid hn
  have HV := Lib.hid hv
  clear hR hn hset hv
  go_enter Tryz.func84, Tryz.ntmps84
  go_wp2_with fail
  obtain ⟨W0, hW0⟩ : ∃ W0, W0 = w.alloc (.cells #[.int .i64 k, .int .u64 a, .int .u64 b, .int .u64 c, .int .u64 d, .slice A n cp] 98) := ⟨_, rfl⟩
  have B0 : Blk W0 w.heap.size 98 #[.int .i64 k, .int .u64 a, .int .u64 b, .int .u64 c, .int .u64 d, .slice A n cp] := by rw [hW0]; exact Blk.new w _ _
  have hl0 : Later w W0 := by rw [hW0]; exact (Later.refl w).alloc _
  rw [← hW0]
  clear hW0
  have q0 : ∀ x : LW W0, x.val.cell? ⟨w.heap.size, 0, none⟩ = some (.int .i64 k) := LW.cell_ (B0.cell 0)
  have q1 : ∀ x : LW W0, x.val.cell? ⟨w.heap.size, 1, none⟩ = some (.int .u64 a) := LW.cell_ (B0.cell 1)
  have q2 : ∀ x : LW W0, x.val.cell? ⟨w.heap.size, 2, none⟩ = some (.int .u64 b) := LW.cell_ (B0.cell 2)
  have q3 : ∀ x : LW W0, x.val.cell? ⟨w.heap.size, 3, none⟩ = some (.int .u64 c) := LW.cell_ (B0.cell 3)
  have q4 : ∀ x : LW W0, x.val.cell? ⟨w.heap.size, 4, none⟩ = some (.int .u64 d) := LW.cell_ (B0.cell 4)
  have q5 : ∀ x : LW W0, x.val.cell? ⟨w.heap.size, 5, none⟩ = some (.slice A n cp) := LW.cell_ (B0.cell 5)
  by_cases hD : D < 1
  ·have HR : Hid (R = none) := by show _ = _; rw [HR.out, if_pos (.inl hD)]
   refine wp_region_laterq (by kernel_rfl) (by kernel_rfl) ?_
   repeat (go_big_quiet_step (((go_at_call 102; (with_reducible refine Calls.laterq ((kids_any k _).mono fun e w' h => ⟨h.1, by rw [← h.2]; exact Later.refl _⟩))))))
   refine wpQuiet_nil ?_
   intro _ hwq
   obtain ⟨xz, rfl⟩ := hwq
   have B1 := blkL xz.later B0
   have hl1 := hl0.trans xz.later
   clear q0 q1 q2 q3 q4 q5 B0 hl0
   go_wp2_with fail
   go_ret2
   exact ⟨by rw [HR.out]; rfl, hl1⟩
  ·by_cases hkn : kidsOf k = (ks.length : Int)
   ·have hkd : ∀ w, Calls Tryz.prog 102 #[.int .i64 k] w fun e w' => e = .returned (.int .i64 (n : Int)) ∧ Later w w' := fun w => (kids_any k w).mono fun e w' h => ⟨by rw [h.1, hkn, HN.out], by rw [← h.2]; exact Later.refl w⟩
    have Hk : Hid (kidsOf k = (n : Int)) := Lib.hid (by rw [hkn, HN.out])
    have HKD := Lib.hid hkd
    clear hkd
    by_cases hk1 : k = 1
    ·subst hk1
     have HR : Hid (R = shapedL ks D 0 (if ks.length = 0 then 1 else 0)) := by show _ = _; rw [HR.out, if_neg (by rintro (h | h | h); exact hD h; exact h hkn; exact h.1 rfl)]
     clear hkn keq
     refine wp_region_laterq (by kernel_rfl) (by kernel_rfl) ?_
     repeat (go_big_quiet_step (((go_at_call 102; (with_reducible refine Calls.laterq (HKD.out _))))))
     refine wpQuiet_nil ?_
     intro _ hwq
     obtain ⟨xz, rfl⟩ := hwq
     have B1 := blkL xz.later B0
     have hl1 := hl0.trans xz.later
     clear q0 q1 q2 q3 q4 q5 B0 hl0
     have c2 : xz.val.cell? ⟨w.heap.size, 5, none⟩ = some (.slice A n cp) := B1.cell 5
     rcases Nat.eq_zero_or_pos n with hn0 | hn0
     ·subst hn0
      have hks : ks = [] := List.eq_nil_of_length_eq_zero HN.out
      have HR1 : Hid (R = some 1) := by show _ = _; rw [HR.out, hks]; show shapedL [] D 0 1 = _; rw [shapedL_nil]
      clear HR hks hL hKs HN hcp
      go_wp2_with fail
      go_loopw [4, 39] (fun s4 s39 wr => s4 = .int .i64 1 ∧ s39 = .int .i64 0 ∧ Later w wr) (fun _ _ _ => 0)
      case atStart => exact ⟨rfl, rfl, hl1⟩
      case round =>
       obtain ⟨rfl, rfl, hlr⟩ := hrel
       go_wp2_with fail
       go_ret2
       exact ⟨by rw [HR1.out]; rfl, hlr⟩
     ·have hni : ((n : Int) == 0) = false := by rw [beq_eq_false_iff_ne]; omega
      have HR1 : Hid (shapedL (ks.drop 0) D 0 0 = R) := by show _ = _; rw [HR.out, if_neg (by rw [HN.out]; omega)]; rfl
      have hn2 : n ≤ 2 := kids_two Hk.out
      have hD2 : 1 ≤ D := by omega
      clear HR hD
      go_wp2_with fail
      go_loopw [4, 39] (fun s4 s39 wr => ShapedAt ks D R w s4 s39 wr) (fun _ s39 _ => n - (intOf s39).toNat)
      case atStart => exact ⟨0, 0, Nat.zero_le _, rfl, rfl, by omega, HR1, hl1⟩
      case round =>
       clear c2 B1 hl1 HR1 HKD
       obtain ⟨j, m, hj, rfl, rfl, hm, HS, hlr⟩ := hrel
       by_cases hlt : j < n
       ·have hlti : (j : Int) < (n : Int) := by omega
        obtain ⟨tj, htj⟩ : ∃ tj, ks[j]? = some tj := ⟨_, List.getElem?_eq_getElem (by rw [HN.out]; exact hlt)⟩
        obtain ⟨x, hx, hCx⟩ := hKs.get j tj htj
        obtain ⟨jk, ja, jb, jc, jd, jA, jn, jp⟩ := x
        obtain ⟨b0, off, hA, e0, e1, e2, e3, e4, e5⟩ := (hL.fr (Fr.laterF hlr) (spares_false _ _)).six hlt hx
        have hst := HS.out
        rw [drop_at htj, shapedL_cons] at hst
        have hih : ∀ wx, Later wr wx → Calls Tryz.prog 84 #[.agg #[.int .i64 jk, .int .u64 ja, .int .u64 jb, .int .u64 jc, .int .u64 jd, .slice jA jn jp], .int .i64 (D - 1 + (j : Int))] wx fun e w' => e = .returned (retS (shapedT tj (D - 1 + (j : Int)))) ∧ Later wx w' :=
         fun wx hwx => ih tj lo jk ja jb jc jd jA jn jp _ wx (HKL.out tj (List.mem_of_getElem? htj)) (hCx.later (hlr.trans hwx)) (by omega) (by omega)
        have HIH := Lib.hid hih
        have HHL := Lib.hid hL
        have HHK := Lib.hid hKs
        clear hih HS hCx htj hx hL hKs hcp
        subst hA
        cases hq : shapedT tj (D - 1 + (j : Int)) with
        | none =>
         rw [hq] at hst HIH
         have HR2 : Hid (R = none) := Lib.hid hst.symm
         clear hq hst
         go_wp2_with fail
         refine (HIH.out _ ((Later.refl _).alloc _)).mono ?_
         rintro e w1 ⟨rfl, hl1⟩
         unfold retS
         go_wp2_with fail
         go_ret2
         exact ⟨by rw [HR2.out]; rfl, (hlr.alloc _).trans hl1⟩
        | some q =>
         have hq4 := shapedT_le tj _ q hq
         rw [hq] at hst HIH
         simp only at hst
         have HQ := Lib.hid hq
         by_cases h4 : 400 < m + q
         ·rw [if_pos h4] at hst
          have HR2 : Hid (R = none) := Lib.hid hst.symm
          have h4i : (400 : Int) < (m : Int) + (q : Int) := by omega
          clear hq hst
          go_wp2_with fail
          refine (HIH.out _ ((Later.refl _).alloc _)).mono ?_
          rintro e w1 ⟨rfl, hl1⟩
          unfold retS
          go_wp2_with fail
          go_ret2
          exact ⟨by rw [HR2.out]; rfl, (hlr.alloc _).trans hl1⟩
         ·rw [if_neg h4] at hst
          have HST : Hid (shapedL (ks.drop (j + 1)) D (j + 1) (m + q) = R) := Lib.hid hst
          have h4i : decide ((400 : Int) < (m : Int) + (q : Int)) = false := decide_eq_false (by omega)
          clear hq hst
          go_wp2_with fail
          refine (HIH.out _ ((Later.refl _).alloc _)).mono ?_
          rintro e w1 ⟨rfl, hl1⟩
          unfold retS
          go_wp2_with fail
          go_roundw
          case rel => exact ⟨j + 1, m + q, by have := HN.out; omega, by go_num, by go_num, by omega, HST, (hlr.alloc _).trans hl1⟩
          case measure => simp [intOf]; omega
       ·obtain rfl : n = j := by have := HN.out; omega
        have HR2 : Hid (R = some m) := by
         show _ = _
         have := HS.out
         rw [List.drop_of_length_le (by rw [HN.out]; exact Nat.le_refl _), shapedL_nil] at this
         exact this.symm
        clear HS
        go_wp2_with fail
        go_ret2
        exact ⟨by rw [HR2.out]; rfl, hlr⟩
    ·have hk1i : (k == 1) = false := by rw [beq_eq_false_iff_ne]; exact hk1
     have hk1j : (k != 1) = true := by rw [bne_iff_ne]; exact hk1
     cases v with
     | true =>
      have hs : s = z4 := HV.out.1 rfl
      have HR : Hid (R = shapedL ks D 0 (if ks.length = 0 then 1 else 0)) := by show _ = _; rw [HR.out, if_neg (by rintro (h | h | h); exact hD h; exact h hkn; exact h.2 hs)]
      clear hkn hs hk1
      refine wp_region_laterq (by kernel_rfl) (by kernel_rfl) ?_
      repeat (go_big_quiet_step (((go_at_call 102; (with_reducible refine Calls.laterq (HKD.out _))))))
      refine wpQuiet_nil ?_
      intro _ hwq
      obtain ⟨xz, rfl⟩ := hwq
      have B1 := blkL xz.later B0
      have hl1 := hl0.trans xz.later
      clear q0 q1 q2 q3 q4 q5 B0 hl0
      have c2 : xz.val.cell? ⟨w.heap.size, 5, none⟩ = some (.slice A n cp) := B1.cell 5
      rcases Nat.eq_zero_or_pos n with hn0 | hn0
      ·subst hn0
       have hks : ks = [] := List.eq_nil_of_length_eq_zero HN.out
       have HR1 : Hid (R = some 1) := by show _ = _; rw [HR.out, hks]; show shapedL [] D 0 1 = _; rw [shapedL_nil]
       clear HR hks hL hKs HN hcp
       go_wp2_with fail
       go_loopw [4, 39] (fun s4 s39 wr => s4 = .int .i64 1 ∧ s39 = .int .i64 0 ∧ Later w wr) (fun _ _ _ => 0)
       case atStart => exact ⟨rfl, rfl, hl1⟩
       case round =>
        obtain ⟨rfl, rfl, hlr⟩ := hrel
        go_wp2_with fail
        go_ret2
        exact ⟨by rw [HR1.out]; rfl, hlr⟩
      ·have hni : ((n : Int) == 0) = false := by rw [beq_eq_false_iff_ne]; omega
       have HR1 : Hid (shapedL (ks.drop 0) D 0 0 = R) := by show _ = _; rw [HR.out, if_neg (by rw [HN.out]; omega)]; rfl
       have hn2 : n ≤ 2 := kids_two Hk.out
       have hD2 : 1 ≤ D := by omega
       clear HR hD
       go_wp2_with fail
       go_loopw [4, 39] (fun s4 s39 wr => ShapedAt ks D R w s4 s39 wr) (fun _ s39 _ => n - (intOf s39).toNat)
       case atStart => exact ⟨0, 0, Nat.zero_le _, rfl, rfl, by omega, HR1, hl1⟩
       case round =>
        clear c2 B1 hl1 HR1 HKD
        obtain ⟨j, m, hj, rfl, rfl, hm, HS, hlr⟩ := hrel
        by_cases hlt : j < n
        ·have hlti : (j : Int) < (n : Int) := by omega
         obtain ⟨tj, htj⟩ : ∃ tj, ks[j]? = some tj := ⟨_, List.getElem?_eq_getElem (by rw [HN.out]; exact hlt)⟩
         obtain ⟨x, hx, hCx⟩ := hKs.get j tj htj
         obtain ⟨jk, ja, jb, jc, jd, jA, jn, jp⟩ := x
         obtain ⟨b0, off, hA, e0, e1, e2, e3, e4, e5⟩ := (hL.fr (Fr.laterF hlr) (spares_false _ _)).six hlt hx
         have hst := HS.out
         rw [drop_at htj, shapedL_cons] at hst
         have hih : ∀ wx, Later wr wx → Calls Tryz.prog 84 #[.agg #[.int .i64 jk, .int .u64 ja, .int .u64 jb, .int .u64 jc, .int .u64 jd, .slice jA jn jp], .int .i64 (D - 1 + (j : Int))] wx fun e w' => e = .returned (retS (shapedT tj (D - 1 + (j : Int)))) ∧ Later wx w' :=
          fun wx hwx => ih tj lo jk ja jb jc jd jA jn jp _ wx (HKL.out tj (List.mem_of_getElem? htj)) (hCx.later (hlr.trans hwx)) (by omega) (by omega)
         have HIH := Lib.hid hih
         have HHL := Lib.hid hL
         have HHK := Lib.hid hKs
         clear hih HS hCx htj hx hL hKs hcp
         subst hA
         cases hq : shapedT tj (D - 1 + (j : Int)) with
         | none =>
          rw [hq] at hst HIH
          have HR2 : Hid (R = none) := Lib.hid hst.symm
          clear hq hst
          go_wp2_with fail
          refine (HIH.out _ ((Later.refl _).alloc _)).mono ?_
          rintro e w1 ⟨rfl, hl1⟩
          unfold retS
          go_wp2_with fail
          go_ret2
          exact ⟨by rw [HR2.out]; rfl, (hlr.alloc _).trans hl1⟩
         | some q =>
          have hq4 := shapedT_le tj _ q hq
          rw [hq] at hst HIH
          simp only at hst
          have HQ := Lib.hid hq
          by_cases h4 : 400 < m + q
          ·rw [if_pos h4] at hst
           have HR2 : Hid (R = none) := Lib.hid hst.symm
           have h4i : (400 : Int) < (m : Int) + (q : Int) := by omega
           clear hq hst
           go_wp2_with fail
           refine (HIH.out _ ((Later.refl _).alloc _)).mono ?_
           rintro e w1 ⟨rfl, hl1⟩
           unfold retS
           go_wp2_with fail
           go_ret2
           exact ⟨by rw [HR2.out]; rfl, (hlr.alloc _).trans hl1⟩
          ·rw [if_neg h4] at hst
           have HST : Hid (shapedL (ks.drop (j + 1)) D (j + 1) (m + q) = R) := Lib.hid hst
           have h4i : decide ((400 : Int) < (m : Int) + (q : Int)) = false := decide_eq_false (by omega)
           clear hq hst
           go_wp2_with fail
           refine (HIH.out _ ((Later.refl _).alloc _)).mono ?_
           rintro e w1 ⟨rfl, hl1⟩
           unfold retS
           go_wp2_with fail
           go_roundw
           case rel => exact ⟨j + 1, m + q, by have := HN.out; omega, by go_num, by go_num, by omega, HST, (hlr.alloc _).trans hl1⟩
           case measure => simp [intOf]; omega
        ·obtain rfl : n = j := by have := HN.out; omega
         have HR2 : Hid (R = some m) := by
          show _ = _
          have := HS.out
          rw [List.drop_of_length_le (by rw [HN.out]; exact Nat.le_refl _), shapedL_nil] at this
          exact this.symm
         clear HS
         go_wp2_with fail
         go_ret2
         exact ⟨by rw [HR2.out]; rfl, hlr⟩
     | false =>
      have hs : s ≠ z4 := fun h => by have := HV.out.2 h; cases this
      have HR : Hid (R = none) := by show _ = _; rw [HR.out, if_pos (.inr (.inr ⟨hk1, hs⟩))]
      clear hkn hs hk1
      refine wp_region_laterq (by kernel_rfl) (by kernel_rfl) ?_
      repeat (go_big_quiet_step (((go_at_call 102; (with_reducible refine Calls.laterq (HKD.out _))))))
      refine wpQuiet_nil ?_
      intro _ hwq
      obtain ⟨xz, rfl⟩ := hwq
      have B1 := blkL xz.later B0
      have hl1 := hl0.trans xz.later
      clear q0 q1 q2 q3 q4 q5 B0 hl0
      go_wp2_with fail
      go_ret2
      exact ⟨by rw [HR.out]; rfl, hl1⟩
   ·have hkd : ∀ w, Calls Tryz.prog 102 #[.int .i64 k] w fun e w' => e = .returned (.int .i64 (kidsOf k)) ∧ Later w w' := fun w => (kids_any k w).mono fun e w' h => ⟨h.1, by rw [← h.2]; exact Later.refl w⟩
    have HKD := Lib.hid hkd
    have HR : Hid (R = none) := by show _ = _; rw [HR.out, if_pos (.inr (.inl hkn))]
    obtain ⟨K, hK⟩ : ∃ K, K = kidsOf k := ⟨_, rfl⟩
    have HKD : Hid (∀ w, Calls Tryz.prog 102 #[.int .i64 k] w fun e w' => e = .returned (.int .i64 K) ∧ Later w w') := by rw [hK]; exact HKD
    have hKn : (K == (n : Int)) = false := by rw [beq_eq_false_iff_ne, hK, ← HN.out]; exact hkn
    have hKn2 : (K != (n : Int)) = true := by rw [bne_iff_ne, hK, ← HN.out]; exact hkn
    clear hkd hkn hK
    refine wp_region_laterq (by kernel_rfl) (by kernel_rfl) ?_
    repeat (go_big_quiet_step (((go_at_call 102; (with_reducible refine Calls.laterq (HKD.out _))))))
    refine wpQuiet_nil ?_
    intro _ hwq
    obtain ⟨xz, rfl⟩ := hwq
    have B1 := blkL xz.later B0
    have hl1 := hl0.trans xz.later
    clear q0 q1 q2 q3 q4 q5 B0 hl0
    go_wp2_with fail
    go_ret2
    exact ⟨by rw [HR.out]; rfl, hl1⟩
theorem right_any (t : Tree) (lo : Nat → Prop) (k a b c d : Int) (A : Option Addr) (n cp : Nat) (w : World) (h : ReC w lo t ⟨k, a, b, c, d, A, n, cp⟩) :
  Calls Tryz.prog 67 #[.agg #[.int .i64 k, .int .u64 a, .int .u64 b, .int .u64 c, .int .u64 d, .slice A n cp]] w fun e w' => e = .returned (.bool (rightT t)) ∧ Later w w' := by
 have hc : ∀ wx, Later w wx → Calls Tryz.prog 84 #[.agg #[.int .i64 k, .int .u64 a, .int .u64 b, .int .u64 c, .int .u64 d, .slice A n cp], .int .i64 40] wx fun e w' => e = .returned (retS (shapedT t 40)) ∧ Later wx w' := fun wx hl => shaped_any _ t lo k a b c d A n cp 40 wx (Nat.le_refl _) (h.later hl) (by omega) (by omega)
 unfold rightT
 obtain ⟨R, hR⟩ : ∃ R, R = shapedT t 40 := ⟨_, rfl⟩
 rw [← hR] at hc ⊢
 have HC := Lib.hid hc
 clear hc hR
 cases R
 all_goals
  go_enter Tryz.func67, Tryz.ntmps67
  go_wp2_with fail
  refine (HC.out _ ((Later.refl _).alloc _)).mono ?_
  rintro e w1 ⟨rfl, hl1⟩
  unfold retS
  go_wp2_with fail
  go_ret
  exact ⟨rfl, ((Later.refl w).alloc _).trans hl1⟩
end Go.Proofs.YtmkddhkpeiajhaaGreatDoor
namespace Go.Proofs.YtmkddhkpeiajhaaGreatDoor
open Go.RowKit
theorem cells6 {w : World} {b : Nat} {t : TypeId} {x0 x1 x2 x3 x4 x5 : Value} (h : Blk w b t #[x0, x1, x2, x3, x4, x5]) :
  w.cell? ⟨b, 0, none⟩ = some x0 ∧ w.cell? ⟨b, 1, none⟩ = some x1 ∧ w.cell? ⟨b, 2, none⟩ = some x2 ∧ w.cell? ⟨b, 3, none⟩ = some x3 ∧ w.cell? ⟨b, 4, none⟩ = some x4 ∧ w.cell? ⟨b, 5, none⟩ = some x5 ∧
  w.frozen? ⟨b, 0, none⟩ = false ∧ w.frozen? ⟨b, 1, none⟩ = false ∧ w.frozen? ⟨b, 2, none⟩ = false ∧ w.frozen? ⟨b, 3, none⟩ = false ∧ w.frozen? ⟨b, 4, none⟩ = false ∧ w.frozen? ⟨b, 5, none⟩ = false :=
 ⟨h.cell 0, h.cell 1, h.cell 2, h.cell 3, h.cell 4, h.cell 5, h.frozen 0, h.frozen 1, h.frozen 2, h.frozen 3, h.frozen 4, h.frozen 5⟩
def set6 (w : World) (g : Nat) (x0 x1 x2 x3 x4 x5 : Value) : World :=
 (((((w.setCell ⟨g, 0, none⟩ x0).setCell ⟨g, 1, none⟩ x1).setCell ⟨g, 2, none⟩ x2).setCell ⟨g, 3, none⟩ x3).setCell ⟨g, 4, none⟩ x4).setCell ⟨g, 5, none⟩ x5
theorem Later.set6 {w w1 : World} {g : Nat} {x0 x1 x2 x3 x4 x5 : Value} (h : Later w w1) (hg : w.heap.size ≤ g) : Later w (set6 w1 g x0 x1 x2 x3 x4 x5) := by
 unfold Proofs.YtmkddhkpeiajhaaGreatDoor.set6
 repeat (first | (with_reducible exact h) | (with_reducible refine Later.setCell ?_ hg _))
theorem Fr.set6 {w : World} (g : Nat) (x0 x1 x2 x3 x4 x5 : Value) : Fr w (set6 w g x0 x1 x2 x3 x4 x5) (fun k => k = g) := by
 unfold Proofs.YtmkddhkpeiajhaaGreatDoor.set6
 repeat (first | (with_reducible exact Fr.refl _ _) | (with_reducible refine frG ?_ _))
def RetRe (w : World) (t : Tree) (k a b c d : Int) (e : Ending) (w' : World) : Prop :=
 ∃ (A : Option Addr) (n cp : Nat), e = .returned (.agg #[.int .i64 k, .int .u64 a, .int .u64 b, .int .u64 c, .int .u64 d, .slice A n cp]) ∧ ReC w' (fun g => w.heap.size ≤ g) t ⟨k, a, b, c, d, A, n, cp⟩ ∧ Later w w'
theorem RetRe.mk {w w1 : World} {t : Tree} {k a b c d : Int} {A : Option Addr} {n cp g1 : Nat} (h : ReC w1 (fun g => w.heap.size + 2 ≤ g) t ⟨k, a, b, c, d, A, n, cp⟩) (hl : Later w w1) (v : Value) (hg : g1 = w.heap.size + 1) :
  RetRe w t k a b c d (.returned (.agg #[.int .i64 k, .int .u64 a, .int .u64 b, .int .u64 c, .int .u64 d, .slice A n cp])) (set6 (w1.setCell ⟨w.heap.size, 5, none⟩ v) g1 (.int .i64 k) (.int .u64 a) (.int .u64 b) (.int .u64 c) (.int .u64 d) (.slice A n cp)) := by
 subst hg
 refine ⟨A, n, cp, rfl, ?_, (Later.setCell (p := ⟨w.heap.size, 5, none⟩) hl (Nat.le_refl _) v).set6 (Nat.le_succ _)⟩
 refine ReC.weaken (lo := fun g => w.heap.size + 2 ≤ g) (fun k _ h => by omega) _ ?_
 refine ReC.fr (Fr.set6 (w.heap.size + 1) _ _ _ _ _ _) (spares_not _ (by omega)) _ ?_
 exact ReC.fr (frG (Fr.refl w1 (fun k => k = w.heap.size)) v) (spares_not _ (by omega)) _ h
def TwinAt (w : World) (k : Int) (s0 s1 s2 s3 : Nat) (A : Option Addr) (n cp : Nat) (ks : List Tree) (s3_ s9 : Value) (wr : World) : Prop :=
 ∃ (j : Nat) (Al : Option Addr) (cl : Nat), j ≤ n ∧ s9 = .int .i64 (j : Int) ∧ s3_ = .slice Al j cl ∧ OwnT wr (fun g => w.heap.size + 2 ≤ g) (w.heap.size + 2) Al j cl (ks.take j) ∧
  Blk wr w.heap.size 98 #[.int .i64 k, .int .u64 (s0 : Nat), .int .u64 (s1 : Nat), .int .u64 (s2 : Nat), .int .u64 (s3 : Nat), .slice A n cp] ∧ Blk wr (w.heap.size + 1) 98 #[.int .i64 0, .int .u64 0, .int .u64 0, .int .u64 0, .int .u64 0, .slice none 0 0] ∧ Later w wr
set_option maxHeartbeats 8000000 in
theorem twin_any : ∀ (fuel : Nat) (t : Tree) (lo : Nat → Prop) (k a b c d : Int) (A : Option Addr) (n cp : Nat) (w : World), SizeOf.sizeOf t ≤ fuel → thinT t → ReC w lo t ⟨k, a, b, c, d, A, n, cp⟩ →
  Calls Tryz.prog 132 #[.agg #[.int .i64 k, .int .u64 a, .int .u64 b, .int .u64 c, .int .u64 d, .slice A n cp]] w (RetRe w t k a b c d) := by
 intro fuel
 induction fuel with
 | zero => intro t lo k a b c d A n cp w hf; cases t; simp at hf
 | succ fuel ih =>
  intro t lo k a b c d A n cp w hf hth hC
  obtain ⟨k', s, ks⟩ := t
  unfold ReC at hC
  obtain ⟨hk, hset, hn, hcp, xs, hL, hKs⟩ := hC
  obtain rfl : k = k' := hk
  obtain ⟨s0, s1, s2, s3⟩ := s
  simp only at hset hn hcp hL
  obtain ⟨rfl, rfl, rfl, rfl⟩ := hset
  have hkl : ∀ t ∈ ks, SizeOf.sizeOf t ≤ fuel := fun t ht => by
   have := List.sizeOf_lt_of_mem ht
   simp at hf
   omega
  unfold thinT at hth
  obtain ⟨hth1, hth2⟩ := hth
  have hn2 : n ≤ 2 := by omega
  have HKL := Lib.hid hkl
  have HN := Lib.hid hn
  have HT := Lib.hid hth2
  clear hkl hf hn hth1 hth2
  go_enter Tryz.func132, Tryz.ntmps132
  go_wp2_with fail
  go_loopw [3, 9] (fun v3 v9 wr => TwinAt w k s0 s1 s2 s3 A n cp ks v3 v9 wr) (fun _ v9 _ => n - (intOf v9).toNat)
  case atStart => exact ⟨0, none, 0, by omega, rfl, rfl, OwnT.nil, (Blk.new w _ _).alloc _, blk_at (by simp), ((Later.refl w).alloc _).alloc _⟩
  case round =>
   obtain ⟨j, Al, cl, hj, rfl, rfl, hO, B1, B2, hl⟩ := hrel
   by_cases hlt : j < n
   ·have hlti : (j : Int) < (n : Int) := by omega
    obtain ⟨tj, htj⟩ : ∃ tj, ks[j]? = some tj := ⟨_, List.getElem?_eq_getElem (by rw [HN.out]; exact hlt)⟩
    obtain ⟨x, hx, hCx⟩ := hKs.get j tj htj
    obtain ⟨jk, ja, jb, jc, jd, jA, jn, jp⟩ := x
    obtain ⟨b0, off, hA, e0, e1, e2, e3, e4, e5⟩ := (hL.fr (Fr.laterF hl) (spares_false _ _)).six hlt hx
    have hih : ∀ wx, Later wr wx → Calls Tryz.prog 132 #[.agg #[.int .i64 jk, .int .u64 ja, .int .u64 jb, .int .u64 jc, .int .u64 jd, .slice jA jn jp]] wx (RetRe wx tj jk ja jb jc jd) :=
     fun wx hwx => ih tj lo jk ja jb jc jd jA jn jp wx (HKL.out tj (List.mem_of_getElem? htj)) (thinL_get HT.out (List.mem_of_getElem? htj)) (hCx.later (hl.trans hwx))
    have htk : ks.take (j + 1) = ks.take j ++ [tj] := by
     obtain ⟨hq, e⟩ := List.getElem?_eq_some_iff.1 htj
     rw [List.take_succ_eq_append_getElem hq, e]
    have HIH := Lib.hid hih
    have HTK := Lib.hid htk
    have HHL := Lib.hid hL
    have HHK := Lib.hid hKs
    clear hih hCx htj hx hL hKs hcp htk
    subst hA
    go_wp2_with fail
    refine (HIH.out _ ((Later.refl _).alloc _)).mono ?_
    rintro e w1 ⟨A1, n1, cp1, rfl, h1, hl1⟩
    have hO1 := (hO.later ((Later.refl _).alloc _)).later hl1
    have hOl := hO.lt
    have D1 := blkL hl1 (B1.alloc _)
    have D2 := blkL hl1 (B2.alloc _)
    have hlw := (hl.alloc _).trans hl1
    have hsz1 : w.heap.size + 2 ≤ wr.heap.size := by have := B2.lt; omega
    have hr1 : ReC w1 (fun g => w.heap.size + 2 ≤ g ∧ ob Al ≠ some g) tj ⟨jk, ja, jb, jc, jd, A1, n1, cp1⟩ := ReC.weaken (fun g _ hg => by
     simp at hg
     exact ⟨by omega, fun e => by have := (hOl g e).2; omega⟩) tj h1
    clear h1 hO B1 B2 hl
    go_wp2_with (at_builtin; go_loud (refine wpList_append_t _ rfl (.tmp 13) (.tmp 16) rfl (fun g => w.heap.size + 2 ≤ g) (w.heap.size + 2) Al j cl (ks.take j) rfl (hO1.later ((Later.refl _).alloc _)) tj ⟨jk, ja, jb, jc, jd, A1, n1, cp1⟩ (hr1.later ((Later.refl _).alloc _)) _ _ rfl (reads_t w1 ⟨jk, ja, jb, jc, jd, A1, n1, cp1⟩ _) (by omega) (by simp; have := hl1.size; simp at this; omega) ?_); intro A9 n9 c9 w4 hn9 hown9 hg9)
    have hAl : ∀ g, ob Al = some g → w.heap.size + 2 ≤ g := fun g hg => (hOl g hg).1
    have G1 := (D1.alloc (.cells #[.int .i64 jk, .int .u64 ja, .int .u64 jb, .int .u64 jc, .int .u64 jd, .slice A1 n1 cp1] 98)).grown hg9 (fun e => by have := hAl _ e.symm; omega)
    have G2 := (D2.alloc (.cells #[.int .i64 jk, .int .u64 ja, .int .u64 jb, .int .u64 jc, .int .u64 jd, .slice A1 n1 cp1] 98)).grown hg9 (fun e => by have := hAl _ e.symm; omega)
    have G3 : Later w w4 := (hlw.alloc _).grown hg9 (fun g hg => by have := hAl g hg; omega)
    clear hg9 D1 D2 hlw hO1 hr1
    subst hn9
    go_roundw
    case rel => exact ⟨j + 1, A9, c9, by omega, by go_num, rfl, by rw [HTK.out]; exact hown9, G1, G2, G3⟩
    case measure => simp [intOf]; omega
   ·obtain rfl : n = j := by omega
    have hO2 : OwnT wr (fun g => w.heap.size + 2 ≤ g) (w.heap.size + 2) Al n cl ks := by rw [List.take_of_length_le (by rw [HN.out]; exact Nat.le_refl _)] at hO; exact hO
    have hfin := hO2.tree (fun _ h => h) k (s0, s1, s2, s3)
    obtain ⟨u0, u1, u2, u3, u4, u5, f0, f1, f2, f3, f4, f5⟩ := cells6 B1
    obtain ⟨v0, v1, v2, v3, v4, v5, g0, g1, g2, g3, g4, g5⟩ := cells6 B2
    clear hO hO2 hKs hL
    go_wp2_with fail
    refine bodyPost_ret (v := .agg #[.int .i64 k, .int .u64 (s0 : Nat), .int .u64 (s1 : Nat), .int .u64 (s2 : Nat), .int .u64 (s3 : Nat), .slice Al n cl]) (by simp [results, Tryz.results132, go_sem, v0, v1, v2, v3, v4, v5]) rfl ?_
    exact RetRe.mk hfin hl _ rfl
end Go.Proofs.YtmkddhkpeiajhaaGreatDoor
