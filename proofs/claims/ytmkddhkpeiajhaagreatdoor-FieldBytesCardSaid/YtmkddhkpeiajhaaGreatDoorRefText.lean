import Derived.Test.YtmkddhkpeiajhaaGreatDoorRefNum
import Derived.Test.YtmkddhkpeiajhaaGreatDoorReader2
namespace Go.Proofs.YtmkddhkpeiajhaaGreatDoor
open Go.RowKit
set_option maxRecDepth 100000 in
set_option maxHeartbeats 2000000 in
theorem refReader_text (most : Int) (hm0 : -9223372036854775808 ≤ most) (hm1 : most ≤ 9223372036854775807) (w : World) (base g : Nat) (l : List UInt8) (p : Nat) (bad : Int) (hr : RfOk w base g l (p, bad)) (hbad : -100 < bad ∧ bad < 100) :
  Calls Tryz.prog 40 #[.pointer (some ⟨g, 0, none⟩), .int .i64 most] w (Rfd base g l w (.string (bstr (rText l (p, bad) most).1)) (rText l (p, bad) most).2) := by
 have HR := Lib.hid hr
 obtain ⟨p1, b1, rn, hrn⟩ : ∃ p1 b1 rn, Hid (rNum l (p, bad) most.toNat = (rn, p1, b1)) := ⟨_, _, _, rfl⟩
 have hq := rNum_bad (l := l) (s := (p, bad)) (m := most.toNat) hbad
 rw [hrn.out] at hq
 obtain ⟨hb1, hrn1⟩ := hq
 simp only at hb1 hrn1
 obtain ⟨hb, h1, h2, A, n, c, h3, h4, h5⟩ := hr
 have hc1 := h3.cell 1
 simp only [List.getElem?_toArray, List.getElem?_cons_succ, List.getElem?_cons_zero] at hc1
 by_cases hmn : 0 < most
 ·obtain ⟨m, rfl⟩ := Int.eq_ofNat_of_zero_le (Int.le_of_lt hmn)
  have HN := Lib.hid (fun W => refReader_num m (by omega) W base g l p bad)
  rw [Int.toNat_natCast] at hrn
  rw [hrn.out] at HN
  have hmp : (m : Int) > 0 := hmn
  have hmx : max (0 : Int) (m : Int) = (m : Int) := by omega
  go_enter Tryz.func40, Tryz.ntmps40
  go_wp2_with fail
  refine (HN.out w HR.out).mono ?_
  rintro e w1 ⟨rfl, hr1, hf1⟩
  have HR1 := Lib.hid hr1
  obtain ⟨_, h1', h2', A1, n1, c1, h3', h4', h5'⟩ := hr1
  have HL : Hid (l.length = n1) := h4'.len
  have hd0 := h3'.cell 0
  have hd1 := h3'.cell 1
  have hd2 := h3'.cell 2
  simp only [List.getElem?_toArray, List.getElem?_cons_succ, List.getElem?_cons_zero] at hd0 hd1 hd2
  have hfz := h3'.frozen 1
  have hn : n1 ≤ 140737488355320 := by have := HL.out; omega
  have hp1 : p1 ≤ n1 := by have := HL.out; simp only at h1'; omega
  by_cases hb0 : b1 = 0
  ·subst hb0
   by_cases hlt : n1 - p1 < rn
   ·have hspec : rText l (p, bad) (m : Int) = ([], p, 10) := by
     unfold rText; simp only [Int.toNat_natCast, hrn.out]; rw [if_neg (by simp), if_pos (by rw [HL.out]; exact hlt)]
    have HS := Lib.hid hspec
    have hwr : IntKind.i64.wrap ((n1 : Int) - (p1 : Int)) = (n1 : Int) - (p1 : Int) := IntWalk.i64_in _ (by omega)
    have hwu : IntKind.u64.wrap ((n1 : Int) - (p1 : Int)) = (n1 : Int) - (p1 : Int) := IntWalk.u64_in _ (by omega)
    have hlti : (n1 : Int) - (p1 : Int) < (rn : Int) := by omega
    clear hspec
    go_wp2_with fail
    go_quiet (fail)
    go_wp2_with fail
    refine (rfFails_any 10 p _ base g l _ (HR1.out.drewN _) h1).mono ?_
    rintro e w2 ⟨rfl, hr2, hf2⟩
    go_wp2_with fail
    go_ret
    exact Rfd.mk (hf1.drewN _) (rt_val HS.out) (rt_st HS.out) ⟨hr2, hf2⟩
   ·have hspec : rText l (p, bad) (m : Int) = ((l.drop p1).take rn, p1 + rn, 0) := by
     unfold rText; simp only [Int.toNat_natCast, hrn.out]; rw [if_neg (by simp), if_neg (by rw [HL.out]; exact hlt)]
    have HS := Lib.hid hspec
    have hwr : IntKind.i64.wrap ((n1 : Int) - (p1 : Int)) = (n1 : Int) - (p1 : Int) := IntWalk.i64_in _ (by omega)
    have hwu : IntKind.u64.wrap ((n1 : Int) - (p1 : Int)) = (n1 : Int) - (p1 : Int) := IntWalk.u64_in _ (by omega)
    have hlti : (rn : Int) ≤ (n1 : Int) - (p1 : Int) := by omega
    have hres := Lib.hid fun q => (HR1.out.drewN q).set_ (w := w1.drewN q) (p1 + rn, 0) (by have := HL.out; simp only; omega) 1 (.int .i64 ((p1 : Int) + (rn : Int))) (fun v => rfl)
    obtain ⟨A2, hsl, hrd⟩ := slice_lh A1 n1 c1 p1 (p1 + rn) (by omega) (by omega) h5'
    have hsl2 := fun W => hsl (p1 : Int) ((p1 : Int) + (rn : Int)) W rfl (by omega)
    rw [show p1 + rn - p1 = rn from by omega] at hsl2 hrd
    have hlt1 := h3'.lt
    have hcv : ∀ q u q2, (convert 31 9 (.slice A2 rn (c1 - p1))).run Tryz.prog (((w1.drewN q).setCell ⟨g, 1, none⟩ u).drewN q2) = .ok (.string (bstr ((l.drop p1).take rn))) (((w1.drewN q).setCell ⟨g, 1, none⟩ u).drewN q2) := fun q u q2 =>
     run_str (RdB.drewN (hrd _ _ _ (RdB.fr (p := fun k => k = g) (h4'.drewN q) (Fr.set (p := fun k => k = g) (a := ⟨g, 1, none⟩) (Fr.refl (w1.drewN q) _) (fun _ => rfl) u) (by show base ≤ w1.heap.size; omega) (fun k hk e => by omega))) q2)
    have hw3 : IntKind.i64.wrap (rn : Int) = (rn : Int) := IntWalk.i64_in _ (by omega)
    have hw4 : IntKind.i64.wrap (p1 : Int) = (p1 : Int) := IntWalk.i64_in _ (by omega)
    clear hspec hsl
    go_wp2_with fail
    go_quiet (fail)
    go_wp2_with fail
    go_quiet (fail)
    go_wp2_with fail
    go_ret
    exact Rfd.mk (hf1.drewN _) (rt_val HS.out) (rt_st HS.out) (rfd_drewN (hres.out _) _)
  ·have hspec : rText l (p, bad) (m : Int) = ([], p1, b1) := by unfold rText; simp only [Int.toNat_natCast, hrn.out]; rw [if_pos hb0]
   have HS := Lib.hid hspec
   clear hspec
   have hbb : (b1 == 0) = false := beq_eq_false_iff_ne.2 hb0
   go_wp2_with fail
   go_ret
   exact Rfd.mk hf1 (rt_val HS.out) (rt_st HS.out) ⟨HR1.out, Fr.refl _ _⟩
 ·have HN := Lib.hid (fun W => refReader_num 0 (by omega) W base g l p bad)
  have hm00 : most.toNat = 0 := by omega
  rw [hm00] at hrn
  rw [hrn.out] at HN
  rw [show ((0 : Nat) : Int) = 0 from rfl] at HN
  have HM0 := Lib.hid hm00
  clear hm00
  have hmp : ¬ (most > 0) := hmn
  have hmq : most ≤ 0 := by omega
  have hmx : max (0 : Int) most = 0 := by omega
  go_enter Tryz.func40, Tryz.ntmps40
  go_wp2_with fail
  refine (HN.out w HR.out).mono ?_
  rintro e w1 ⟨rfl, hr1, hf1⟩
  have HR1 := Lib.hid hr1
  obtain ⟨_, h1', h2', A1, n1, c1, h3', h4', h5'⟩ := hr1
  have HL : Hid (l.length = n1) := h4'.len
  have hd0 := h3'.cell 0
  have hd1 := h3'.cell 1
  have hd2 := h3'.cell 2
  simp only [List.getElem?_toArray, List.getElem?_cons_succ, List.getElem?_cons_zero] at hd0 hd1 hd2
  have hfz := h3'.frozen 1
  have hn : n1 ≤ 140737488355320 := by have := HL.out; omega
  have hp1 : p1 ≤ n1 := by have := HL.out; simp only at h1'; omega
  by_cases hb0 : b1 = 0
  ·subst hb0
   by_cases hlt : n1 - p1 < rn
   ·have hspec : rText l (p, bad) most = ([], p, 10) := by
     unfold rText; simp only [HM0.out, hrn.out]; rw [if_neg (by simp), if_pos (by rw [HL.out]; exact hlt)]
    have HS := Lib.hid hspec
    have hwr : IntKind.i64.wrap ((n1 : Int) - (p1 : Int)) = (n1 : Int) - (p1 : Int) := IntWalk.i64_in _ (by omega)
    have hwu : IntKind.u64.wrap ((n1 : Int) - (p1 : Int)) = (n1 : Int) - (p1 : Int) := IntWalk.u64_in _ (by omega)
    have hlti : (n1 : Int) - (p1 : Int) < (rn : Int) := by omega
    clear hspec
    go_wp2_with fail
    go_quiet (fail)
    go_wp2_with fail
    refine (rfFails_any 10 p _ base g l _ (HR1.out.drewN _) h1).mono ?_
    rintro e w2 ⟨rfl, hr2, hf2⟩
    go_wp2_with fail
    go_ret
    exact Rfd.mk (hf1.drewN _) (rt_val HS.out) (rt_st HS.out) ⟨hr2, hf2⟩
   ·have hspec : rText l (p, bad) most = ((l.drop p1).take rn, p1 + rn, 0) := by
     unfold rText; simp only [HM0.out, hrn.out]; rw [if_neg (by simp), if_neg (by rw [HL.out]; exact hlt)]
    have HS := Lib.hid hspec
    have hwr : IntKind.i64.wrap ((n1 : Int) - (p1 : Int)) = (n1 : Int) - (p1 : Int) := IntWalk.i64_in _ (by omega)
    have hwu : IntKind.u64.wrap ((n1 : Int) - (p1 : Int)) = (n1 : Int) - (p1 : Int) := IntWalk.u64_in _ (by omega)
    have hlti : (rn : Int) ≤ (n1 : Int) - (p1 : Int) := by omega
    have hres := Lib.hid fun q => (HR1.out.drewN q).set_ (w := w1.drewN q) (p1 + rn, 0) (by have := HL.out; simp only; omega) 1 (.int .i64 ((p1 : Int) + (rn : Int))) (fun v => rfl)
    obtain ⟨A2, hsl, hrd⟩ := slice_lh A1 n1 c1 p1 (p1 + rn) (by omega) (by omega) h5'
    have hsl2 := fun W => hsl (p1 : Int) ((p1 : Int) + (rn : Int)) W rfl (by omega)
    rw [show p1 + rn - p1 = rn from by omega] at hsl2 hrd
    have hlt1 := h3'.lt
    have hcv : ∀ q u q2, (convert 31 9 (.slice A2 rn (c1 - p1))).run Tryz.prog (((w1.drewN q).setCell ⟨g, 1, none⟩ u).drewN q2) = .ok (.string (bstr ((l.drop p1).take rn))) (((w1.drewN q).setCell ⟨g, 1, none⟩ u).drewN q2) := fun q u q2 =>
     run_str (RdB.drewN (hrd _ _ _ (RdB.fr (p := fun k => k = g) (h4'.drewN q) (Fr.set (p := fun k => k = g) (a := ⟨g, 1, none⟩) (Fr.refl (w1.drewN q) _) (fun _ => rfl) u) (by show base ≤ w1.heap.size; omega) (fun k hk e => by omega))) q2)
    have hw3 : IntKind.i64.wrap (rn : Int) = (rn : Int) := IntWalk.i64_in _ (by omega)
    have hw4 : IntKind.i64.wrap (p1 : Int) = (p1 : Int) := IntWalk.i64_in _ (by omega)
    clear hspec hsl
    go_wp2_with fail
    go_quiet (fail)
    go_wp2_with fail
    go_quiet (fail)
    go_wp2_with fail
    go_ret
    exact Rfd.mk (hf1.drewN _) (rt_val HS.out) (rt_st HS.out) (rfd_drewN (hres.out _) _)
  ·have hspec : rText l (p, bad) most = ([], p1, b1) := by unfold rText; simp only [HM0.out, hrn.out]; rw [if_pos hb0]
   have HS := Lib.hid hspec
   clear hspec
   have hbb : (b1 == 0) = false := beq_eq_false_iff_ne.2 hb0
   go_wp2_with fail
   go_ret
   exact Rfd.mk hf1 (rt_val HS.out) (rt_st HS.out) ⟨HR1.out, Fr.refl _ _⟩
end Go.Proofs.YtmkddhkpeiajhaaGreatDoor
