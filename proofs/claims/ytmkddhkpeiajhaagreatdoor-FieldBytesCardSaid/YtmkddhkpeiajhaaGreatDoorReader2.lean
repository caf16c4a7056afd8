import Derived.Test.YtmkddhkpeiajhaaGreatDoorWriter
import Derived.Test.YtmkddhkpeiajhaaGreatDoorAtW
namespace Go.Proofs.YtmkddhkpeiajhaaGreatDoor
open Go.RowKit
theorem quiet_left {P : Program} {f : FuncId} {args : Array Value} {w : World} {n : Nat} {v : Value}
  (h : Calls P f args (w.drewN n) fun e w' => e = .returned v ∧ w.drewN n = w') : Calls P f args (w.drewN n) fun e w'' => e = .returned v ∧ ∃ m, w'' = w.drewN m :=
 h.mono fun _ _ ⟨he, hm⟩ => ⟨he, n, hm.symm⟩
theorem numG_ok (l : List UInt8) (at_ : Nat) : ∀ f i acc : Nat, i + f = 10 → acc < 128 ^ i → ((numG l at_ f i acc).2.1 = 0 ∧ (numG l at_ f i acc).1 < 18446744073709551616 ∧ (numG l at_ f i acc).2.2 ≤ l.length) ∨ ((numG l at_ f i acc).2.1 = 10 ∨ (numG l at_ f i acc).2.1 = 11)
 | 0, _, _, _, _ => .inr (.inr rfl)
 | f + 1, i, acc, hf, ha => by
  by_cases h : at_ + i < l.length
  ·rw [numG_some h]
   by_cases c1 : i = 9 ∧ 1 < (l[at_ + i]?.getD 0).toNat
   ·rw [if_pos c1]; exact .inr (.inr rfl)
   ·rw [if_neg c1]
    by_cases c2 : 128 ≤ (l[at_ + i]?.getD 0).toNat
    ·rw [if_pos c2]
     exact numG_ok l at_ f (i + 1) _ (by omega) (digit_pow (x := (l[at_ + i]?.getD 0).toNat) ha).out
    ·rw [if_neg c2]
     by_cases c3 : (l[at_ + i]?.getD 0).toNat = 0 ∧ 0 < i
     ·rw [if_pos c3]; exact .inr (.inr rfl)
     ·rw [if_neg c3]
      refine .inl ⟨rfl, digit_fits ha (by omega) (by omega), ?_⟩
      show at_ + i + 1 ≤ l.length
      omega
  ·rw [numG_none (by omega)]; exact .inr (.inl rfl)
theorem numAt_ok {l : List UInt8} {at_ rn rb : Nat} {re : Int} (h : Hid (numAt l at_ = (rn, re, rb))) : (re = 0 ∧ rn < 18446744073709551616 ∧ rb ≤ l.length) ∨ (re = 10 ∨ re = 11) := by
 have := numG_ok l at_ 10 0 0 rfl (by decide)
 have e : numG l at_ 10 0 0 = (rn, re, rb) := h.out
 rw [e] at this
 exact this
theorem number_at {rn rb : Nat} {re : Int} (A : Option Addr) (n c : Nat) (l : List UInt8) (at_ : Nat) (B : Nat) (w : World) (hr : RdB w B A n l) (hn : n ≤ 140737488355328) (ha : at_ ≤ n) (h : Hid (numAt l at_ = (rn, re, rb))) :
  Calls Tryz.prog 51 #[.slice A n c, .int .i64 (at_ : Int)] w fun e w' => e = .returned (.tuple #[.int .u64 (rn : Int), .int .i64 re, .int .i64 (rb : Int)]) ∧ w = w' := by
 have := numAt_any A n c l at_ B w hr hn ha
 rw [h.out] at this
 exact this
def rNum (l : List UInt8) (s : Nat × Int) (most : Nat) : Nat × Nat × Int :=
 if s.2 ≠ 0 then (0, s)
 else if (numAt l s.1).2.1 ≠ 0 then (0, s.1, (numAt l s.1).2.1)
 else if most < (numAt l s.1).1 then (0, s.1, 12)
 else ((numAt l s.1).1, (numAt l s.1).2.2, 0)
set_option maxRecDepth 100000 in
set_option maxHeartbeats 2000000 in
theorem reader_num (most : Nat) (_hm1 : most < 18446744073709551616) (w : World) (base g : Nat) (l : List UInt8) (p : Nat) (bad : Int) (hr : RrOk w base g l (p, bad)) (hbad : -100 < bad ∧ bad < 100) :
  Calls Tryz.prog 36 #[.pointer (some ⟨g, 0, none⟩), .int .u64 (most : Int)] w (Red base g l w (.int .u64 ((rNum l (p, bad) most).1 : Int)) (rNum l (p, bad) most).2) := by
 have HR := Lib.hid hr
 obtain ⟨hb, h1, h2, A, n, c, h3, h4⟩ := hr
 have HL : Hid (l.length = n) := h4.len
 have hc0 := h3.cell 0
 have hc1 := h3.cell 1
 have hc2 := h3.cell 2
 simp only [List.getElem?_toArray, List.getElem?_cons_succ, List.getElem?_cons_zero] at hc0 hc1 hc2
 have hfz := h3.frozen 1
 have hn : n ≤ 140737488355320 := by have := HL.out; omega
 have hp : p ≤ n := by have := HL.out; simp only at h1; omega
 by_cases hb0 : bad = 0
 ·subst hb0
  obtain ⟨rn, re, rb, hnum⟩ : ∃ rn re rb, Hid (numAt l p = (rn, re, rb)) := ⟨_, _, _, rfl⟩
  have hrd := h4.rd
  rcases numAt_ok hnum with ⟨rfl, hrn, hrb⟩ | hre
  ·by_cases hx : most < rn
   ·have hspec : rNum l (p, 0) most = (0, p, 12) := by
     unfold rNum; simp only [hnum.out]; rw [if_neg (by simp), if_neg (by simp), if_pos hx]
    rw [hspec]
    have hxi : (most : Int) < (rn : Int) := by omega
    go_enter Tryz.func36, Tryz.ntmps36
    go_wp2_with fail
    go_quiet ((go_at_call 51; exact quiet_left (number_at A n c l p _ _ (hrd.drewN _) (by omega) hp hnum)))
    go_wp2_with fail
    refine (fault_any 12 _ base g l p (HR.out.drewN _)).mono ?_
    rintro e w1 ⟨rfl, hr1, hf1⟩
    go_wp2_with fail
    go_ret
    exact Red.mk ((Fr.refl w _).drewN _) rfl rfl ⟨hr1, hf1⟩
   ·have hspec : rNum l (p, 0) most = (rn, rb, 0) := by
     unfold rNum; simp only [hnum.out]; rw [if_neg (by simp), if_neg (by simp), if_neg hx]
    rw [hspec]
    have hxi : (rn : Int) ≤ (most : Int) := by omega
    have hres := Lib.hid fun q => (HR.out.drewN q).set_ (w := w.drewN q) (rb, 0) hrb 1 (.int .i64 (rb : Int)) (fun v => rfl)
    go_enter Tryz.func36, Tryz.ntmps36
    go_wp2_with fail
    go_quiet ((go_at_call 51; exact quiet_left (number_at A n c l p _ _ (hrd.drewN _) (by omega) hp hnum)))
    go_wp2_with fail
    go_ret
    exact Red.mk ((Fr.refl w _).drewN _) rfl rfl (hres.out _)
  ·have hspec : rNum l (p, 0) most = (0, p, re) := by
    unfold rNum; simp only [hnum.out]; rw [if_neg (by simp), if_pos (by rcases hre with rfl | rfl <;> simp)]
   rw [hspec]
   rcases hre with rfl | rfl
   all_goals
    go_enter Tryz.func36, Tryz.ntmps36
    go_wp2_with fail
    go_quiet ((go_at_call 51; exact quiet_left (number_at A n c l p _ _ (hrd.drewN _) (by omega) hp hnum)))
    go_wp2_with fail
    refine (fault_any _ _ base g l p (HR.out.drewN _)).mono ?_
    rintro e w1 ⟨rfl, hr1, hf1⟩
    go_wp2_with fail
    go_ret
    exact Red.mk ((Fr.refl w _).drewN _) rfl rfl ⟨hr1, hf1⟩
 ·have hspec : rNum l (p, bad) most = (0, p, bad) := by unfold rNum; rw [if_pos (by simpa using hb0)]
  rw [hspec]
  go_enter Tryz.func36, Tryz.ntmps36
  go_wp2
  go_ret
  exact Red.mk (Fr.refl _ _) rfl rfl ⟨HR.out, Fr.refl _ _⟩
def rEnd (l : List UInt8) (s : Nat × Int) : Int := if s.2 = 0 ∧ s.1 < l.length then 11 else s.2
set_option maxRecDepth 100000 in
set_option maxHeartbeats 1000000 in
theorem reader_end (w : World) (base g : Nat) (l : List UInt8) (p : Nat) (bad : Int) (hr : RrOk w base g l (p, bad)) (hbad : -100 < bad ∧ bad < 100) :
  Calls Tryz.prog 14 #[.pointer (some ⟨g, 0, none⟩)] w (Red base g l w (.int .i64 (rEnd l (p, bad))) (p, bad)) := by
 have HR := Lib.hid hr
 obtain ⟨hb, h1, h2, A, n, c, h3, h4⟩ := hr
 have HL : Hid (l.length = n) := h4.len
 have hc0 := h3.cell 0
 have hc1 := h3.cell 1
 have hc2 := h3.cell 2
 simp only [List.getElem?_toArray, List.getElem?_cons_succ, List.getElem?_cons_zero] at hc0 hc1 hc2
 have hn : n ≤ 140737488355320 := by have := HL.out; omega
 have hp : p ≤ n := by have := HL.out; simp only at h1; omega
 by_cases hb0 : bad = 0
 ·subst hb0
  by_cases hlt : p < n
  ·have hspec : rEnd l (p, 0) = 11 := by unfold rEnd; rw [if_pos ⟨rfl, by rw [HL.out]; exact hlt⟩]
   rw [hspec]
   have hlti : (p : Int) < (n : Int) := by omega
   go_enter Tryz.func14, Tryz.ntmps14
   go_wp2_with fail
   go_quiet (fail)
   go_wp2_with fail
   go_ret
   exact Red.mk ((Fr.refl w _).drewN _) rfl rfl ⟨HR.out.drewN _, Fr.refl _ _⟩
  ·have hspec : rEnd l (p, 0) = 0 := by unfold rEnd; rw [if_neg (by have := HL.out; simp only; omega)]
   rw [hspec]
   have hlti : (n : Int) ≤ (p : Int) := by omega
   go_enter Tryz.func14, Tryz.ntmps14
   go_wp2_with fail
   go_quiet (fail)
   go_wp2_with fail
   go_ret
   exact Red.mk ((Fr.refl w _).drewN _) rfl rfl ⟨HR.out.drewN _, Fr.refl _ _⟩
 ·have hspec : rEnd l (p, bad) = bad := by unfold rEnd; rw [if_neg (fun h => hb0 h.1)]
  rw [hspec]
  have hbb : (bad == 0) = false := beq_eq_false_iff_ne.2 hb0
  go_enter Tryz.func14, Tryz.ntmps14
  go_wp2_with fail
  go_quiet (fail)
  go_wp2_with fail
  go_ret
  exact Red.mk ((Fr.refl w _).drewN _) rfl rfl ⟨HR.out.drewN _, Fr.refl _ _⟩
end Go.Proofs.YtmkddhkpeiajhaaGreatDoor
namespace Go.Proofs.YtmkddhkpeiajhaaGreatDoor
open Go.RowKit
def rText (l : List UInt8) (s : Nat × Int) (most : Int) : List UInt8 × Nat × Int :=
 if (rNum l s most.toNat).2.2 ≠ 0 then ([], (rNum l s most.toNat).2)
 else if l.length - (rNum l s most.toNat).2.1 < (rNum l s most.toNat).1 then ([], s.1, 10)
 else ((l.drop (rNum l s most.toNat).2.1).take (rNum l s most.toNat).1, (rNum l s most.toNat).2.1 + (rNum l s most.toNat).1, 0)
theorem rt_val {l x : List UInt8} {s s' : Nat × Int} {m : Int} (h : rText l s m = (x, s')) : Value.string (bstr x) = .string (bstr (rText l s m).1) := by rw [h]
theorem rt_st {l x : List UInt8} {s s' : Nat × Int} {m : Int} (h : rText l s m = (x, s')) : s' = (rText l s m).2 := by rw [h]
theorem numAt_lt {l : List UInt8} {at_ : Nat} (h : (numAt l at_).2.1 = 0) : (numAt l at_).1 < 18446744073709551616 := by
 rcases numAt_ok (l := l) (at_ := at_) (rn := (numAt l at_).1) (re := (numAt l at_).2.1) (rb := (numAt l at_).2.2) rfl with h1 | h1
 ·exact h1.2.1
 ·omega
theorem rNum_bad {l : List UInt8} {s : Nat × Int} {m : Nat} (hbad : -100 < s.2 ∧ s.2 < 100) : (-100 < (rNum l s m).2.2 ∧ (rNum l s m).2.2 < 100) ∧ (rNum l s m).1 < 18446744073709551616 := by
 unfold rNum
 by_cases h0 : s.2 ≠ 0
 ·rw [if_pos h0]; exact ⟨hbad, by simp⟩
 ·rw [if_neg h0]
  by_cases h1 : (numAt l s.1).2.1 ≠ 0
  ·rw [if_pos h1]
   rcases numAt_ok (l := l) (at_ := s.1) (rn := (numAt l s.1).1) (re := (numAt l s.1).2.1) (rb := (numAt l s.1).2.2) rfl with h | h | h
   ·exact absurd h.1 h1
   ·simp only [h]; exact ⟨by decide, by decide⟩
   ·simp only [h]; exact ⟨by decide, by decide⟩
  ·rw [if_neg h1]
   split
   ·exact ⟨⟨by show (-100 : Int) < 12; decide, by show (12 : Int) < 100; decide⟩, by show 0 < _; decide⟩
   ·exact ⟨⟨by show (-100 : Int) < 0; decide, by show (0 : Int) < 100; decide⟩, numAt_lt (by simpa using h1)⟩
set_option maxRecDepth 100000 in
set_option maxHeartbeats 2000000 in
theorem reader_text (most : Int) (hm0 : -9223372036854775808 ≤ most) (hm1 : most ≤ 9223372036854775807) (w : World) (base g : Nat) (l : List UInt8) (p : Nat) (bad : Int) (hr : RrOk w base g l (p, bad)) (hbad : -100 < bad ∧ bad < 100) :
  Calls Tryz.prog 35 #[.pointer (some ⟨g, 0, none⟩), .int .i64 most] w (Red base g l w (.string (bstr (rText l (p, bad) most).1)) (rText l (p, bad) most).2) := by
 have HR := Lib.hid hr
 obtain ⟨p1, b1, rn, hrn⟩ : ∃ p1 b1 rn, Hid (rNum l (p, bad) most.toNat = (rn, p1, b1)) := ⟨_, _, _, rfl⟩
 have hq := rNum_bad (l := l) (s := (p, bad)) (m := most.toNat) hbad
 rw [hrn.out] at hq
 obtain ⟨hb1, hrn1⟩ := hq
 simp only at hb1 hrn1
 obtain ⟨hb, h1, h2, A, n, c, h3, h4⟩ := hr
 have hc1 := h3.cell 1
 simp only [List.getElem?_toArray, List.getElem?_cons_succ, List.getElem?_cons_zero] at hc1
 by_cases hmn : 0 ≤ most
 ·obtain ⟨m, rfl⟩ := Int.eq_ofNat_of_zero_le hmn
  have HN := Lib.hid (fun W => reader_num m (by omega) W base g l p bad)
  rw [Int.toNat_natCast] at hrn
  rw [hrn.out] at HN
  go_enter Tryz.func35, Tryz.ntmps35
  go_wp2_with fail
  refine (HN.out w HR.out hbad).mono ?_
  rintro e w1 ⟨rfl, hr1, hf1⟩
  have HR1 := Lib.hid hr1
  obtain ⟨_, h1', h2', A1, n1, c1, h3', h4'⟩ := hr1
  have HL : Hid (l.length = n1) := h4'.len
  have hd0 := h3'.cell 0
  have hd1 := h3'.cell 1
  have hd2 := h3'.cell 2
  simp only [List.getElem?_toArray, List.getElem?_cons_succ, List.getElem?_cons_zero] at hd0 hd1 hd2
  have hfz := h3'.frozen 1
  have hn : n1 ≤ 140737488355320 := by have := HL.out; omega
  have hp1 : p1 ≤ n1 := by have := HL.out; simp only at h1'; omega
  by_cases hb0 : b1 = 0
  ·subst hb0
   by_cases hlt : n1 - p1 < rn
   ·have hspec : rText l (p, bad) (m : Int) = ([], p, 10) := by
     unfold rText; simp only [Int.toNat_natCast, hrn.out]; rw [if_neg (by simp), if_pos (by rw [HL.out]; exact hlt)]
    have HS := Lib.hid hspec
    have hwr : IntKind.i64.wrap ((n1 : Int) - (p1 : Int)) = (n1 : Int) - (p1 : Int) := IntWalk.i64_in _ (by omega)
    have hwu : IntKind.u64.wrap ((n1 : Int) - (p1 : Int)) = (n1 : Int) - (p1 : Int) := IntWalk.u64_in _ (by omega)
    have hlti : (n1 : Int) - (p1 : Int) < (rn : Int) := by omega
    have hres := Lib.hid fun q => (HR1.out.drewN q).set_ (w := w1.drewN q) (p, 0) h1 1 (.int .i64 (p : Int)) (fun v => rfl)
    clear hspec
    go_wp2_with fail
    go_quiet (fail)
    go_wp2_with fail
    refine (fault_any 10 _ base g l p (hres.out _).1).mono ?_
    rintro e w2 ⟨rfl, hr2, hf2⟩
    go_wp2_with fail
    go_ret
    exact Red.mk ((hf1.drewN _).trans (hres.out _).2 (fun _ _ h => h)) (rt_val HS.out) (rt_st HS.out) ⟨hr2, hf2⟩
   ·have hspec : rText l (p, bad) (m : Int) = ((l.drop p1).take rn, p1 + rn, 0) := by
     unfold rText; simp only [Int.toNat_natCast, hrn.out]; rw [if_neg (by simp), if_neg (by rw [HL.out]; exact hlt)]
    have HS := Lib.hid hspec
    have hwr : IntKind.i64.wrap ((n1 : Int) - (p1 : Int)) = (n1 : Int) - (p1 : Int) := IntWalk.i64_in _ (by omega)
    have hwu : IntKind.u64.wrap ((n1 : Int) - (p1 : Int)) = (n1 : Int) - (p1 : Int) := IntWalk.u64_in _ (by omega)
    have hlti : (rn : Int) ≤ (n1 : Int) - (p1 : Int) := by omega
    have hres := Lib.hid fun q => (HR1.out.drewN q).set_ (w := w1.drewN q) (p1 + rn, 0) (by have := HL.out; simp only; omega) 1 (.int .i64 ((p1 : Int) + (rn : Int))) (fun v => rfl)
    obtain ⟨A2, hsl, hrd⟩ := slice_lh A1 n1 c1 p1 (p1 + rn) (by omega) (by omega) h4'.cap
    have hsl2 := fun W => hsl (p1 : Int) ((p1 : Int) + (rn : Int)) W rfl (by omega)
    rw [show p1 + rn - p1 = rn from by omega] at hsl2 hrd
    have hcv : ∀ q u q2, (convert 31 9 (.slice A2 rn (c1 - p1))).run Tryz.prog (((w1.drewN q).setCell ⟨g, 1, none⟩ u).drewN q2) = .ok (.string (bstr ((l.drop p1).take rn))) (((w1.drewN q).setCell ⟨g, 1, none⟩ u).drewN q2) := fun q u q2 =>
     run_str (RdB.drewN (hrd _ _ _ (OwnB.fr (p := fun k => k = g) (h4'.drewN q) (Fr.set (p := fun k => k = g) (a := ⟨g, 1, none⟩) (Fr.refl (w1.drewN q) _) (fun _ => rfl) u) (fun k hk e => h4'.ne_blk h3' (by decide) (by rw [← e]; exact hk))).rd) q2)
    have hw3 : IntKind.i64.wrap (rn : Int) = (rn : Int) := IntWalk.i64_in _ (by omega)
    have hw4 : IntKind.i64.wrap (p1 : Int) = (p1 : Int) := IntWalk.i64_in _ (by omega)
    clear hspec hsl
    go_wp2_with fail
    go_quiet (fail)
    go_wp2_with fail
    go_quiet (fail)
    go_wp2_with fail
    go_ret
    exact Red.mk (hf1.drewN _) (rt_val HS.out) (rt_st HS.out) (red_drewN (hres.out _) _)
  ·have hspec : rText l (p, bad) (m : Int) = ([], p1, b1) := by unfold rText; simp only [Int.toNat_natCast, hrn.out]; rw [if_pos hb0]
   have HS := Lib.hid hspec
   clear hspec
   have hbb : (b1 == 0) = false := beq_eq_false_iff_ne.2 hb0
   go_wp2_with fail
   go_ret
   exact Red.mk hf1 (rt_val HS.out) (rt_st HS.out) ⟨HR1.out, Fr.refl _ _⟩
 ·have HN := Lib.hid (fun W => reader_num 0 (by omega) W base g l p bad)
  have hm00 : most.toNat = 0 := by omega
  rw [hm00] at hrn
  rw [hrn.out] at HN
  rw [show ((0 : Nat) : Int) = 0 from rfl] at HN
  have HM0 := Lib.hid hm00
  clear hm00
  go_enter Tryz.func35, Tryz.ntmps35
  go_wp2_with fail
  refine (HN.out w HR.out hbad).mono ?_
  rintro e w1 ⟨rfl, hr1, hf1⟩
  have HR1 := Lib.hid hr1
  obtain ⟨_, h1', h2', A1, n1, c1, h3', h4'⟩ := hr1
  have HL : Hid (l.length = n1) := h4'.len
  have hd0 := h3'.cell 0
  have hd1 := h3'.cell 1
  have hd2 := h3'.cell 2
  simp only [List.getElem?_toArray, List.getElem?_cons_succ, List.getElem?_cons_zero] at hd0 hd1 hd2
  have hfz := h3'.frozen 1
  have hn : n1 ≤ 140737488355320 := by have := HL.out; omega
  have hp1 : p1 ≤ n1 := by have := HL.out; simp only at h1'; omega
  by_cases hb0 : b1 = 0
  ·subst hb0
   by_cases hlt : n1 - p1 < rn
   ·have hspec : rText l (p, bad) most = ([], p, 10) := by
     unfold rText; simp only [HM0.out, hrn.out]; rw [if_neg (by simp), if_pos (by rw [HL.out]; exact hlt)]
    have HS := Lib.hid hspec
    have hwr : IntKind.i64.wrap ((n1 : Int) - (p1 : Int)) = (n1 : Int) - (p1 : Int) := IntWalk.i64_in _ (by omega)
    have hwu : IntKind.u64.wrap ((n1 : Int) - (p1 : Int)) = (n1 : Int) - (p1 : Int) := IntWalk.u64_in _ (by omega)
    have hlti : (n1 : Int) - (p1 : Int) < (rn : Int) := by omega
    have hres := Lib.hid fun q => (HR1.out.drewN q).set_ (w := w1.drewN q) (p, 0) h1 1 (.int .i64 (p : Int)) (fun v => rfl)
    clear hspec
    go_wp2_with fail
    go_quiet (fail)
    go_wp2_with fail
    refine (fault_any 10 _ base g l p (hres.out _).1).mono ?_
    rintro e w2 ⟨rfl, hr2, hf2⟩
    go_wp2_with fail
    go_ret
    exact Red.mk ((hf1.drewN _).trans (hres.out _).2 (fun _ _ h => h)) (rt_val HS.out) (rt_st HS.out) ⟨hr2, hf2⟩
   ·have hspec : rText l (p, bad) most = ((l.drop p1).take rn, p1 + rn, 0) := by
     unfold rText; simp only [HM0.out, hrn.out]; rw [if_neg (by simp), if_neg (by rw [HL.out]; exact hlt)]
    have HS := Lib.hid hspec
    have hwr : IntKind.i64.wrap ((n1 : Int) - (p1 : Int)) = (n1 : Int) - (p1 : Int) := IntWalk.i64_in _ (by omega)
    have hwu : IntKind.u64.wrap ((n1 : Int) - (p1 : Int)) = (n1 : Int) - (p1 : Int) := IntWalk.u64_in _ (by omega)
    have hlti : (rn : Int) ≤ (n1 : Int) - (p1 : Int) := by omega
    have hres := Lib.hid fun q => (HR1.out.drewN q).set_ (w := w1.drewN q) (p1 + rn, 0) (by have := HL.out; simp only; omega) 1 (.int .i64 ((p1 : Int) + (rn : Int))) (fun v => rfl)
    obtain ⟨A2, hsl, hrd⟩ := slice_lh A1 n1 c1 p1 (p1 + rn) (by omega) (by omega) h4'.cap
    have hsl2 := fun W => hsl (p1 : Int) ((p1 : Int) + (rn : Int)) W rfl (by omega)
    rw [show p1 + rn - p1 = rn from by omega] at hsl2 hrd
    have hcv : ∀ q u q2, (convert 31 9 (.slice A2 rn (c1 - p1))).run Tryz.prog (((w1.drewN q).setCell ⟨g, 1, none⟩ u).drewN q2) = .ok (.string (bstr ((l.drop p1).take rn))) (((w1.drewN q).setCell ⟨g, 1, none⟩ u).drewN q2) := fun q u q2 =>
     run_str (RdB.drewN (hrd _ _ _ (OwnB.fr (p := fun k => k = g) (h4'.drewN q) (Fr.set (p := fun k => k = g) (a := ⟨g, 1, none⟩) (Fr.refl (w1.drewN q) _) (fun _ => rfl) u) (fun k hk e => h4'.ne_blk h3' (by decide) (by rw [← e]; exact hk))).rd) q2)
    have hw3 : IntKind.i64.wrap (rn : Int) = (rn : Int) := IntWalk.i64_in _ (by omega)
    have hw4 : IntKind.i64.wrap (p1 : Int) = (p1 : Int) := IntWalk.i64_in _ (by omega)
    clear hspec hsl
    go_wp2_with fail
    go_quiet (fail)
    go_wp2_with fail
    go_quiet (fail)
    go_wp2_with fail
    go_ret
    exact Red.mk (hf1.drewN _) (rt_val HS.out) (rt_st HS.out) (red_drewN (hres.out _) _)
  ·have hspec : rText l (p, bad) most = ([], p1, b1) := by unfold rText; simp only [HM0.out, hrn.out]; rw [if_pos hb0]
   have HS := Lib.hid hspec
   clear hspec
   have hbb : (b1 == 0) = false := beq_eq_false_iff_ne.2 hb0
   go_wp2_with fail
   go_ret
   exact Red.mk hf1 (rt_val HS.out) (rt_st HS.out) ⟨HR1.out, Fr.refl _ _⟩
end Go.Proofs.YtmkddhkpeiajhaaGreatDoor
namespace Go.Proofs.YtmkddhkpeiajhaaGreatDoor
open Go.RowKit
def RfOk (w : World) (base g : Nat) (l : List UInt8) (s : Nat × Int) : Prop :=
 base ≤ g ∧ s.1 ≤ l.length ∧ l.length ≤ 140737488355320 ∧ ∃ A n c, Blk w g 48 #[.slice A n c, .int .i64 (s.1 : Int), .int .i64 s.2] ∧ RdB w base A n l ∧ n ≤ c
section
variable {w w' : World} {base g : Nat} {l : List UInt8} {s : Nat × Int}
theorem RfOk.drewN (h : RfOk w base g l s) (k : Nat) : RfOk (w.drewN k) base g l s := h
theorem RfOk.lt (h : RfOk w base g l s) : g < w.heap.size := by obtain ⟨_, _, _, A, n, c, h3, _⟩ := h; exact h3.lt
theorem RfOk.fr {p : Nat → Prop} (h : RfOk w base g l s) (hf : Fr w w' p) (hg : ¬ p g) (hp : ∀ k, k < base → ¬ p k) : RfOk w' base g l s := by
 have hlt := h.lt
 obtain ⟨hb, h1, h2, A, n, c, h3, h4, h5⟩ := h
 exact ⟨hb, h1, h2, A, n, c, h3.fr hf hg, h4.fr hf (by omega) hp, h5⟩
theorem RfOk.set_ (h : RfOk w base g l s) (s' : Nat × Int) (hs : s'.1 ≤ l.length) (i : Nat) (u : Value)
  (hi : ∀ v : Value, (#[v, .int .i64 (s.1 : Int), .int .i64 s.2] : Array Value).setIfInBounds i u = #[v, .int .i64 (s'.1 : Int), .int .i64 s'.2]) :
  RfOk (w.setCell ⟨g, i, none⟩ u) base g l s' ∧ Fr w (w.setCell ⟨g, i, none⟩ u) (fun k => k = g) := by
 have hlt := h.lt
 obtain ⟨hb, h1, h2, A, n, c, h3, h4, h5⟩ := h
 have hf : Fr w (w.setCell ⟨g, i, none⟩ u) (fun k => k = g) := Fr.set (p := fun k => k = g) (a := ⟨g, i, none⟩) (Fr.refl w _) (fun _ => rfl) _
 refine ⟨⟨hb, hs, h2, A, n, c, ?_, h4.fr hf (by omega) (fun k hk e => by omega), h5⟩, hf⟩
 have := h3.set_ i u
 rw [hi] at this
 exact this
end
def Rfd (base g : Nat) (l : List UInt8) (w : World) (v : Value) (s : Nat × Int) (e : Ending) (w' : World) : Prop := e = .returned v ∧ RfOk w' base g l s ∧ Fr w w' (fun k => k = g)
theorem Rfd.mk {base g : Nat} {l : List UInt8} {w w1 w' : World} {v v' : Value} {s s' : Nat × Int} (hf : Fr w w1 (fun k => k = g)) (hv : v' = v) (hs : s' = s) (h : RfOk w' base g l s' ∧ Fr w1 w' (fun k => k = g)) : Rfd base g l w v s (.returned v') w' :=
 ⟨by rw [hv], by rw [← hs]; exact h.1, hf.trans h.2 (fun _ _ h => h)⟩
theorem rfd_drewN {base g : Nat} {l : List UInt8} {w w1 : World} {s : Nat × Int} (h : RfOk w1 base g l s ∧ Fr w w1 (fun k => k = g)) (n : Nat) : RfOk (w1.drewN n) base g l s ∧ Fr w (w1.drewN n) (fun k => k = g) := ⟨h.1.drewN n, h.2.drewN n⟩
theorem rfd_trans {base g : Nat} {l : List UInt8} {w w1 w2 : World} {s s1 : Nat × Int} (h : RfOk w1 base g l s1 ∧ Fr w w1 (fun k => k = g)) (h2 : RfOk w2 base g l s ∧ Fr w1 w2 (fun k => k = g)) : RfOk w2 base g l s ∧ Fr w w2 (fun k => k = g) := ⟨h2.1, h.2.trans h2.2 (fun _ _ h => h)⟩
set_option maxRecDepth 100000 in
set_option maxHeartbeats 400000 in
theorem rfFails_any (x : Int) (q : Nat) (w : World) (base g : Nat) (l : List UInt8) (s : Nat × Int) (hr : RfOk w base g l s) (hq : q ≤ l.length) :
  Calls Tryz.prog 52 #[.pointer (some ⟨g, 0, none⟩), .int .i64 x, .int .i64 (q : Int)] w fun e w' => e = .returned (.tuple #[]) ∧ RfOk w' base g l (q, x) ∧ Fr w w' (fun k => k = g) := by
 have hres := hr.set_ (s.1, x) hr.2.1 2 (.int .i64 x) (fun v => rfl)
 have hres2 := rfd_trans hres (hres.1.set_ (q, x) hq 1 (.int .i64 (q : Int)) (fun v => rfl))
 obtain ⟨hb, h1, h2, A, n, c, h3, h4, h5⟩ := hr
 have hcell := h3.cell 2
 have hcell1 := h3.cell 1
 simp only [List.getElem?_toArray, List.getElem?_cons_succ, List.getElem?_cons_zero] at hcell hcell1
 have hfz := h3.frozen 2
 have hfz1 := h3.frozen 1
 go_enter Tryz.func52, Tryz.ntmps52
 go_wp2
 go_end0
 exact ⟨rfl, hres2⟩
set_option maxRecDepth 100000 in
set_option maxHeartbeats 1000000 in
theorem refReader_end (w : World) (base g : Nat) (l : List UInt8) (p : Nat) (bad : Int) (hr : RfOk w base g l (p, bad)) :
  Calls Tryz.prog 18 #[.pointer (some ⟨g, 0, none⟩)] w (Rfd base g l w (.int .i64 (rEnd l (p, bad))) (p, bad)) := by
 have HR := Lib.hid hr
 obtain ⟨hb, h1, h2, A, n, c, h3, h4, h5⟩ := hr
 have HL : Hid (l.length = n) := h4.len
 have hc0 := h3.cell 0
 have hc1 := h3.cell 1
 have hc2 := h3.cell 2
 simp only [List.getElem?_toArray, List.getElem?_cons_succ, List.getElem?_cons_zero] at hc0 hc1 hc2
 have hn : n ≤ 140737488355320 := by have := HL.out; omega
 have hp : p ≤ n := by have := HL.out; simp only at h1; omega
 by_cases hb0 : bad = 0
 ·subst hb0
  by_cases hlt : p < n
  ·have hspec : rEnd l (p, 0) = 11 := by unfold rEnd; rw [if_pos ⟨rfl, by rw [HL.out]; exact hlt⟩]
   rw [hspec]
   have hlti : (p : Int) < (n : Int) := by omega
   go_enter Tryz.func18, Tryz.ntmps18
   go_wp2_with fail
   go_quiet (fail)
   go_wp2_with fail
   go_ret
   exact Rfd.mk ((Fr.refl w _).drewN _) rfl rfl ⟨HR.out.drewN _, Fr.refl _ _⟩
  ·have hspec : rEnd l (p, 0) = 0 := by unfold rEnd; rw [if_neg (by have := HL.out; simp only; omega)]
   rw [hspec]
   have hlti : (n : Int) ≤ (p : Int) := by omega
   go_enter Tryz.func18, Tryz.ntmps18
   go_wp2_with fail
   go_quiet (fail)
   go_wp2_with fail
   go_ret
   exact Rfd.mk ((Fr.refl w _).drewN _) rfl rfl ⟨HR.out.drewN _, Fr.refl _ _⟩
 ·have hspec : rEnd l (p, bad) = bad := by unfold rEnd; rw [if_neg (fun h => hb0 h.1)]
  rw [hspec]
  have hbb : (bad == 0) = false := beq_eq_false_iff_ne.2 hb0
  go_enter Tryz.func18, Tryz.ntmps18
  go_wp2_with fail
  go_quiet (fail)
  go_wp2_with fail
  go_ret
  exact Rfd.mk ((Fr.refl w _).drewN _) rfl rfl ⟨HR.out.drewN _, Fr.refl _ _⟩
end Go.Proofs.YtmkddhkpeiajhaaGreatDoor
