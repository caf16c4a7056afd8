/-
  The contract of pack's Reader.Text; slices of bytes cut at two places.
-/
import Derived.Test.YtkpckmdakiminaaDoorReader2
import Derived.Test.YtkpckmdakiminaaDoorSlices
namespace Go.Proofs.YtkpckmdakiminaaDoor
open Go.RowKit

/-- Text, on its state -/
def rText (l : List UInt8) (s : Nat × Int) (most : Int) : List UInt8 × Nat × Int :=
  if (rNum l s most.toNat).2.2 ≠ 0 then ([], (rNum l s most.toNat).2)
  else if l.length - (rNum l s most.toNat).2.1 < (rNum l s most.toNat).1 then ([], s.1, 10)
  else ((l.drop (rNum l s most.toNat).2.1).take (rNum l s most.toNat).1, (rNum l s most.toNat).2.1 + (rNum l s most.toNat).1, 0)

theorem rt_val {l x : List UInt8} {s s' : Nat × Int} {m : Int} (h : rText l s m = (x, s')) : Value.string (bstr x) = .string (bstr (rText l s m).1) := by rw [h]
theorem rt_st {l x : List UInt8} {s s' : Nat × Int} {m : Int} (h : rText l s m = (x, s')) : s' = (rText l s m).2 := by rw [h]

theorem numAt_lt {l : List UInt8} {at_ : Nat} (h : (numAt l at_).2.1 = 0) : (numAt l at_).1 < 18446744073709551616 := by
  rcases numAt_ok (l := l) (at_ := at_) (rn := (numAt l at_).1) (re := (numAt l at_).2.1) (rb := (numAt l at_).2.2) rfl with h1 | h1
  · exact h1.2.1
  · omega
/-- Num's errors are its own -/
theorem rNum_bad {l : List UInt8} {s : Nat × Int} {m : Nat} (hbad : -100 < s.2 ∧ s.2 < 100) : (-100 < (rNum l s m).2.2 ∧ (rNum l s m).2.2 < 100) ∧ (rNum l s m).1 < 18446744073709551616 := by
  unfold rNum
  by_cases h0 : s.2 ≠ 0
  · rw [if_pos h0]; exact ⟨hbad, by simp⟩
  · rw [if_neg h0]
    by_cases h1 : (numAt l s.1).2.1 ≠ 0
    · rw [if_pos h1]
      rcases numAt_ok (l := l) (at_ := s.1) (rn := (numAt l s.1).1) (re := (numAt l s.1).2.1) (rb := (numAt l s.1).2.2) rfl with h | h | h
      · exact absurd h.1 h1
      · simp only [h]; exact ⟨by decide, by decide⟩
      · simp only [h]; exact ⟨by decide, by decide⟩
    · rw [if_neg h1]
      split
      · exact ⟨⟨by show (-100 : Int) < 12; decide, by show (12 : Int) < 100; decide⟩, by show 0 < _; decide⟩
      · exact ⟨⟨by show (-100 : Int) < 0; decide, by show (0 : Int) < 100; decide⟩, numAt_lt (by simpa using h1)⟩

set_option maxRecDepth 100000 in
set_option maxHeartbeats 2000000 in
theorem reader_text (most : Int) (hm0 : -9223372036854775808 ≤ most) (hm1 : most ≤ 9223372036854775807) (w : World) (base g : Nat) (l : List UInt8) (p : Nat) (bad : Int) (hr : RrOk w base g l (p, bad)) (hbad : -100 < bad ∧ bad < 100) :
    Calls Tryd.prog 36 #[.pointer (some ⟨g, 0, none⟩), .int .i64 most] w (Red base g l w (.string (bstr (rText l (p, bad) most).1)) (rText l (p, bad) most).2) := by
  have HR := Lib.hid hr
  obtain ⟨p1, b1, rn, hrn⟩ : ∃ p1 b1 rn, Hid (rNum l (p, bad) most.toNat = (rn, p1, b1)) := ⟨_, _, _, rfl⟩
  have hq := rNum_bad (l := l) (s := (p, bad)) (m := most.toNat) hbad
  rw [hrn.out] at hq
  obtain ⟨hb1, hrn1⟩ := hq
  simp only at hb1 hrn1
  obtain ⟨hb, h1, h2, A, n, c, h3, h4⟩ := hr
  have hc1 := h3.cell 1
  simp only [List.getElem?_toArray, List.getElem?_cons_succ, List.getElem?_cons_zero] at hc1
  by_cases hmn : 0 ≤ most
  · obtain ⟨m, rfl⟩ := Int.eq_ofNat_of_zero_le hmn
    have HN := Lib.hid (fun W => reader_num m (by omega) W base g l p bad)
    rw [Int.toNat_natCast] at hrn
    rw [hrn.out] at HN
    go_enter Tryd.func36, Tryd.ntmps36
    go_wp2_with fail
    refine (HN.out w HR.out hbad).mono ?_
    rintro e w1 ⟨rfl, hr1, hf1⟩
    have HR1 := Lib.hid hr1
    obtain ⟨_, h1', h2', A1, n1, c1, h3', h4'⟩ := hr1
    have HL : Hid (l.length = n1) := h4'.len
    have hd0 := h3'.cell 0
    have hd1 := h3'.cell 1
    have hd2 := h3'.cell 2
    simp only [List.getElem?_toArray, List.getElem?_cons_succ, List.getElem?_cons_zero] at hd0 hd1 hd2
    have hfz := h3'.frozen 1
    have hn : n1 ≤ 140737488355320 := by have := HL.out; omega
    have hp1 : p1 ≤ n1 := by have := HL.out; simp only at h1'; omega
    by_cases hb0 : b1 = 0
    · subst hb0
      by_cases hlt : n1 - p1 < rn
      · have hspec : rText l (p, bad) (m : Int) = ([], p, 10) := by
          unfold rText; simp only [Int.toNat_natCast, hrn.out]; rw [if_neg (by simp), if_pos (by rw [HL.out]; exact hlt)]
        have HS := Lib.hid hspec
        have hwr : IntKind.i64.wrap ((n1 : Int) - (p1 : Int)) = (n1 : Int) - (p1 : Int) := IntWalk.i64_in _ (by omega)
        have hwu : IntKind.u64.wrap ((n1 : Int) - (p1 : Int)) = (n1 : Int) - (p1 : Int) := IntWalk.u64_in _ (by omega)
        have hlti : (n1 : Int) - (p1 : Int) < (rn : Int) := by omega
        have hres := Lib.hid fun q => (HR1.out.drewN q).set_ (w := w1.drewN q) (p, 0) h1 1 (.int .i64 (p : Int)) (fun v => rfl)
        clear hspec
        go_wp2_with fail
        go_quiet (fail)
        go_wp2_with fail
        refine (fault_any 10 _ base g l p (hres.out _).1).mono ?_
        rintro e w2 ⟨rfl, hr2, hf2⟩
        go_wp2_with fail
        go_ret
        exact Red.mk ((hf1.drewN _).trans (hres.out _).2 (fun _ _ h => h)) (rt_val HS.out) (rt_st HS.out) ⟨hr2, hf2⟩
      · have hspec : rText l (p, bad) (m : Int) = ((l.drop p1).take rn, p1 + rn, 0) := by
          unfold rText; simp only [Int.toNat_natCast, hrn.out]; rw [if_neg (by simp), if_neg (by rw [HL.out]; exact hlt)]
        have HS := Lib.hid hspec
        have hwr : IntKind.i64.wrap ((n1 : Int) - (p1 : Int)) = (n1 : Int) - (p1 : Int) := IntWalk.i64_in _ (by omega)
        have hwu : IntKind.u64.wrap ((n1 : Int) - (p1 : Int)) = (n1 : Int) - (p1 : Int) := IntWalk.u64_in _ (by omega)
        have hlti : (rn : Int) ≤ (n1 : Int) - (p1 : Int) := by omega
        have hres := Lib.hid fun q => (HR1.out.drewN q).set_ (w := w1.drewN q) (p1 + rn, 0) (by have := HL.out; simp only; omega) 1 (.int .i64 ((p1 : Int) + (rn : Int))) (fun v => rfl)
        obtain ⟨A2, hsl, hrd⟩ := slice_lh A1 n1 c1 p1 (p1 + rn) (by omega) (by omega) h4'.cap
        have hsl2 := fun W => hsl (p1 : Int) ((p1 : Int) + (rn : Int)) W rfl (by omega)
        rw [show p1 + rn - p1 = rn from by omega] at hsl2 hrd
        have hcv : ∀ q u q2, (convert 22 9 (.slice A2 rn (c1 - p1))).run Tryd.prog (((w1.drewN q).setCell ⟨g, 1, none⟩ u).drewN q2) = .ok (.string (bstr ((l.drop p1).take rn))) (((w1.drewN q).setCell ⟨g, 1, none⟩ u).drewN q2) := fun q u q2 =>
          run_str (RdB.drewN (hrd _ _ _ (OwnB.fr (p := fun k => k = g) (h4'.drewN q) (Fr.set (p := fun k => k = g) (a := ⟨g, 1, none⟩) (Fr.refl (w1.drewN q) _) (fun _ => rfl) u) (fun k hk e => h4'.ne_blk h3' (by decide) (by rw [← e]; exact hk))).rd) q2)
        have hw3 : IntKind.i64.wrap (rn : Int) = (rn : Int) := IntWalk.i64_in _ (by omega)
        have hw4 : IntKind.i64.wrap (p1 : Int) = (p1 : Int) := IntWalk.i64_in _ (by omega)
        clear hspec hsl
        go_wp2_with fail
        go_quiet (fail)
        go_wp2_with fail
        go_quiet (fail)
        go_wp2_with fail
        go_ret
        exact Red.mk (hf1.drewN _) (rt_val HS.out) (rt_st HS.out) (red_drewN (hres.out _) _)
    · have hspec : rText l (p, bad) (m : Int) = ([], p1, b1) := by unfold rText; simp only [Int.toNat_natCast, hrn.out]; rw [if_pos hb0]
      have HS := Lib.hid hspec
      clear hspec
      have hbb : (b1 == 0) = false := beq_eq_false_iff_ne.2 hb0
      go_wp2_with fail
      go_ret
      exact Red.mk hf1 (rt_val HS.out) (rt_st HS.out) ⟨HR1.out, Fr.refl _ _⟩
  · have HN := Lib.hid (fun W => reader_num 0 (by omega) W base g l p bad)
    have hm00 : most.toNat = 0 := by omega
    rw [hm00] at hrn
    rw [hrn.out] at HN
    rw [show ((0 : Nat) : Int) = 0 from rfl] at HN
    have HM0 := Lib.hid hm00
    clear hm00
    go_enter Tryd.func36, Tryd.ntmps36
    go_wp2_with fail
    refine (HN.out w HR.out hbad).mono ?_
    rintro e w1 ⟨rfl, hr1, hf1⟩
    have HR1 := Lib.hid hr1
    obtain ⟨_, h1', h2', A1, n1, c1, h3', h4'⟩ := hr1
    have HL : Hid (l.length = n1) := h4'.len
    have hd0 := h3'.cell 0
    have hd1 := h3'.cell 1
    have hd2 := h3'.cell 2
    simp only [List.getElem?_toArray, List.getElem?_cons_succ, List.getElem?_cons_zero] at hd0 hd1 hd2
    have hfz := h3'.frozen 1
    have hn : n1 ≤ 140737488355320 := by have := HL.out; omega
    have hp1 : p1 ≤ n1 := by have := HL.out; simp only at h1'; omega
    by_cases hb0 : b1 = 0
    · subst hb0
      by_cases hlt : n1 - p1 < rn
      · have hspec : rText l (p, bad) most = ([], p, 10) := by
          unfold rText; simp only [HM0.out, hrn.out]; rw [if_neg (by simp), if_pos (by rw [HL.out]; exact hlt)]
        have HS := Lib.hid hspec
        have hwr : IntKind.i64.wrap ((n1 : Int) - (p1 : Int)) = (n1 : Int) - (p1 : Int) := IntWalk.i64_in _ (by omega)
        have hwu : IntKind.u64.wrap ((n1 : Int) - (p1 : Int)) = (n1 : Int) - (p1 : Int) := IntWalk.u64_in _ (by omega)
        have hlti : (n1 : Int) - (p1 : Int) < (rn : Int) := by omega
        have hres := Lib.hid fun q => (HR1.out.drewN q).set_ (w := w1.drewN q) (p, 0) h1 1 (.int .i64 (p : Int)) (fun v => rfl)
        clear hspec
        go_wp2_with fail
        go_quiet (fail)
        go_wp2_with fail
        refine (fault_any 10 _ base g l p (hres.out _).1).mono ?_
        rintro e w2 ⟨rfl, hr2, hf2⟩
        go_wp2_with fail
        go_ret
        exact Red.mk ((hf1.drewN _).trans (hres.out _).2 (fun _ _ h => h)) (rt_val HS.out) (rt_st HS.out) ⟨hr2, hf2⟩
      · have hspec : rText l (p, bad) most = ((l.drop p1).take rn, p1 + rn, 0) := by
          unfold rText; simp only [HM0.out, hrn.out]; rw [if_neg (by simp), if_neg (by rw [HL.out]; exact hlt)]
        have HS := Lib.hid hspec
        have hwr : IntKind.i64.wrap ((n1 : Int) - (p1 : Int)) = (n1 : Int) - (p1 : Int) := IntWalk.i64_in _ (by omega)
        have hwu : IntKind.u64.wrap ((n1 : Int) - (p1 : Int)) = (n1 : Int) - (p1 : Int) := IntWalk.u64_in _ (by omega)
        have hlti : (rn : Int) ≤ (n1 : Int) - (p1 : Int) := by omega
        have hres := Lib.hid fun q => (HR1.out.drewN q).set_ (w := w1.drewN q) (p1 + rn, 0) (by have := HL.out; simp only; omega) 1 (.int .i64 ((p1 : Int) + (rn : Int))) (fun v => rfl)
        obtain ⟨A2, hsl, hrd⟩ := slice_lh A1 n1 c1 p1 (p1 + rn) (by omega) (by omega) h4'.cap
        have hsl2 := fun W => hsl (p1 : Int) ((p1 : Int) + (rn : Int)) W rfl (by omega)
        rw [show p1 + rn - p1 = rn from by omega] at hsl2 hrd
        have hcv : ∀ q u q2, (convert 22 9 (.slice A2 rn (c1 - p1))).run Tryd.prog (((w1.drewN q).setCell ⟨g, 1, none⟩ u).drewN q2) = .ok (.string (bstr ((l.drop p1).take rn))) (((w1.drewN q).setCell ⟨g, 1, none⟩ u).drewN q2) := fun q u q2 =>
          run_str (RdB.drewN (hrd _ _ _ (OwnB.fr (p := fun k => k = g) (h4'.drewN q) (Fr.set (p := fun k => k = g) (a := ⟨g, 1, none⟩) (Fr.refl (w1.drewN q) _) (fun _ => rfl) u) (fun k hk e => h4'.ne_blk h3' (by decide) (by rw [← e]; exact hk))).rd) q2)
        have hw3 : IntKind.i64.wrap (rn : Int) = (rn : Int) := IntWalk.i64_in _ (by omega)
        have hw4 : IntKind.i64.wrap (p1 : Int) = (p1 : Int) := IntWalk.i64_in _ (by omega)
        clear hspec hsl
        go_wp2_with fail
        go_quiet (fail)
        go_wp2_with fail
        go_quiet (fail)
        go_wp2_with fail
        go_ret
        exact Red.mk (hf1.drewN _) (rt_val HS.out) (rt_st HS.out) (red_drewN (hres.out _) _)
    · have hspec : rText l (p, bad) most = ([], p1, b1) := by unfold rText; simp only [HM0.out, hrn.out]; rw [if_pos hb0]
      have HS := Lib.hid hspec
      clear hspec
      have hbb : (b1 == 0) = false := beq_eq_false_iff_ne.2 hb0
      go_wp2_with fail
      go_ret
      exact Red.mk hf1 (rt_val HS.out) (rt_st HS.out) ⟨HR1.out, Fr.refl _ _⟩

end Go.Proofs.YtkpckmdakiminaaDoor
