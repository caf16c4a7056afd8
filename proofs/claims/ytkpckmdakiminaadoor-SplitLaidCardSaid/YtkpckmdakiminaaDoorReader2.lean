/-
  Contracts of pack's Reader: Num, End.
-/
import Derived.Test.YtkpckmdakiminaaDoorReader
namespace Go.Proofs.YtkpckmdakiminaaDoor
open Go.RowKit

theorem quiet_left {P : Program} {f : FuncId} {args : Array Value} {w : World} {n : Nat} {v : Value}
    (h : Calls P f args (w.drewN n) fun e w' => e = .returned v ∧ w.drewN n = w') : Calls P f args (w.drewN n) fun e w'' => e = .returned v ∧ ∃ m, w'' = w.drewN m :=
  h.mono fun _ _ ⟨he, hm⟩ => ⟨he, n, hm.symm⟩
theorem quiet_add_left {P : Program} {f : FuncId} {args : Array Value} {w : World} {a n : Nat} {v : Value}
    (h : Calls P f args (w.drewN (a + n)) fun e w' => e = .returned v ∧ w.drewN (a + n) = w') :
    Calls P f args (w.drewN (a + n)) fun e w'' => e = .returned v ∧ ∃ m, w'' = w.drewN (a + m) :=
  h.mono fun _ _ ⟨he, hm⟩ => ⟨he, n, hm.symm⟩

theorem numG_ok (l : List UInt8) (at_ : Nat) : ∀ f i acc : Nat, i + f = 10 → acc < 128 ^ i → ((numG l at_ f i acc).2.1 = 0 ∧ (numG l at_ f i acc).1 < 18446744073709551616 ∧ (numG l at_ f i acc).2.2 ≤ l.length) ∨ ((numG l at_ f i acc).2.1 = 10 ∨ (numG l at_ f i acc).2.1 = 11)
  | 0, _, _, _, _ => .inr (.inr rfl)
  | f + 1, i, acc, hf, ha => by
    by_cases h : at_ + i < l.length
    · rw [numG_some h]
      by_cases c1 : i = 9 ∧ 1 < (l[at_ + i]?.getD 0).toNat
      · rw [if_pos c1]; exact .inr (.inr rfl)
      · rw [if_neg c1]
        by_cases c2 : 128 ≤ (l[at_ + i]?.getD 0).toNat
        · rw [if_pos c2]
          exact numG_ok l at_ f (i + 1) _ (by omega) (digit_pow (x := (l[at_ + i]?.getD 0).toNat) ha).out
        · rw [if_neg c2]
          by_cases c3 : (l[at_ + i]?.getD 0).toNat = 0 ∧ 0 < i
          · rw [if_pos c3]; exact .inr (.inr rfl)
          · rw [if_neg c3]
            refine .inl ⟨rfl, digit_fits ha (by omega) (by omega), ?_⟩
            show at_ + i + 1 ≤ l.length
            omega
    · rw [numG_none (by omega)]; exact .inr (.inl rfl)
theorem numAt_ok {l : List UInt8} {at_ rn rb : Nat} {re : Int} (h : Hid (numAt l at_ = (rn, re, rb))) : (re = 0 ∧ rn < 18446744073709551616 ∧ rb ≤ l.length) ∨ (re = 10 ∨ re = 11) := by
  have := numG_ok l at_ 10 0 0 rfl (by decide)
  have e : numG l at_ 10 0 0 = (rn, re, rb) := h.out
  rw [e] at this
  exact this
theorem number_at {rn rb : Nat} {re : Int} (A : Option Addr) (n c : Nat) (l : List UInt8) (at_ : Nat) (B : Nat) (w : World) (hr : RdB w B A n l) (hn : n ≤ 140737488355328) (ha : at_ ≤ n) (h : Hid (numAt l at_ = (rn, re, rb))) :
    Calls Tryd.prog 46 #[.slice A n c, .int .i64 (at_ : Int)] w fun e w' => e = .returned (.tuple #[.int .u64 (rn : Int), .int .i64 re, .int .i64 (rb : Int)]) ∧ w = w' := by
  have := number_any A n c l at_ B w hr hn ha
  rw [h.out] at this
  exact this

/-- Num, on its state -/
def rNum (l : List UInt8) (s : Nat × Int) (most : Nat) : Nat × Nat × Int :=
  if s.2 ≠ 0 then (0, s)
  else if (numAt l s.1).2.1 ≠ 0 then (0, s.1, (numAt l s.1).2.1)
  else if most < (numAt l s.1).1 then (0, s.1, 12)
  else ((numAt l s.1).1, (numAt l s.1).2.2, 0)

set_option maxRecDepth 100000 in
set_option maxHeartbeats 2000000 in
theorem reader_num (most : Nat) (_hm1 : most < 18446744073709551616) (w : World) (base g : Nat) (l : List UInt8) (p : Nat) (bad : Int) (hr : RrOk w base g l (p, bad)) (hbad : -100 < bad ∧ bad < 100) :
    Calls Tryd.prog 42 #[.pointer (some ⟨g, 0, none⟩), .int .u64 (most : Int)] w (Red base g l w (.int .u64 ((rNum l (p, bad) most).1 : Int)) (rNum l (p, bad) most).2) := by
  have HR := Lib.hid hr
  obtain ⟨hb, h1, h2, A, n, c, h3, h4⟩ := hr
  have HL : Hid (l.length = n) := h4.len
  have hc0 := h3.cell 0
  have hc1 := h3.cell 1
  have hc2 := h3.cell 2
  simp only [List.getElem?_toArray, List.getElem?_cons_succ, List.getElem?_cons_zero] at hc0 hc1 hc2
  have hfz := h3.frozen 1
  have hn : n ≤ 140737488355320 := by have := HL.out; omega
  have hp : p ≤ n := by have := HL.out; simp only at h1; omega
  by_cases hb0 : bad = 0
  · subst hb0
    obtain ⟨rn, re, rb, hnum⟩ : ∃ rn re rb, Hid (numAt l p = (rn, re, rb)) := ⟨_, _, _, rfl⟩
    have hrd := h4.rd
    rcases numAt_ok hnum with ⟨rfl, hrn, hrb⟩ | hre
    · by_cases hx : most < rn
      · have hspec : rNum l (p, 0) most = (0, p, 12) := by
          unfold rNum; simp only [hnum.out]; rw [if_neg (by simp), if_neg (by simp), if_pos hx]
        rw [hspec]
        have hxi : (most : Int) < (rn : Int) := by omega
        go_enter Tryd.func42, Tryd.ntmps42
        go_wp2_with fail
        go_quiet ((go_at_call 46; exact quiet_left (number_at A n c l p _ _ (hrd.drewN _) (by omega) hp hnum)))
        go_wp2_with fail
        refine (fault_any 12 _ base g l p (HR.out.drewN _)).mono ?_
        rintro e w1 ⟨rfl, hr1, hf1⟩
        go_wp2_with fail
        go_ret
        exact Red.mk ((Fr.refl w _).drewN _) rfl rfl ⟨hr1, hf1⟩
      · have hspec : rNum l (p, 0) most = (rn, rb, 0) := by
          unfold rNum; simp only [hnum.out]; rw [if_neg (by simp), if_neg (by simp), if_neg hx]
        rw [hspec]
        have hxi : (rn : Int) ≤ (most : Int) := by omega
        have hres := Lib.hid fun q => (HR.out.drewN q).set_ (w := w.drewN q) (rb, 0) hrb 1 (.int .i64 (rb : Int)) (fun v => rfl)
        go_enter Tryd.func42, Tryd.ntmps42
        go_wp2_with fail
        go_quiet ((go_at_call 46; exact quiet_left (number_at A n c l p _ _ (hrd.drewN _) (by omega) hp hnum)))
        go_wp2_with fail
        go_ret
        exact Red.mk ((Fr.refl w _).drewN _) rfl rfl (hres.out _)
    · have hspec : rNum l (p, 0) most = (0, p, re) := by
        unfold rNum; simp only [hnum.out]; rw [if_neg (by simp), if_pos (by rcases hre with rfl | rfl <;> simp)]
      rw [hspec]
      rcases hre with rfl | rfl
      all_goals
        go_enter Tryd.func42, Tryd.ntmps42
        go_wp2_with fail
        go_quiet ((go_at_call 46; exact quiet_left (number_at A n c l p _ _ (hrd.drewN _) (by omega) hp hnum)))
        go_wp2_with fail
        refine (fault_any _ _ base g l p (HR.out.drewN _)).mono ?_
        rintro e w1 ⟨rfl, hr1, hf1⟩
        go_wp2_with fail
        go_ret
        exact Red.mk ((Fr.refl w _).drewN _) rfl rfl ⟨hr1, hf1⟩
  · have hspec : rNum l (p, bad) most = (0, p, bad) := by unfold rNum; rw [if_pos (by simpa using hb0)]
    rw [hspec]
    go_enter Tryd.func42, Tryd.ntmps42
    go_wp2
    go_ret
    exact Red.mk (Fr.refl _ _) rfl rfl ⟨HR.out, Fr.refl _ _⟩

/-- End, on its state -/
def rEnd (l : List UInt8) (s : Nat × Int) : Int := if s.2 = 0 ∧ s.1 < l.length then 11 else s.2

set_option maxRecDepth 100000 in
set_option maxHeartbeats 1000000 in
theorem reader_end (w : World) (base g : Nat) (l : List UInt8) (p : Nat) (bad : Int) (hr : RrOk w base g l (p, bad)) (hbad : -100 < bad ∧ bad < 100) :
    Calls Tryd.prog 27 #[.pointer (some ⟨g, 0, none⟩)] w (Red base g l w (.int .i64 (rEnd l (p, bad))) (p, bad)) := by
  have HR := Lib.hid hr
  obtain ⟨hb, h1, h2, A, n, c, h3, h4⟩ := hr
  have HL : Hid (l.length = n) := h4.len
  have hc0 := h3.cell 0
  have hc1 := h3.cell 1
  have hc2 := h3.cell 2
  simp only [List.getElem?_toArray, List.getElem?_cons_succ, List.getElem?_cons_zero] at hc0 hc1 hc2
  have hn : n ≤ 140737488355320 := by have := HL.out; omega
  have hp : p ≤ n := by have := HL.out; simp only at h1; omega
  by_cases hb0 : bad = 0
  · subst hb0
    by_cases hlt : p < n
    · have hspec : rEnd l (p, 0) = 11 := by unfold rEnd; rw [if_pos ⟨rfl, by rw [HL.out]; exact hlt⟩]
      rw [hspec]
      have hlti : (p : Int) < (n : Int) := by omega
      go_enter Tryd.func27, Tryd.ntmps27
      go_wp2_with fail
      go_quiet (fail)
      go_wp2_with fail
      go_ret
      exact Red.mk ((Fr.refl w _).drewN _) rfl rfl ⟨HR.out.drewN _, Fr.refl _ _⟩
    · have hspec : rEnd l (p, 0) = 0 := by unfold rEnd; rw [if_neg (by have := HL.out; simp only; omega)]
      rw [hspec]
      have hlti : (n : Int) ≤ (p : Int) := by omega
      go_enter Tryd.func27, Tryd.ntmps27
      go_wp2_with fail
      go_quiet (fail)
      go_wp2_with fail
      go_ret
      exact Red.mk ((Fr.refl w _).drewN _) rfl rfl ⟨HR.out.drewN _, Fr.refl _ _⟩
  · have hspec : rEnd l (p, bad) = bad := by unfold rEnd; rw [if_neg (fun h => hb0 h.1)]
    rw [hspec]
    have hbb : (bad == 0) = false := beq_eq_false_iff_ne.2 hb0
    go_enter Tryd.func27, Tryd.ntmps27
    go_wp2_with fail
    go_quiet (fail)
    go_wp2_with fail
    go_ret
    exact Red.mk ((Fr.refl w _).drewN _) rfl rfl ⟨HR.out.drewN _, Fr.refl _ _⟩

end Go.Proofs.YtkpckmdakiminaaDoor
