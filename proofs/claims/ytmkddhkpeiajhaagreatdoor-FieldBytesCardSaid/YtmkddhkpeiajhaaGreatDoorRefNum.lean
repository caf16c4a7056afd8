import Derived.Test.YtmkddhkpeiajhaaGreatDoorReader2
namespace Go.Proofs.YtmkddhkpeiajhaaGreatDoor
open Go.RowKit
theorem rn_val {l : List UInt8} {s s' : Nat × Int} {m b : Nat} (h : rNum l s m = (b, s')) : Value.int .u64 (b : Int) = .int .u64 ((rNum l s m).1 : Int) := by rw [h]
theorem rn_st {l : List UInt8} {s s' : Nat × Int} {m b : Nat} (h : rNum l s m = (b, s')) : s' = (rNum l s m).2 := by rw [h]
theorem rNum_err {l : List UInt8} {p m b q : Nat} {e : Int} (h : numAt l p = (b, e, q)) (he : e ≠ 0) : rNum l (p, 0) m = (0, p, e) := by
 unfold rNum; simp only [h]; rw [if_neg (by simp), if_pos he]
theorem rNum_long {l : List UInt8} {p m b q : Nat} (h : numAt l p = (b, 0, q)) (hm : m < b) : rNum l (p, 0) m = (0, p, 12) := by
 unfold rNum; simp only [h]; rw [if_neg (by simp), if_neg (by simp), if_pos hm]
theorem rNum_good {l : List UInt8} {p m b q : Nat} (h : numAt l p = (b, 0, q)) (hm : ¬ m < b) : rNum l (p, 0) m = (b, q, 0) := by
 unfold rNum; simp only [h]; rw [if_neg (by simp), if_neg (by simp), if_neg hm]
theorem num_end {l : List UInt8} {n p i acc : Nat} (hl : l.length = n) (hlt : ¬ p + i < n) (hi : i ≤ 9) (h : Hid (numAt l p = numG l p (10 - i) i acc)) : numAt l p = (0, 10, 0) := by
 rw [h.out, show 10 - i = (9 - i) + 1 from by omega]
 exact numG_none (by omega)
theorem add_digit {acc i x : Nat} (ha : acc < 128 ^ i) (hi : i ≤ 9) (h9 : i = 9 → x ≤ 1) :
  IntKind.u64.wrap ((acc : Int) + IntKind.u64.wrap ((x : Int) % 128 * 2 ^ (7 * i))) = ((acc + x % 128 * 128 ^ i : Nat) : Int) := by
 have hf := digit_fits ha hi h9
 rw [show (x : Int) % 128 = ((x % 128 : Nat) : Int) from by omega]
 have e2 : ((x % 128 : Nat) : Int) * 2 ^ (7 * i) = ((x % 128 * 128 ^ i : Nat) : Int) := by
  rw [Int.natCast_mul, Int.natCast_pow, show (7 * i) = i * 7 from Nat.mul_comm _ _]
  congr 1
  rw [show ((128 : Nat) : Int) = 2 ^ 7 from rfl, ← Int.pow_mul, Nat.mul_comm]
 rw [e2]
 generalize x % 128 * 128 ^ i = z at *
 rw [IntWalk.u64_in (z : Int) (by omega), IntWalk.u64_in _ (by omega)]
 omega
set_option maxRecDepth 100000 in
set_option maxHeartbeats 4000000 in
theorem refReader_num (most : Nat) (_hm1 : most < 18446744073709551616) (w : World) (base g : Nat) (l : List UInt8) (p : Nat) (bad : Int) (hr : RfOk w base g l (p, bad)) :
  Calls Tryz.prog 41 #[.pointer (some ⟨g, 0, none⟩), .int .u64 (most : Int)] w (Rfd base g l w (.int .u64 ((rNum l (p, bad) most).1 : Int)) (rNum l (p, bad) most).2) := by
 have HR := Lib.hid hr
 obtain ⟨hb, h1, h2, A, n, c, h3, h4, h5⟩ := hr
 have HL : Hid (l.length = n) := h4.len
 have hc1 := h3.cell 1
 have hc2 := h3.cell 2
 simp only [List.getElem?_toArray, List.getElem?_cons_succ, List.getElem?_cons_zero] at hc1 hc2
 have hn : n ≤ 140737488355320 := by have := HL.out; omega
 have hp : p ≤ n := by have := HL.out; simp only at h1; omega
 by_cases hb0 : bad = 0
 ·subst hb0
  go_enter Tryz.func41, Tryz.ntmps41
  go_wp2_with fail
  clear hc1 hc2
  go_loopw [6, 7] (fun v s wr => ∃ (i acc : Nat), i ≤ 9 ∧ p + i ≤ n ∧ s = .int .i64 (i : Int) ∧ v = .int .u64 (acc : Int) ∧ acc < 18446744073709551616 ∧ Hid (acc < 128 ^ i) ∧ Hid (numAt l p = numG l p (10 - i) i acc) ∧ RfOk wr base g l (p + i, 0) ∧ Fr w wr (fun k => k = g))
   (fun _ s _ => 10 - (intOf s).toNat)
  case atStart => exact ⟨0, 0, by omega, by omega, rfl, rfl, by omega, (by show (0 : Nat) < 128 ^ 0; decide), rfl, HR.out, Fr.refl _ _⟩
  case round =>
   obtain ⟨i, acc, hi, hpi, rfl, rfl, hacc, hap, hnum, hrd, hfw⟩ := hrel
   have HRd := Lib.hid hrd
   obtain ⟨_, _, _, A1, n1, c1, k3, k4, k5⟩ := hrd
   have hn1 : n1 = n := by have := k4.len; have := HL.out; omega
   subst hn1
   have hc0 := k3.cell 0
   have hc1 := k3.cell 1
   simp only [List.getElem?_toArray, List.getElem?_cons_succ, List.getElem?_cons_zero] at hc0 hc1
   have hfz := k3.frozen 1
   have ecast : ((p + i : Nat) : Int) = (p : Int) + (i : Int) := by omega
   rw [ecast] at hc1
   by_cases hlt : p + i < n1
   ·obtain ⟨g1, o1, rfl, hg1, hcx⟩ := k4.at_ hlt
    have hx1 : ((l[p + i]?.getD 0).toNat : Int) < 256 := by have := (l[p + i]?.getD 0).toNat_lt; omega
    have hpi1 : (p : Int) + (i : Int) < (n1 : Int) := by omega
    have hpi0 : (0 : Int) ≤ (p : Int) + (i : Int) := by omega
    have htn : ((p : Int) + (i : Int)).toNat = p + i := by omega
    have hN := num_step HL.out hlt hi hnum
    by_cases h9 : i = 9 ∧ 1 < (l[p + i]?.getD 0).toNat
    ·have HS := Lib.hid (rNum_err (m := most) (hN.out.trans (if_pos h9)) (by decide))
     have hb9 : ((i : Int) == 9) = true := beq_iff_eq.2 (by omega)
     have hx9 : (1 : Int) < ((l[p + i]?.getD 0).toNat : Int) := by omega
     clear h9
     go_wp2_with fail
     go_quiet (fail)
     go_wp2_with fail
     go_quiet (fail)
     go_wp2_with fail
     refine (rfFails_any 11 p _ base g l _ (HRd.out.drewN _) h1).mono ?_
     rintro e w2 ⟨rfl, hr2, hf2⟩
     go_wp2_with fail
     go_ret
     exact Rfd.mk (hfw.drewN _) (rn_val HS.out) (rn_st HS.out) ⟨hr2, hf2⟩
    ·by_cases hi9 : i = 9
     ·have hb9 : ((i : Int) == 9) = true := beq_iff_eq.2 (by omega)
      have hx9 : ((l[p + i]?.getD 0).toNat : Int) ≤ 1 := by omega
      have hi9' : 9 ≤ i := by omega
      have h9' : ¬ 128 ≤ (l[p + i]?.getD 0).toNat := by omega
      have HI := Lib.hid hi9
      have hn9 := Lib.hid h9
      clear hi9 h9
      obtain ⟨V, hV, hVn⟩ : ∃ V : Nat, Hid (V = acc + (l[p + i]?.getD 0).toNat % 128 * 128 ^ i) ∧ V < 18446744073709551616 := ⟨_, rfl, digit_fits hap.out hi (by omega)⟩
      have hE : IntKind.u64.wrap ((acc : Int) + IntKind.u64.wrap (((l[p + i]?.getD 0).toNat : Int) % 128 * 2 ^ (7 * i))) = (V : Int) := by rw [hV.out]; exact add_digit hap.out hi (by omega)
      have hres := Lib.hid fun q => (HRd.out.drewN q).set_ (w := wr.drewN q) (p + i + 1, 0) (by have := HL.out; simp only; omega) 1 (.int .i64 ((p : Int) + (i : Int) + 1)) (fun v => rfl)
      by_cases hx : 128 ≤ (l[p + i]?.getD 0).toNat
      ·exact absurd hx (by omega)
      ·have hxI : ((l[p + i]?.getD 0).toNat : Int) < 128 := by omega
       by_cases hz : (l[p + i]?.getD 0).toNat = 0 ∧ 0 < i
       ·have HS := Lib.hid (rNum_err (m := most) (hN.out.trans ((if_neg hn9.out).trans ((if_neg (by omega)).trans (if_pos hz)))) (by decide))
        have hzb : (((l[p + i]?.getD 0).toNat : Int) == 0) = true := beq_iff_eq.2 (by omega)
        have hzi : (0 : Int) < (i : Int) := by omega
        clear hz
        go_wp2_with fail
        go_quiet (fail)
        go_wp2_with fail
        go_quiet (fail)
        go_wp2_with fail
        refine (rfFails_any 11 p _ base g l _ (hres.out _).1 h1).mono ?_
        rintro e w2 ⟨rfl, hr2, hf2⟩
        go_wp2_with fail
        go_ret
        exact Rfd.mk ((hfw.drewN _).trans (hres.out _).2 (fun _ _ h => h)) (rn_val HS.out) (rn_st HS.out) ⟨hr2, hf2⟩
       ·have HV := Lib.hid (hN.out.trans ((if_neg hn9.out).trans ((if_neg (by omega)).trans ((if_neg hz).trans (by rw [← hV.out])))))
        have hzb : (((l[p + i]?.getD 0).toNat : Int) == 0) = false := beq_eq_false_iff_ne.2 (by omega)
        all_goals
         by_cases hm : most < V
         ·have HS := Lib.hid (rNum_long HV.out hm)
          have hmi : (most : Int) < (V : Int) := by omega
          go_wp2_with fail
          go_quiet (fail)
          go_wp2_with fail
          go_quiet (fail)
          go_wp2_with fail
          refine (rfFails_any 12 p _ base g l _ (hres.out _).1 h1).mono ?_
          rintro e w2 ⟨rfl, hr2, hf2⟩
          go_wp2_with fail
          go_ret
          exact Rfd.mk ((hfw.drewN _).trans (hres.out _).2 (fun _ _ h => h)) (rn_val HS.out) (rn_st HS.out) ⟨hr2, hf2⟩
         ·have HS := Lib.hid (rNum_good HV.out hm)
          have hmi : (V : Int) ≤ (most : Int) := by omega
          go_wp2_with fail
          go_quiet (fail)
          go_wp2_with fail
          go_quiet (fail)
          go_wp2_with fail
          go_ret
          exact Rfd.mk (hfw.drewN _) (rn_val HS.out) (rn_st HS.out) (hres.out _)
     ·have hb9 : ((i : Int) == 9) = false := beq_eq_false_iff_ne.2 (by omega)
      obtain ⟨V, hV, hVn⟩ : ∃ V : Nat, Hid (V = acc + (l[p + i]?.getD 0).toNat % 128 * 128 ^ i) ∧ V < 18446744073709551616 := ⟨_, rfl, digit_fits hap.out hi (by omega)⟩
      have hE : IntKind.u64.wrap ((acc : Int) + IntKind.u64.wrap (((l[p + i]?.getD 0).toNat : Int) % 128 * 2 ^ (7 * i))) = (V : Int) := by rw [hV.out]; exact add_digit hap.out hi (by omega)
      have hres := Lib.hid fun q => (HRd.out.drewN q).set_ (w := wr.drewN q) (p + i + 1, 0) (by have := HL.out; simp only; omega) 1 (.int .i64 ((p : Int) + (i : Int) + 1)) (fun v => rfl)
      by_cases hx : 128 ≤ (l[p + i]?.getD 0).toNat
      ·go_wp2_with fail
       go_quiet (fail)
       go_wp2_with fail
       go_quiet (fail)
       go_wp2_with fail
       go_roundw
       case rel => exact ⟨i + 1, V, by omega, by omega, by go_num, rfl, hVn, (by rw [hV.out]; exact digit_pow hap), num_next (hN.out.trans ((if_neg (by omega)).trans ((if_pos (by omega)).trans (by rw [hV.out])))) (by omega), (hres.out _).1, (hfw.drewN _).trans (hres.out _).2 (fun _ _ h => h)⟩
       case measure => simp [intOf]; omega
      ·have hxI : ((l[p + i]?.getD 0).toNat : Int) < 128 := by omega
       by_cases hz : (l[p + i]?.getD 0).toNat = 0 ∧ 0 < i
       ·have HS := Lib.hid (rNum_err (m := most) (hN.out.trans ((if_neg (by omega)).trans ((if_neg (by omega)).trans (if_pos hz)))) (by decide))
        have hzb : (((l[p + i]?.getD 0).toNat : Int) == 0) = true := beq_iff_eq.2 (by omega)
        have hzi : (0 : Int) < (i : Int) := by omega
        clear hz
        go_wp2_with fail
        go_quiet (fail)
        go_wp2_with fail
        go_quiet (fail)
        go_wp2_with fail
        refine (rfFails_any 11 p _ base g l _ (hres.out _).1 h1).mono ?_
        rintro e w2 ⟨rfl, hr2, hf2⟩
        go_wp2_with fail
        go_ret
        exact Rfd.mk ((hfw.drewN _).trans (hres.out _).2 (fun _ _ h => h)) (rn_val HS.out) (rn_st HS.out) ⟨hr2, hf2⟩
       ·have HV := Lib.hid (hN.out.trans ((if_neg (by omega)).trans ((if_neg (by omega)).trans ((if_neg hz).trans (by rw [← hV.out])))))
        rcases (show ((((l[p + i]?.getD 0).toNat : Int) == 0) = false) ∨ ((((l[p + i]?.getD 0).toNat : Int) == 0) = true ∧ (i : Int) ≤ 0) from by
          by_cases h0 : (l[p + i]?.getD 0).toNat = 0
          ·exact .inr ⟨beq_iff_eq.2 (by omega), by omega⟩
          ·exact .inl (beq_eq_false_iff_ne.2 (by omega))) with hzb | ⟨hzb, hzi⟩
        all_goals
         by_cases hm : most < V
         ·have HS := Lib.hid (rNum_long HV.out hm)
          have hmi : (most : Int) < (V : Int) := by omega
          go_wp2_with fail
          go_quiet (fail)
          go_wp2_with fail
          go_quiet (fail)
          go_wp2_with fail
          refine (rfFails_any 12 p _ base g l _ (hres.out _).1 h1).mono ?_
          rintro e w2 ⟨rfl, hr2, hf2⟩
          go_wp2_with fail
          go_ret
          exact Rfd.mk ((hfw.drewN _).trans (hres.out _).2 (fun _ _ h => h)) (rn_val HS.out) (rn_st HS.out) ⟨hr2, hf2⟩
         ·have HS := Lib.hid (rNum_good HV.out hm)
          have hmi : (V : Int) ≤ (most : Int) := by omega
          go_wp2_with fail
          go_quiet (fail)
          go_wp2_with fail
          go_quiet (fail)
          go_wp2_with fail
          go_ret
          exact Rfd.mk (hfw.drewN _) (rn_val HS.out) (rn_st HS.out) (hres.out _)
   ·have hspec := rNum_err (m := most) (num_end HL.out hlt hi hnum) (by decide)
    have HS := Lib.hid hspec
    clear hspec
    have hpi1 : (n1 : Int) ≤ (p : Int) + (i : Int) := by omega
    go_wp2_with fail
    go_quiet (fail)
    go_wp2_with fail
    refine (rfFails_any 10 p _ base g l _ (HRd.out.drewN _) h1).mono ?_
    rintro e w2 ⟨rfl, hr2, hf2⟩
    go_wp2_with fail
    go_ret
    exact Rfd.mk (hfw.drewN _) (rn_val HS.out) (rn_st HS.out) ⟨hr2, hf2⟩
 ·have hspec : rNum l (p, bad) most = (0, p, bad) := by unfold rNum; rw [if_pos (by simpa using hb0)]
  rw [hspec]
  have hbb : (bad == 0) = false := beq_eq_false_iff_ne.2 hb0
  go_enter Tryz.func41, Tryz.ntmps41
  go_wp2
  go_ret
  exact Rfd.mk (Fr.refl _ _) rfl rfl ⟨HR.out, Fr.refl _ _⟩
end Go.Proofs.YtmkddhkpeiajhaaGreatDoor
