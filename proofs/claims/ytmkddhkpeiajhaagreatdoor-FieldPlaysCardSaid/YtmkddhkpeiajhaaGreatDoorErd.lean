import Derived.Test.YtmkddhkpeiajhaaGreatDoorTreeAll
namespace Go.Proofs.YtmkddhkpeiajhaaGreatDoor
open Go.RowKit
def RdC (w : World) (g : Nat) (S : ByteArray) (st : St) : Prop := Blk w g 115 #[.string S, .int .i64 (st.at_ : Int), .int .i64 (st.op : Int), .int .i64 (st.bad : Int), .int .i64 (st.fr : Int)]
section
variable {w w' : World} {g : Nat} {S : ByteArray} {st : St}
theorem RdC.later (h : RdC w g S st) (hl : Later w w') : RdC w' g S st := blkL hl h
theorem RdC.drewN (h : RdC w g S st) (n : Nat) : RdC (w.drewN n) g S st := h
theorem RdC.c0 (h : RdC w g S st) : w.cell? ⟨g, 0, none⟩ = some (.string S) := h.cell 0
theorem RdC.c1 (h : RdC w g S st) : w.cell? ⟨g, 1, none⟩ = some (.int .i64 (st.at_ : Int)) := h.cell 1
theorem RdC.c2 (h : RdC w g S st) : w.cell? ⟨g, 2, none⟩ = some (.int .i64 (st.op : Int)) := h.cell 2
theorem RdC.c3 (h : RdC w g S st) : w.cell? ⟨g, 3, none⟩ = some (.int .i64 (st.bad : Int)) := h.cell 3
theorem RdC.c4 (h : RdC w g S st) : w.cell? ⟨g, 4, none⟩ = some (.int .i64 (st.fr : Int)) := h.cell 4
theorem RdC.f (h : RdC w g S st) (i : Nat) : w.frozen? ⟨g, i, none⟩ = false := h.frozen i
theorem RdC.setAt (h : RdC w g S st) (a : Nat) (x : Int) (hx : x = (a : Int)) : RdC (w.setCell ⟨g, 1, none⟩ (.int .i64 x)) g S (stAt st a) := by subst hx; exact h.set_ 1 _
theorem RdC.setOp (h : RdC w g S st) (a : Nat) (x : Int) (hx : x = (a : Int)) : RdC (w.setCell ⟨g, 2, none⟩ (.int .i64 x)) g S (stOp st a) := by subst hx; exact h.set_ 2 _
theorem RdC.spares (h : RdC w g S st) (lo : Nat → Prop) : Spares w lo (fun k => k = g) := spares_blk lo h (by decide)
end
theorem more_yes (g : Nat) (S : ByteArray) (st : St) (w : World) (h : RdC w g S st) (hlt : st.at_ < S.size) (_hs : S.size ≤ 1000000000) :
  Calls Tryz.prog 65 #[.pointer (some ⟨g, 0, none⟩)] w fun e w' => e = .returned (.bool true) ∧ Later w w' := by
 have c0 := h.c0
 have c1 := h.c1
 have hi : (st.at_ : Int) < (S.size : Int) := by omega
 go_enter Tryz.func65, Tryz.ntmps65
 go_wp2_with fail
 go_quiet (fail)
 go_wp2_with fail
 go_ret
 exact ⟨rfl, (Later.refl w).drewN _⟩
theorem more_no (g : Nat) (S : ByteArray) (st : St) (w : World) (h : RdC w g S st) (hlt : S.size ≤ st.at_) (_hs : S.size ≤ 1000000000) :
  Calls Tryz.prog 65 #[.pointer (some ⟨g, 0, none⟩)] w fun e w' => e = .returned (.bool false) ∧ Later w w' := by
 have c0 := h.c0
 have c1 := h.c1
 have hi : decide (st.at_ < S.size) = false := by simp; omega
 go_enter Tryz.func65, Tryz.ntmps65
 go_wp2_with fail
 go_quiet (fail)
 go_wp2_with fail
 go_ret
 exact ⟨rfl, (Later.refl w).drewN _⟩
theorem isR_any (g : Nat) (S : ByteArray) (st : St) (c : Int) (cn : Nat) (v : Bool) (w : World) (h : RdC w g S st) (hc : c = (cn : Int)) (hv : isAt S.data.toList st.at_ cn = v) (hs : S.size ≤ 1000000000) :
  Calls Tryz.prog 82 #[.pointer (some ⟨g, 0, none⟩), .int .u8 c] w fun e w' => e = .returned (.bool v) ∧ Later w w' := by
 have k0 : ∀ x : LW w, x.val.cell? ⟨g, 0, none⟩ = some (.string S) := LW.cell_ h.c0
 have k1 : ∀ x : LW w, x.val.cell? ⟨g, 1, none⟩ = some (.int .i64 (st.at_ : Int)) := LW.cell_ h.c1
 have HV := Lib.hid hv
 clear hv
 cases hx : S.data.toList[st.at_]? with
 | none =>
  have hle := str_none S _ hx
  have hve : false = v := by have := HV.out; unfold isAt at this; rw [hx] at this; exact this
  subst hve
  clear hx
  go_enter Tryz.func82, Tryz.ntmps82
  go_wp2_with fail
  refine wp_region_laterq (by kernel_rfl) (by kernel_rfl) ?_
  repeat (go_big_quiet_step (((go_at_call 65; (with_reducible refine Calls.laterq (more_no g S st _ (h.later (LW.later _)) hle hs))))))
  refine wpQuiet_nil ?_
  intro _ hwq
  obtain ⟨xz, rfl⟩ := hwq
  go_wp2_with fail
  go_ret
  exact ⟨rfl, xz.later⟩
 | some x =>
  obtain ⟨hi, he⟩ := str_get S _ x hx
  have hi1 : (st.at_ : Int) < (S.size : Int) := by omega
  have hve : ((S[st.at_].toNat : Int) == c) = v := by
   have := HV.out
   unfold isAt at this
   rw [hx] at this
   rw [he, hc, ← this]
   rw [Bool.eq_iff_iff, beq_iff_eq, beq_iff_eq]
   omega
  have HVE := Lib.hid hve
  clear hx he hve hc
  go_enter Tryz.func82, Tryz.ntmps82
  go_wp2_with fail
  refine wp_region_laterq (by kernel_rfl) (by kernel_rfl) ?_
  repeat (go_big_quiet_step (((go_at_call 65; (with_reducible refine Calls.laterq (more_yes g S st _ (h.later (LW.later _)) hi hs))))))
  refine wpQuiet_nil ?_
  intro _ hwq
  obtain ⟨xz, rfl⟩ := hwq
  go_wp2_with fail
  go_ret
  exact ⟨by rw [HVE.out]; rfl, xz.later⟩
theorem faultR_any (g : Nat) (S : ByteArray) (st : St) (A E : Int) (a e : Nat) (w : World) (h : RdC w g S st) (hA : A = (a : Int)) (hE : E = (e : Int)) :
  Calls Tryz.prog 66 #[.pointer (some ⟨g, 0, none⟩), .int .i64 A, .int .i64 E] w fun r w' => r = .returned (.tuple #[]) ∧ RdC w' g S (stFault e a st) ∧ Fr w w' (fun k => k = g) := by
 have c3 := h.c3
 have f3 := h.f 3
 have f4 := h.f 4
 have c4 := h.c4
 by_cases hb : st.bad = 0
 ·have hq : stFault e a st = ⟨st.at_, st.op, e, a⟩ := if_pos hb
  have hbi : ((st.bad : Int) == 0) = true := by rw [hb]; rfl
  rw [hq]
  clear hq hb
  go_enter Tryz.func66, Tryz.ntmps66
  go_wp2_with fail
  go_end0
  refine ⟨rfl, ?_, Fr.set (p := fun k => k = g) (a := ⟨g, 4, none⟩) (Fr.set (p := fun k => k = g) (a := ⟨g, 3, none⟩) (Fr.refl w _) (fun _ => rfl) _) (fun _ => rfl) _⟩
  subst hA hE
  exact (h.set_ 3 _).set_ 4 _
 ·have hq : stFault e a st = st := if_neg hb
  have hbi : ((st.bad : Int) == 0) = false := by rw [beq_eq_false_iff_ne]; omega
  rw [hq]
  clear hq hb
  go_enter Tryz.func66, Tryz.ntmps66
  go_wp2_with fail
  go_end0
  exact ⟨rfl, h, Fr.refl w _⟩
theorem isDig_iff (d : UInt8) : isDig d = true ↔ 48 ≤ d.toNat ∧ d.toNat ≤ 57 := by
 unfold isDig
 rw [Bool.and_eq_true, decide_eq_true_eq, decide_eq_true_eq]
theorem digF_some (l : List UInt8) (j q n : Nat) (d : UInt8) (h : l[q]? = some d) (hd : isDig d = true) : digF l (j + 1) q n = digF l j (q + 1) (10 * n + (d.toNat - 48)) := by
 rw [digF, h]
 simp only
 rw [if_pos hd]
theorem digF_not (l : List UInt8) (j q n : Nat) (d : UInt8) (h : l[q]? = some d) (hd : ¬ isDig d = true) : digF l (j + 1) q n = (n, q) := by
 rw [digF, h]
 simp only
 rw [if_neg hd]
theorem digF_none (l : List UInt8) (j q n : Nat) (h : l[q]? = none) : digF l (j + 1) q n = (n, q) := by
 rw [digF, h]
def atR (w : World) (g : Nat) : Nat := match w.cell? ⟨g, 1, none⟩ with | some v => (intOf v).toNat | none => 0
theorem RdC.atR {w : World} {g : Nat} {S : ByteArray} {st : St} (h : RdC w g S st) : atR w g = st.at_ := by
 unfold Proofs.YtmkddhkpeiajhaaGreatDoor.atR
 rw [h.c1]
 rfl
def DigAt (g : Nat) (S : ByteArray) (st : St) (R : Nat × Nat) (w : World) (a : Value) (wr : World) : Prop :=
 ∃ k n : Nat, k ≤ 2 ∧ (k = 0 → n = 0) ∧ (k = 1 → n ≤ 9) ∧ n ≤ 99 ∧ a = .int .i64 (n : Int) ∧ Hid (digF S.data.toList (2 - k) (st.at_ + k) n = R) ∧ RdC wr g S (stAt st (st.at_ + k)) ∧ Fr w wr (fun k => k = g)
def DigRet (g : Nat) (S : ByteArray) (st : St) (w : World) (e : Ending) (w' : World) : Prop :=
 e = .returned (.int .i64 (digitsF S.data.toList st.at_).1) ∧ RdC w' g S (stAt st (digitsF S.data.toList st.at_).2) ∧ Fr w w' (fun k => k = g)
theorem digitsF_of (s : List UInt8) (a n q : Nat) (h : digF s 2 a 0 = (n, q)) : digitsF s a = if q = a then ((-1 : Int), a) else ((n : Int), q) := by
 unfold digitsF
 rw [h]
set_option maxHeartbeats 4000000 in
theorem digitsR_any (g : Nat) (S : ByteArray) (st : St) (w : World) (h : RdC w g S st) (hs : S.size ≤ 1000000000) (hat : st.at_ ≤ 1000000100) :
  Calls Tryz.prog 131 #[.pointer (some ⟨g, 0, none⟩)] w (DigRet g S st w) := by
 obtain ⟨R, hR⟩ : ∃ R, digF S.data.toList 2 st.at_ 0 = R := ⟨_, rfl⟩
 have HR := Lib.hid hR
 have c1 := h.c1
 have h0 : RdC w g S (stAt st (st.at_ + 0)) := h
 clear hR
 go_enter Tryz.func131, Tryz.ntmps131
 go_wp2_with fail
 go_quiet (fail)
 go_wp2_with fail
 clear c1
 go_loopw [3] (fun a wr => DigAt g S st R w a wr) (fun _ wr => st.at_ + 2 - atR wr g)
 case atStart => exact ⟨0, 0, by omega, by omega, by omega, by omega, rfl, HR, (h0.later ((Later.refl w).drewN _)), Fr.later ((Later.refl w).drewN _)⟩
 case round =>
  obtain ⟨k, n, hk, hn0, hn1, hn2, rfl, HO, hr, hF⟩ := hrel
  obtain ⟨q, hq⟩ : ∃ q, q = st.at_ + k := ⟨_, rfl⟩
  rw [← hq] at HO hr
  have k0 : ∀ x : LW wr, x.val.cell? ⟨g, 0, none⟩ = some (.string S) := LW.cell_ hr.c0
  have k1 : ∀ x : LW wr, x.val.cell? ⟨g, 1, none⟩ = some (.int .i64 (q : Int)) := LW.cell_ hr.c1
  have hqa : (q : Int) ≤ 1000000200 := by omega
  cases hd : S.data.toList[q]? with
  | none =>
   have hle : S.size ≤ (stAt st q).at_ := str_none S _ hd
   have hk1 : 2 - k = (1 - k) + 1 ∨ k = 2 := by omega
   rcases hk1 with hk1 | hk1
   ·have hRe : R = (n, q) := by have := HO.out; first | exact this.symm | (rw [hk1, digF_none _ _ _ _ hd] at this; exact this.symm) | (rw [hk1, digF_not _ _ _ _ d hd ho] at this; exact this.symm)
    have hD := digitsF_of S.data.toList st.at_ n q (by rw [← hRe]; exact HR.out)
    have HD := Lib.hid hD
    clear hRe hD
    try clear hk1
    try clear hd
    try clear ho
    by_cases hq0 : q = st.at_
    ·have hqi : ((q : Int) == (st.at_ : Int)) = true := by rw [hq0]; exact beq_self_eq_true _
     have hqn : (q == st.at_) = true := by rw [hq0]; exact beq_self_eq_true _
     have HD2 : Hid (digitsF S.data.toList st.at_ = (-1, q)) := by show _ = _; rw [HD.out, if_pos hq0, hq0]
     clear hq0 hq HD
     go_wp2_with fail
     refine wp_region_laterq (by kernel_rfl) (by kernel_rfl) ?_
     repeat (go_big_quiet_step (((go_at_call 65; (with_reducible refine Calls.laterq (more_no g S _ _ (hr.later (LW.later _)) hle hs))))))
     refine wpQuiet_nil ?_
     intro _ hwq
     obtain ⟨xz, rfl⟩ := hwq
     have hr1 := hr.later xz.later
     have hF1 := hF.andLater xz.later
     clear k0 k1
     have c1 : xz.val.cell? ⟨g, 1, none⟩ = some (.int .i64 (q : Int)) := hr1.c1
     go_wp2_with fail
     go_ret
     exact ⟨by rw [HD2.out]; rfl, by rw [HD2.out]; exact hr1, hF1⟩
    ·have hqi : ((q : Int) == (st.at_ : Int)) = false := by rw [beq_eq_false_iff_ne]; omega
     have hqn : (q == st.at_) = false := by rw [beq_eq_false_iff_ne]; exact hq0
     have HD2 : Hid (digitsF S.data.toList st.at_ = ((n : Int), q)) := by show _ = _; rw [HD.out, if_neg hq0]
     clear hq0 hq HD
     go_wp2_with fail
     refine wp_region_laterq (by kernel_rfl) (by kernel_rfl) ?_
     repeat (go_big_quiet_step (((go_at_call 65; (with_reducible refine Calls.laterq (more_no g S _ _ (hr.later (LW.later _)) hle hs))))))
     refine wpQuiet_nil ?_
     intro _ hwq
     obtain ⟨xz, rfl⟩ := hwq
     have hr1 := hr.later xz.later
     have hF1 := hF.andLater xz.later
     clear k0 k1
     have c1 : xz.val.cell? ⟨g, 1, none⟩ = some (.int .i64 (q : Int)) := hr1.c1
     go_wp2_with fail
     go_ret
     exact ⟨by rw [HD2.out]; rfl, by rw [HD2.out]; exact hr1, hF1⟩
   ·subst hk1
    have hRe : R = (n, q) := by have := HO.out; first | exact this.symm | (rw [hk1, digF_none _ _ _ _ hd] at this; exact this.symm) | (rw [hk1, digF_not _ _ _ _ d hd ho] at this; exact this.symm)
    have hD := digitsF_of S.data.toList st.at_ n q (by rw [← hRe]; exact HR.out)
    have HD := Lib.hid hD
    clear hRe hD
    try clear hk1
    try clear hd
    try clear ho
    by_cases hq0 : q = st.at_
    ·have hqi : ((q : Int) == (st.at_ : Int)) = true := by rw [hq0]; exact beq_self_eq_true _
     have hqn : (q == st.at_) = true := by rw [hq0]; exact beq_self_eq_true _
     have HD2 : Hid (digitsF S.data.toList st.at_ = (-1, q)) := by show _ = _; rw [HD.out, if_pos hq0, hq0]
     clear hq0 hq HD
     go_wp2_with fail
     refine wp_region_laterq (by kernel_rfl) (by kernel_rfl) ?_
     repeat (go_big_quiet_step (((go_at_call 65; (with_reducible refine Calls.laterq (more_no g S _ _ (hr.later (LW.later _)) hle hs))))))
     refine wpQuiet_nil ?_
     intro _ hwq
     obtain ⟨xz, rfl⟩ := hwq
     have hr1 := hr.later xz.later
     have hF1 := hF.andLater xz.later
     clear k0 k1
     have c1 : xz.val.cell? ⟨g, 1, none⟩ = some (.int .i64 (q : Int)) := hr1.c1
     go_wp2_with fail
     go_ret
     exact ⟨by rw [HD2.out]; rfl, by rw [HD2.out]; exact hr1, hF1⟩
    ·have hqi : ((q : Int) == (st.at_ : Int)) = false := by rw [beq_eq_false_iff_ne]; omega
     have hqn : (q == st.at_) = false := by rw [beq_eq_false_iff_ne]; exact hq0
     have HD2 : Hid (digitsF S.data.toList st.at_ = ((n : Int), q)) := by show _ = _; rw [HD.out, if_neg hq0]
     clear hq0 hq HD
     go_wp2_with fail
     refine wp_region_laterq (by kernel_rfl) (by kernel_rfl) ?_
     repeat (go_big_quiet_step (((go_at_call 65; (with_reducible refine Calls.laterq (more_no g S _ _ (hr.later (LW.later _)) hle hs))))))
     refine wpQuiet_nil ?_
     intro _ hwq
     obtain ⟨xz, rfl⟩ := hwq
     have hr1 := hr.later xz.later
     have hF1 := hF.andLater xz.later
     clear k0 k1
     have c1 : xz.val.cell? ⟨g, 1, none⟩ = some (.int .i64 (q : Int)) := hr1.c1
     go_wp2_with fail
     go_ret
     exact ⟨by rw [HD2.out]; rfl, by rw [HD2.out]; exact hr1, hF1⟩
  | some d =>
   obtain ⟨hi, he⟩ := str_get S _ d hd
   have hi2 : Hid (∀ _ : Unit, (stAt st q).at_ < S.size) := fun _ => hi
   have hi1 : (q : Int) < (S.size : Int) := by omega
   have hd1 := d.toNat_lt
   by_cases ho : isDig d = true
   ·obtain ⟨o1, o2⟩ := (isDig_iff d).1 ho
    have o3 : (48 : Int) ≤ (S[q].toNat : Int) := by rw [he]; omega
    have o4 : (S[q].toNat : Int) ≤ 57 := by rw [he]; omega
    have hk1 : 2 - k = (1 - k) + 1 ∨ k = 2 := by omega
    rcases hk1 with hk1 | hk1
    ·have HO2 : Hid (digF S.data.toList (2 - (k + 1)) (st.at_ + (k + 1)) (10 * n + (d.toNat - 48)) = R) := by
      show _ = _
      have := HO.out
      rw [hk1, digF_some _ _ _ _ d hd ho] at this
      rw [show 2 - (k + 1) = 1 - k by omega, ← Nat.add_assoc, ← hq]
      exact this
     have hat2 : (q : Int) < (st.at_ : Int) + 2 := by omega
     have HE := Lib.hid he
     have HQ := Lib.hid hq
     have hk3 : k ≤ 1 := by omega
     clear hk1 hd ho he hq
     go_wp2_with fail
     refine wp_region_laterq (by kernel_rfl) (by kernel_rfl) ?_
     repeat (go_big_quiet_step (((go_at_call 65; (with_reducible refine Calls.laterq (more_yes g S _ _ (hr.later (LW.later _)) (hi2.out ()) hs))))))
     refine wpQuiet_nil ?_
     intro _ hwq
     obtain ⟨xz, rfl⟩ := hwq
     have hr1 := hr.later xz.later
     have hF1 := hF.andLater xz.later
     clear k0 k1
     have c1 : xz.val.cell? ⟨g, 1, none⟩ = some (.int .i64 (q : Int)) := hr1.c1
     go_wp2_with fail
     have c0 := hr1.c0
     go_quiet (fail)
     have hr2 := hr1.drewN nq
     have c1 : (xz.val.drewN nq).cell? ⟨g, 1, none⟩ = some (.int .i64 (q : Int)) := hr2.c1
     have f1 := hr2.f 1
     go_wp2_with fail
     have hv : (10 * (n : Int) + ((S[q].toNat : Int) - 48)) = ((10 * n + (d.toNat - 48) : Nat) : Int) := by rw [HE.out]; omega
     have hr3 : RdC ((xz.val.drewN nq).setCell ⟨g, 1, none⟩ (.int .i64 ((q : Int) + 1))) g S (stAt st (st.at_ + (k + 1))) := hr2.setAt (st.at_ + (k + 1)) _ (by have := HQ.out; omega)
     have hF3 : Fr w ((xz.val.drewN nq).setCell ⟨g, 1, none⟩ (.int .i64 ((q : Int) + 1))) (fun k => k = g) := frG (hF1.drewN nq) _
     have ha1 := hr.atR
     have ha3 := hr3.atR
     clear c0 c1 f1
     go_roundw
     case rel => exact ⟨k + 1, 10 * n + (d.toNat - 48), by omega, by omega, by omega, by omega, by rw [hv], HO2, hr3, hF3⟩
     case measure => rw [ha1, ha3]; show st.at_ + 2 - (st.at_ + (k + 1)) < st.at_ + 2 - q; have := HQ.out; omega
    ·subst hk1
     have hat2 : ¬ (q : Int) < (st.at_ : Int) + 2 := by omega
     clear he
     have hRe : R = (n, q) := by have := HO.out; first | exact this.symm | (rw [hk1, digF_none _ _ _ _ hd] at this; exact this.symm) | (rw [hk1, digF_not _ _ _ _ d hd ho] at this; exact this.symm)
     have hD := digitsF_of S.data.toList st.at_ n q (by rw [← hRe]; exact HR.out)
     have HD := Lib.hid hD
     clear hRe hD
     try clear hk1
     try clear hd
     try clear ho
     by_cases hq0 : q = st.at_
     ·have hqi : ((q : Int) == (st.at_ : Int)) = true := by rw [hq0]; exact beq_self_eq_true _
      have hqn : (q == st.at_) = true := by rw [hq0]; exact beq_self_eq_true _
      have HD2 : Hid (digitsF S.data.toList st.at_ = (-1, q)) := by show _ = _; rw [HD.out, if_pos hq0, hq0]
      clear hq0 hq HD
      go_wp2_with fail
      refine wp_region_laterq (by kernel_rfl) (by kernel_rfl) ?_
      repeat (go_big_quiet_step (((go_at_call 65; (with_reducible refine Calls.laterq (more_yes g S _ _ (hr.later (LW.later _)) (hi2.out ()) hs))))))
      refine wpQuiet_nil ?_
      intro _ hwq
      obtain ⟨xz, rfl⟩ := hwq
      have hr1 := hr.later xz.later
      have hF1 := hF.andLater xz.later
      clear k0 k1
      have c1 : xz.val.cell? ⟨g, 1, none⟩ = some (.int .i64 (q : Int)) := hr1.c1
      go_wp2_with fail
      go_ret
      exact ⟨by rw [HD2.out]; rfl, by rw [HD2.out]; exact hr1, hF1⟩
     ·have hqi : ((q : Int) == (st.at_ : Int)) = false := by rw [beq_eq_false_iff_ne]; omega
      have hqn : (q == st.at_) = false := by rw [beq_eq_false_iff_ne]; exact hq0
      have HD2 : Hid (digitsF S.data.toList st.at_ = ((n : Int), q)) := by show _ = _; rw [HD.out, if_neg hq0]
      clear hq0 hq HD
      go_wp2_with fail
      refine wp_region_laterq (by kernel_rfl) (by kernel_rfl) ?_
      repeat (go_big_quiet_step (((go_at_call 65; (with_reducible refine Calls.laterq (more_yes g S _ _ (hr.later (LW.later _)) (hi2.out ()) hs))))))
      refine wpQuiet_nil ?_
      intro _ hwq
      obtain ⟨xz, rfl⟩ := hwq
      have hr1 := hr.later xz.later
      have hF1 := hF.andLater xz.later
      clear k0 k1
      have c1 : xz.val.cell? ⟨g, 1, none⟩ = some (.int .i64 (q : Int)) := hr1.c1
      go_wp2_with fail
      go_ret
      exact ⟨by rw [HD2.out]; rfl, by rw [HD2.out]; exact hr1, hF1⟩
   ·have hk1 : 2 - k = (1 - k) + 1 ∨ k = 2 := by omega
    have o1 : ¬ (48 ≤ d.toNat ∧ d.toNat ≤ 57) := fun h => ho ((isDig_iff d).2 h)
    by_cases o2 : d.toNat < 48
    ·have o3 : decide ((48 : Int) ≤ (S[q].toNat : Int)) = false := by rw [he]; exact decide_eq_false (by omega)
     clear o1 he
     rcases hk1 with hk1 | hk1
     ·have hRe : R = (n, q) := by have := HO.out; first | exact this.symm | (rw [hk1, digF_none _ _ _ _ hd] at this; exact this.symm) | (rw [hk1, digF_not _ _ _ _ d hd ho] at this; exact this.symm)
      have hD := digitsF_of S.data.toList st.at_ n q (by rw [← hRe]; exact HR.out)
      have HD := Lib.hid hD
      clear hRe hD
      try clear hk1
      try clear hd
      try clear ho
      by_cases hq0 : q = st.at_
      ·have hqi : ((q : Int) == (st.at_ : Int)) = true := by rw [hq0]; exact beq_self_eq_true _
       have hqn : (q == st.at_) = true := by rw [hq0]; exact beq_self_eq_true _
       have HD2 : Hid (digitsF S.data.toList st.at_ = (-1, q)) := by show _ = _; rw [HD.out, if_pos hq0, hq0]
       clear hq0 hq HD
       go_wp2_with fail
       refine wp_region_laterq (by kernel_rfl) (by kernel_rfl) ?_
       repeat (go_big_quiet_step (((go_at_call 65; (with_reducible refine Calls.laterq (more_yes g S _ _ (hr.later (LW.later _)) (hi2.out ()) hs))))))
       refine wpQuiet_nil ?_
       intro _ hwq
       obtain ⟨xz, rfl⟩ := hwq
       have hr1 := hr.later xz.later
       have hF1 := hF.andLater xz.later
       clear k0 k1
       have c1 : xz.val.cell? ⟨g, 1, none⟩ = some (.int .i64 (q : Int)) := hr1.c1
       go_wp2_with fail
       go_ret
       exact ⟨by rw [HD2.out]; rfl, by rw [HD2.out]; exact hr1, hF1⟩
      ·have hqi : ((q : Int) == (st.at_ : Int)) = false := by rw [beq_eq_false_iff_ne]; omega
       have hqn : (q == st.at_) = false := by rw [beq_eq_false_iff_ne]; exact hq0
       have HD2 : Hid (digitsF S.data.toList st.at_ = ((n : Int), q)) := by show _ = _; rw [HD.out, if_neg hq0]
       clear hq0 hq HD
       go_wp2_with fail
       refine wp_region_laterq (by kernel_rfl) (by kernel_rfl) ?_
       repeat (go_big_quiet_step (((go_at_call 65; (with_reducible refine Calls.laterq (more_yes g S _ _ (hr.later (LW.later _)) (hi2.out ()) hs))))))
       refine wpQuiet_nil ?_
       intro _ hwq
       obtain ⟨xz, rfl⟩ := hwq
       have hr1 := hr.later xz.later
       have hF1 := hF.andLater xz.later
       clear k0 k1
       have c1 : xz.val.cell? ⟨g, 1, none⟩ = some (.int .i64 (q : Int)) := hr1.c1
       go_wp2_with fail
       go_ret
       exact ⟨by rw [HD2.out]; rfl, by rw [HD2.out]; exact hr1, hF1⟩
     ·subst hk1
      have hRe : R = (n, q) := by have := HO.out; first | exact this.symm | (rw [hk1, digF_none _ _ _ _ hd] at this; exact this.symm) | (rw [hk1, digF_not _ _ _ _ d hd ho] at this; exact this.symm)
      have hD := digitsF_of S.data.toList st.at_ n q (by rw [← hRe]; exact HR.out)
      have HD := Lib.hid hD
      clear hRe hD
      try clear hk1
      try clear hd
      try clear ho
      by_cases hq0 : q = st.at_
      ·have hqi : ((q : Int) == (st.at_ : Int)) = true := by rw [hq0]; exact beq_self_eq_true _
       have hqn : (q == st.at_) = true := by rw [hq0]; exact beq_self_eq_true _
       have HD2 : Hid (digitsF S.data.toList st.at_ = (-1, q)) := by show _ = _; rw [HD.out, if_pos hq0, hq0]
       clear hq0 hq HD
       go_wp2_with fail
       refine wp_region_laterq (by kernel_rfl) (by kernel_rfl) ?_
       repeat (go_big_quiet_step (((go_at_call 65; (with_reducible refine Calls.laterq (more_yes g S _ _ (hr.later (LW.later _)) (hi2.out ()) hs))))))
       refine wpQuiet_nil ?_
       intro _ hwq
       obtain ⟨xz, rfl⟩ := hwq
       have hr1 := hr.later xz.later
       have hF1 := hF.andLater xz.later
       clear k0 k1
       have c1 : xz.val.cell? ⟨g, 1, none⟩ = some (.int .i64 (q : Int)) := hr1.c1
       go_wp2_with fail
       go_ret
       exact ⟨by rw [HD2.out]; rfl, by rw [HD2.out]; exact hr1, hF1⟩
      ·have hqi : ((q : Int) == (st.at_ : Int)) = false := by rw [beq_eq_false_iff_ne]; omega
       have hqn : (q == st.at_) = false := by rw [beq_eq_false_iff_ne]; exact hq0
       have HD2 : Hid (digitsF S.data.toList st.at_ = ((n : Int), q)) := by show _ = _; rw [HD.out, if_neg hq0]
       clear hq0 hq HD
       go_wp2_with fail
       refine wp_region_laterq (by kernel_rfl) (by kernel_rfl) ?_
       repeat (go_big_quiet_step (((go_at_call 65; (with_reducible refine Calls.laterq (more_yes g S _ _ (hr.later (LW.later _)) (hi2.out ()) hs))))))
       refine wpQuiet_nil ?_
       intro _ hwq
       obtain ⟨xz, rfl⟩ := hwq
       have hr1 := hr.later xz.later
       have hF1 := hF.andLater xz.later
       clear k0 k1
       have c1 : xz.val.cell? ⟨g, 1, none⟩ = some (.int .i64 (q : Int)) := hr1.c1
       go_wp2_with fail
       go_ret
       exact ⟨by rw [HD2.out]; rfl, by rw [HD2.out]; exact hr1, hF1⟩
    ·have o3 : (48 : Int) ≤ (S[q].toNat : Int) := by rw [he]; omega
     have o4 : decide ((S[q].toNat : Int) ≤ 57) = false := by rw [he]; exact decide_eq_false (by omega)
     clear o1 he
     rcases hk1 with hk1 | hk1
     ·have hRe : R = (n, q) := by have := HO.out; first | exact this.symm | (rw [hk1, digF_none _ _ _ _ hd] at this; exact this.symm) | (rw [hk1, digF_not _ _ _ _ d hd ho] at this; exact this.symm)
      have hD := digitsF_of S.data.toList st.at_ n q (by rw [← hRe]; exact HR.out)
      have HD := Lib.hid hD
      clear hRe hD
      try clear hk1
      try clear hd
      try clear ho
      by_cases hq0 : q = st.at_
      ·have hqi : ((q : Int) == (st.at_ : Int)) = true := by rw [hq0]; exact beq_self_eq_true _
       have hqn : (q == st.at_) = true := by rw [hq0]; exact beq_self_eq_true _
       have HD2 : Hid (digitsF S.data.toList st.at_ = (-1, q)) := by show _ = _; rw [HD.out, if_pos hq0, hq0]
       clear hq0 hq HD
       go_wp2_with fail
       refine wp_region_laterq (by kernel_rfl) (by kernel_rfl) ?_
       repeat (go_big_quiet_step (((go_at_call 65; (with_reducible refine Calls.laterq (more_yes g S _ _ (hr.later (LW.later _)) (hi2.out ()) hs))))))
       refine wpQuiet_nil ?_
       intro _ hwq
       obtain ⟨xz, rfl⟩ := hwq
       have hr1 := hr.later xz.later
       have hF1 := hF.andLater xz.later
       clear k0 k1
       have c1 : xz.val.cell? ⟨g, 1, none⟩ = some (.int .i64 (q : Int)) := hr1.c1
       go_wp2_with fail
       go_ret
       exact ⟨by rw [HD2.out]; rfl, by rw [HD2.out]; exact hr1, hF1⟩
      ·have hqi : ((q : Int) == (st.at_ : Int)) = false := by rw [beq_eq_false_iff_ne]; omega
       have hqn : (q == st.at_) = false := by rw [beq_eq_false_iff_ne]; exact hq0
       have HD2 : Hid (digitsF S.data.toList st.at_ = ((n : Int), q)) := by show _ = _; rw [HD.out, if_neg hq0]
       clear hq0 hq HD
       go_wp2_with fail
       refine wp_region_laterq (by kernel_rfl) (by kernel_rfl) ?_
       repeat (go_big_quiet_step (((go_at_call 65; (with_reducible refine Calls.laterq (more_yes g S _ _ (hr.later (LW.later _)) (hi2.out ()) hs))))))
       refine wpQuiet_nil ?_
       intro _ hwq
       obtain ⟨xz, rfl⟩ := hwq
       have hr1 := hr.later xz.later
       have hF1 := hF.andLater xz.later
       clear k0 k1
       have c1 : xz.val.cell? ⟨g, 1, none⟩ = some (.int .i64 (q : Int)) := hr1.c1
       go_wp2_with fail
       go_ret
       exact ⟨by rw [HD2.out]; rfl, by rw [HD2.out]; exact hr1, hF1⟩
     ·subst hk1
      have hRe : R = (n, q) := by have := HO.out; first | exact this.symm | (rw [hk1, digF_none _ _ _ _ hd] at this; exact this.symm) | (rw [hk1, digF_not _ _ _ _ d hd ho] at this; exact this.symm)
      have hD := digitsF_of S.data.toList st.at_ n q (by rw [← hRe]; exact HR.out)
      have HD := Lib.hid hD
      clear hRe hD
      try clear hk1
      try clear hd
      try clear ho
      by_cases hq0 : q = st.at_
      ·have hqi : ((q : Int) == (st.at_ : Int)) = true := by rw [hq0]; exact beq_self_eq_true _
       have hqn : (q == st.at_) = true := by rw [hq0]; exact beq_self_eq_true _
       have HD2 : Hid (digitsF S.data.toList st.at_ = (-1, q)) := by show _ = _; rw [HD.out, if_pos hq0, hq0]
       clear hq0 hq HD
       go_wp2_with fail
       refine wp_region_laterq (by kernel_rfl) (by kernel_rfl) ?_
       repeat (go_big_quiet_step (((go_at_call 65; (with_reducible refine Calls.laterq (more_yes g S _ _ (hr.later (LW.later _)) (hi2.out ()) hs))))))
       refine wpQuiet_nil ?_
       intro _ hwq
       obtain ⟨xz, rfl⟩ := hwq
       have hr1 := hr.later xz.later
       have hF1 := hF.andLater xz.later
       clear k0 k1
       have c1 : xz.val.cell? ⟨g, 1, none⟩ = some (.int .i64 (q : Int)) := hr1.c1
       go_wp2_with fail
       go_ret
       exact ⟨by rw [HD2.out]; rfl, by rw [HD2.out]; exact hr1, hF1⟩
      ·have hqi : ((q : Int) == (st.at_ : Int)) = false := by rw [beq_eq_false_iff_ne]; omega
       have hqn : (q == st.at_) = false := by rw [beq_eq_false_iff_ne]; exact hq0
       have HD2 : Hid (digitsF S.data.toList st.at_ = ((n : Int), q)) := by show _ = _; rw [HD.out, if_neg hq0]
       clear hq0 hq HD
       go_wp2_with fail
       refine wp_region_laterq (by kernel_rfl) (by kernel_rfl) ?_
       repeat (go_big_quiet_step (((go_at_call 65; (with_reducible refine Calls.laterq (more_yes g S _ _ (hr.later (LW.later _)) (hi2.out ()) hs))))))
       refine wpQuiet_nil ?_
       intro _ hwq
       obtain ⟨xz, rfl⟩ := hwq
       have hr1 := hr.later xz.later
       have hF1 := hF.andLater xz.later
       clear k0 k1
       have c1 : xz.val.cell? ⟨g, 1, none⟩ = some (.int .i64 (q : Int)) := hr1.c1
       go_wp2_with fail
       go_ret
       exact ⟨by rw [HD2.out]; rfl, by rw [HD2.out]; exact hr1, hF1⟩
end Go.Proofs.YtmkddhkpeiajhaaGreatDoor
