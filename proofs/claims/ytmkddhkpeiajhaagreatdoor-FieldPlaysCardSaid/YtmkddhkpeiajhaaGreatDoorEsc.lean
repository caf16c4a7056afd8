import Derived.Test.YtmkddhkpeiajhaaGreatDoorErd
import Derived.Lib.OthersKept
import Derived.WalkSmall
import Derived.Deep.CutBlock
import Derived.Deep.DeepCutAuto
namespace Go.Proofs.YtmkddhkpeiajhaaGreatDoor
open Go.RowKit
theorem Fr.iterAt {w w1 : World} {p : Nat → Prop} {it : Nat} (h : Fr w w1 p) (hit : w.heap.size ≤ it) (s : ByteArray) (pos : Nat) : Fr w (w1.iterAt it s pos) p :=
 ⟨h.os, h.tape, h.output, by rw [Lib.iterAt_size]; exact h.size, fun k hk hn => (Lib.iterAt_other w1 it k s pos (by omega)).trans (h.block k hk hn)⟩
theorem RdC.iterAt {w : World} {g it : Nat} {S : ByteArray} {st : St} (h : RdC w g S st) (hit : g ≠ it) (s : ByteArray) (pos : Nat) : RdC (w.iterAt it s pos) g S st :=
 (Lib.iterAt_other w it g s pos hit).trans h
def EscRet (g : Nat) (S : ByteArray) (st : St) (w : World) (e : Ending) (w' : World) : Prop :=
 e = .returned (.int .u8 ((escF S.data.toList st).1 : Int)) ∧ RdC w' g S (escF S.data.toList st).2 ∧ Fr w w' (fun k => k = g)
theorem EscRet.mk {g : Nat} {S : ByteArray} {st : St} {w w' : World} {R : Nat × St} {b : Nat} {x : Int} {st' : St} (hR : R = (b, st')) (hE : escF S.data.toList st = R) (hx : x = (b : Int)) (hr : RdC w' g S st') (hF : Fr w w' (fun k => k = g)) :
  EscRet g S st w (.returned (.int .u8 x)) w' := by
 subst hx hR
 unfold EscRet
 rw [hE]
 exact ⟨rfl, hr, hF⟩
def LetAt (g : Nat) (S : ByteArray) (st : St) (w : World) (it c : Nat) (wr : World) : Prop :=
 ∃ i : Nat, i ≤ 7 ∧ wr.heap[it]? = some (.stringIter ⟨#[110, 116, 114, 102, 118, 97, 98]⟩ i) ∧ Hid (assocF (escTab.drop i) c = escLetter c) ∧ RdC wr g S st ∧ Fr w wr (fun k => k = g)
def OctAt (g : Nat) (S : ByteArray) (st : St) (q : Nat) (R : Nat × Nat) (w : World) (a b : Value) (wr : World) : Prop :=
 ∃ k n : Nat, k ≤ 2 ∧ (k = 0 → n ≤ 7) ∧ (k = 1 → n ≤ 63) ∧ n ≤ 511 ∧ a = .int .i64 (n : Int) ∧ b = .int .i64 (k : Int) ∧ Hid (octF S.data.toList (2 - k) (q + k) n = R) ∧ RdC wr g S (stAt st (q + k)) ∧ Fr w wr (fun k => k = g)
theorem escR_none (g : Nat) (S : ByteArray) (st : St) (w : World) (h : RdC w g S st) (hs : S.size ≤ 1000000000) (hc : S.data.toList[st.at_]? = none) :
  Calls Tryz.prog 130 #[.pointer (some ⟨g, 0, none⟩)] w (EscRet g S st w) := by
 have hle := str_none S _ hc
 have hE : escF S.data.toList st = (0, stFault 24 S.size st) := by unfold escF; rw [hc]; show _ = _; rw [Array.length_toList]; rfl
 have HE := Lib.hid hE
 clear hc hE
 have hfl : ∀ wx, RdC wx g S st → Calls Tryz.prog 66 #[.pointer (some ⟨g, 0, none⟩), .int .i64 (S.size : Int), .int .i64 24] wx fun r w' => r = .returned (.tuple #[]) ∧ RdC w' g S (stFault 24 S.size st) ∧ Fr wx w' (fun k => k = g) := fun wx hx => faultR_any g S st _ _ S.size 24 wx hx rfl rfl
 go_enter Tryz.func130, Tryz.ntmps130
 go_wp2_with fail
 refine (more_no g S st _ h hle hs).mono ?_
 rintro e w1 ⟨rfl, hl1⟩
 have h1 := h.later hl1
 have c0 := h1.c0
 go_wp2_with fail
 refine (hfl _ h1).mono ?_
 rintro e w2 ⟨rfl, h2, hF2⟩
 go_wp2_with fail
 go_ret
 exact EscRet.mk rfl HE.out rfl h2 ((Fr.later hl1).trans hF2 (fun _ _ h => h))
set_option maxRecDepth 100000 in
set_option maxHeartbeats 8000000 in
theorem escR_some (g : Nat) (S : ByteArray) (st : St) (c : UInt8) (w : World) (h : RdC w g S st) (hs : S.size ≤ 1000000000) (hc : S.data.toList[st.at_]? = some c) :
  Calls Tryz.prog 130 #[.pointer (some ⟨g, 0, none⟩)] w (EscRet g S st w) := by
 obtain ⟨hi, he⟩ := str_get S _ c hc
 have hcl := c.toNat_lt
 have hi1 : (st.at_ : Int) < (S.size : Int) := by omega
 obtain ⟨R, hR⟩ : ∃ R, escF S.data.toList st = R := ⟨_, rfl⟩
 have HR := Lib.hid hR
 have hQ : Hid (R = match escLetter c.toNat with
   | some b => (b, stAt st (st.at_ + 1))
   | none => if c.toNat < 48 ∨ 55 < c.toNat then (c.toNat, stAt st (st.at_ + 1)) else ((octF S.data.toList 2 (st.at_ + 1) (c.toNat - 48)).1 % 256, stAt st (octF S.data.toList 2 (st.at_ + 1) (c.toNat - 48)).2)) := by
  show _ = _
  rw [← hR]
  unfold escF
  rw [hc]
  rfl
 have HE := Lib.hid he
 have HI : Hid (∀ _ : Unit, st.at_ < S.size) := fun _ => hi
 clear hR hc he
 go_enter Tryz.func130, Tryz.ntmps130
 go_wp2_with fail
 refine (more_yes g S st _ h (HI.out ()) hs).mono ?_
 rintro e w1 ⟨rfl, hl1⟩
 have h1 := h.later hl1
 have c0 := h1.c0
 have c1 := h1.c1
 go_wp2_with fail
 go_quiet (fail)
 clear c0 c1
 have h2 := h1.drewN nq
 have hF2 : Fr w (w1.drewN nq) (fun k => k = g) := Fr.later (hl1.drewN nq)
 have c1 := h2.c1
 have f1 := h2.f 1
 rw [HE.out]
 go_upto_region 6 with fail
 obtain ⟨w3, hw3⟩ : ∃ w3, w3 = (w1.drewN nq).setCell ⟨g, 1, none⟩ (.int .i64 ((st.at_ : Int) + 1)) := ⟨_, rfl⟩
 have h3 : RdC w3 g S (stAt st (st.at_ + 1)) := by rw [hw3]; exact h2.setAt (st.at_ + 1) _ (by omega)
 have hF3 : Fr w w3 (fun k => k = g) := by rw [hw3]; exact frG hF2 _
 rw [← hw3]
 clear hw3 c1 f1 h2 hF2 h1 hl1 hi1 HE hi
 go_wp2_with fail
 obtain ⟨it, hit⟩ : ∃ it, it = w3.heap.size := ⟨_, rfl⟩
 have hg : g ≠ it := by rw [hit]; exact Nat.ne_of_lt h3.lt
 have hwit : w.heap.size ≤ it := by rw [hit]; exact hF3.size
 go_loopw [] (fun wr => LetAt g S (stAt st (st.at_ + 1)) w it c.toNat wr) (fun wr => 7 - wr.iterPos it)
 case atStart => exact ⟨0, by omega, by rw [hit]; exact World.iter_heap w3 _ 0, rfl, h3.later ((Later.refl w3).alloc _), hF3.andLater ((Later.refl w3).alloc _)⟩
 case round =>
  clear h3 hF3
  obtain ⟨i, hi7, hI, HT, h3, hF3⟩ := hrel
  have h8 : i = 0 ∨ i = 1 ∨ i = 2 ∨ i = 3 ∨ i = 4 ∨ i = 5 ∨ i = 6 ∨ i = 7 := by omega
  rcases h8 with rfl | rfl | rfl | rfl | rfl | rfl | rfl | rfl
  ·have hnx : ∀ ty, (Instr.next (.pointer (some ⟨it, 0, none⟩)) true ty).run Tryz.prog wr = _ := fun ty => Lib.run_next_ascii_at wr it ⟨#[110, 116, 114, 102, 118, 97, 98]⟩ 0 ty hI (by decide) (by decide)
   have hI2 := Lib.iterAt_heap wr it ⟨#[110, 116, 114, 102, 118, 97, 98]⟩ 0 1 hI
   have h4 := h3.iterAt hg ⟨#[110, 116, 114, 102, 118, 97, 98]⟩ 1
   have hF4 := hF3.iterAt hwit ⟨#[110, 116, 114, 102, 118, 97, 98]⟩ 1
   have hp1 := iterPos_of hI
   have hp2 := iterPos_of hI2
   obtain ⟨W1, hW1⟩ : ∃ W1, W1 = wr.iterAt it ⟨#[110, 116, 114, 102, 118, 97, 98]⟩ 1 := ⟨_, rfl⟩
   rw [← hW1] at hI2 h4 hF4 hp2
   replace hnx : ∀ ty, (Instr.next (.pointer (some ⟨it, 0, none⟩)) true ty).run Tryz.prog wr = .ok (.tuple #[.bool true, .int .i64 0, .int .i32 110]) W1 := fun ty => by rw [hW1]; exact hnx ty
   clear hW1
   rw [hit] at hnx
   by_cases hce : c.toNat = 110
   ·have hce1 : ((((⟨#[110, 116, 114, 102, 118, 97, 98]⟩ : ByteArray)[0]'(by decide)).toNat : Int) == (c.toNat : Int)) = true := by rw [hce]; rfl
    have hL : escLetter c.toNat = some 10 := by rw [← HT.out]; show (if c.toNat = 110 then some 10 else _) = _; rw [if_pos hce]
    have hRv : R = (10, stAt st (st.at_ + 1)) := by rw [hQ.out, hL]
    have HRV := Lib.hid hRv
    clear hce hL hRv
    go_wp2_with fail
    go_ret
    exact EscRet.mk HRV.out HR.out rfl h4 hF4
   ·have hce1 : ((((⟨#[110, 116, 114, 102, 118, 97, 98]⟩ : ByteArray)[0]'(by decide)).toNat : Int) == (c.toNat : Int)) = false := by show ((110 : Int) == (c.toNat : Int)) = false; rw [beq_eq_false_iff_ne]; omega
    have HT2 : Hid (assocF (escTab.drop (0 + 1)) c.toNat = escLetter c.toNat) := by show _ = _; rw [← HT.out]; show _ = (if c.toNat = 110 then some 10 else _); rw [if_neg hce]; rfl
    clear hce
    go_wp2_with fail
    go_roundw
    case rel => exact ⟨0 + 1, by omega, hI2, HT2, h4, hF4⟩
    case measure => rw [hp1, hp2]; omega
  ·have hnx : ∀ ty, (Instr.next (.pointer (some ⟨it, 0, none⟩)) true ty).run Tryz.prog wr = _ := fun ty => Lib.run_next_ascii_at wr it ⟨#[110, 116, 114, 102, 118, 97, 98]⟩ 1 ty hI (by decide) (by decide)
   have hI2 := Lib.iterAt_heap wr it ⟨#[110, 116, 114, 102, 118, 97, 98]⟩ 1 2 hI
   have h4 := h3.iterAt hg ⟨#[110, 116, 114, 102, 118, 97, 98]⟩ 2
   have hF4 := hF3.iterAt hwit ⟨#[110, 116, 114, 102, 118, 97, 98]⟩ 2
   have hp1 := iterPos_of hI
   have hp2 := iterPos_of hI2
   obtain ⟨W1, hW1⟩ : ∃ W1, W1 = wr.iterAt it ⟨#[110, 116, 114, 102, 118, 97, 98]⟩ 2 := ⟨_, rfl⟩
   rw [← hW1] at hI2 h4 hF4 hp2
   replace hnx : ∀ ty, (Instr.next (.pointer (some ⟨it, 0, none⟩)) true ty).run Tryz.prog wr = .ok (.tuple #[.bool true, .int .i64 1, .int .i32 116]) W1 := fun ty => by rw [hW1]; exact hnx ty
   clear hW1
   rw [hit] at hnx
   by_cases hce : c.toNat = 116
   ·have hce1 : ((((⟨#[110, 116, 114, 102, 118, 97, 98]⟩ : ByteArray)[1]'(by decide)).toNat : Int) == (c.toNat : Int)) = true := by rw [hce]; rfl
    have hL : escLetter c.toNat = some 9 := by rw [← HT.out]; show (if c.toNat = 116 then some 9 else _) = _; rw [if_pos hce]
    have hRv : R = (9, stAt st (st.at_ + 1)) := by rw [hQ.out, hL]
    have HRV := Lib.hid hRv
    clear hce hL hRv
    go_wp2_with fail
    go_ret
    exact EscRet.mk HRV.out HR.out rfl h4 hF4
   ·have hce1 : ((((⟨#[110, 116, 114, 102, 118, 97, 98]⟩ : ByteArray)[1]'(by decide)).toNat : Int) == (c.toNat : Int)) = false := by show ((116 : Int) == (c.toNat : Int)) = false; rw [beq_eq_false_iff_ne]; omega
    have HT2 : Hid (assocF (escTab.drop (1 + 1)) c.toNat = escLetter c.toNat) := by show _ = _; rw [← HT.out]; show _ = (if c.toNat = 116 then some 9 else _); rw [if_neg hce]; rfl
    clear hce
    go_wp2_with fail
    go_roundw
    case rel => exact ⟨1 + 1, by omega, hI2, HT2, h4, hF4⟩
    case measure => rw [hp1, hp2]; omega
  ·have hnx : ∀ ty, (Instr.next (.pointer (some ⟨it, 0, none⟩)) true ty).run Tryz.prog wr = _ := fun ty => Lib.run_next_ascii_at wr it ⟨#[110, 116, 114, 102, 118, 97, 98]⟩ 2 ty hI (by decide) (by decide)
   have hI2 := Lib.iterAt_heap wr it ⟨#[110, 116, 114, 102, 118, 97, 98]⟩ 2 3 hI
   have h4 := h3.iterAt hg ⟨#[110, 116, 114, 102, 118, 97, 98]⟩ 3
   have hF4 := hF3.iterAt hwit ⟨#[110, 116, 114, 102, 118, 97, 98]⟩ 3
   have hp1 := iterPos_of hI
   have hp2 := iterPos_of hI2
   obtain ⟨W1, hW1⟩ : ∃ W1, W1 = wr.iterAt it ⟨#[110, 116, 114, 102, 118, 97, 98]⟩ 3 := ⟨_, rfl⟩
   rw [← hW1] at hI2 h4 hF4 hp2
   replace hnx : ∀ ty, (Instr.next (.pointer (some ⟨it, 0, none⟩)) true ty).run Tryz.prog wr = .ok (.tuple #[.bool true, .int .i64 2, .int .i32 114]) W1 := fun ty => by rw [hW1]; exact hnx ty
   clear hW1
   rw [hit] at hnx
   by_cases hce : c.toNat = 114
   ·have hce1 : ((((⟨#[110, 116, 114, 102, 118, 97, 98]⟩ : ByteArray)[2]'(by decide)).toNat : Int) == (c.toNat : Int)) = true := by rw [hce]; rfl
    have hL : escLetter c.toNat = some 13 := by rw [← HT.out]; show (if c.toNat = 114 then some 13 else _) = _; rw [if_pos hce]
    have hRv : R = (13, stAt st (st.at_ + 1)) := by rw [hQ.out, hL]
    have HRV := Lib.hid hRv
    clear hce hL hRv
    go_wp2_with fail
    go_ret
    exact EscRet.mk HRV.out HR.out rfl h4 hF4
   ·have hce1 : ((((⟨#[110, 116, 114, 102, 118, 97, 98]⟩ : ByteArray)[2]'(by decide)).toNat : Int) == (c.toNat : Int)) = false := by show ((114 : Int) == (c.toNat : Int)) = false; rw [beq_eq_false_iff_ne]; omega
    have HT2 : Hid (assocF (escTab.drop (2 + 1)) c.toNat = escLetter c.toNat) := by show _ = _; rw [← HT.out]; show _ = (if c.toNat = 114 then some 13 else _); rw [if_neg hce]; rfl
    clear hce
    go_wp2_with fail
    go_roundw
    case rel => exact ⟨2 + 1, by omega, hI2, HT2, h4, hF4⟩
    case measure => rw [hp1, hp2]; omega
  ·have hnx : ∀ ty, (Instr.next (.pointer (some ⟨it, 0, none⟩)) true ty).run Tryz.prog wr = _ := fun ty => Lib.run_next_ascii_at wr it ⟨#[110, 116, 114, 102, 118, 97, 98]⟩ 3 ty hI (by decide) (by decide)
   have hI2 := Lib.iterAt_heap wr it ⟨#[110, 116, 114, 102, 118, 97, 98]⟩ 3 4 hI
   have h4 := h3.iterAt hg ⟨#[110, 116, 114, 102, 118, 97, 98]⟩ 4
   have hF4 := hF3.iterAt hwit ⟨#[110, 116, 114, 102, 118, 97, 98]⟩ 4
   have hp1 := iterPos_of hI
   have hp2 := iterPos_of hI2
   obtain ⟨W1, hW1⟩ : ∃ W1, W1 = wr.iterAt it ⟨#[110, 116, 114, 102, 118, 97, 98]⟩ 4 := ⟨_, rfl⟩
   rw [← hW1] at hI2 h4 hF4 hp2
   replace hnx : ∀ ty, (Instr.next (.pointer (some ⟨it, 0, none⟩)) true ty).run Tryz.prog wr = .ok (.tuple #[.bool true, .int .i64 3, .int .i32 102]) W1 := fun ty => by rw [hW1]; exact hnx ty
   clear hW1
   rw [hit] at hnx
   by_cases hce : c.toNat = 102
   ·have hce1 : ((((⟨#[110, 116, 114, 102, 118, 97, 98]⟩ : ByteArray)[3]'(by decide)).toNat : Int) == (c.toNat : Int)) = true := by rw [hce]; rfl
    have hL : escLetter c.toNat = some 12 := by rw [← HT.out]; show (if c.toNat = 102 then some 12 else _) = _; rw [if_pos hce]
    have hRv : R = (12, stAt st (st.at_ + 1)) := by rw [hQ.out, hL]
    have HRV := Lib.hid hRv
    clear hce hL hRv
    go_wp2_with fail
    go_ret
    exact EscRet.mk HRV.out HR.out rfl h4 hF4
   ·have hce1 : ((((⟨#[110, 116, 114, 102, 118, 97, 98]⟩ : ByteArray)[3]'(by decide)).toNat : Int) == (c.toNat : Int)) = false := by show ((102 : Int) == (c.toNat : Int)) = false; rw [beq_eq_false_iff_ne]; omega
    have HT2 : Hid (assocF (escTab.drop (3 + 1)) c.toNat = escLetter c.toNat) := by show _ = _; rw [← HT.out]; show _ = (if c.toNat = 102 then some 12 else _); rw [if_neg hce]; rfl
    clear hce
    go_wp2_with fail
    go_roundw
    case rel => exact ⟨3 + 1, by omega, hI2, HT2, h4, hF4⟩
    case measure => rw [hp1, hp2]; omega
  ·have hnx : ∀ ty, (Instr.next (.pointer (some ⟨it, 0, none⟩)) true ty).run Tryz.prog wr = _ := fun ty => Lib.run_next_ascii_at wr it ⟨#[110, 116, 114, 102, 118, 97, 98]⟩ 4 ty hI (by decide) (by decide)
   have hI2 := Lib.iterAt_heap wr it ⟨#[110, 116, 114, 102, 118, 97, 98]⟩ 4 5 hI
   have h4 := h3.iterAt hg ⟨#[110, 116, 114, 102, 118, 97, 98]⟩ 5
   have hF4 := hF3.iterAt hwit ⟨#[110, 116, 114, 102, 118, 97, 98]⟩ 5
   have hp1 := iterPos_of hI
   have hp2 := iterPos_of hI2
   obtain ⟨W1, hW1⟩ : ∃ W1, W1 = wr.iterAt it ⟨#[110, 116, 114, 102, 118, 97, 98]⟩ 5 := ⟨_, rfl⟩
   rw [← hW1] at hI2 h4 hF4 hp2
   replace hnx : ∀ ty, (Instr.next (.pointer (some ⟨it, 0, none⟩)) true ty).run Tryz.prog wr = .ok (.tuple #[.bool true, .int .i64 4, .int .i32 118]) W1 := fun ty => by rw [hW1]; exact hnx ty
   clear hW1
   rw [hit] at hnx
   by_cases hce : c.toNat = 118
   ·have hce1 : ((((⟨#[110, 116, 114, 102, 118, 97, 98]⟩ : ByteArray)[4]'(by decide)).toNat : Int) == (c.toNat : Int)) = true := by rw [hce]; rfl
    have hL : escLetter c.toNat = some 11 := by rw [← HT.out]; show (if c.toNat = 118 then some 11 else _) = _; rw [if_pos hce]
    have hRv : R = (11, stAt st (st.at_ + 1)) := by rw [hQ.out, hL]
    have HRV := Lib.hid hRv
    clear hce hL hRv
    go_wp2_with fail
    go_ret
    exact EscRet.mk HRV.out HR.out rfl h4 hF4
   ·have hce1 : ((((⟨#[110, 116, 114, 102, 118, 97, 98]⟩ : ByteArray)[4]'(by decide)).toNat : Int) == (c.toNat : Int)) = false := by show ((118 : Int) == (c.toNat : Int)) = false; rw [beq_eq_false_iff_ne]; omega
    have HT2 : Hid (assocF (escTab.drop (4 + 1)) c.toNat = escLetter c.toNat) := by show _ = _; rw [← HT.out]; show _ = (if c.toNat = 118 then some 11 else _); rw [if_neg hce]; rfl
    clear hce
    go_wp2_with fail
    go_roundw
    case rel => exact ⟨4 + 1, by omega, hI2, HT2, h4, hF4⟩
    case measure => rw [hp1, hp2]; omega
  ·have hnx : ∀ ty, (Instr.next (.pointer (some ⟨it, 0, none⟩)) true ty).run Tryz.prog wr = _ := fun ty => Lib.run_next_ascii_at wr it ⟨#[110, 116, 114, 102, 118, 97, 98]⟩ 5 ty hI (by decide) (by decide)
   have hI2 := Lib.iterAt_heap wr it ⟨#[110, 116, 114, 102, 118, 97, 98]⟩ 5 6 hI
   have h4 := h3.iterAt hg ⟨#[110, 116, 114, 102, 118, 97, 98]⟩ 6
   have hF4 := hF3.iterAt hwit ⟨#[110, 116, 114, 102, 118, 97, 98]⟩ 6
   have hp1 := iterPos_of hI
   have hp2 := iterPos_of hI2
   obtain ⟨W1, hW1⟩ : ∃ W1, W1 = wr.iterAt it ⟨#[110, 116, 114, 102, 118, 97, 98]⟩ 6 := ⟨_, rfl⟩
   rw [← hW1] at hI2 h4 hF4 hp2
   replace hnx : ∀ ty, (Instr.next (.pointer (some ⟨it, 0, none⟩)) true ty).run Tryz.prog wr = .ok (.tuple #[.bool true, .int .i64 5, .int .i32 97]) W1 := fun ty => by rw [hW1]; exact hnx ty
   clear hW1
   rw [hit] at hnx
   by_cases hce : c.toNat = 97
   ·have hce1 : ((((⟨#[110, 116, 114, 102, 118, 97, 98]⟩ : ByteArray)[5]'(by decide)).toNat : Int) == (c.toNat : Int)) = true := by rw [hce]; rfl
    have hL : escLetter c.toNat = some 7 := by rw [← HT.out]; show (if c.toNat = 97 then some 7 else _) = _; rw [if_pos hce]
    have hRv : R = (7, stAt st (st.at_ + 1)) := by rw [hQ.out, hL]
    have HRV := Lib.hid hRv
    clear hce hL hRv
    go_wp2_with fail
    go_ret
    exact EscRet.mk HRV.out HR.out rfl h4 hF4
   ·have hce1 : ((((⟨#[110, 116, 114, 102, 118, 97, 98]⟩ : ByteArray)[5]'(by decide)).toNat : Int) == (c.toNat : Int)) = false := by show ((97 : Int) == (c.toNat : Int)) = false; rw [beq_eq_false_iff_ne]; omega
    have HT2 : Hid (assocF (escTab.drop (5 + 1)) c.toNat = escLetter c.toNat) := by show _ = _; rw [← HT.out]; show _ = (if c.toNat = 97 then some 7 else _); rw [if_neg hce]; rfl
    clear hce
    go_wp2_with fail
    go_roundw
    case rel => exact ⟨5 + 1, by omega, hI2, HT2, h4, hF4⟩
    case measure => rw [hp1, hp2]; omega
  ·have hnx : ∀ ty, (Instr.next (.pointer (some ⟨it, 0, none⟩)) true ty).run Tryz.prog wr = _ := fun ty => Lib.run_next_ascii_at wr it ⟨#[110, 116, 114, 102, 118, 97, 98]⟩ 6 ty hI (by decide) (by decide)
   have hI2 := Lib.iterAt_heap wr it ⟨#[110, 116, 114, 102, 118, 97, 98]⟩ 6 7 hI
   have h4 := h3.iterAt hg ⟨#[110, 116, 114, 102, 118, 97, 98]⟩ 7
   have hF4 := hF3.iterAt hwit ⟨#[110, 116, 114, 102, 118, 97, 98]⟩ 7
   have hp1 := iterPos_of hI
   have hp2 := iterPos_of hI2
   obtain ⟨W1, hW1⟩ : ∃ W1, W1 = wr.iterAt it ⟨#[110, 116, 114, 102, 118, 97, 98]⟩ 7 := ⟨_, rfl⟩
   rw [← hW1] at hI2 h4 hF4 hp2
   replace hnx : ∀ ty, (Instr.next (.pointer (some ⟨it, 0, none⟩)) true ty).run Tryz.prog wr = .ok (.tuple #[.bool true, .int .i64 6, .int .i32 98]) W1 := fun ty => by rw [hW1]; exact hnx ty
   clear hW1
   rw [hit] at hnx
   by_cases hce : c.toNat = 98
   ·have hce1 : ((((⟨#[110, 116, 114, 102, 118, 97, 98]⟩ : ByteArray)[6]'(by decide)).toNat : Int) == (c.toNat : Int)) = true := by rw [hce]; rfl
    have hL : escLetter c.toNat = some 8 := by rw [← HT.out]; show (if c.toNat = 98 then some 8 else _) = _; rw [if_pos hce]
    have hRv : R = (8, stAt st (st.at_ + 1)) := by rw [hQ.out, hL]
    have HRV := Lib.hid hRv
    clear hce hL hRv
    go_wp2_with fail
    go_ret
    exact EscRet.mk HRV.out HR.out rfl h4 hF4
   ·have hce1 : ((((⟨#[110, 116, 114, 102, 118, 97, 98]⟩ : ByteArray)[6]'(by decide)).toNat : Int) == (c.toNat : Int)) = false := by show ((98 : Int) == (c.toNat : Int)) = false; rw [beq_eq_false_iff_ne]; omega
    have HT2 : Hid (assocF (escTab.drop (6 + 1)) c.toNat = escLetter c.toNat) := by show _ = _; rw [← HT.out]; show _ = (if c.toNat = 98 then some 8 else _); rw [if_neg hce]; rfl
    clear hce
    go_wp2_with fail
    go_roundw
    case rel => exact ⟨6 + 1, by omega, hI2, HT2, h4, hF4⟩
    case measure => rw [hp1, hp2]; omega
  ·have hnx : ∀ ty, (Instr.next (.pointer (some ⟨it, 0, none⟩)) true ty).run Tryz.prog wr = _ := fun ty => Lib.run_next_end_at wr it ⟨#[110, 116, 114, 102, 118, 97, 98]⟩ 7 ty hI (by decide)
   rw [hit] at hnx
   have hL : escLetter c.toNat = none := by rw [← HT.out]; rfl
   have hRv := hQ.out
   rw [hL] at hRv
   simp only at hRv
   clear hL hI
   by_cases o1 : c.toNat < 48
   ·have hRv2 : R = (c.toNat, stAt st (st.at_ + 1)) := by rw [hRv, if_pos (.inl o1)]
    have HRV := Lib.hid hRv2
    have o2 : (c.toNat : Int) < 48 := by omega
    clear hRv hRv2 o1
    go_wp2_with fail
    go_ret
    exact EscRet.mk HRV.out HR.out rfl h3 hF3
   ·have o2 : decide ((c.toNat : Int) < 48) = false := decide_eq_false (by omega)
    by_cases o3 : 55 < c.toNat
    ·have hRv2 : R = (c.toNat, stAt st (st.at_ + 1)) := by rw [hRv, if_pos (.inr o3)]
     have HRV := Lib.hid hRv2
     have o4 : (55 : Int) < (c.toNat : Int) := by omega
     clear hRv hRv2 o3
     go_wp2_with fail
     go_ret
     exact EscRet.mk HRV.out HR.out rfl h3 hF3
    ·have o4 : decide ((55 : Int) < (c.toNat : Int)) = false := decide_eq_false (by omega)
     have o5 : (48 : Int) ≤ (c.toNat : Int) := by omega
     rw [if_neg (by omega)] at hRv
     obtain ⟨Q, hQ2⟩ : ∃ Q, octF S.data.toList 2 (st.at_ + 1) (c.toNat - 48) = Q := ⟨_, rfl⟩
     rw [hQ2] at hRv
     have HRV := Lib.hid hRv
     have HQ2 := Lib.hid hQ2
     clear hRv hQ2
     go_wp2_with fail
     clear HT hi7 hnx
     have h3b : RdC wr g S (stAt st (st.at_ + 1 + 0)) := h3
     go_loopw [5, 6] (fun a b wr => OctAt g S st (st.at_ + 1) Q w a b wr) (fun _ b _ => 2 - (intOf b).toNat)
     case atStart => exact ⟨0, c.toNat - 48, by omega, by omega, by omega, by omega, by rw [show ((c.toNat - 48 : Nat) : Int) = (c.toNat : Int) - 48 by omega], rfl, HQ2, h3b, hF3⟩
     case round =>
      clear h3 h3b hF3
      obtain ⟨k, n, hk, hn0, hn1, hn2, rfl, rfl, HO, hr, hF⟩ := hrel
      have hatb := HI.out ()
      obtain ⟨q, hq⟩ : ∃ q, q = st.at_ + 1 + k := ⟨_, rfl⟩
      rw [← hq] at HO hr
      have k0 : ∀ x : LW wr, x.val.cell? ⟨g, 0, none⟩ = some (.string S) := LW.cell_ hr.c0
      have k1 : ∀ x : LW wr, x.val.cell? ⟨g, 1, none⟩ = some (.int .i64 (q : Int)) := LW.cell_ hr.c1
      have hqa : (q : Int) ≤ 1000000200 := by omega
      by_cases hk2 : k = 2
      ·subst hk2
       have hRe : Q = (n, q) := by have := HO.out; first | exact this.symm | (rw [hk1, octF_none _ _ _ _ hd] at this; exact this.symm) | (rw [hk1, octF_not _ _ _ _ d hd ho] at this; exact this.symm)
       have hRv2 : R = (n % 256, stAt st q) := by rw [HRV.out, hRe]
       have HRV2 := Lib.hid hRv2
       clear hRe hRv2 hq
       try clear hk1
       try clear hd
       try clear ho
       go_wp2_with fail
       refine wp_region_laterq (by kernel_rfl) (by kernel_rfl) ?_
       repeat (go_big_quiet_step (fail))
       refine wpQuiet_nil ?_
       intro _ hwq
       obtain ⟨xz, rfl⟩ := hwq
       have hr1 := hr.later xz.later
       have hF1 := hF.andLater xz.later
       clear k0 k1
       go_wp2_with fail
       go_ret
       exact EscRet.mk HRV2.out HR.out (by first | omega | (have := Int.natCast_emod n 256; omega)) hr1 hF1
      ·have hk1 : 2 - k = (1 - k) + 1 := by omega
       have hk3 : (k : Int) < 2 := by omega
       cases hd : S.data.toList[q]? with
       | none =>
        have hle : S.size ≤ (stAt st q).at_ := str_none S _ hd
        have hRe : Q = (n, q) := by have := HO.out; first | exact this.symm | (rw [hk1, octF_none _ _ _ _ hd] at this; exact this.symm) | (rw [hk1, octF_not _ _ _ _ d hd ho] at this; exact this.symm)
        have hRv2 : R = (n % 256, stAt st q) := by rw [HRV.out, hRe]
        have HRV2 := Lib.hid hRv2
        clear hRe hRv2 hq
        try clear hk1
        try clear hd
        try clear ho
        go_wp2_with fail
        refine wp_region_laterq (by kernel_rfl) (by kernel_rfl) ?_
        repeat (go_big_quiet_step (((go_at_call 65; (with_reducible refine Calls.laterq (more_no g S _ _ (hr.later (LW.later _)) hle hs))))))
        refine wpQuiet_nil ?_
        intro _ hwq
        obtain ⟨xz, rfl⟩ := hwq
        have hr1 := hr.later xz.later
        have hF1 := hF.andLater xz.later
        clear k0 k1
        go_wp2_with fail
        go_ret
        exact EscRet.mk HRV2.out HR.out (by first | omega | (have := Int.natCast_emod n 256; omega)) hr1 hF1
       | some d =>
        obtain ⟨hi, he⟩ := str_get S _ d hd
        have hi2 : Hid (∀ _ : Unit, (stAt st q).at_ < S.size) := fun _ => hi
        have hi1 : (q : Int) < (S.size : Int) := by omega
        have hd1 := d.toNat_lt
        by_cases ho : isOct d = true
        ·obtain ⟨o11, o12⟩ := (isOct_iff d).1 ho
         have o13 : (48 : Int) ≤ (S[q].toNat : Int) := by rw [he]; omega
         have o14 : (S[q].toNat : Int) ≤ 55 := by rw [he]; omega
         have HO2 : Hid (octF S.data.toList (2 - (k + 1)) (st.at_ + 1 + (k + 1)) (8 * n + (d.toNat - 48)) = Q) := by
          show _ = _
          have := HO.out
          rw [hk1, octF_some _ _ _ _ d hd ho] at this
          rw [show 2 - (k + 1) = 1 - k by omega, ← Nat.add_assoc, ← hq]
          exact this
         have HE := Lib.hid he
         have HQ := Lib.hid hq
         have hk4 : k ≤ 1 := by omega
         clear hk1 hd ho he hq
         go_wp2_with fail
         refine wp_region_laterq (by kernel_rfl) (by kernel_rfl) ?_
         repeat (go_big_quiet_step (((go_at_call 65; (with_reducible refine Calls.laterq (more_yes g S _ _ (hr.later (LW.later _)) (hi2.out ()) hs))))))
         refine wpQuiet_nil ?_
         intro _ hwq
         obtain ⟨xz, rfl⟩ := hwq
         have hr1 := hr.later xz.later
         have hF1 := hF.andLater xz.later
         clear k0 k1
         go_wp2_with fail
         have c0 := hr1.c0
         have c1 : xz.val.cell? ⟨g, 1, none⟩ = some (.int .i64 (q : Int)) := hr1.c1
         go_quiet (fail)
         have hr2 := hr1.drewN nq
         have c1 : (xz.val.drewN nq).cell? ⟨g, 1, none⟩ = some (.int .i64 (q : Int)) := hr2.c1
         have f1 := hr2.f 1
         go_wp2_with fail
         have hv : (8 * (n : Int) + ((S[q].toNat : Int) - 48)) = ((8 * n + (d.toNat - 48) : Nat) : Int) := by rw [HE.out]; omega
         have hr3 : RdC ((xz.val.drewN nq).setCell ⟨g, 1, none⟩ (.int .i64 ((q : Int) + 1))) g S (stAt st (st.at_ + 1 + (k + 1))) := hr2.setAt (st.at_ + 1 + (k + 1)) _ (by have := HQ.out; omega)
         have hF3 : Fr w ((xz.val.drewN nq).setCell ⟨g, 1, none⟩ (.int .i64 ((q : Int) + 1))) (fun k => k = g) := frG (hF1.drewN nq) _
         clear c0 c1 f1
         go_roundw
         case rel => exact ⟨k + 1, 8 * n + (d.toNat - 48), by omega, by omega, by omega, by omega, by rw [hv], by go_num, HO2, hr3, hF3⟩
         case measure => simp [intOf]; omega
        ·have o11 : ¬ (48 ≤ d.toNat ∧ d.toNat ≤ 55) := fun h => ho ((isOct_iff d).2 h)
         by_cases o12 : d.toNat < 48
         ·have o13 : decide ((48 : Int) ≤ (S[q].toNat : Int)) = false := by rw [he]; exact decide_eq_false (by omega)
          clear o11 he
          have hRe : Q = (n, q) := by have := HO.out; first | exact this.symm | (rw [hk1, octF_none _ _ _ _ hd] at this; exact this.symm) | (rw [hk1, octF_not _ _ _ _ d hd ho] at this; exact this.symm)
          have hRv2 : R = (n % 256, stAt st q) := by rw [HRV.out, hRe]
          have HRV2 := Lib.hid hRv2
          clear hRe hRv2 hq
          try clear hk1
          try clear hd
          try clear ho
          go_wp2_with fail
          refine wp_region_laterq (by kernel_rfl) (by kernel_rfl) ?_
          repeat (go_big_quiet_step (((go_at_call 65; (with_reducible refine Calls.laterq (more_yes g S _ _ (hr.later (LW.later _)) (hi2.out ()) hs))))))
          refine wpQuiet_nil ?_
          intro _ hwq
          obtain ⟨xz, rfl⟩ := hwq
          have hr1 := hr.later xz.later
          have hF1 := hF.andLater xz.later
          clear k0 k1
          go_wp2_with fail
          go_ret
          exact EscRet.mk HRV2.out HR.out (by first | omega | (have := Int.natCast_emod n 256; omega)) hr1 hF1
         ·have o13 : (48 : Int) ≤ (S[q].toNat : Int) := by rw [he]; omega
          have o14 : decide ((S[q].toNat : Int) ≤ 55) = false := by rw [he]; exact decide_eq_false (by omega)
          clear o11 he
          have hRe : Q = (n, q) := by have := HO.out; first | exact this.symm | (rw [hk1, octF_none _ _ _ _ hd] at this; exact this.symm) | (rw [hk1, octF_not _ _ _ _ d hd ho] at this; exact this.symm)
          have hRv2 : R = (n % 256, stAt st q) := by rw [HRV.out, hRe]
          have HRV2 := Lib.hid hRv2
          clear hRe hRv2 hq
          try clear hk1
          try clear hd
          try clear ho
          go_wp2_with fail
          refine wp_region_laterq (by kernel_rfl) (by kernel_rfl) ?_
          repeat (go_big_quiet_step (((go_at_call 65; (with_reducible refine Calls.laterq (more_yes g S _ _ (hr.later (LW.later _)) (hi2.out ()) hs))))))
          refine wpQuiet_nil ?_
          intro _ hwq
          obtain ⟨xz, rfl⟩ := hwq
          have hr1 := hr.later xz.later
          have hF1 := hF.andLater xz.later
          clear k0 k1
          go_wp2_with fail
          go_ret
          exact EscRet.mk HRV2.out HR.out (by first | omega | (have := Int.natCast_emod n 256; omega)) hr1 hF1
end Go.Proofs.YtmkddhkpeiajhaaGreatDoor
