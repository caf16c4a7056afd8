import Derived.Test.YtmkddhkpeiajhaaGreatDoorRrd4
import Derived.Test.YtmkddhkpeiajhaaGreatDoorSetAll
namespace Go.Proofs.YtmkddhkpeiajhaaGreatDoor
open Go.RowKit
theorem OwnT.lit {w : World} {lo : Nat → Prop} {base : Nat} (t : Tree) (x : ReX) (hx : ReC w lo t x) (hb : base ≤ w.heap.size) :
  OwnT (w.alloc (.cells #[.int .i64 x.k, .int .u64 x.a, .int .u64 x.b, .int .u64 x.c, .int .u64 x.d, .slice x.A x.n x.cp] 98)) lo base (some ⟨w.heap.size, 0, none⟩) 1 1 [t] := by
 refine ⟨rfl, [x], ?_, rfl, .inr ⟨w.heap.size, 1, _, rfl, hb, heap_alloc_new w _, Nat.le_refl _, by unfold maxLen; omega, rfl, rfl⟩⟩
 show ReCs _ _ [t] [x]
 unfold ReCs
 refine ⟨x, [], rfl, (ReC.weaken (fun k hk h => ⟨h, fun e => ?_⟩) _ hx).later ((Later.refl w).alloc _), by unfold ReCs; rfl⟩
 have e : w.heap.size = k := by simpa [ob] using e
 omega
def msF (S : ByteArray) (w : World) (g : Nat) : Nat := match w.cell? ⟨g, 3, none⟩ with | some v => if intOf v = 0 then S.size + 1 - atF w g else 0 | none => 0
theorem RfC.msF {w : World} {g : Nat} {S : ByteArray} {st : St} (h : RfC w g S st) : msF S w g = if st.bad = 0 then S.size + 1 - st.at_ else 0 := by
 unfold Proofs.YtmkddhkpeiajhaaGreatDoor.msF
 rw [h.c3]
 show (if intOf (.int .i64 (st.bad : Int)) = 0 then _ else _) = _
 rw [h.atF]
 show (if (st.bad : Int) = 0 then _ else _) = _
 by_cases hb : st.bad = 0
 ·rw [if_pos hb, if_pos (by rw [hb]; rfl)]
 ·rw [if_neg hb, if_neg (by omega)]
theorem rcatL_stop (s : List UInt8) (G : St → Tree × St) (f : Nat) (l : List Tree) (st : St) (h : ¬ (st.bad = 0 ∧ st.at_ < s.length ∧ isAt s st.at_ 124 = false ∧ isAt s st.at_ 41 = false)) : rCatL s G f l st = (l, st) := by
 cases f with
 | zero => rfl
 | succ f => rw [rCatL, if_neg h]
theorem rcatL_step (s : List UInt8) (G : St → Tree × St) (f : Nat) (l : List Tree) (st : St) (h : st.bad = 0 ∧ st.at_ < s.length ∧ isAt s st.at_ 124 = false ∧ isAt s st.at_ 41 = false) : rCatL s G (f + 1) l st = rCatL s G f (l ++ [(G st).1]) (G st).2 := by
 rw [rCatL, if_pos h]
theorem raltL_stop (s : List UInt8) (G : St → Tree × St) (f : Nat) (l : List Tree) (st : St) (h : ¬ (st.bad = 0 ∧ isAt s st.at_ 124 = true)) : rAltL s G f l st = (l, st) := by
 cases f with
 | zero => rfl
 | succ f => rw [rAltL, if_neg h]
theorem raltL_step (s : List UInt8) (G : St → Tree × St) (f : Nat) (l : List Tree) (st : St) (h : st.bad = 0 ∧ isAt s st.at_ 124 = true) : rAltL s G (f + 1) l st = rAltL s G f (l ++ [(G (stAt st (st.at_ + 1))).1]) (G (stAt st (st.at_ + 1))).2 := by
 rw [rAltL, if_pos h]
theorem own_or {lo : Nat → Prop} {w wr : World} {A : Option Addr} {base n c : Nat} {ts : List Tree} (hO : OwnT wr (fun k => lo k ∧ k ≠ w.heap.size) base A n c ts) (h : Up w lo) (h1 : w.heap.size < wr.heap.size) : Up wr (fun k => (lo k ∧ k ≠ w.heap.size) ∧ ob A ≠ some k) := fun k hk => ⟨⟨h k (by omega), by omega⟩, fun e => by have := (hO.lt k e).2; omega⟩
theorem mk_lt {S : ByteArray} {x y : Nat} {st1 st2 : St} (h : x = if st2.bad = 0 then S.size + 1 - st2.at_ else 0) (hy : y = if st1.bad = 0 then S.size + 1 - st1.at_ else 0) (hb : st1.bad = 0) (h0 : st1.at_ ≤ S.size) (h1 : st2.bad = 0 → st1.at_ < st2.at_) : x < y := by
 rw [h, hy, if_pos hb]
 split
 ·rename_i h2; have := h1 h2; omega
 ·omega
def CatTAt (G : St → Tree × St) (w : World) (g : Nat) (lo : Nat → Prop) (S : ByteArray) (B : Nat) (st0 : St) (Rv : List Tree × St) (s3 : Value) (wr : World) : Prop :=
 ∃ (ts : List Tree) (st : St) (f : Nat) (A : Option Addr) (n cp : Nat), s3 = .slice A n cp ∧ 0 < n ∧ (st.bad = 0 → n ≤ st.at_ + 1) ∧ n ≤ S.size + 3 ∧ Hid (rCatL S.data.toList G f ts st = Rv) ∧ (st.bad = 0 → S.size + 1 ≤ f + st.at_) ∧ (st.bad = 0 → st.at_ ≤ S.size ∧ st.op = st0.op) ∧ st.at_ ≤ S.size + B ∧ RfC wr g S st ∧
  OwnT wr (fun k => lo k ∧ k ≠ w.heap.size) (w.heap.size + 1) A n cp ts ∧ Blk wr w.heap.size 98 #[.int .i64 0, .int .u64 0, .int .u64 0, .int .u64 0, .int .u64 0, .slice none 0 0] ∧ Fr w wr (fun k => k = g)
set_option maxRecDepth 100000 in
set_option maxHeartbeats 16000000 in
theorem catT_any (S : ByteArray) (d B : Nat) (_hB : B ≤ 100) (hs1 : S.size ≤ 20000) (G : St → Tree × St) (hG : RReads S.data.toList d B G) (hC : RdfC 103 S d G) : RdfC 87 S d (rCat S.data.toList G) := by
 intro lo g st w h hD hlo
 have hs : S.size ≤ 1000000000 := by omega
 obtain ⟨R, hR⟩ : ∃ R, R = rCat S.data.toList G st := ⟨_, rfl⟩
 rw [← hR]
 obtain ⟨p0, st0, hat⟩ : ∃ p0 st0, G st = (p0, st0) := ⟨_, _, rfl⟩
 obtain ⟨Rv, hRv⟩ : ∃ Rv, Rv = rCatL S.data.toList G (S.data.toList.length + 2) [p0] st0 := ⟨_, rfl⟩
 have HR : Hid (R = (tRow 2 Rv.1, Rv.2)) := by
  show _ = _
  rw [hR, hRv]
  unfold rCat
  rw [hat]
 have HRV : Hid (rCatL S.data.toList G (S.size + 2) [p0] st0 = Rv) := by
  show _ = _
  rw [hRv, len_eq]
 have hres := hG st hD
 rw [hat] at hres
 have HD := Lib.hid hD
 have HAT := Lib.hid hat
 have HG : Hid (RReads S.data.toList d B G) := hG
 have HC : Hid (RdfC 103 S d G) := hC
 have HLO := Lib.hid hlo
 have hgw := h.lt
 have hb0 : st0.at_ ≤ S.data.toList.length + B := hres.bd
 have hg0 : st0.bad = 0 → st.at_ < st0.at_ ∧ st0.at_ ≤ S.data.toList.length ∧ st0.op = st.op := fun hb => ⟨(hres.good hb).1, (hres.good hb).2.1, (hres.good hb).2.2.1⟩
 rw [len_eq] at hb0 hg0
 clear hR hRv hD hres hat hG hC
 go_enter Tryz.func87, Tryz.ntmps87
 go_upto_region 1 with fail
 obtain ⟨W0, hW0⟩ : ∃ W0, W0 = w.alloc (.cells #[.int .i64 0, .int .u64 0, .int .u64 0, .int .u64 0, .int .u64 0, .slice none 0 0] 98) := ⟨_, rfl⟩
 have B4 : Blk W0 w.heap.size 98 #[.int .i64 0, .int .u64 0, .int .u64 0, .int .u64 0, .int .u64 0, .slice none 0 0] := by rw [hW0]; exact Blk.new w _ _
 have hl0 : Later w W0 := by rw [hW0]; exact (Later.refl w).alloc _
 have h0 := h.later hl0
 have hF0 : Fr w W0 (fun k => k = g) := Fr.later hl0
 have ne4 : w.heap.size ≠ g := by have := h.lt; omega
 rw [← hW0]
 clear hW0 hl0 h
 go_wp2_with fail
 refine (HC.out (fun k => lo k ∧ k ≠ w.heap.size) g st _ h0 HD.out (fun k hk => ⟨HLO.out k (by have := B4.lt; omega), by have := B4.lt; omega⟩)).mono ?_
 rw [HAT.out]
 rintro e w2 ⟨k, a, b, c, d', A, n, cp, rfl, hC, h2, hF2⟩
 have hF3 := frF hF0 hF2
 have D4 := blkF hF2 ne4 B4
 have hsz2 := D4.lt
 have hO2 := OwnT.lit (base := w.heap.size + 1) p0 ⟨k, a, b, c, d', A, n, cp⟩ hC (by omega)
 have hl2 := (Later.refl w2).alloc (.cells #[.int .i64 k, .int .u64 a, .int .u64 b, .int .u64 c, .int .u64 d', .slice A n cp] 98)
 clear B4 hF0 h0 hF2
 go_wp2_with fail
 go_loopw [3] (fun s3 wr => CatTAt G w g lo S B st Rv s3 wr) (fun _ wr => msF S wr g)
 case atStart => exact ⟨[p0], st0, S.size + 2, _, 1, 1, rfl, Nat.one_pos, fun _ => by omega, by omega, HRV, fun _ => by omega, fun hb => ⟨(hg0 hb).2.1, (hg0 hb).2.2⟩, hb0, h2.later hl2, hO2, blkL hl2 D4, frL hF3 hl2⟩
 case round =>
  clear hb0 hg0 HRV HAT hC h2 D4 hF3 hO2 hl2 hsz2
  obtain ⟨ts, st1, f, A, n, cp, rfl, hn0, hnat, hns, HO, hfu, hgd, hat, h1, hO, B4, hF⟩ := hrel
  have HM : Hid (msF S wr g = if st1.bad = 0 then S.size + 1 - st1.at_ else 0) := h1.msF
  have hati : (st1.at_ : Int) ≤ 100000 := by omega
  have k0 : ∀ x : LW wr, x.val.cell? ⟨g, 0, none⟩ = some (.string S) := LW.cell_ h1.c0
  have k1 : ∀ x : LW wr, x.val.cell? ⟨g, 1, none⟩ = some (.int .i64 (st1.at_ : Int)) := LW.cell_ h1.c1
  have k3 : ∀ x : LW wr, x.val.cell? ⟨g, 3, none⟩ = some (.int .i64 (st1.bad : Int)) := LW.cell_ h1.c3
  by_cases hb : st1.bad = 0
  ·have hbi : ((st1.bad : Int) == 0) = true := by rw [hb]; rfl
   have hbn : (st1.bad == 0) = true := by rw [hb]; rfl
   have hfu := hfu hb
   have hnat := hnat hb
   obtain ⟨hgat, hgop⟩ := hgd hb
   have HB := Lib.hid hb
   clear hb hgd
   by_cases hlt : st1.at_ < S.size
   ·have hlti : (st1.at_ : Int) < (S.size : Int) := by omega
    cases hv : isAt S.data.toList st1.at_ 124 with
    | true =>
     have HE : Hid (Rv = (ts, st1)) := by show _ = _; rw [← HO.out, rcatL_stop _ _ _ _ _ (fun hh => by rw [hv] at hh; cases hh.2.2.1)]
     have HV := Lib.hid hv
     clear hv HO
     go_wp2_with fail
     refine wp_region_laterq (by kernel_rfl) (by kernel_rfl) ?_
     repeat (go_big_quiet_step (((go_at_call 88; (with_reducible refine Calls.laterq (isF_any g S st1 124 124 true _ (h1.later (LW.later _)) rfl HV.out hs))))))
     refine wpQuiet_nil ?_
     intro _ hwq
     obtain ⟨xz, rfl⟩ := hwq
     have h1 := h1.later xz.later
     have hO := hO.later xz.later
     have B4 := blkL xz.later B4
     have hF := frL hF xz.later
     clear k0 k1 k3
     obtain ⟨wq, hwq⟩ : ∃ wq, wq = xz.val := ⟨_, rfl⟩
     rw [← hwq] at h1 hO B4 hF ⊢
     clear hwq xz
     have hup : Up wq (fun k => lo k ∧ k ≠ w.heap.size) := fun k hk => ⟨HLO.out k (by have := B4.lt; omega), by have := B4.lt; omega⟩
     have hrow := rowT_any (fun k => lo k ∧ k ≠ w.heap.size) 2 A n cp ts wq hO.rd hn0 (by omega) hup
     have HR2 : Hid (R = (tRow 2 ts, st1)) := by show _ = _; rw [HR.out, HE.out]
     have HROW := Lib.hid hrow
     clear hrow hup hO HE
     go_wp2_with fail
     refine HROW.out.mono ?_
     rintro e w8 ⟨k8, a8, b8, c8, d8, A8, n8, cp8, rfl, hC8, hl8⟩
     have h8 := h1.later hl8
     have hF8 := frL hF hl8
     have D4 := blkL hl8 B4
     clear h1 hF B4 hl8
     obtain ⟨z0, z1, z2, z3, z4, z5, y0, y1, y2, y3, y4, y5⟩ := cells6 D4
     go_wp2_with fail
     refine bodyPost_ret (v := .agg #[.int .i64 k8, .int .u64 a8, .int .u64 b8, .int .u64 c8, .int .u64 d8, .slice A8 n8 cp8]) (by simp [results, Tryz.results87, go_sem, z0, z1, z2, z3, z4, z5]) rfl ?_
     exact RetTS.store6 HR2.out (hC8) h8 hF8 rfl D4 (fun h => h.2 rfl) (Nat.le_refl _) (fun k h => h.1)
    | false =>
     cases hw : isAt S.data.toList st1.at_ 41 with
     | true =>
      have HE : Hid (Rv = (ts, st1)) := by show _ = _; rw [← HO.out, rcatL_stop _ _ _ _ _ (fun hh => by rw [hw] at hh; cases hh.2.2.2)]
      have HV := Lib.hid hv
      have HW := Lib.hid hw
      clear hv hw HO
      go_wp2_with fail
      refine wp_region_laterq (by kernel_rfl) (by kernel_rfl) ?_
      repeat (go_big_quiet_step (((go_at_call 88; (first | (with_reducible refine Calls.laterq (isF_any g S st1 124 124 false _ (h1.later (LW.later _)) rfl HV.out hs)) | (with_reducible refine Calls.laterq (isF_any g S st1 41 41 true _ (h1.later (LW.later _)) rfl HW.out hs)))))))
      refine wpQuiet_nil ?_
      intro _ hwq
      obtain ⟨xz, rfl⟩ := hwq
      have h1 := h1.later xz.later
      have hO := hO.later xz.later
      have B4 := blkL xz.later B4
      have hF := frL hF xz.later
      clear k0 k1 k3
      obtain ⟨wq, hwq⟩ : ∃ wq, wq = xz.val := ⟨_, rfl⟩
      rw [← hwq] at h1 hO B4 hF ⊢
      clear hwq xz
      have hup : Up wq (fun k => lo k ∧ k ≠ w.heap.size) := fun k hk => ⟨HLO.out k (by have := B4.lt; omega), by have := B4.lt; omega⟩
      have hrow := rowT_any (fun k => lo k ∧ k ≠ w.heap.size) 2 A n cp ts wq hO.rd hn0 (by omega) hup
      have HR2 : Hid (R = (tRow 2 ts, st1)) := by show _ = _; rw [HR.out, HE.out]
      have HROW := Lib.hid hrow
      clear hrow hup hO HE
      go_wp2_with fail
      refine HROW.out.mono ?_
      rintro e w8 ⟨k8, a8, b8, c8, d8, A8, n8, cp8, rfl, hC8, hl8⟩
      have h8 := h1.later hl8
      have hF8 := frL hF hl8
      have D4 := blkL hl8 B4
      clear h1 hF B4 hl8
      obtain ⟨z0, z1, z2, z3, z4, z5, y0, y1, y2, y3, y4, y5⟩ := cells6 D4
      go_wp2_with fail
      refine bodyPost_ret (v := .agg #[.int .i64 k8, .int .u64 a8, .int .u64 b8, .int .u64 c8, .int .u64 d8, .slice A8 n8 cp8]) (by simp [results, Tryz.results87, go_sem, z0, z1, z2, z3, z4, z5]) rfl ?_
      exact RetTS.store6 HR2.out (hC8) h8 hF8 rfl D4 (fun h => h.2 rfl) (Nat.le_refl _) (fun k h => h.1)
     | false =>
      have HV := Lib.hid hv
      have HW := Lib.hid hw
      clear hv hw
      go_wp2_with fail
      refine wp_region_laterq (by kernel_rfl) (by kernel_rfl) ?_
      repeat (go_big_quiet_step (((go_at_call 88; (first | (with_reducible refine Calls.laterq (isF_any g S st1 124 124 false _ (h1.later (LW.later _)) rfl HV.out hs)) | (with_reducible refine Calls.laterq (isF_any g S st1 41 41 false _ (h1.later (LW.later _)) rfl HW.out hs)))))))
      refine wpQuiet_nil ?_
      intro _ hwq
      obtain ⟨xz, rfl⟩ := hwq
      have h1 := h1.later xz.later
      have hO := hO.later xz.later
      have B4 := blkL xz.later B4
      have hF := frL hF xz.later
      clear k0 k1 k3
      obtain ⟨wq, hwq⟩ : ∃ wq, wq = xz.val := ⟨_, rfl⟩
      rw [← hwq] at h1 hO B4 hF ⊢
      clear hwq xz
      obtain ⟨p1, st2, hts⟩ : ∃ p1 st2, G st1 = (p1, st2) := ⟨_, _, rfl⟩
      have hdom : Dom S.data.toList d st1 := ⟨HB.out, by rw [len_eq]; show _ ≤ _; exact hgat, by have := HD.out.op; show st1.op ≤ 10; omega, by have := HD.out.deep; show 11 ≤ d + st1.op; omega⟩
      have hres := HG.out _ hdom
      rw [hts] at hres
      have hbd : st2.at_ ≤ S.data.toList.length + B := hres.bd
      have hgd2 : st2.bad = 0 → st1.at_ < st2.at_ ∧ st2.at_ ≤ S.data.toList.length ∧ st2.op = st1.op := fun hb => by
       obtain ⟨g1, g2, g3, _⟩ := hres.good hb
       have g1' : st1.at_ < st2.at_ := g1
       exact ⟨by omega, g2, g3⟩
      rw [len_eq] at hbd hgd2
      obtain ⟨f, rfl⟩ : ∃ f', f = f' + 1 := ⟨f - 1, by omega⟩
      have HO2 : Hid (rCatL S.data.toList G f (ts ++ [p1]) st2 = Rv) := by show _ = _; rw [← HO.out, rcatL_step _ _ _ _ _ ⟨HB.out, by rw [len_eq]; exact hlt, HV.out, HW.out⟩, hts]
      have HGD := Lib.hid hgd2
      have hup := own_or hO HLO.out B4.lt
      have hsub := HC.out (fun k => (lo k ∧ k ≠ w.heap.size) ∧ ob A ≠ some k) g _ _ h1 hdom (hup.fr (Fr.refl _ (fun _ => False)))
      rw [hts] at hsub
      have HSUB := Lib.hid hsub
      have hOl := hO.lt
      clear hsub hts hdom hres hup HO hgd2
      go_wp2_with fail
      refine HSUB.out.mono ?_
      rintro e w4 ⟨k4, a4, b4, c4, d4, A4, n4, cp4, rfl, hC4, h4, hF4⟩
      have hF5 := frF hF hF4
      have D4 := blkF hF4 ne4 B4
      have hO4 := hO.frg h1 hF4
      have hsz4 : w.heap.size + 1 ≤ w4.heap.size := by have := D4.lt; omega
      go_wp2_with (at_builtin; go_loud (refine wpList_append_t _ rfl (.tmp 34) (.tmp 37) rfl (fun k => lo k ∧ k ≠ w.heap.size) (w.heap.size + 1) A n cp ts rfl (hO4.later ((Later.refl _).alloc _)) p1 ⟨k4, a4, b4, c4, d4, A4, n4, cp4⟩ (hC4.later ((Later.refl _).alloc _)) _ _ rfl (reads_t w4 ⟨k4, a4, b4, c4, d4, A4, n4, cp4⟩ _) (by omega) (by simp; omega) ?_); intro A9 n9 c9 w7 hn9 hown9 hg9)
      have hne : ∀ k, ob A = some k → ¬ k = g := fun k hk e => by
       subst e
       obtain ⟨_, xs, _, hx3⟩ := hO4
       obtain ⟨_, _, cs, hB⟩ := own_row_blk hx3 hk
       exact Blk.ne_ hB h4 (by decide) rfl
      have K4 := (D4.alloc (.cells #[.int .i64 k4, .int .u64 a4, .int .u64 b4, .int .u64 c4, .int .u64 d4, .slice A4 n4 cp4] 98)).grown hg9 (fun e => by have := (hOl _ e.symm).1; omega)
      have K6 : RfC w7 g S st2 := Blk.grown (Blk.alloc h4 _) hg9 (fun e => hne _ e.symm rfl)
      have KF : Fr w w7 (fun k => k = g) := Fr.grown (hF5.alloc _) hg9 (fun k hk e => by have := (hOl _ e).1; omega)
      have HM2 := K6.msF
      clear hg9 hOl hne hO4 h4 hF5 D4 hC4
      subst hn9
      go_roundw
      case rel => exact ⟨ts ++ [p1], st2, f, A9, n + 1, c9, rfl, by omega, fun hb => by have := (HGD.out hb).1; omega, by omega, HO2, fun hb => by have := (HGD.out hb).1; omega, fun hb => ⟨(HGD.out hb).2.1, by have := (HGD.out hb).2.2; omega⟩, hbd, K6, hown9, K4, KF⟩
      case measure => exact mk_lt HM2 HM.out HB.out hgat (fun hb => (HGD.out hb).1)
   ·have hltd : decide (st1.at_ < S.size) = false := by simp; omega
    have HE : Hid (Rv = (ts, st1)) := by show _ = _; rw [← HO.out, rcatL_stop _ _ _ _ _ (fun hh => by rw [len_eq] at hh; exact hlt hh.2.1)]
    clear HO hlt
    go_wp2_with fail
    refine wp_region_laterq (by kernel_rfl) (by kernel_rfl) ?_
    repeat (go_big_quiet_step (fail))
    refine wpQuiet_nil ?_
    intro _ hwq
    obtain ⟨xz, rfl⟩ := hwq
    have h1 := h1.later xz.later
    have hO := hO.later xz.later
    have B4 := blkL xz.later B4
    have hF := frL hF xz.later
    clear k0 k1 k3
    obtain ⟨wq, hwq⟩ : ∃ wq, wq = xz.val := ⟨_, rfl⟩
    rw [← hwq] at h1 hO B4 hF ⊢
    clear hwq xz
    have hup : Up wq (fun k => lo k ∧ k ≠ w.heap.size) := fun k hk => ⟨HLO.out k (by have := B4.lt; omega), by have := B4.lt; omega⟩
    have hrow := rowT_any (fun k => lo k ∧ k ≠ w.heap.size) 2 A n cp ts wq hO.rd hn0 (by omega) hup
    have HR2 : Hid (R = (tRow 2 ts, st1)) := by show _ = _; rw [HR.out, HE.out]
    have HROW := Lib.hid hrow
    clear hrow hup hO HE
    go_wp2_with fail
    refine HROW.out.mono ?_
    rintro e w8 ⟨k8, a8, b8, c8, d8, A8, n8, cp8, rfl, hC8, hl8⟩
    have h8 := h1.later hl8
    have hF8 := frL hF hl8
    have D4 := blkL hl8 B4
    clear h1 hF B4 hl8
    obtain ⟨z0, z1, z2, z3, z4, z5, y0, y1, y2, y3, y4, y5⟩ := cells6 D4
    go_wp2_with fail
    refine bodyPost_ret (v := .agg #[.int .i64 k8, .int .u64 a8, .int .u64 b8, .int .u64 c8, .int .u64 d8, .slice A8 n8 cp8]) (by simp [results, Tryz.results87, go_sem, z0, z1, z2, z3, z4, z5]) rfl ?_
    exact RetTS.store6 HR2.out (hC8) h8 hF8 rfl D4 (fun h => h.2 rfl) (Nat.le_refl _) (fun k h => h.1)
  ·have hbi : ((st1.bad : Int) == 0) = false := by rw [beq_eq_false_iff_ne]; omega
   have hbn : (st1.bad == 0) = false := by rw [beq_eq_false_iff_ne]; exact hb
   have HE : Hid (Rv = (ts, st1)) := by show _ = _; rw [← HO.out, rcatL_stop _ _ _ _ _ (fun hh => hb hh.1)]
   clear hb HO hfu hnat hgd
   go_wp2_with fail
   refine wp_region_laterq (by kernel_rfl) (by kernel_rfl) ?_
   repeat (go_big_quiet_step (fail))
   refine wpQuiet_nil ?_
   intro _ hwq
   obtain ⟨xz, rfl⟩ := hwq
   have h1 := h1.later xz.later
   have hO := hO.later xz.later
   have B4 := blkL xz.later B4
   have hF := frL hF xz.later
   clear k0 k1 k3
   obtain ⟨wq, hwq⟩ : ∃ wq, wq = xz.val := ⟨_, rfl⟩
   rw [← hwq] at h1 hO B4 hF ⊢
   clear hwq xz
   have hup : Up wq (fun k => lo k ∧ k ≠ w.heap.size) := fun k hk => ⟨HLO.out k (by have := B4.lt; omega), by have := B4.lt; omega⟩
   have hrow := rowT_any (fun k => lo k ∧ k ≠ w.heap.size) 2 A n cp ts wq hO.rd hn0 (by omega) hup
   have HR2 : Hid (R = (tRow 2 ts, st1)) := by show _ = _; rw [HR.out, HE.out]
   have HROW := Lib.hid hrow
   clear hrow hup hO HE
   go_wp2_with fail
   refine HROW.out.mono ?_
   rintro e w8 ⟨k8, a8, b8, c8, d8, A8, n8, cp8, rfl, hC8, hl8⟩
   have h8 := h1.later hl8
   have hF8 := frL hF hl8
   have D4 := blkL hl8 B4
   clear h1 hF B4 hl8
   obtain ⟨z0, z1, z2, z3, z4, z5, y0, y1, y2, y3, y4, y5⟩ := cells6 D4
   go_wp2_with fail
   refine bodyPost_ret (v := .agg #[.int .i64 k8, .int .u64 a8, .int .u64 b8, .int .u64 c8, .int .u64 d8, .slice A8 n8 cp8]) (by simp [results, Tryz.results87, go_sem, z0, z1, z2, z3, z4, z5]) rfl ?_
   exact RetTS.store6 HR2.out (hC8) h8 hF8 rfl D4 (fun h => h.2 rfl) (Nat.le_refl _) (fun k h => h.1)
def AltTAt (G : St → Tree × St) (w : World) (g : Nat) (lo : Nat → Prop) (S : ByteArray) (B : Nat) (st0 : St) (Rv : List Tree × St) (s3 : Value) (wr : World) : Prop :=
 ∃ (ts : List Tree) (st : St) (f : Nat) (A : Option Addr) (n cp : Nat), s3 = .slice A n cp ∧ 0 < n ∧ (st.bad = 0 → n ≤ st.at_ + 1) ∧ n ≤ S.size + 3 ∧ Hid (rAltL S.data.toList G f ts st = Rv) ∧ (st.bad = 0 → S.size + 1 ≤ f + st.at_) ∧ (st.bad = 0 → st.at_ ≤ S.size ∧ st.op = st0.op) ∧ st.at_ ≤ S.size + B ∧ RfC wr g S st ∧
  OwnT wr (fun k => lo k ∧ k ≠ w.heap.size) (w.heap.size + 1) A n cp ts ∧ Blk wr w.heap.size 98 #[.int .i64 0, .int .u64 0, .int .u64 0, .int .u64 0, .int .u64 0, .slice none 0 0] ∧ Fr w wr (fun k => k = g)
set_option maxRecDepth 100000 in
set_option maxHeartbeats 16000000 in
theorem altT_any (S : ByteArray) (d B : Nat) (_hB : B ≤ 100) (hs1 : S.size ≤ 20000) (G : St → Tree × St) (hG : RReads S.data.toList d B G) (hC : RdfC 87 S d G) : RdfC 71 S d (rAltG S.data.toList G) := by
 intro lo g st w h hD hlo
 have hs : S.size ≤ 1000000000 := by omega
 obtain ⟨R, hR⟩ : ∃ R, R = rAltG S.data.toList G st := ⟨_, rfl⟩
 rw [← hR]
 obtain ⟨p0, st0, hat⟩ : ∃ p0 st0, G st = (p0, st0) := ⟨_, _, rfl⟩
 obtain ⟨Rv, hRv⟩ : ∃ Rv, Rv = rAltL S.data.toList G (S.data.toList.length + 2) [p0] st0 := ⟨_, rfl⟩
 have HR : Hid (R = (tRow 3 Rv.1, Rv.2)) := by
  show _ = _
  rw [hR, hRv]
  unfold rAltG
  rw [hat]
 have HRV : Hid (rAltL S.data.toList G (S.size + 2) [p0] st0 = Rv) := by
  show _ = _
  rw [hRv, len_eq]
 have hres := hG st hD
 rw [hat] at hres
 have HD := Lib.hid hD
 have HAT := Lib.hid hat
 have HG : Hid (RReads S.data.toList d B G) := hG
 have HC : Hid (RdfC 87 S d G) := hC
 have HLO := Lib.hid hlo
 have hgw := h.lt
 have hb0 : st0.at_ ≤ S.data.toList.length + B := hres.bd
 have hg0 : st0.bad = 0 → st.at_ < st0.at_ ∧ st0.at_ ≤ S.data.toList.length ∧ st0.op = st.op := fun hb => ⟨(hres.good hb).1, (hres.good hb).2.1, (hres.good hb).2.2.1⟩
 rw [len_eq] at hb0 hg0
 clear hR hRv hD hres hat hG hC
 go_enter Tryz.func71, Tryz.ntmps71
 go_upto_region 1 with fail
 obtain ⟨W0, hW0⟩ : ∃ W0, W0 = w.alloc (.cells #[.int .i64 0, .int .u64 0, .int .u64 0, .int .u64 0, .int .u64 0, .slice none 0 0] 98) := ⟨_, rfl⟩
 have B4 : Blk W0 w.heap.size 98 #[.int .i64 0, .int .u64 0, .int .u64 0, .int .u64 0, .int .u64 0, .slice none 0 0] := by rw [hW0]; exact Blk.new w _ _
 have hl0 : Later w W0 := by rw [hW0]; exact (Later.refl w).alloc _
 have h0 := h.later hl0
 have hF0 : Fr w W0 (fun k => k = g) := Fr.later hl0
 have ne4 : w.heap.size ≠ g := by have := h.lt; omega
 rw [← hW0]
 clear hW0 hl0 h
 go_wp2_with fail
 refine (HC.out (fun k => lo k ∧ k ≠ w.heap.size) g st _ h0 HD.out (fun k hk => ⟨HLO.out k (by have := B4.lt; omega), by have := B4.lt; omega⟩)).mono ?_
 rw [HAT.out]
 rintro e w2 ⟨k, a, b, c, d', A, n, cp, rfl, hC, h2, hF2⟩
 have hF3 := frF hF0 hF2
 have D4 := blkF hF2 ne4 B4
 have hsz2 := D4.lt
 have hO2 := OwnT.lit (base := w.heap.size + 1) p0 ⟨k, a, b, c, d', A, n, cp⟩ hC (by omega)
 have hl2 := (Later.refl w2).alloc (.cells #[.int .i64 k, .int .u64 a, .int .u64 b, .int .u64 c, .int .u64 d', .slice A n cp] 98)
 clear B4 hF0 h0 hF2
 go_wp2_with fail
 go_loopw [3] (fun s3 wr => AltTAt G w g lo S B st Rv s3 wr) (fun _ wr => msF S wr g)
 case atStart => exact ⟨[p0], st0, S.size + 2, _, 1, 1, rfl, Nat.one_pos, fun _ => by omega, by omega, HRV, fun _ => by omega, fun hb => ⟨(hg0 hb).2.1, (hg0 hb).2.2⟩, hb0, h2.later hl2, hO2, blkL hl2 D4, frL hF3 hl2⟩
 case round =>
  clear hb0 hg0 HRV HAT hC h2 D4 hF3 hO2 hl2 hsz2
  obtain ⟨ts, st1, f, A, n, cp, rfl, hn0, hnat, hns, HO, hfu, hgd, hat, h1, hO, B4, hF⟩ := hrel
  have HM : Hid (msF S wr g = if st1.bad = 0 then S.size + 1 - st1.at_ else 0) := h1.msF
  have hati : (st1.at_ : Int) ≤ 100000 := by omega
  by_cases hb : st1.bad = 0
  ·have hbi : ((st1.bad : Int) == 0) = true := by rw [hb]; rfl
   have hbn : (st1.bad == 0) = true := by rw [hb]; rfl
   have hfu := hfu hb
   have hnat := hnat hb
   obtain ⟨hgat, hgop⟩ := hgd hb
   have HB := Lib.hid hb
   clear hb hgd
   cases hv : isAt S.data.toList st1.at_ 124 with
   | false =>
    have HE : Hid (Rv = (ts, st1)) := by show _ = _; rw [← HO.out, raltL_stop _ _ _ _ _ (fun hh => by rw [hv] at hh; cases hh.2)]
    have HV := Lib.hid hv
    clear hv HO
    have c3 : wr.cell? ⟨g, 3, none⟩ = some (.int .i64 (st1.bad : Int)) := h1.c3
    go_wp2_with fail
    refine (isF_any g S st1 124 124 false wr h1 rfl HV.out hs).mono ?_
    rintro e wq ⟨rfl, hlq⟩
    have h1 := h1.later hlq
    have hO := hO.later hlq
    have B4 := blkL hlq B4
    have hF := frL hF hlq
    clear c3 hlq
    have hup : Up wq (fun k => lo k ∧ k ≠ w.heap.size) := fun k hk => ⟨HLO.out k (by have := B4.lt; omega), by have := B4.lt; omega⟩
    have hrow := rowT_any (fun k => lo k ∧ k ≠ w.heap.size) 3 A n cp ts wq hO.rd hn0 (by omega) hup
    have HR2 : Hid (R = (tRow 3 ts, st1)) := by show _ = _; rw [HR.out, HE.out]
    have HROW := Lib.hid hrow
    clear hrow hup hO HE
    go_wp2_with fail
    refine HROW.out.mono ?_
    rintro e w8 ⟨k8, a8, b8, c8, d8, A8, n8, cp8, rfl, hC8, hl8⟩
    have h8 := h1.later hl8
    have hF8 := frL hF hl8
    have D4 := blkL hl8 B4
    clear h1 hF B4 hl8
    obtain ⟨z0, z1, z2, z3, z4, z5, y0, y1, y2, y3, y4, y5⟩ := cells6 D4
    go_wp2_with fail
    refine bodyPost_ret (v := .agg #[.int .i64 k8, .int .u64 a8, .int .u64 b8, .int .u64 c8, .int .u64 d8, .slice A8 n8 cp8]) (by simp [results, Tryz.results71, go_sem, z0, z1, z2, z3, z4, z5]) rfl ?_
    exact RetTS.store6 HR2.out (hC8) h8 hF8 rfl D4 (fun h => h.2 rfl) (Nat.le_refl _) (fun k h => h.1)
   | true =>
    have hlt := isAt_lt hv
    rw [len_eq] at hlt
    have HV := Lib.hid hv
    clear hv
    have c3 : wr.cell? ⟨g, 3, none⟩ = some (.int .i64 (st1.bad : Int)) := h1.c3
    go_wp2_with fail
    refine (isF_any g S st1 124 124 true wr h1 rfl HV.out hs).mono ?_
    rintro e wq ⟨rfl, hlq⟩
    have h1 := h1.later hlq
    have hO := hO.later hlq
    have B4 := blkL hlq B4
    have hF := frL hF hlq
    clear c3 hlq
    obtain ⟨p1, st2, hts⟩ : ∃ p1 st2, G (stAt st1 (st1.at_ + 1)) = (p1, st2) := ⟨_, _, rfl⟩
    have hdom : Dom S.data.toList d (stAt st1 (st1.at_ + 1)) := ⟨HB.out, by rw [len_eq]; show _ ≤ _; show st1.at_ + 1 ≤ S.size; omega, by have := HD.out.op; show st1.op ≤ 10; omega, by have := HD.out.deep; show 11 ≤ d + st1.op; omega⟩
    have hres := HG.out _ hdom
    rw [hts] at hres
    have hbd : st2.at_ ≤ S.data.toList.length + B := hres.bd
    have hgd2 : st2.bad = 0 → st1.at_ < st2.at_ ∧ st2.at_ ≤ S.data.toList.length ∧ st2.op = st1.op := fun hb => by
     obtain ⟨g1, g2, g3, _⟩ := hres.good hb
     have g1' : st1.at_ + 1 < st2.at_ := g1
     exact ⟨by omega, g2, g3⟩
    rw [len_eq] at hbd hgd2
    obtain ⟨f, rfl⟩ : ∃ f', f = f' + 1 := ⟨f - 1, by omega⟩
    have HO2 : Hid (rAltL S.data.toList G f (ts ++ [p1]) st2 = Rv) := by show _ = _; rw [← HO.out, raltL_step _ _ _ _ _ ⟨HB.out, HV.out⟩, hts]
    have HGD := Lib.hid hgd2
    have hup := own_or hO HLO.out B4.lt
    have c1 := h1.c1
    have f1 := h1.f 1
    have h3 := h1.setAt (st1.at_ + 1) ((st1.at_ : Int) + 1) (by omega)
    have hF3 : Fr w _ (fun k => k = g) := frG (i := 1) hF (.int .i64 ((st1.at_ : Int) + 1))
    have E4 := B4.far (p := ⟨g, 1, none⟩) ne4 (.int .i64 ((st1.at_ : Int) + 1))
    have hO3 := hO.frg h1 (frG (i := 1) (Fr.refl wq (fun k => k = g)) (.int .i64 ((st1.at_ : Int) + 1)))
    have hsub := HC.out (fun k => (lo k ∧ k ≠ w.heap.size) ∧ ob A ≠ some k) g _ _ h3 hdom (hup.fr (frG (i := 1) (Fr.refl wq (fun k => k = g)) (.int .i64 ((st1.at_ : Int) + 1))))
    rw [hts] at hsub
    have HSUB := Lib.hid hsub
    have hOl := hO.lt
    clear hsub hts hdom hres hup HO hgd2
    clear hO h1 hF B4
    go_wp2_with fail
    refine HSUB.out.mono ?_
    rintro e w4 ⟨k4, a4, b4, c4, d4, A4, n4, cp4, rfl, hC4, h4, hF4⟩
    have hF5 := frF hF3 hF4
    have D4 := blkF hF4 ne4 E4
    have hO4 := hO3.frg h3 hF4
    have hsz4 : w.heap.size + 1 ≤ w4.heap.size := by have := D4.lt; omega
    go_wp2_with (at_builtin; go_loud (refine wpList_append_t _ rfl (.tmp 23) (.tmp 26) rfl (fun k => lo k ∧ k ≠ w.heap.size) (w.heap.size + 1) A n cp ts rfl (hO4.later ((Later.refl _).alloc _)) p1 ⟨k4, a4, b4, c4, d4, A4, n4, cp4⟩ (hC4.later ((Later.refl _).alloc _)) _ _ rfl (reads_t w4 ⟨k4, a4, b4, c4, d4, A4, n4, cp4⟩ _) (by omega) (by simp; omega) ?_); intro A9 n9 c9 w7 hn9 hown9 hg9)
    have hne : ∀ k, ob A = some k → ¬ k = g := fun k hk e => by
     subst e
     obtain ⟨_, xs, _, hx3⟩ := hO4
     obtain ⟨_, _, cs, hB⟩ := own_row_blk hx3 hk
     exact Blk.ne_ hB h4 (by decide) rfl
    have K4 := (D4.alloc (.cells #[.int .i64 k4, .int .u64 a4, .int .u64 b4, .int .u64 c4, .int .u64 d4, .slice A4 n4 cp4] 98)).grown hg9 (fun e => by have := (hOl _ e.symm).1; omega)
    have K6 : RfC w7 g S st2 := Blk.grown (Blk.alloc h4 _) hg9 (fun e => hne _ e.symm rfl)
    have KF : Fr w w7 (fun k => k = g) := Fr.grown (hF5.alloc _) hg9 (fun k hk e => by have := (hOl _ e).1; omega)
    have HM2 := K6.msF
    clear hg9 hOl hne hO4 h4 hF5 D4 hC4
    subst hn9
    go_roundw
    case rel => exact ⟨ts ++ [p1], st2, f, A9, n + 1, c9, rfl, by omega, fun hb => by have := (HGD.out hb).1; omega, by omega, HO2, fun hb => by have := (HGD.out hb).1; omega, fun hb => ⟨(HGD.out hb).2.1, by have := (HGD.out hb).2.2; omega⟩, hbd, K6, hown9, K4, KF⟩
    case measure => exact mk_lt HM2 HM.out HB.out hgat (fun hb => (HGD.out hb).1)
  ·have hbi : ((st1.bad : Int) == 0) = false := by rw [beq_eq_false_iff_ne]; omega
   have hbn : (st1.bad == 0) = false := by rw [beq_eq_false_iff_ne]; exact hb
   have HE : Hid (Rv = (ts, st1)) := by show _ = _; rw [← HO.out, raltL_stop _ _ _ _ _ (fun hh => hb hh.1)]
   have c3 : wr.cell? ⟨g, 3, none⟩ = some (.int .i64 (st1.bad : Int)) := h1.c3
   clear hb HO hfu hnat hgd
   obtain ⟨wq, hwq⟩ : ∃ wq, wq = wr := ⟨_, rfl⟩
   rw [← hwq] at h1 hO B4 hF c3 ⊢
   clear hwq HM
   have hup : Up wq (fun k => lo k ∧ k ≠ w.heap.size) := fun k hk => ⟨HLO.out k (by have := B4.lt; omega), by have := B4.lt; omega⟩
   have hrow := rowT_any (fun k => lo k ∧ k ≠ w.heap.size) 3 A n cp ts wq hO.rd hn0 (by omega) hup
   have HR2 : Hid (R = (tRow 3 ts, st1)) := by show _ = _; rw [HR.out, HE.out]
   have HROW := Lib.hid hrow
   clear hrow hup hO HE
   go_wp2_with fail
   refine HROW.out.mono ?_
   rintro e w8 ⟨k8, a8, b8, c8, d8, A8, n8, cp8, rfl, hC8, hl8⟩
   have h8 := h1.later hl8
   have hF8 := frL hF hl8
   have D4 := blkL hl8 B4
   clear h1 hF B4 hl8
   obtain ⟨z0, z1, z2, z3, z4, z5, y0, y1, y2, y3, y4, y5⟩ := cells6 D4
   go_wp2_with fail
   refine bodyPost_ret (v := .agg #[.int .i64 k8, .int .u64 a8, .int .u64 b8, .int .u64 c8, .int .u64 d8, .slice A8 n8 cp8]) (by simp [results, Tryz.results71, go_sem, z0, z1, z2, z3, z4, z5]) rfl ?_
   exact RetTS.store6 HR2.out (hC8) h8 hF8 rfl D4 (fun h => h.2 rfl) (Nat.le_refl _) (fun k h => h.1)
end Go.Proofs.YtmkddhkpeiajhaaGreatDoor
namespace Go.Proofs.YtmkddhkpeiajhaaGreatDoor
open Go.RowKit
theorem rGroup_in (s : List UInt8) (alt : St → Tree × St) (st : St) (fr : Nat) (q : Tree) (st2 : St) (o2 : Nat) (ho : ¬ 10 < st.op + 1) (hal : alt (stOp st (st.op + 1)) = (q, st2)) (ho2 : st2.op = o2 + 1) :
  rGroup s alt st fr = if st2.bad = 0 ∧ isAt s st2.at_ 41 = false then (tEmpty, stFault 24 st2.at_ st2) else (q, stAt (stOp st2 o2) (st2.at_ + 1)) := by
 unfold rGroup
 rw [if_neg ho, hal]
 simp only [ho2, Nat.add_sub_cancel]
def Atom91 (S : ByteArray) (d : Nat) : Prop := ∀ (lo : Nat → Prop) (g : Nat) (st : St) (w : World), RfC w g S st → Dom S.data.toList (d + 1) st → Up w lo → isAt S.data.toList st.at_ 91 = true →
 Calls Tryz.prog 118 #[.pointer (some ⟨g, 0, none⟩)] w (RetTS w g lo S (rAtom S.data.toList (rAlt S.data.toList d) st))
set_option maxRecDepth 100000 in
set_option maxHeartbeats 16000000 in
theorem atomT_any (S : ByteArray) [Txt S] (d : Nat) (hd : d ≤ 11) (hs1 : S.size ≤ 20000) (h91 : Atom91 S d) (ih : RdfC 71 S d (rAlt S.data.toList d)) : RdfC 118 S (d + 1) (rAtom S.data.toList (rAlt S.data.toList d)) := by
 intro lo g st w h hD hlo
 have hs : S.size ≤ 1000000000 := by omega
 by_cases hbr : isAt S.data.toList st.at_ 91 = true
 ·exact h91 lo g st w h hD hlo hbr
 ·obtain ⟨R, hR⟩ : ∃ R, R = rAtom S.data.toList (rAlt S.data.toList d) st := ⟨_, rfl⟩
  rw [← hR]
  have hat := hD.at_
  rw [len_eq] at hat
  have hati : (st.at_ : Int) ≤ 100000 := by omega
  have HLO := Lib.hid hlo
  have HD := Lib.hid hD
  have HIH : Hid (RdfC 71 S d (rAlt S.data.toList d)) := ih
  clear h91 hlo hD ih
  cases hx : S.data.toList[st.at_]? with
  | none =>
   have hle := str_none S _ hx
   have hlt : S.size ≤ st.at_ := hle
   have HR : Hid (R = (tEmpty, stFault 24 st.at_ st)) := by
    show _ = _
    rw [hR]; unfold rAtom; rw [hx]
   clear hR hx hbr
   go_enter Tryz.func118, Tryz.ntmps118
   go_upto_region 1 with fail
   obtain ⟨W0, hW0⟩ : ∃ W0, W0 = w.alloc (.cells #[.int .i64 0, .int .u64 0, .int .u64 0, .int .u64 0, .int .u64 0, .slice none 0 0] 98) := ⟨_, rfl⟩
   have B4 : Blk W0 w.heap.size 98 #[.int .i64 0, .int .u64 0, .int .u64 0, .int .u64 0, .int .u64 0, .slice none 0 0] := by rw [hW0]; exact Blk.new w _ _
   have hl0 : Later w W0 := by rw [hW0]; exact (Later.refl w).alloc _
   have h0 := h.later hl0
   have hF0 : Fr w W0 (fun k => k = g) := Fr.later hl0
   have ne4 : w.heap.size ≠ g := by have := h.lt; omega
   rw [← hW0]
   clear hW0 hl0 h
   have k0 : ∀ x : LW W0, x.val.cell? ⟨g, 0, none⟩ = some (.string S) := LW.cell_ h0.c0
   have k1 : ∀ x : LW W0, x.val.cell? ⟨g, 1, none⟩ = some (.int .i64 (st.at_ : Int)) := LW.cell_ h0.c1
   go_wp2_with fail
   refine wp_region_laterq (by kernel_rfl) (by kernel_rfl) ?_
   repeat (go_big_quiet_step (fail))
   refine wpQuiet_nil ?_
   intro _ hwq
   obtain ⟨xz, rfl⟩ := hwq
   have h1 := h0.later xz.later
   have B4 := blkL xz.later B4
   have hF1 := frL hF0 xz.later
   clear k0 k1
   obtain ⟨W1, hW1⟩ : ∃ W1, W1 = xz.val := ⟨_, rfl⟩
   rw [← hW1] at h1 B4 hF1 ⊢
   clear hW1 h0 hF0 xz
   have c1 := h1.c1
   go_wp2_with fail
   refine (fails_any g S _ _ _ st.at_ 24 _ h1 rfl rfl).mono ?_
   rintro e w3 ⟨rfl, h3, hF3⟩
   have hF4 := frF hF1 hF3
   have D4 := blkF hF3 ne4 B4
   clear h1 hF1 B4 hF3
   obtain ⟨z0, z1, z2, z3, z4, z5, y0, y1, y2, y3, y4, y5⟩ := cells6 D4
   go_wp2_with fail
   refine bodyPost_ret (v := .agg #[.int .i64 0, .int .u64 0, .int .u64 0, .int .u64 0, .int .u64 0, .slice none 0 0]) (by simp [results, Tryz.results118, go_sem, z0, z1, z2, z3, z4, z5]) rfl ?_
   exact RetTS.store6 HR.out (ReC.leaf _ (fun k => lo k ∧ k ≠ w.heap.size) 0 Proofs.YtmkddhkpeiajhaaGreatDoor.z4 none 0) h3 hF4 rfl D4 (fun h => h.2 rfl) (Nat.le_refl _) (fun k h => h.1)
  | some x =>
   obtain ⟨hi, he⟩ := str_get S _ x hx
   have hi1 : (st.at_ : Int) < (S.size : Int) := by omega
   have hltd : decide (S.size ≤ st.at_) = false := by simp; omega
   have hx1 := x.toNat_lt
   obtain ⟨xn, hxn⟩ : ∃ xn, xn = x.toNat := ⟨_, rfl⟩
   have hei : (S[st.at_].toNat : Int) = (xn : Int) := by rw [he, hxn]
   have HEX : Hid (xn = 92 → S.data.toList[st.at_ + 1]? = none) := fun h => Txt.esc (S := S) st.at_ x hx (by omega)
   rw [← hxn] at hx1
   have hn91 : xn ≠ 91 := by
    intro e
    apply hbr
    unfold isAt
    rw [hx]
    simp
    omega
   have hRR : R = if xn = 40 then rGroup S.data.toList (rAlt S.data.toList d) (stAt st (st.at_ + 1)) st.at_
    else if xn = 46 then (.node 1 (w4 (mNot mNone)) [], stAt st (st.at_ + 1))
    else if xn = 94 then (.node 7 Proofs.YtmkddhkpeiajhaaGreatDoor.z4 [], stAt st (st.at_ + 1))
    else if xn = 36 then (.node 8 Proofs.YtmkddhkpeiajhaaGreatDoor.z4 [], stAt st (st.at_ + 1))
    else if xn = 92 then rEsc S.data.toList (stAt st (st.at_ + 1))
    else if xn = 42 ∨ xn = 43 ∨ xn = 63 ∨ xn = 123 ∨ xn = 124 ∨ xn = 41 then (tEmpty, stFault 24 st.at_ (stAt st (st.at_ + 1)))
    else (tOne xn, stAt st (st.at_ + 1)) := by
    rw [hR, hxn]; unfold rAtom; rw [hx]; simp only; rw [hxn] at hn91; rw [if_neg hn91]; rfl
   have HRR := Lib.hid hRR
   clear hR hx hbr he hxn hRR
   go_enter Tryz.func118, Tryz.ntmps118
   go_upto_region 1 with fail
   obtain ⟨W0, hW0⟩ : ∃ W0, W0 = w.alloc (.cells #[.int .i64 0, .int .u64 0, .int .u64 0, .int .u64 0, .int .u64 0, .slice none 0 0] 98) := ⟨_, rfl⟩
   have B4 : Blk W0 w.heap.size 98 #[.int .i64 0, .int .u64 0, .int .u64 0, .int .u64 0, .int .u64 0, .slice none 0 0] := by rw [hW0]; exact Blk.new w _ _
   have hl0 : Later w W0 := by rw [hW0]; exact (Later.refl w).alloc _
   have h0 := h.later hl0
   have hF0 : Fr w W0 (fun k => k = g) := Fr.later hl0
   have ne4 : w.heap.size ≠ g := by have := h.lt; omega
   rw [← hW0]
   clear hW0 hl0 h
   have k0 : ∀ x : LW W0, x.val.cell? ⟨g, 0, none⟩ = some (.string S) := LW.cell_ h0.c0
   have k1 : ∀ x : LW W0, x.val.cell? ⟨g, 1, none⟩ = some (.int .i64 (st.at_ : Int)) := LW.cell_ h0.c1
   go_wp2_with fail
   refine wp_region_laterq (by kernel_rfl) (by kernel_rfl) ?_
   repeat (go_big_quiet_step (fail))
   refine wpQuiet_nil ?_
   intro _ hwq
   obtain ⟨xz, rfl⟩ := hwq
   have h1 := h0.later xz.later
   have B4 := blkL xz.later B4
   have hF1 := frL hF0 xz.later
   clear k0 k1
   obtain ⟨W1, hW1⟩ : ∃ W1, W1 = xz.val := ⟨_, rfl⟩
   rw [← hW1] at h1 B4 hF1 ⊢
   clear hW1 h0 hF0 xz
   have c0 := h1.c0
   have c1 := h1.c1
   have f1 := h1.f 1
   go_upto_region 6 with fail
   obtain ⟨W2, hW2⟩ : ∃ W2, W2 = W1.setCell ⟨g, 1, none⟩ (.int .i64 ((st.at_ : Int) + 1)) := ⟨_, rfl⟩
   have h2 : RfC W2 g S (stAt st (st.at_ + 1)) := by rw [hW2]; exact h1.setAt (st.at_ + 1) ((st.at_ : Int) + 1) (by omega)
   have hF2 : Fr w W2 (fun k => k = g) := by rw [hW2]; exact frG (i := 1) hF1 _
   have B5 : Blk W2 w.heap.size 98 #[.int .i64 0, .int .u64 0, .int .u64 0, .int .u64 0, .int .u64 0, .slice none 0 0] := by rw [hW2]; exact B4.far (p := ⟨g, 1, none⟩) ne4 _
   rw [← hW2]
   clear hW2 c0 c1 f1 h1 hF1 B4
   have h1 := h2
   have hF1 := hF2
   have B4 := B5
   clear h2 hF2 B5
   have hcase : xn = 40 ∨ xn = 46 ∨ xn = 94 ∨ xn = 36 ∨ xn = 92 ∨ (xn = 42 ∨ xn = 43 ∨ xn = 63 ∨ xn = 123 ∨ xn = 124 ∨ xn = 41) ∨ (xn ≠ 40 ∧ xn ≠ 46 ∧ xn ≠ 94 ∧ xn ≠ 36 ∧ xn ≠ 92 ∧ xn ≠ 42 ∧ xn ≠ 43 ∧ xn ≠ 63 ∧ xn ≠ 123 ∧ xn ≠ 124 ∧ xn ≠ 41) := by omega
   rcases hcase with hc | hc | hc | hc | hc | hc | hc
   ·have hRG : R = rGroup S.data.toList (rAlt S.data.toList d) (stAt st (st.at_ + 1)) st.at_ := by rw [HRR.out, if_pos hc]
    have hxi : (xn : Int) = 40 := by omega
    have hop := HD.out.op
    have hopi : (st.op : Int) ≤ 100 := by omega
    clear hc HRR hn91
    by_cases ho : 10 < st.op + 1
    ·have HR : Hid (R = (tEmpty, stFault 26 st.at_ (stOp (stAt st (st.at_ + 1)) (st.op + 1)))) := by
      show _ = _
      rw [hRG]; unfold rGroup; rw [if_pos (show 10 < (stAt st (st.at_ + 1)).op + 1 from ho)]; rfl
     have hoi : (10 : Int) < (st.op : Int) + 1 := by omega
     clear hRG
     have c2 : W2.cell? ⟨g, 2, none⟩ = some (.int .i64 (st.op : Int)) := h1.c2
     have f2 := h1.f 2
     go_upto_region 9 with fail
     obtain ⟨W3, hW3⟩ : ∃ W3, W3 = W2.setCell ⟨g, 2, none⟩ (.int .i64 ((st.op : Int) + 1)) := ⟨_, rfl⟩
     have h2 : RfC W3 g S (stOp (stAt st (st.at_ + 1)) (st.op + 1)) := by rw [hW3]; exact h1.setOp (st.op + 1) ((st.op : Int) + 1) (by omega)
     have hF2 : Fr w W3 (fun k => k = g) := by rw [hW3]; exact frG (i := 2) hF1 _
     have B5 : Blk W3 w.heap.size 98 #[.int .i64 0, .int .u64 0, .int .u64 0, .int .u64 0, .int .u64 0, .slice none 0 0] := by rw [hW3]; exact B4.far (p := ⟨g, 2, none⟩) ne4 _
     rw [← hW3]
     clear hW3 c2 f2 h1 hF1 B4
     have h1 := h2
     have hF1 := hF2
     have B4 := B5
     clear h2 hF2 B5
     have c2 : W3.cell? ⟨g, 2, none⟩ = some (.int .i64 ((st.op : Int) + 1)) := by have := h1.c2; rw [this]; show some (Value.int .i64 ((st.op + 1 : Nat) : Int)) = _; rw [show ((st.op + 1 : Nat) : Int) = (st.op : Int) + 1 by omega]
     go_wp2_with fail
     refine (fails_any g S _ _ _ st.at_ 26 _ h1 rfl rfl).mono ?_
     rintro e w3 ⟨rfl, h3, hF3⟩
     have hF4 := frF hF1 hF3
     have D4 := blkF hF3 ne4 B4
     clear h1 hF1 B4 hF3
     obtain ⟨z0, z1, z2, z3, z4, z5, y0, y1, y2, y3, y4, y5⟩ := cells6 D4
     go_wp2_with fail
     refine bodyPost_ret (v := .agg #[.int .i64 0, .int .u64 0, .int .u64 0, .int .u64 0, .int .u64 0, .slice none 0 0]) (by simp [results, Tryz.results118, go_sem, z0, z1, z2, z3, z4, z5]) rfl ?_
     exact RetTS.store6 HR.out (ReC.leaf _ (fun k => lo k ∧ k ≠ w.heap.size) 0 Proofs.YtmkddhkpeiajhaaGreatDoor.z4 none 0) h3 hF4 rfl D4 (fun h => h.2 rfl) (Nat.le_refl _) (fun k h => h.1)
    ·obtain ⟨q, st2, hal⟩ : ∃ q st2, rAlt S.data.toList d (stOp (stAt st (st.at_ + 1)) (st.op + 1)) = (q, st2) := ⟨_, _, rfl⟩
     have hdom : Dom S.data.toList d (stOp (stAt st (st.at_ + 1)) (st.op + 1)) := ⟨HD.out.bad, by rw [len_eq]; show st.at_ + 1 ≤ S.size; omega, by show st.op + 1 ≤ 10; omega, by show 11 ≤ d + (st.op + 1); have := HD.out.deep; omega⟩
     have hres := ralt_res S.data.toList d _ hdom
     rw [hal] at hres
     have hop2 : st.op + 1 ≤ st2.op := hres.opl
     have hop3 : st2.op ≤ 11 := hres.op
     have hat2 : st2.at_ ≤ S.data.toList.length + (6 + d) := hres.bd
     rw [len_eq] at hat2
     obtain ⟨o2, ho2⟩ : ∃ o2, st2.op = o2 + 1 := ⟨st2.op - 1, by omega⟩
     have HR0 : Hid (R = if st2.bad = 0 ∧ isAt S.data.toList st2.at_ 41 = false then (tEmpty, stFault 24 st2.at_ st2) else (q, stAt (stOp st2 o2) (st2.at_ + 1))) := by
      show _ = _
      rw [hRG]
      exact rGroup_in S.data.toList _ (stAt st (st.at_ + 1)) st.at_ q st2 o2 ho hal ho2
     have HAL := Lib.hid hal
     have hoi : ¬ (10 : Int) < (st.op : Int) + 1 := by omega
     have hod : decide ((10 : Int) < (st.op : Int) + 1) = false := decide_eq_false hoi
     have ha2i : (st2.at_ : Int) ≤ 200000 := by omega
     have ho2i : (o2 : Int) ≤ 100 := by omega
     have halt := HIH.out (fun k => lo k ∧ k ≠ w.heap.size) g (stOp (stAt st (st.at_ + 1)) (st.op + 1))
     rw [hal] at halt
     have HALT : Hid (∀ wx, RfC wx g S (stOp (stAt st (st.at_ + 1)) (st.op + 1)) → Up wx (fun k => lo k ∧ k ≠ w.heap.size) → Calls Tryz.prog 71 #[.pointer (some ⟨g, 0, none⟩)] wx (RetTS wx g (fun k => lo k ∧ k ≠ w.heap.size) S (q, st2))) := fun wx h1 h2 => halt wx h1 hdom h2
     have HO2 := Lib.hid ho2
     clear hRG hal hdom hres halt ho ho2 hop2 hop3
     have c2 : W2.cell? ⟨g, 2, none⟩ = some (.int .i64 (st.op : Int)) := h1.c2
     have f2 := h1.f 2
     go_upto_region 9 with fail
     obtain ⟨W3, hW3⟩ : ∃ W3, W3 = W2.setCell ⟨g, 2, none⟩ (.int .i64 ((st.op : Int) + 1)) := ⟨_, rfl⟩
     have h2 : RfC W3 g S (stOp (stAt st (st.at_ + 1)) (st.op + 1)) := by rw [hW3]; exact h1.setOp (st.op + 1) ((st.op : Int) + 1) (by omega)
     have hF2 : Fr w W3 (fun k => k = g) := by rw [hW3]; exact frG (i := 2) hF1 _
     have B5 : Blk W3 w.heap.size 98 #[.int .i64 0, .int .u64 0, .int .u64 0, .int .u64 0, .int .u64 0, .slice none 0 0] := by rw [hW3]; exact B4.far (p := ⟨g, 2, none⟩) ne4 _
     rw [← hW3]
     clear hW3 c2 f2 h1 hF1 B4
     have c2 : W3.cell? ⟨g, 2, none⟩ = some (.int .i64 ((st.op : Int) + 1)) := by have := h2.c2; rw [this]; show some (Value.int .i64 ((st.op + 1 : Nat) : Int)) = _; rw [show ((st.op + 1 : Nat) : Int) = (st.op : Int) + 1 by omega]
     go_wp2_with fail
     refine (HALT.out _ h2 (fun k hk => ⟨HLO.out k (by have := B5.lt; omega), by have := B5.lt; omega⟩)).mono ?_
     rintro e w4 ⟨k, a, b, c, d', A, n, cp, rfl, hC, h4, hF4⟩
     have hF5 := frF hF2 hF4
     have D4 := blkF hF4 ne4 B5
     clear c2 h2 hF2 B5 hF4 HALT
     go_upto_region 12 with fail
     obtain ⟨W5, hW5⟩ : ∃ W5, W5 = w4.alloc (.cells #[.int .i64 k, .int .u64 a, .int .u64 b, .int .u64 c, .int .u64 d', .slice A n cp] 98) := ⟨_, rfl⟩
     have B6 : Blk W5 w4.heap.size 98 #[.int .i64 k, .int .u64 a, .int .u64 b, .int .u64 c, .int .u64 d', .slice A n cp] := by rw [hW5]; exact Blk.new w4 _ _
     have hl5 : Later w4 W5 := by rw [hW5]; exact (Later.refl w4).alloc _
     have ne6 : w4.heap.size ≠ g := by have := h4.lt; omega
     have h5 := h4.later hl5
     have B4 := blkL hl5 D4
     have hF6 := frL hF5 hl5
     have hC5 := hC.later hl5
     rw [← hW5]
     clear hW5 hl5 h4 D4 hF5 hC
     obtain ⟨b5, hb5⟩ : ∃ b5, b5 = w4.heap.size := ⟨_, rfl⟩
     rw [← hb5] at B6 ne6 ⊢
     clear hb5
     by_cases hb2 : st2.bad = 0
     ·have hbi : ((st2.bad : Int) == 0) = true := by rw [hb2]; rfl
      have hbn : (st2.bad == 0) = true := by rw [hb2]; rfl
      have c3 := h5.c3
      cases hv : isAt S.data.toList st2.at_ 41 with
      | false =>
       have HR : Hid (R = (tEmpty, stFault 24 st2.at_ st2)) := by show _ = _; rw [HR0.out, if_pos ⟨hb2, hv⟩]
       have HV := Lib.hid hv
       clear HR0 hv hb2 HAL
       go_wp2_with fail
       refine (isF_any g S st2 41 41 false _ h5 rfl HV.out hs).mono ?_
       rintro e w6 ⟨rfl, hl6⟩
       have h6 := h5.later hl6
       have D4 := blkL hl6 B4
       have hF7 := frL hF6 hl6
       clear h5 B4 hF6 hl6 c3 hC5 B6
       have c1 := h6.c1
       go_wp2_with fail
       refine (fails_any g S _ _ _ st2.at_ 24 _ h6 rfl rfl).mono ?_
       rintro e w7 ⟨rfl, h7, hF8⟩
       have hF9 := frF hF7 hF8
       have E4 := blkF hF8 ne4 D4
       clear h6 hF7 D4 hF8 c1
       obtain ⟨z0, z1, z2, z3, z4, z5, y0, y1, y2, y3, y4, y5⟩ := cells6 E4
       go_wp2_with fail
       refine bodyPost_ret (v := .agg #[.int .i64 0, .int .u64 0, .int .u64 0, .int .u64 0, .int .u64 0, .slice none 0 0]) (by simp [results, Tryz.results118, go_sem, z0, z1, z2, z3, z4, z5]) rfl ?_
       exact RetTS.store6 HR.out (ReC.leaf _ (fun k => lo k ∧ k ≠ w.heap.size) 0 Proofs.YtmkddhkpeiajhaaGreatDoor.z4 none 0) h7 hF9 rfl E4 (fun h => h.2 rfl) (Nat.le_refl _) (fun k h => h.1)
      | true =>
       have HR : Hid (R = (q, stAt (stOp st2 o2) (st2.at_ + 1))) := by show _ = _; rw [HR0.out, if_neg (by rw [hv]; simp)]
       have HV := Lib.hid hv
       clear HR0 hv hb2 HAL
       go_wp2_with fail
       refine (isF_any g S st2 41 41 true _ h5 rfl HV.out hs).mono ?_
       rintro e w6 ⟨rfl, hl6⟩
       have h6 := h5.later hl6
       have D4 := blkL hl6 B4
       have D6 := blkL hl6 B6
       have hF7 := frL hF6 hl6
       have hC6 := hC5.later hl6
       clear h5 B4 hF6 hl6 c3 hC5 B6
       have c2 : w6.cell? ⟨g, 2, none⟩ = some (.int .i64 ((o2 : Int) + 1)) := by have := h6.c2; rw [this, HO2.out]; rw [show ((o2 + 1 : Nat) : Int) = (o2 : Int) + 1 by omega]
       have f2 := h6.f 2
       go_upto_region 15 with fail
       have hs1' := h6.setOp o2 (o2 : Int) rfl
       have hF8 : Fr w _ (fun k => k = g) := frG (i := 2) hF7 (.int .i64 (o2 : Int))
       have E4 := D4.far (p := ⟨g, 2, none⟩) ne4 (.int .i64 (o2 : Int))
       have E6 := D6.far (p := ⟨g, 2, none⟩) ne6 (.int .i64 (o2 : Int))
       have hC7 := ReC.fr (frG (i := 2) (Fr.refl w6 (fun k => k = g)) (.int .i64 (o2 : Int))) (h6.spares _) _ hC6
       obtain ⟨W7, hW7⟩ : ∃ W7, W7 = w6.setCell ⟨g, 2, none⟩ (.int .i64 (o2 : Int)) := ⟨_, rfl⟩
       rw [← hW7] at hs1' hF8 E4 E6 hC7 ⊢
       clear hW7 c2 f2 h6 D4 D6 hF7 hC6
       have c1 : W7.cell? ⟨g, 1, none⟩ = some (.int .i64 (st2.at_ : Int)) := hs1'.c1
       have f1 := hs1'.f 1
       go_upto_region 16 with fail
       have hs2' := hs1'.setAt (st2.at_ + 1) ((st2.at_ : Int) + 1) (by omega)
       have hF9 : Fr w _ (fun k => k = g) := frG (i := 1) hF8 (.int .i64 ((st2.at_ : Int) + 1))
       have G4 := E4.far (p := ⟨g, 1, none⟩) ne4 (.int .i64 ((st2.at_ : Int) + 1))
       have G6 := E6.far (p := ⟨g, 1, none⟩) ne6 (.int .i64 ((st2.at_ : Int) + 1))
       have hC8 := ReC.fr (frG (i := 1) (Fr.refl W7 (fun k => k = g)) (.int .i64 ((st2.at_ : Int) + 1))) (hs1'.spares _) _ hC7
       obtain ⟨W8, hW8⟩ : ∃ W8, W8 = W7.setCell ⟨g, 1, none⟩ (.int .i64 ((st2.at_ : Int) + 1)) := ⟨_, rfl⟩
       rw [← hW8] at hs2' hF9 G4 G6 hC8 ⊢
       clear hW8 c1 f1 hs1' E4 E6 hF8 hC7
       obtain ⟨u0, u1, u2, u3, u4, u5, -⟩ := cells6 G6
       obtain ⟨z0, z1, z2, z3, z4, z5, y0, y1, y2, y3, y4, y5⟩ := cells6 G4
       go_wp2_with fail
       refine bodyPost_ret (v := .agg #[.int .i64 k, .int .u64 a, .int .u64 b, .int .u64 c, .int .u64 d', .slice A n cp]) (by simp [results, Tryz.results118, go_sem, z0, z1, z2, z3, z4, z5]) rfl ?_
       exact RetTS.store6 HR.out (hC8) hs2' hF9 rfl G4 (fun h => h.2 rfl) (Nat.le_refl _) (fun k h => h.1)
     ·have hbi : ((st2.bad : Int) == 0) = false := by rw [beq_eq_false_iff_ne]; omega
      have hbn : (st2.bad == 0) = false := by rw [beq_eq_false_iff_ne]; exact hb2
      have HR : Hid (R = (q, stAt (stOp st2 o2) (st2.at_ + 1))) := by show _ = _; rw [HR0.out, if_neg (fun h => hb2 h.1)]
      have c3 := h5.c3
      clear HR0 hb2 HAL
      obtain ⟨w6, hw6⟩ : ∃ w6, w6 = W5 := ⟨_, rfl⟩
      rw [← hw6] at h5 B4 hF6 c3 hC5 B6 ⊢
      clear hw6
      have h6 := h5
      have D4 := B4
      have D6 := B6
      have hF7 := hF6
      have hC6 := hC5
      clear h5 B4 hF6 hC5 B6
      have c2 : w6.cell? ⟨g, 2, none⟩ = some (.int .i64 ((o2 : Int) + 1)) := by have := h6.c2; rw [this, HO2.out]; rw [show ((o2 + 1 : Nat) : Int) = (o2 : Int) + 1 by omega]
      have f2 := h6.f 2
      go_upto_region 15 with fail
      have hs1' := h6.setOp o2 (o2 : Int) rfl
      have hF8 : Fr w _ (fun k => k = g) := frG (i := 2) hF7 (.int .i64 (o2 : Int))
      have E4 := D4.far (p := ⟨g, 2, none⟩) ne4 (.int .i64 (o2 : Int))
      have E6 := D6.far (p := ⟨g, 2, none⟩) ne6 (.int .i64 (o2 : Int))
      have hC7 := ReC.fr (frG (i := 2) (Fr.refl w6 (fun k => k = g)) (.int .i64 (o2 : Int))) (h6.spares _) _ hC6
      obtain ⟨W7, hW7⟩ : ∃ W7, W7 = w6.setCell ⟨g, 2, none⟩ (.int .i64 (o2 : Int)) := ⟨_, rfl⟩
      rw [← hW7] at hs1' hF8 E4 E6 hC7 ⊢
      clear hW7 c2 f2 h6 D4 D6 hF7 hC6
      have c1 : W7.cell? ⟨g, 1, none⟩ = some (.int .i64 (st2.at_ : Int)) := hs1'.c1
      have f1 := hs1'.f 1
      go_upto_region 16 with fail
      have hs2' := hs1'.setAt (st2.at_ + 1) ((st2.at_ : Int) + 1) (by omega)
      have hF9 : Fr w _ (fun k => k = g) := frG (i := 1) hF8 (.int .i64 ((st2.at_ : Int) + 1))
      have G4 := E4.far (p := ⟨g, 1, none⟩) ne4 (.int .i64 ((st2.at_ : Int) + 1))
      have G6 := E6.far (p := ⟨g, 1, none⟩) ne6 (.int .i64 ((st2.at_ : Int) + 1))
      have hC8 := ReC.fr (frG (i := 1) (Fr.refl W7 (fun k => k = g)) (.int .i64 ((st2.at_ : Int) + 1))) (hs1'.spares _) _ hC7
      obtain ⟨W8, hW8⟩ : ∃ W8, W8 = W7.setCell ⟨g, 1, none⟩ (.int .i64 ((st2.at_ : Int) + 1)) := ⟨_, rfl⟩
      rw [← hW8] at hs2' hF9 G4 G6 hC8 ⊢
      clear hW8 c1 f1 hs1' E4 E6 hF8 hC7
      obtain ⟨u0, u1, u2, u3, u4, u5, -⟩ := cells6 G6
      obtain ⟨z0, z1, z2, z3, z4, z5, y0, y1, y2, y3, y4, y5⟩ := cells6 G4
      go_wp2_with fail
      refine bodyPost_ret (v := .agg #[.int .i64 k, .int .u64 a, .int .u64 b, .int .u64 c, .int .u64 d', .slice A n cp]) (by simp [results, Tryz.results118, go_sem, z0, z1, z2, z3, z4, z5]) rfl ?_
      exact RetTS.store6 HR.out (hC8) hs2' hF9 rfl G4 (fun h => h.2 rfl) (Nat.le_refl _) (fun k h => h.1)
   ·have HR : Hid (R = (.node 1 (w4 (mNot mNone)) [], stAt st (st.at_ + 1))) := by show _ = _; rw [HRR.out, if_neg (by omega), if_pos hc]
    have hxi : (xn : Int) = 46 := by omega
    obtain ⟨hz, hsz⟩ := zero_set
    obtain ⟨mm, hmm⟩ : ∃ mm, mm = mNot mNone := ⟨_, rfl⟩
    rw [← hmm] at HR
    have HPK : Hid (∀ wx : World, Calls Tryz.prog 133 #[.agg (boolC mNone)] wx fun e w' => e = .returned (setV mNone) ∧ Later wx w') := fun wx => packed_any mNone wx
    have HNOT : Hid (∀ wx : World, Calls Tryz.prog 127 #[setV mNone] wx fun e w' => e = .returned (.agg #[.int .u64 (word mm 0 : Nat), .int .u64 (word mm 1 : Nat), .int .u64 (word mm 2 : Nat), .int .u64 (word mm 3 : Nat)]) ∧ Later wx w') := fun wx => by rw [hmm]; exact not_any mNone wx
    clear hmm hc HRR hn91
    go_wp2_with fail
    refine (HPK.out _).mono ?_
    rintro e w3 ⟨rfl, hl3⟩
    go_wp2_with fail
    refine (HNOT.out _).mono ?_
    rintro e wz ⟨rfl, hl4⟩
    have hl5 := hl3.trans hl4
    have h3 := h1.later hl5
    have hF3 := frL hF1 hl5
    have D4 := blkL hl5 B4
    clear h1 hF1 B4 hl3 hl4 hl5
    obtain ⟨z0, z1, z2, z3, z4, z5, y0, y1, y2, y3, y4, y5⟩ := cells6 D4
    go_wp2_with fail
    refine bodyPost_ret (v := .agg #[.int .i64 1, .int .u64 (word mm 0 : Nat), .int .u64 (word mm 1 : Nat), .int .u64 (word mm 2 : Nat), .int .u64 (word mm 3 : Nat), .slice none 0 0]) (by simp [results, Tryz.results118, go_sem, z0, z1, z2, z3, z4, z5]) rfl ?_
    exact RetTS.store6 HR.out (ReC.leaf _ (fun k => lo k ∧ k ≠ w.heap.size) 1 (w4 mm) none 0) h3 hF3 rfl D4 (fun h => h.2 rfl) (Nat.le_refl _) (fun k h => h.1)
   ·have HR : Hid (R = (.node 7 Proofs.YtmkddhkpeiajhaaGreatDoor.z4 [], stAt st (st.at_ + 1))) := by show _ = _; rw [HRR.out, if_neg (by omega), if_neg (by omega), if_pos hc]
    have hxi : (xn : Int) = 94 := by omega
    clear hc HRR hn91
    obtain ⟨z0, z1, z2, z3, z4, z5, y0, y1, y2, y3, y4, y5⟩ := cells6 B4
    go_wp2_with fail
    refine bodyPost_ret (v := .agg #[.int .i64 7, .int .u64 0, .int .u64 0, .int .u64 0, .int .u64 0, .slice none 0 0]) (by simp [results, Tryz.results118, go_sem, z0, z1, z2, z3, z4, z5]) rfl ?_
    exact RetTS.store6 HR.out (ReC.leaf _ (fun k => lo k ∧ k ≠ w.heap.size) 7 Proofs.YtmkddhkpeiajhaaGreatDoor.z4 none 0) h1 hF1 rfl B4 (fun h => h.2 rfl) (Nat.le_refl _) (fun k h => h.1)
   ·have HR : Hid (R = (.node 8 Proofs.YtmkddhkpeiajhaaGreatDoor.z4 [], stAt st (st.at_ + 1))) := by show _ = _; rw [HRR.out, if_neg (by omega), if_neg (by omega), if_neg (by omega), if_pos hc]
    have hxi : (xn : Int) = 36 := by omega
    clear hc HRR hn91
    obtain ⟨z0, z1, z2, z3, z4, z5, y0, y1, y2, y3, y4, y5⟩ := cells6 B4
    go_wp2_with fail
    refine bodyPost_ret (v := .agg #[.int .i64 8, .int .u64 0, .int .u64 0, .int .u64 0, .int .u64 0, .slice none 0 0]) (by simp [results, Tryz.results118, go_sem, z0, z1, z2, z3, z4, z5]) rfl ?_
    exact RetTS.store6 HR.out (ReC.leaf _ (fun k => lo k ∧ k ≠ w.heap.size) 8 Proofs.YtmkddhkpeiajhaaGreatDoor.z4 none 0) h1 hF1 rfl B4 (fun h => h.2 rfl) (Nat.le_refl _) (fun k h => h.1)
   ·have HR : Hid (R = rEsc S.data.toList (stAt st (st.at_ + 1))) := by show _ = _; rw [HRR.out, if_neg (by omega), if_neg (by omega), if_neg (by omega), if_neg (by omega), if_pos hc]
    have hxi : (xn : Int) = 92 := by omega
    obtain ⟨t2, st2, hes⟩ : ∃ t2 st2, rEsc S.data.toList (stAt st (st.at_ + 1)) = (t2, st2) := ⟨_, _, rfl⟩
    rw [hes] at HR
    have hesc := escapeT_end (fun k => lo k ∧ k ≠ w.heap.size) g S (stAt st (st.at_ + 1)) (st.at_ : Int) W2 h1 hs (by show st.at_ + 1 ≤ _; omega) (HEX.out hc)
    rw [hes] at hesc
    have HES := Lib.hid hesc
    clear hc HRR hn91 hes hesc
    go_wp2_with fail
    refine HES.out.mono ?_
    rintro e w3 ⟨k, a, b, c, d', A, n, cp, rfl, hC, h3, hF3⟩
    have hF4 := frF hF1 hF3
    have D4 := blkF hF3 ne4 B4
    clear h1 hF1 B4 hF3
    obtain ⟨z0, z1, z2, z3, z4, z5, y0, y1, y2, y3, y4, y5⟩ := cells6 D4
    go_wp2_with fail
    refine bodyPost_ret (v := .agg #[.int .i64 k, .int .u64 a, .int .u64 b, .int .u64 c, .int .u64 d', .slice A n cp]) (by simp [results, Tryz.results118, go_sem, z0, z1, z2, z3, z4, z5]) rfl ?_
    exact RetTS.store6 HR.out (hC) h3 hF4 rfl D4 (fun h => h.2 rfl) (Nat.le_refl _) (fun k h => h.1)
   ·have HR : Hid (R = (tEmpty, stFault 24 st.at_ (stAt st (st.at_ + 1)))) := by show _ = _; rw [HRR.out, if_neg (by omega), if_neg (by omega), if_neg (by omega), if_neg (by omega), if_neg (by omega), if_pos hc]
    clear HRR hn91
    have hcx : (xn : Int) = 42 ∨ (xn : Int) = 43 ∨ (xn : Int) = 63 ∨ (xn : Int) = 123 ∨ (xn : Int) = 124 ∨ (xn : Int) = 41 := by omega
    clear hc
    rcases hcx with hxi | hxi | hxi | hxi | hxi | hxi
    all_goals
     go_wp2_with fail
     refine (fails_any g S _ _ _ st.at_ 24 _ h1 rfl rfl).mono ?_
     rintro e w3 ⟨rfl, h3, hF3⟩
     have hF4 := frF hF1 hF3
     have D4 := blkF hF3 ne4 B4
     clear h1 hF1 B4 hF3
     obtain ⟨z0, z1, z2, z3, z4, z5, y0, y1, y2, y3, y4, y5⟩ := cells6 D4
     go_wp2_with fail
     refine bodyPost_ret (v := .agg #[.int .i64 0, .int .u64 0, .int .u64 0, .int .u64 0, .int .u64 0, .slice none 0 0]) (by simp [results, Tryz.results118, go_sem, z0, z1, z2, z3, z4, z5]) rfl ?_
     exact RetTS.store6 HR.out (ReC.leaf _ (fun k => lo k ∧ k ≠ w.heap.size) 0 Proofs.YtmkddhkpeiajhaaGreatDoor.z4 none 0) h3 hF4 rfl D4 (fun h => h.2 rfl) (Nat.le_refl _) (fun k h => h.1)
   ·obtain ⟨n40, n46, n94, n36, n92, n42, n43, n63, n123, n124, n41⟩ := hc
    have HR : Hid (R = (tOne xn, stAt st (st.at_ + 1))) := by show _ = _; rw [HRR.out, if_neg n40, if_neg n46, if_neg n94, if_neg n36, if_neg n92, if_neg (by omega)]
    have e40 : ((xn : Int) == 40) = false := by rw [beq_eq_false_iff_ne]; omega
    have e46 : ((xn : Int) == 46) = false := by rw [beq_eq_false_iff_ne]; omega
    have e91 : ((xn : Int) == 91) = false := by rw [beq_eq_false_iff_ne]; omega
    have e94 : ((xn : Int) == 94) = false := by rw [beq_eq_false_iff_ne]; omega
    have e36 : ((xn : Int) == 36) = false := by rw [beq_eq_false_iff_ne]; omega
    have e92 : ((xn : Int) == 92) = false := by rw [beq_eq_false_iff_ne]; omega
    have e42 : ((xn : Int) == 42) = false := by rw [beq_eq_false_iff_ne]; omega
    have e43 : ((xn : Int) == 43) = false := by rw [beq_eq_false_iff_ne]; omega
    have e63 : ((xn : Int) == 63) = false := by rw [beq_eq_false_iff_ne]; omega
    have e123 : ((xn : Int) == 123) = false := by rw [beq_eq_false_iff_ne]; omega
    have e124 : ((xn : Int) == 124) = false := by rw [beq_eq_false_iff_ne]; omega
    have e41 : ((xn : Int) == 41) = false := by rw [beq_eq_false_iff_ne]; omega
    clear HRR hn91 n40 n46 n94 n36 n92 n42 n43 n63 n123 n124 n41
    go_wp2_with fail
    refine (refOne_any (fun k => lo k ∧ k ≠ w.heap.size) xn hx1 _).mono ?_
    rintro e w3 ⟨k, a, b, c, d', A, n, cp, rfl, hC, hl⟩
    have h3 := h1.later hl
    have hF3 := frL hF1 hl
    have D4 := blkL hl B4
    clear h1 hF1 B4 hl
    obtain ⟨z0, z1, z2, z3, z4, z5, y0, y1, y2, y3, y4, y5⟩ := cells6 D4
    go_wp2_with fail
    refine bodyPost_ret (v := .agg #[.int .i64 k, .int .u64 a, .int .u64 b, .int .u64 c, .int .u64 d', .slice A n cp]) (by simp [results, Tryz.results118, go_sem, z0, z1, z2, z3, z4, z5]) rfl ?_
    exact RetTS.store6 HR.out (hC) h3 hF3 rfl D4 (fun h => h.2 rfl) (Nat.le_refl _) (fun k h => h.1)
end Go.Proofs.YtmkddhkpeiajhaaGreatDoor
namespace Go.Proofs.YtmkddhkpeiajhaaGreatDoor
open Go.RowKit
theorem raltC (S : ByteArray) [Txt S] (hs : S.size ≤ 20000) (h91 : ∀ d, Atom91 S d) : ∀ d, d ≤ 11 → RdfC 71 S d (rAlt S.data.toList d)
 | 0, _ => fun _ _ st _ _ hD _ => by have := hD.deep; have := hD.op; omega
 | d + 1, hd => by
  have ih := raltC S hs h91 d (by omega)
  have hat := atomT_any S d (by omega) hs (h91 d) ih
  have hpi := pieceT_any S d (by omega) hs hat
  have hpr := rpiece_res S.data.toList d (6 + d) (by omega) _ (ralt_res S.data.toList d)
  have hps := catT_any S (d + 1) (6 + d + 1) (by omega) hs _ hpr hpi
  have hsr := rcat_res S.data.toList (d + 1) (6 + d + 1) _ hpr
  exact altT_any S (d + 1) (6 + d + 1) (by omega) hs _ hsr hps
set_option maxRecDepth 100000 in
set_option maxHeartbeats 8000000 in
theorem refParse_any (S : ByteArray) [Txt S] (lo : Nat → Prop) (w : World) (hs : S.size ≤ 20000) (h91 : ∀ d, Atom91 S d) (hlo : Up w lo) :
  Calls Tryz.prog 59 #[.string S] w (RetParse w lo (rParse S.data.toList)) := by
 obtain ⟨R, hR⟩ : ∃ R, R = rParse S.data.toList := ⟨_, rfl⟩
 rw [← hR]
 by_cases hz : S.size = 0
 ·have HR : Hid (R = (tEmpty, 0, 0)) := by
   show _ = _
   rw [hR]; unfold rParse; rw [if_pos (by rw [len_eq]; exact hz)]
  obtain rfl : S = ⟨#[]⟩ := ByteArray.ext (Array.eq_empty_of_size_eq_zero hz)
  clear hR hz hs h91
  go_enter Tryz.func59, Tryz.ntmps59
  go_wp2_with fail
  exact bodyPost_ret (v := .tuple #[.agg #[.int .i64 0, .int .u64 0, .int .u64 0, .int .u64 0, .int .u64 0, .slice none 0 0], .int .i64 0, .int .i64 0]) (by simp [results, Tryz.results59, go_sem]) rfl (RetParse.none_ HR.out ((Later.refl w).alloc _))
 ·have hz2 : S.data.toList.length ≠ 0 := by rw [len_eq]; exact hz
  have hS0 : S.toList.isEmpty = false := by
   have hb : S = bstr S.data.toList := rfl
   rw [hb, bstr_toList]
   cases hq : S.data.toList with
   | nil => rw [hq] at hz2; exact absurd rfl hz2
   | cons _ _ => rfl
  obtain ⟨lo2, hlo2⟩ : ∃ lo2 : Nat → Prop, lo2 = fun k => lo k ∧ k ≠ w.heap.size := ⟨_, rfl⟩
  have HLO := Lib.hid hlo2
  obtain ⟨p, st1, ha⟩ : ∃ p st1, rAlt S.data.toList 11 st0 = (p, st1) := ⟨_, _, rfl⟩
  have HR := Lib.hid hR
  have HZ : Hid (S.data.toList.length ≠ 0) := hz2
  have HA := Lib.hid ha
  have hD0 : Dom S.data.toList 11 st0 := ⟨rfl, Nat.zero_le _, by show 0 ≤ 10; omega, by show 11 ≤ 11 + 0; omega⟩
  have HC : Hid (∀ (w2 : World), RfC w2 (w.heap.size + 1) S st0 → Later w w2 → w.heap.size < w2.heap.size → Calls Tryz.prog 71 #[.pointer (some ⟨w.heap.size + 1, 0, none⟩)] w2 (RetTS w2 (w.heap.size + 1) lo2 S (p, st1))) := fun w2 hr hl hlt => by
   have := raltC S hs h91 11 (by omega) lo2 (w.heap.size + 1) st0 w2 hr hD0 (fun k hk => by rw [hlo2]; exact ⟨hlo.later hl k hk, by omega⟩)
   rw [ha] at this
   exact this
  have HTH : Hid (thinT p) := by
   have := thin_alt S.data.toList 11 st0
   rw [ha] at this
   exact this
  have hat1 : st1.at_ ≤ S.size + 100 := by
   have := (ralt_res S.data.toList 11 st0 hD0).bd
   rw [ha, len_eq] at this
   have this : st1.at_ ≤ S.size + (6 + 11) := this
   omega
  have HST : Hid (st1.bad = 0 → setsR p ≤ 1000000000) := fun hb => by
   have := ralt_res S.data.toList 11 st0 hD0
   rw [ha] at this
   have h4 := (this.good hb).2.2.2
   have h5 := (this.good hb).2.1
   have h4 : setsR p ≤ 40000 * (st1.at_ - 0) := h4
   rw [len_eq] at h5
   have h5 : st1.at_ ≤ S.size := h5
   omega
  have hs' : S.size ≤ 1000000000 := by omega
  have hati : (st1.at_ : Int) ≤ 100000 := by omega
  clear hR hz hz2 ha hlo2 h91 hD0
  go_enter Tryz.func59, Tryz.ntmps59
  go_upto_region 4 with fail
  obtain ⟨W1, hW1⟩ : ∃ W1, W1 = (w.alloc (.cells #[.int .i64 0, .int .u64 0, .int .u64 0, .int .u64 0, .int .u64 0, .slice none 0 0] 98)).alloc (.cells #[.string S, .int .i64 0, .int .i64 0, .int .i64 0, .int .i64 0, .int .i64 0] 132) := ⟨_, rfl⟩
  have B2 : Blk W1 w.heap.size 98 #[.int .i64 0, .int .u64 0, .int .u64 0, .int .u64 0, .int .u64 0, .slice none 0 0] := by rw [hW1]; exact (Blk.new w _ _).alloc _
  have h1 : RfC W1 (w.heap.size + 1) S st0 := by rw [hW1]; exact blk_at (by simp)
  have hl1 : Later w W1 := by rw [hW1]; exact ((Later.refl w).alloc _).alloc _
  rw [← hW1]
  clear hW1
  go_wp2_with fail
  refine (HC.out _ h1 hl1 B2.lt).mono ?_
  rintro e w2 ⟨k, a, b, c, d, A, n, cp, rfl, hC, h2, hF2⟩
  obtain ⟨g, hg⟩ : ∃ g, g = w.heap.size + 1 := ⟨_, rfl⟩
  rw [← hg] at h1 h2 hF2 ⊢
  have neg : w.heap.size ≠ g := by omega
  have ngg : ¬ w.heap.size = g := neg
  have ngg2 : ¬ g = w.heap.size := fun e => neg e.symm
  have D2 := blkF hF2 neg B2
  have hF0 : Fr w w2 (fun k => k = g) := (Fr.later hl1).trans hF2 (fun _ _ h => h)
  have HG := Lib.hid hg
  clear h1 B2 HC hF2 hl1 hg
  go_upto_region 5 with fail
  obtain ⟨W3, hW3⟩ : ∃ W3, W3 = w2.alloc (.cells #[.int .i64 k, .int .u64 a, .int .u64 b, .int .u64 c, .int .u64 d, .slice A n cp] 98) := ⟨_, rfl⟩
  obtain ⟨gp, hgp⟩ : ∃ gp, gp = w2.heap.size := ⟨_, rfl⟩
  have B6 : Blk W3 gp 98 #[.int .i64 k, .int .u64 a, .int .u64 b, .int .u64 c, .int .u64 d, .slice A n cp] := by rw [hW3, hgp]; exact Blk.new w2 _ _
  have hl3 : Later w2 W3 := by rw [hW3]; exact (Later.refl w2).alloc _
  have nep : gp ≠ g := by have := h2.lt; omega
  have h := h2.later hl3
  have B2 := blkL hl3 D2
  have hF := frL hF0 hl3
  have hC := hC.later hl3
  rw [← hW3, ← hgp]
  clear hW3 hl3 h2 D2 hF0 hgp
  by_cases hb : st1.bad = 0
  ·have HB := Lib.hid hb
   have hbi : ((st1.bad : Int) == 0) = true := by rw [hb]; rfl
   have hbn0 : (st1.bad == 0) = true := by rw [hb]; rfl
   have c3 : W3.cell? ⟨g, 3, none⟩ = some (.int .i64 (st1.bad : Int)) := h.c3
   have c1 : W3.cell? ⟨g, 1, none⟩ = some (.int .i64 (st1.at_ : Int)) := h.c1
   clear hb
   by_cases hm : st1.at_ < S.size
   ·obtain ⟨st5, hst5⟩ : ∃ st5, st5 = stFault 24 st1.at_ st1 := ⟨_, rfl⟩
    have hst6 : st5 = ⟨st1.at_, st1.op, 24, st1.at_⟩ := by rw [hst5]; exact if_pos HB.out
    have HB5 : Hid (st5.bad ≠ 0) := by show _ ≠ _; rw [hst6]; show (24 : Nat) ≠ 0; decide
    have HS5 := Lib.hid hst5
    have HRE : Hid (R = (tEmpty, st5.fr, st5.bad)) := by
     show _ = _
     rw [HR.out, rparse_more HZ.out HA.out HB.out (by rw [len_eq]; exact hm), hst6]
    have hmi : (st1.at_ : Int) < (S.size : Int) := by omega
    clear hst5 hst6 hm
    go_wp2_with fail
    refine (fails_any g S st1 _ _ st1.at_ 24 W3 h rfl rfl).mono ?_
    rintro e wt ⟨rfl, h5, hf9⟩
    rw [← HS5.out] at h5
    have X2 := blkF hf9 neg B2
    have X6 := blkF hf9 nep B6
    have hFt := frF hF hf9
    have hCt := ReC.fr hf9 (h.spares lo2) _ hC
    clear c1 c3 h B2 B6 hC hF hf9 hbi hbn0
    have hbn : ((st5.bad : Int) == 0) = false := by rw [beq_eq_false_iff_ne]; have := HB5.out; omega
    have hbz : ((st5.bad : Int) != 0) = true := by rw [bne, hbn]; rfl
    have c3 : wt.cell? ⟨g, 3, none⟩ = some (.int .i64 (st5.bad : Int)) := h5.c3
    have c4 : wt.cell? ⟨g, 4, none⟩ = some (.int .i64 (st5.fr : Int)) := h5.c4
    obtain ⟨z0, z1, z2, z3, z4, z5, y0, y1, y2, y3, y4, y5⟩ := cells6 X2
    have hlt : Later w wt := Fr.none_ hFt (fun k hk e => by have := HG.out; omega)
    clear h5 X6 hCt hFt X2
    go_wp2_with fail
    go_region
    all_goals
     go_wp2_with fail
     refine bodyPost_ret (v := .tuple #[.agg #[.int .i64 0, .int .u64 0, .int .u64 0, .int .u64 0, .int .u64 0, .slice none 0 0], .int .i64 (st5.fr : Int), .int .i64 (st5.bad : Int)]) (by simp [results, Tryz.results59, go_sem, z0, z1, z2, z3, z4, z5]) rfl ?_
     exact RetParse.none_ HRE.out (by repeat (first | (with_reducible exact hlt) | (with_reducible apply Later.drew) | (with_reducible refine Later.setCell ?_ (Nat.le_refl w.heap.size) _)))
   ·have hle : S.size ≤ st1.at_ := by omega
    have hmd : decide (st1.at_ < S.size) = false := decide_eq_false hm
    have HM : Hid (¬ st1.at_ < S.data.toList.length) := by show ¬ _; rw [len_eq]; exact hm
    have hbn : ((st1.bad : Int) != 0) = false := by rw [HB.out]; rfl
    clear hm
    obtain ⟨u0, u1, u2, u3, u4, u5, -⟩ := cells6 B6
    cases hrt : rightR p with
    | false =>
     have HRE : Hid (R = (tEmpty, 0, 24)) := HR.out.trans (rparse_no HZ.out HA.out HB.out HM.out hrt)
     have hrc := refRight_any p lo2 k a b c d A n cp W3 (fun _ => HST.out HB.out) hC
     rw [hrt] at hrc
     have HRC := Lib.hid hrc
     clear hrt hrc
     go_wp2_with fail
     refine HRC.out.mono ?_
     rintro e wt ⟨rfl, hl5⟩
     have X2 := blkL hl5 B2
     have hFt := frL hF hl5
     obtain ⟨z0, z1, z2, z3, z4, z5, y0, y1, y2, y3, y4, y5⟩ := cells6 X2
     have hlt : Later w wt := Fr.none_ hFt (fun k hk e => by have := HG.out; omega)
     clear h hC hF B2 B6 hl5 hFt X2 c1 c3 u0 u1 u2 u3 u4 u5
     go_wp2_with fail
     refine bodyPost_ret (v := .tuple #[.agg #[.int .i64 0, .int .u64 0, .int .u64 0, .int .u64 0, .int .u64 0, .slice none 0 0], .int .i64 0, .int .i64 24]) (by simp [results, Tryz.results59, go_sem, z0, z1, z2, z3, z4, z5]) rfl ?_
     exact RetParse.none_ (x := 0) (y := 24) HRE.out (hlt.set6 (Nat.le_refl _))
    | true =>
     have HRY : Hid (R = (p, 0, 0)) := HR.out.trans (rparse_yes HZ.out HA.out HB.out HM.out hrt)
     have hrc := refRight_any p lo2 k a b c d A n cp W3 (fun _ => HST.out HB.out) hC
     rw [hrt] at hrc
     have HRC := Lib.hid hrc
     clear hrt hrc
     go_wp2_with fail
     refine HRC.out.mono ?_
     rintro e wt ⟨rfl, hl5⟩
     have X2 := blkL hl5 B2
     have X6 := blkL hl5 B6
     have hCt := hC.later hl5
     have hFt := frL hF hl5
     have hlt : Later w wt := Fr.none_ hFt (fun k hk e => by have := HG.out; omega)
     clear h hC hF B2 B6 hl5 hFt c1 c3 u0 u1 u2 u3 u4 u5
     obtain ⟨u0, u1, u2, u3, u4, u5, -⟩ := cells6 X6
     obtain ⟨z0, z1, z2, z3, z4, z5, y0, y1, y2, y3, y4, y5⟩ := cells6 X2
     go_wp2_with fail
     refine bodyPost_ret (v := .tuple #[.agg #[.int .i64 k, .int .u64 a, .int .u64 b, .int .u64 c, .int .u64 d, .slice A n cp], .int .i64 0, .int .i64 0]) (by simp [results, Tryz.results59, go_sem, z0, z1, z2, z3, z4, z5]) rfl ?_
     rw [HRY.out]
     exact ⟨k, a, b, c, d, A, n, cp, rfl, ReC.weaken (fun _ _ hh => by rw [HLO.out] at hh; exact hh.1) _ (ReC.fr (Fr.set6 w.heap.size _ _ _ _ _ _) (spares_not _ (fun hh => by rw [HLO.out] at hh; exact hh.2 rfl)) _ hCt), hlt.set6 (Nat.le_refl _)⟩
  ·obtain ⟨st5, hst5⟩ : ∃ st5, st5 = st1 := ⟨_, rfl⟩
   have HB5 : Hid (st5.bad ≠ 0) := by show _ ≠ _; rw [hst5]; exact hb
   have HRE : Hid (R = (tEmpty, st5.fr, st5.bad)) := by
    show _ = _
    rw [HR.out, rparse_bad HZ.out HA.out hb, hst5]
   have h5 := h
   rw [← hst5] at h5
   clear hst5 hb h
   obtain ⟨wt, hwt⟩ : ∃ wt, wt = W3 := ⟨_, rfl⟩
   rw [← hwt] at h5 B2 B6 hC hF ⊢
   have X2 := B2
   have X6 := B6
   have hCt := hC
   have hFt := hF
   clear hwt B2 B6 hC hF
   have hbn : ((st5.bad : Int) == 0) = false := by rw [beq_eq_false_iff_ne]; have := HB5.out; omega
   have hbz : ((st5.bad : Int) != 0) = true := by rw [bne, hbn]; rfl
   have c3 : wt.cell? ⟨g, 3, none⟩ = some (.int .i64 (st5.bad : Int)) := h5.c3
   have c4 : wt.cell? ⟨g, 4, none⟩ = some (.int .i64 (st5.fr : Int)) := h5.c4
   obtain ⟨z0, z1, z2, z3, z4, z5, y0, y1, y2, y3, y4, y5⟩ := cells6 X2
   have hlt : Later w wt := Fr.none_ hFt (fun k hk e => by have := HG.out; omega)
   clear h5 X6 hCt hFt X2
   go_wp2_with fail
   go_region
   all_goals
    go_wp2_with fail
    refine bodyPost_ret (v := .tuple #[.agg #[.int .i64 0, .int .u64 0, .int .u64 0, .int .u64 0, .int .u64 0, .slice none 0 0], .int .i64 (st5.fr : Int), .int .i64 (st5.bad : Int)]) (by simp [results, Tryz.results59, go_sem, z0, z1, z2, z3, z4, z5]) rfl ?_
    exact RetParse.none_ HRE.out (by repeat (first | (with_reducible exact hlt) | (with_reducible apply Later.drew) | (with_reducible refine Later.setCell ?_ (Nat.le_refl w.heap.size) _)))
end Go.Proofs.YtmkddhkpeiajhaaGreatDoor
