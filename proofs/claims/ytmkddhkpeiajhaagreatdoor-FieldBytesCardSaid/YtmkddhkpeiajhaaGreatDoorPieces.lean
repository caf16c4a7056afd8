import Derived.Test.YtmkddhkpeiajhaaGreatDoorPiece
import Derived.Test.YtmkddhkpeiajhaaGreatDoorStarW
import Derived.Lib.OthersKept
import Derived.WalkSmall
import Derived.Deep.CutBlock
import Derived.Deep.DeepCutAuto
namespace Go.Proofs.YtmkddhkpeiajhaaGreatDoor
open Go.RowKit
theorem OwnP.lit {w : World} {lo : Nat → Prop} {base : Nat} (p : Pc) (x : ReX) (hx : ReC w lo p.re x) (hb : base ≤ w.heap.size) :
  OwnP (w.alloc (.cells #[.int .i64 x.k, .int .u64 x.a, .int .u64 x.b, .int .u64 x.c, .int .u64 x.d, .slice x.A x.n x.cp, .int .i64 (p.deep : Int), .int .i64 (p.leaves : Int), .bool p.big] 117)) lo base (some ⟨w.heap.size, 0, none⟩) 1 1 [p] := by
 refine ⟨rfl, [x], ?_, rfl, .inr ⟨w.heap.size, 1, _, rfl, hb, heap_alloc_new w _, Nat.le_refl _, by unfold maxLen; omega, rfl, rfl⟩⟩
 show ReCs _ lo [p.re] [x]
 unfold ReCs
 exact ⟨x, [], rfl, hx.later ((Later.refl w).alloc _), by unfold ReCs; rfl⟩
def msR (S : ByteArray) (w : World) (g : Nat) : Nat := match w.cell? ⟨g, 3, none⟩ with | some v => if intOf v = 0 then S.size + 1 - atR w g else 0 | none => 0
theorem RdC.msR {w : World} {g : Nat} {S : ByteArray} {st : St} (h : RdC w g S st) : msR S w g = if st.bad = 0 then S.size + 1 - st.at_ else 0 := by
 unfold Proofs.YtmkddhkpeiajhaaGreatDoor.msR
 rw [h.c3]
 show (if intOf (.int .i64 (st.bad : Int)) = 0 then _ else _) = _
 rw [h.atR]
 show (if (st.bad : Int) = 0 then _ else _) = _
 by_cases hb : st.bad = 0
 ·rw [if_pos hb, if_pos (by rw [hb]; rfl)]
 ·rw [if_neg hb, if_neg (by omega)]
theorem piecesL_stop (s : List UInt8) (G : St → Pc × St) (f : Nat) (l : List Pc) (st : St) (h : ¬ (st.bad = 0 ∧ st.at_ < s.length ∧ isAt s st.at_ 124 = false ∧ isAt s st.at_ 41 = false)) : piecesL s G f l st = (l, st) := by
 cases f with
 | zero => rfl
 | succ f => rw [piecesL, if_neg h]
theorem piecesL_step (s : List UInt8) (G : St → Pc × St) (f : Nat) (l : List Pc) (st : St) (h : st.bad = 0 ∧ st.at_ < s.length ∧ isAt s st.at_ 124 = false ∧ isAt s st.at_ 41 = false) : piecesL s G (f + 1) l st = piecesL s G f (l ++ [(G st).1]) (G st).2 := by
 rw [piecesL, if_pos h]
theorem altL_stop (s : List UInt8) (G : St → Pc × St) (f : Nat) (l : List Pc) (st : St) (h : ¬ (st.bad = 0 ∧ isAt s st.at_ 124 = true)) : altL s G f l st = (l, st) := by
 cases f with
 | zero => rfl
 | succ f => rw [altL, if_neg h]
theorem altL_step (s : List UInt8) (G : St → Pc × St) (f : Nat) (l : List Pc) (st : St) (h : st.bad = 0 ∧ isAt s st.at_ 124 = true) : altL s G (f + 1) l st = altL s G f (l ++ [(G (stAt st (st.at_ + 1))).1]) (G (stAt st (st.at_ + 1))).2 := by
 rw [altL, if_pos h]
def PiecesAt (G : St → Pc × St) (w : World) (g : Nat) (lo : Nat → Prop) (S : ByteArray) (B : Nat) (st0 : St) (Rv : List Pc × St) (s3 : Value) (wr : World) : Prop :=
 ∃ (ps : List Pc) (st : St) (f : Nat) (A : Option Addr) (n cp : Nat), s3 = .slice A n cp ∧ 0 < n ∧ (st.bad = 0 → n ≤ st.at_ + 1) ∧ n ≤ S.size + 3 ∧ Hid (piecesL S.data.toList G f ps st = Rv) ∧ (∀ p ∈ ps, PcOk p) ∧ (st.bad = 0 → S.size + 1 ≤ f + st.at_) ∧ (st.bad = 0 → st.at_ ≤ S.size ∧ st.op = st0.op) ∧ st.at_ ≤ S.size + B ∧ RdC wr g S st ∧
  OwnP wr lo (w.heap.size + 1) A n cp ps ∧ Blk wr w.heap.size 117 #[.int .i64 0, .int .u64 0, .int .u64 0, .int .u64 0, .int .u64 0, .slice none 0 0, .int .i64 0, .int .i64 0, .bool false] ∧ Fr w wr (fun k => k = g)
set_option maxRecDepth 100000 in
set_option maxHeartbeats 8000000 in
theorem piecesR_any (S : ByteArray) (d B : Nat) (_hB : B ≤ 100) (hs1 : S.size ≤ 999999990) (G : St → Pc × St) (hG : Reads_ S.data.toList d B G) (hC : RdrC 100 S d G) : RdrC 81 S d (piecesF S.data.toList G) := by
 intro lo g st w h hD hlo
 have hs : S.size ≤ 1000000000 := by omega
 obtain ⟨R, hR⟩ : ∃ R, R = piecesF S.data.toList G st := ⟨_, rfl⟩
 rw [← hR]
 obtain ⟨p0, st0, hat⟩ : ∃ p0 st0, G st = (p0, st0) := ⟨_, _, rfl⟩
 obtain ⟨Rv, hRv⟩ : ∃ Rv, Rv = piecesL S.data.toList G (S.data.toList.length + 2) [p0] st0 := ⟨_, rfl⟩
 have HR : Hid (R = (pcRow 2 Rv.1, Rv.2)) := by
  show _ = _
  rw [hR, hRv]
  unfold piecesF
  rw [hat]
 have HRV : Hid (piecesL S.data.toList G (S.size + 2) [p0] st0 = Rv) := by
  show _ = _
  rw [hRv, len_eq]
 have hres := hG st hD
 rw [hat] at hres
 have HD := Lib.hid hD
 have HAT := Lib.hid hat
 have HG : Hid (Reads_ S.data.toList d B G) := hG
 have HC : Hid (RdrC 100 S d G) := hC
 have hgw := h.lt
 have hp0 : PcOk p0 := hres.ok
 have hb0 : st0.at_ ≤ S.data.toList.length + B := hres.bd
 have hg0 : st0.bad = 0 → st.at_ < st0.at_ ∧ st0.at_ ≤ S.data.toList.length ∧ st0.op = st.op := hres.good
 rw [len_eq] at hb0 hg0
 clear hR hRv hD hres hat hG hC
 go_enter Tryz.func81, Tryz.ntmps81
 go_upto_region 1 with fail
 obtain ⟨W0, hW0⟩ : ∃ W0, W0 = w.alloc (.cells #[.int .i64 0, .int .u64 0, .int .u64 0, .int .u64 0, .int .u64 0, .slice none 0 0, .int .i64 0, .int .i64 0, .bool false] 117) := ⟨_, rfl⟩
 have B4 : Blk W0 w.heap.size 117 #[.int .i64 0, .int .u64 0, .int .u64 0, .int .u64 0, .int .u64 0, .slice none 0 0, .int .i64 0, .int .i64 0, .bool false] := by rw [hW0]; exact Blk.new w _ _
 have hl0 : Later w W0 := by rw [hW0]; exact (Later.refl w).alloc _
 have h0 := h.later hl0
 have hF0 : Fr w W0 (fun k => k = g) := Fr.later hl0
 have ne4 : w.heap.size ≠ g := by omega
 rw [← hW0]
 clear hW0 hl0
 go_wp2_with fail
 refine (HC.out lo g st _ h0 HD.out (hlo.fr hF0)).mono ?_
 rw [HAT.out]
 rintro e w2 ⟨k, a, b, c, d', A, n, cp, rfl, hC, h2, hF2⟩
 have hF3 := frF hF0 hF2
 have D4 := blkF hF2 ne4 B4
 have hsz2 := D4.lt
 have hO2 := OwnP.lit (base := w.heap.size + 1) p0 ⟨k, a, b, c, d', A, n, cp⟩ hC (by omega)
 have hl2 := (Later.refl w2).alloc (.cells #[.int .i64 k, .int .u64 a, .int .u64 b, .int .u64 c, .int .u64 d', .slice A n cp, .int .i64 (p0.deep : Int), .int .i64 (p0.leaves : Int), .bool p0.big] 117)
 clear B4 hF0 h0 hF2
 go_wp2_with fail
 go_loopw [3] (fun s3 wr => PiecesAt G w g lo S B st Rv s3 wr) (fun _ wr => msR S wr g)
 case atStart => exact ⟨[p0], st0, S.size + 2, _, 1, 1, rfl, Nat.one_pos, fun _ => by omega, by omega, HRV, fun p hp => by rw [List.mem_singleton.1 hp]; exact hp0, fun _ => by omega, fun hb => ⟨(hg0 hb).2.1, (hg0 hb).2.2⟩, hb0, h2.later hl2, hO2, blkL hl2 D4, frL hF3 hl2⟩
 case round =>
  clear hp0 hb0 hg0 HRV HAT hC h2 D4 hF3 hO2 hl2 hgw hsz2
  obtain ⟨ps, st1, f, A, n, cp, rfl, hn0, hnat, hns, HO, hok, hfu, hgd, hat, h1, hO, B4, hF⟩ := hrel
  have HM : Hid (msR S wr g = if st1.bad = 0 then S.size + 1 - st1.at_ else 0) := h1.msR
  have c3 : wr.cell? ⟨g, 3, none⟩ = some (.int .i64 (st1.bad : Int)) := h1.c3
  by_cases hb : st1.bad = 0
  ·have hbi : ((st1.bad : Int) == 0) = true := by rw [hb]; rfl
   have hfu := hfu hb
   have hnat := hnat hb
   have HB1 := Lib.hid hb
   obtain ⟨hgat, hgop⟩ := hgd hb
   by_cases hlt : st1.at_ < S.size
   ·cases hv : isAt S.data.toList st1.at_ 124 with
    | true =>
     have HE : Hid (Rv = (ps, st1)) := by
      show _ = _
      rw [← HO.out, piecesL_stop _ _ _ _ _ (fun hh => by rw [hv] at hh; cases hh.2.2.1)]
     have HV := Lib.hid hv
     clear hv hb
     go_wp2_with fail
     refine (more_yes g S st1 wr h1 hlt hs).mono ?_
     rintro e w4 ⟨rfl, hl4⟩
     have h5 := h1.later hl4
     have O5 := hO.later hl4
     have X4 := blkL hl4 B4
     have hFt := frL hF hl4
     clear h1 hO B4 hF c3 HM hl4
     go_wp2_with fail
     refine (isR_any g S st1 124 124 true w4 h5 rfl HV.out hs).mono ?_
     rintro e wt ⟨rfl, hl5⟩
     have h5 := h5.later hl5
     have O5 := O5.later hl5
     have X4 := blkL hl5 X4
     have hFt := frL hFt hl5
     obtain ⟨Q, hQ⟩ : ∃ Q, Q = pcRow 2 ps := ⟨_, rfl⟩
     have hrow : Calls Tryz.prog 83 #[.int .i64 2, .slice A n cp] wt (RetPc wt lo Q) := by
      rw [hQ]
      exact row_any lo 2 A n cp ps wt O5.rd hok hn0 (by omega) (hlo.fr hFt)
     have HR5 : Hid (R = (Q, st1)) := by show _ = _; rw [HR.out, HE.out, hQ]
     have HROW := Lib.hid hrow
     clear hQ hrow HE O5 HO
     go_wp2_with fail
     refine HROW.out.mono ?_
     rintro e w6 ⟨k1, a1, b1, c1, d1, A1, n1, cp1, rfl, hr1, hl1⟩
     have G4 := blkL hl1 X4
     obtain ⟨z0, z1, z2, z3, z4, z5, z6, z7, z8, y0, y1, y2, y3, y4, y5, y6, y7, y8⟩ := cells9 G4
     go_wp2_with fail
     refine bodyPost_ret (v := .agg #[.int .i64 k1, .int .u64 a1, .int .u64 b1, .int .u64 c1, .int .u64 d1, .slice A1 n1 cp1, .int .i64 (Q.deep : Int), .int .i64 (Q.leaves : Int), .bool Q.big]) (by simp [results, Tryz.results81, go_sem, z0, z1, z2, z3, z4, z5, z6, z7, z8]) rfl ?_
     exact RetPcS.store9 HR5.out G4 hr1 (h5.later hl1) (frL hFt hl1) (Nat.le_refl _)
    | false =>
     cases hv2 : isAt S.data.toList st1.at_ 41 with
     | true =>
      have HE : Hid (Rv = (ps, st1)) := by
       show _ = _
       rw [← HO.out, piecesL_stop _ _ _ _ _ (fun hh => by rw [hv2] at hh; cases hh.2.2.2)]
      have HV := Lib.hid hv
      have HV2 := Lib.hid hv2
      clear hv hb hv2
      go_wp2_with fail
      refine (more_yes g S st1 wr h1 hlt hs).mono ?_
      rintro e w4 ⟨rfl, hl4⟩
      have h5 := h1.later hl4
      have O5 := hO.later hl4
      have X4 := blkL hl4 B4
      have hFt := frL hF hl4
      clear h1 hO B4 hF c3 HM hl4
      go_wp2_with fail
      refine (isR_any g S st1 124 124 false w4 h5 rfl HV.out hs).mono ?_
      rintro e w5 ⟨rfl, hl5⟩
      have h5 := h5.later hl5
      have O5 := O5.later hl5
      have X4 := blkL hl5 X4
      have hFt := frL hFt hl5
      go_wp2_with fail
      refine (isR_any g S st1 41 41 true w5 h5 rfl HV2.out hs).mono ?_
      rintro e wt ⟨rfl, hl6⟩
      have h5 := h5.later hl6
      have O5 := O5.later hl6
      have X4 := blkL hl6 X4
      have hFt := frL hFt hl6
      obtain ⟨Q, hQ⟩ : ∃ Q, Q = pcRow 2 ps := ⟨_, rfl⟩
      have hrow : Calls Tryz.prog 83 #[.int .i64 2, .slice A n cp] wt (RetPc wt lo Q) := by
       rw [hQ]
       exact row_any lo 2 A n cp ps wt O5.rd hok hn0 (by omega) (hlo.fr hFt)
      have HR5 : Hid (R = (Q, st1)) := by show _ = _; rw [HR.out, HE.out, hQ]
      have HROW := Lib.hid hrow
      clear hQ hrow HE O5 HO
      go_wp2_with fail
      refine HROW.out.mono ?_
      rintro e w6 ⟨k1, a1, b1, c1, d1, A1, n1, cp1, rfl, hr1, hl1⟩
      have G4 := blkL hl1 X4
      obtain ⟨z0, z1, z2, z3, z4, z5, z6, z7, z8, y0, y1, y2, y3, y4, y5, y6, y7, y8⟩ := cells9 G4
      go_wp2_with fail
      refine bodyPost_ret (v := .agg #[.int .i64 k1, .int .u64 a1, .int .u64 b1, .int .u64 c1, .int .u64 d1, .slice A1 n1 cp1, .int .i64 (Q.deep : Int), .int .i64 (Q.leaves : Int), .bool Q.big]) (by simp [results, Tryz.results81, go_sem, z0, z1, z2, z3, z4, z5, z6, z7, z8]) rfl ?_
      exact RetPcS.store9 HR5.out G4 hr1 (h5.later hl1) (frL hFt hl1) (Nat.le_refl _)
     | false =>
      have HDOM : Hid (Dom S.data.toList d st1) := ⟨hb, by rw [len_eq]; exact Nat.le_of_lt hlt, by show st1.op ≤ 10; rw [hgop]; exact HD.out.op, by show 11 ≤ d + st1.op; rw [hgop]; exact HD.out.deep⟩
      have HCOND : Hid (st1.bad = 0 ∧ st1.at_ < S.data.toList.length ∧ isAt S.data.toList st1.at_ 124 = false ∧ isAt S.data.toList st1.at_ 41 = false) := ⟨hb, by rw [len_eq]; exact hlt, hv, hv2⟩
      obtain ⟨f', rfl⟩ : ∃ f', f = f' + 1 := ⟨f - 1, by omega⟩
      have HV := Lib.hid hv
      have HV2 := Lib.hid hv2
      clear hv hb hv2
      go_wp2_with fail
      refine (more_yes g S st1 wr h1 hlt hs).mono ?_
      rintro e w4 ⟨rfl, hl4⟩
      have h5 := h1.later hl4
      have O5 := hO.later hl4
      have X4 := blkL hl4 B4
      have hFt := frL hF hl4
      clear h1 hO B4 hF c3 hl4
      go_wp2_with fail
      refine (isR_any g S st1 124 124 false w4 h5 rfl HV.out hs).mono ?_
      rintro e w5 ⟨rfl, hl5⟩
      have h5 := h5.later hl5
      have O5 := O5.later hl5
      have X4 := blkL hl5 X4
      have hFt := frL hFt hl5
      go_wp2_with fail
      refine (isR_any g S st1 41 41 false w5 h5 rfl HV2.out hs).mono ?_
      rintro e w6 ⟨rfl, hl6⟩
      have h5 := h5.later hl6
      have O5 := O5.later hl6
      have X4 := blkL hl6 X4
      have hFt := frL hFt hl6
      clear hl5 hl6
      obtain ⟨Q, st7, hQ⟩ : ∃ Q st7, G st1 = (Q, st7) := ⟨_, _, rfl⟩
      have HO2 : Hid (piecesL S.data.toList G f' (ps ++ [Q]) st7 = Rv) := by
       show _ = _
       rw [← HO.out, piecesL_step _ _ _ _ _ HCOND.out, hQ]
      have hres := HG.out st1 HDOM.out
      have hcl := HC.out lo g st1 w6 h5 HDOM.out (hlo.fr hFt)
      rw [hQ] at hres hcl
      have hQok : PcOk Q := hres.ok
      have hb7 : st7.at_ ≤ S.data.toList.length + B := hres.bd
      have hg7 : st7.bad = 0 → st1.at_ < st7.at_ ∧ st7.at_ ≤ S.data.toList.length ∧ st7.op = st1.op := hres.good
      rw [len_eq] at hb7 hg7
      have hg7 : st7.bad = 0 → st1.at_ < st7.at_ ∧ st7.at_ ≤ S.size ∧ st7.op = st1.op := hg7
      have HCL := Lib.hid hcl
      clear hQ hcl hres HO HCOND HDOM
      go_wp2_with fail
      refine HCL.out.mono ?_
      rintro e w7 ⟨k1, a1, b1, c1, d1, A1, n1, cp1, rfl, hr7, h7, hf7⟩
      have O7 := O5.fr hf7 (h5.spares lo) (O5.ne h5 (by decide))
      have D4 := blkF hf7 ne4 X4
      have hF7 := frF hFt hf7
      clear h5 O5 X4 hFt HCL hf7
      have hszw := D4.lt
      go_wp2_with (at_builtin; go_loud (refine wpList_append_p _ rfl (.tmp 26) (.tmp 29) rfl lo (w.heap.size + 1) A n cp ps rfl (O7.later ((Later.refl _).alloc _)) Q ⟨k1, a1, b1, c1, d1, A1, n1, cp1⟩ (hr7.later ((Later.refl _).alloc _)) _ _ rfl (reads_p w7 Q ⟨k1, a1, b1, c1, d1, A1, n1, cp1⟩ _) (by omega) (by simp; omega) ?_); intro A9 n9 c9 w8 hn9 hown9 hg9 _)
      have hOl := O7.lt
      have hla : Later w7 (w7.alloc (.cells #[.int .i64 k1, .int .u64 a1, .int .u64 b1, .int .u64 c1, .int .u64 d1, .slice A1 n1 cp1, .int .i64 (Q.deep : Int), .int .i64 (Q.leaves : Int), .bool Q.big] 117)) := (Later.refl w7).alloc _
      have hne9 := (O7.later hla).ne (h7.later hla) (by decide)
      have K7 : RdC w8 g S st7 := Blk.grown (Blk.alloc h7 _) hg9 (fun e => hne9 _ e.symm rfl)
      have K4 := (D4.alloc (.cells #[.int .i64 k1, .int .u64 a1, .int .u64 b1, .int .u64 c1, .int .u64 d1, .slice A1 n1 cp1, .int .i64 (Q.deep : Int), .int .i64 (Q.leaves : Int), .bool Q.big] 117)).grown hg9 (fun e => by have := (hOl _ e.symm).1; omega)
      have KF : Fr w w8 (fun k => k = g) := Fr.grown (hF7.alloc _) hg9 (fun k hk e => by have := (hOl _ e).1; omega)
      clear hg9 hOl hne9 hla O7 D4 h7 hF7 hr7
      subst hn9
      have hm2 := K7.msR
      have HB7 := Lib.hid hg7
      go_roundw
      case rel => exact ⟨ps ++ [Q], st7, f', A9, n + 1, c9, by go_num, Nat.succ_pos _, fun hb => by have := hg7 hb; omega, by omega, HO2, fun p hp => by
       rcases List.mem_append.1 hp with h | h
       ·exact hok p h
       ·rw [List.mem_singleton.1 h]; exact hQok, fun hb => by have := hg7 hb; omega, fun hb => ⟨(hg7 hb).2.1, by rw [(hg7 hb).2.2]; exact hgop⟩, hb7, K7, hown9, K4, KF⟩
      case measure =>
       rw [hm2, HM.out, if_pos HB1.out]
       by_cases hb7 : st7.bad = 0
       ·rw [if_pos hb7]; have := HB7.out hb7; omega
       ·rw [if_neg hb7]; omega
   ·have hle : S.size ≤ st1.at_ := by omega
    have HE : Hid (Rv = (ps, st1)) := by
     show _ = _
     rw [← HO.out, piecesL_stop _ _ _ _ _ (fun hh => by have := hh.2.1; rw [len_eq] at this; exact hlt this)]
    clear hb hlt
    go_wp2_with fail
    refine (more_no g S st1 wr h1 hle hs).mono ?_
    rintro e wt ⟨rfl, hl5⟩
    have h5 := h1.later hl5
    have O5 := hO.later hl5
    have X4 := blkL hl5 B4
    have hFt := frL hF hl5
    clear h1 hO B4 hF c3 HM hl5
    obtain ⟨Q, hQ⟩ : ∃ Q, Q = pcRow 2 ps := ⟨_, rfl⟩
    have hrow : Calls Tryz.prog 83 #[.int .i64 2, .slice A n cp] wt (RetPc wt lo Q) := by
     rw [hQ]
     exact row_any lo 2 A n cp ps wt O5.rd hok hn0 (by omega) (hlo.fr hFt)
    have HR5 : Hid (R = (Q, st1)) := by show _ = _; rw [HR.out, HE.out, hQ]
    have HROW := Lib.hid hrow
    clear hQ hrow HE O5 HO
    go_wp2_with fail
    refine HROW.out.mono ?_
    rintro e w6 ⟨k1, a1, b1, c1, d1, A1, n1, cp1, rfl, hr1, hl1⟩
    have G4 := blkL hl1 X4
    obtain ⟨z0, z1, z2, z3, z4, z5, z6, z7, z8, y0, y1, y2, y3, y4, y5, y6, y7, y8⟩ := cells9 G4
    go_wp2_with fail
    refine bodyPost_ret (v := .agg #[.int .i64 k1, .int .u64 a1, .int .u64 b1, .int .u64 c1, .int .u64 d1, .slice A1 n1 cp1, .int .i64 (Q.deep : Int), .int .i64 (Q.leaves : Int), .bool Q.big]) (by simp [results, Tryz.results81, go_sem, z0, z1, z2, z3, z4, z5, z6, z7, z8]) rfl ?_
    exact RetPcS.store9 HR5.out G4 hr1 (h5.later hl1) (frL hFt hl1) (Nat.le_refl _)
  ·have hbi : ((st1.bad : Int) == 0) = false := by rw [beq_eq_false_iff_ne]; omega
   have HE : Hid (Rv = (ps, st1)) := by
    show _ = _
    rw [← HO.out, piecesL_stop _ _ _ _ _ (fun hh => hb hh.1)]
   have h5 := h1
   have O5 := hO
   have X4 := B4
   have hFt := hF
   obtain ⟨wt, hwt⟩ : ∃ wt, wt = wr := ⟨_, rfl⟩
   rw [← hwt] at h5 O5 X4 hFt c3 ⊢
   clear hwt h1 hO B4 hF HM
   obtain ⟨Q, hQ⟩ : ∃ Q, Q = pcRow 2 ps := ⟨_, rfl⟩
   have hrow : Calls Tryz.prog 83 #[.int .i64 2, .slice A n cp] wt (RetPc wt lo Q) := by
    rw [hQ]
    exact row_any lo 2 A n cp ps wt O5.rd hok hn0 (by omega) (hlo.fr hFt)
   have HR5 : Hid (R = (Q, st1)) := by show _ = _; rw [HR.out, HE.out, hQ]
   have HROW := Lib.hid hrow
   clear hQ hrow HE O5 HO
   go_wp2_with fail
   refine HROW.out.mono ?_
   rintro e w6 ⟨k1, a1, b1, c1, d1, A1, n1, cp1, rfl, hr1, hl1⟩
   have G4 := blkL hl1 X4
   obtain ⟨z0, z1, z2, z3, z4, z5, z6, z7, z8, y0, y1, y2, y3, y4, y5, y6, y7, y8⟩ := cells9 G4
   go_wp2_with fail
   refine bodyPost_ret (v := .agg #[.int .i64 k1, .int .u64 a1, .int .u64 b1, .int .u64 c1, .int .u64 d1, .slice A1 n1 cp1, .int .i64 (Q.deep : Int), .int .i64 (Q.leaves : Int), .bool Q.big]) (by simp [results, Tryz.results81, go_sem, z0, z1, z2, z3, z4, z5, z6, z7, z8]) rfl ?_
   exact RetPcS.store9 HR5.out G4 hr1 (h5.later hl1) (frL hFt hl1) (Nat.le_refl _)
def AltAt (G : St → Pc × St) (w : World) (g : Nat) (lo : Nat → Prop) (S : ByteArray) (B : Nat) (st0 : St) (Rv : List Pc × St) (s3 : Value) (wr : World) : Prop :=
 ∃ (ps : List Pc) (st : St) (f : Nat) (A : Option Addr) (n cp : Nat), s3 = .slice A n cp ∧ 0 < n ∧ (st.bad = 0 → n ≤ st.at_ + 1) ∧ n ≤ S.size + 3 ∧ Hid (altL S.data.toList G f ps st = Rv) ∧ (∀ p ∈ ps, PcOk p) ∧ (st.bad = 0 → S.size + 1 ≤ f + st.at_) ∧ (st.bad = 0 → st.at_ ≤ S.size ∧ st.op = st0.op) ∧ st.at_ ≤ S.size + B ∧ RdC wr g S st ∧
  OwnP wr lo (w.heap.size + 1) A n cp ps ∧ Blk wr w.heap.size 117 #[.int .i64 0, .int .u64 0, .int .u64 0, .int .u64 0, .int .u64 0, .slice none 0 0, .int .i64 0, .int .i64 0, .bool false] ∧ Fr w wr (fun k => k = g)
set_option maxRecDepth 100000 in
set_option maxHeartbeats 8000000 in
theorem alterR_any (S : ByteArray) (d B : Nat) (_hB : B ≤ 100) (hs1 : S.size ≤ 999999990) (G : St → Pc × St) (hG : Reads_ S.data.toList d B G) (hC : RdrC 81 S d G) : RdrC 64 S d (altG S.data.toList G) := by
 intro lo g st w h hD hlo
 have hs : S.size ≤ 1000000000 := by omega
 obtain ⟨R, hR⟩ : ∃ R, R = altG S.data.toList G st := ⟨_, rfl⟩
 rw [← hR]
 obtain ⟨p0, st0, hat⟩ : ∃ p0 st0, G st = (p0, st0) := ⟨_, _, rfl⟩
 obtain ⟨Rv, hRv⟩ : ∃ Rv, Rv = altL S.data.toList G (S.data.toList.length + 2) [p0] st0 := ⟨_, rfl⟩
 have HR : Hid (R = (pcRow 3 Rv.1, Rv.2)) := by
  show _ = _
  rw [hR, hRv]
  unfold altG
  rw [hat]
 have HRV : Hid (altL S.data.toList G (S.size + 2) [p0] st0 = Rv) := by
  show _ = _
  rw [hRv, len_eq]
 have hres := hG st hD
 rw [hat] at hres
 have HD := Lib.hid hD
 have HAT := Lib.hid hat
 have HG : Hid (Reads_ S.data.toList d B G) := hG
 have HC : Hid (RdrC 81 S d G) := hC
 have hgw := h.lt
 have hp0 : PcOk p0 := hres.ok
 have hb0 : st0.at_ ≤ S.data.toList.length + B := hres.bd
 have hg0 : st0.bad = 0 → st.at_ < st0.at_ ∧ st0.at_ ≤ S.data.toList.length ∧ st0.op = st.op := hres.good
 rw [len_eq] at hb0 hg0
 clear hR hRv hD hres hat hG hC
 go_enter Tryz.func64, Tryz.ntmps64
 go_upto_region 1 with fail
 obtain ⟨W0, hW0⟩ : ∃ W0, W0 = w.alloc (.cells #[.int .i64 0, .int .u64 0, .int .u64 0, .int .u64 0, .int .u64 0, .slice none 0 0, .int .i64 0, .int .i64 0, .bool false] 117) := ⟨_, rfl⟩
 have B4 : Blk W0 w.heap.size 117 #[.int .i64 0, .int .u64 0, .int .u64 0, .int .u64 0, .int .u64 0, .slice none 0 0, .int .i64 0, .int .i64 0, .bool false] := by rw [hW0]; exact Blk.new w _ _
 have hl0 : Later w W0 := by rw [hW0]; exact (Later.refl w).alloc _
 have h0 := h.later hl0
 have hF0 : Fr w W0 (fun k => k = g) := Fr.later hl0
 have ne4 : w.heap.size ≠ g := by omega
 rw [← hW0]
 clear hW0 hl0
 go_wp2_with fail
 refine (HC.out lo g st _ h0 HD.out (hlo.fr hF0)).mono ?_
 rw [HAT.out]
 rintro e w2 ⟨k, a, b, c, d', A, n, cp, rfl, hC, h2, hF2⟩
 have hF3 := frF hF0 hF2
 have D4 := blkF hF2 ne4 B4
 have hsz2 := D4.lt
 have hO2 := OwnP.lit (base := w.heap.size + 1) p0 ⟨k, a, b, c, d', A, n, cp⟩ hC (by omega)
 have hl2 := (Later.refl w2).alloc (.cells #[.int .i64 k, .int .u64 a, .int .u64 b, .int .u64 c, .int .u64 d', .slice A n cp, .int .i64 (p0.deep : Int), .int .i64 (p0.leaves : Int), .bool p0.big] 117)
 clear B4 hF0 h0 hF2
 go_wp2_with fail
 go_loopw [3] (fun s3 wr => AltAt G w g lo S B st Rv s3 wr) (fun _ wr => msR S wr g)
 case atStart => exact ⟨[p0], st0, S.size + 2, _, 1, 1, rfl, Nat.one_pos, fun _ => by omega, by omega, HRV, fun p hp => by rw [List.mem_singleton.1 hp]; exact hp0, fun _ => by omega, fun hb => ⟨(hg0 hb).2.1, (hg0 hb).2.2⟩, hb0, h2.later hl2, hO2, blkL hl2 D4, frL hF3 hl2⟩
 case round =>
  clear hp0 hb0 hg0 HRV HAT hC h2 D4 hF3 hO2 hl2 hgw hsz2
  obtain ⟨ps, st1, f, A, n, cp, rfl, hn0, hnat, hns, HO, hok, hfu, hgd, hat, h1, hO, B4, hF⟩ := hrel
  have HM : Hid (msR S wr g = if st1.bad = 0 then S.size + 1 - st1.at_ else 0) := h1.msR
  have c3 : wr.cell? ⟨g, 3, none⟩ = some (.int .i64 (st1.bad : Int)) := h1.c3
  by_cases hb : st1.bad = 0
  ·have hbi : ((st1.bad : Int) == 0) = true := by rw [hb]; rfl
   have hfu := hfu hb
   have hnat := hnat hb
   have HB1 := Lib.hid hb
   obtain ⟨hgat, hgop⟩ := hgd hb
   cases hv : isAt S.data.toList st1.at_ 124 with
   | false =>
    have HE : Hid (Rv = (ps, st1)) := by
     show _ = _
     rw [← HO.out, altL_stop _ _ _ _ _ (fun hh => by rw [hv] at hh; cases hh.2)]
    have HV := Lib.hid hv
    clear hv hb
    go_wp2_with fail
    refine (isR_any g S st1 124 124 false wr h1 rfl HV.out hs).mono ?_
    rintro e wt ⟨rfl, hl5⟩
    have h5 := h1.later hl5
    have O5 := hO.later hl5
    have X4 := blkL hl5 B4
    have hFt := frL hF hl5
    clear h1 hO B4 hF c3 HM hl5
    obtain ⟨Q, hQ⟩ : ∃ Q, Q = pcRow 3 ps := ⟨_, rfl⟩
    have hrow : Calls Tryz.prog 83 #[.int .i64 3, .slice A n cp] wt (RetPc wt lo Q) := by
     rw [hQ]
     exact row_any lo 3 A n cp ps wt O5.rd hok hn0 (by omega) (hlo.fr hFt)
    have HR5 : Hid (R = (Q, st1)) := by show _ = _; rw [HR.out, HE.out, hQ]
    have HROW := Lib.hid hrow
    clear hQ hrow HE O5 HO
    go_wp2_with fail
    refine HROW.out.mono ?_
    rintro e w6 ⟨k1, a1, b1, c1, d1, A1, n1, cp1, rfl, hr1, hl1⟩
    have G4 := blkL hl1 X4
    obtain ⟨z0, z1, z2, z3, z4, z5, z6, z7, z8, y0, y1, y2, y3, y4, y5, y6, y7, y8⟩ := cells9 G4
    go_wp2_with fail
    refine bodyPost_ret (v := .agg #[.int .i64 k1, .int .u64 a1, .int .u64 b1, .int .u64 c1, .int .u64 d1, .slice A1 n1 cp1, .int .i64 (Q.deep : Int), .int .i64 (Q.leaves : Int), .bool Q.big]) (by simp [results, Tryz.results64, go_sem, z0, z1, z2, z3, z4, z5, z6, z7, z8]) rfl ?_
    exact RetPcS.store9 HR5.out G4 hr1 (h5.later hl1) (frL hFt hl1) (Nat.le_refl _)
   | true =>
    have hlt : st1.at_ < S.size := by have := isAt_lt hv; rw [len_eq] at this; exact this
    have HDOM : Hid (Dom S.data.toList d (stAt st1 (st1.at_ + 1))) := ⟨hb, by rw [len_eq]; exact hlt, by show st1.op ≤ 10; rw [hgop]; exact HD.out.op, by show 11 ≤ d + st1.op; rw [hgop]; exact HD.out.deep⟩
    have HCOND : Hid (st1.bad = 0 ∧ isAt S.data.toList st1.at_ 124 = true) := ⟨hb, hv⟩
    obtain ⟨f', rfl⟩ : ∃ f', f = f' + 1 := ⟨f - 1, by omega⟩
    have HV := Lib.hid hv
    clear hv hb
    go_wp2_with fail
    refine (isR_any g S st1 124 124 true wr h1 rfl HV.out hs).mono ?_
    rintro e w5 ⟨rfl, hl5⟩
    have h5 := h1.later hl5
    have O5 := hO.later hl5
    have X4 := blkL hl5 B4
    have hFt := frL hF hl5
    clear h1 hO B4 hF c3 hl5
    have q1 := h5.c1
    have f1 := h5.f 1
    go_upto_region 4 with fail
    obtain ⟨W6, hW6⟩ : ∃ W6, W6 = w5.setCell ⟨g, 1, none⟩ (.int .i64 ((st1.at_ : Int) + 1)) := ⟨_, rfl⟩
    have f6 : Fr w5 W6 (fun k => k = g) := by rw [hW6]; exact frG (i := 1) (Fr.refl w5 (fun k => k = g)) _
    have h6 : RdC W6 g S (stAt st1 (st1.at_ + 1)) := by rw [hW6]; exact h5.setAt (st1.at_ + 1) _ (by omega)
    rw [← hW6]
    clear hW6 q1 f1
    have O5 := O5.fr f6 (h5.spares lo) (O5.ne h5 (by decide))
    have X4 := blkF f6 ne4 X4
    have hFt := frF hFt f6
    have h5 := h6
    clear h6 f6
    obtain ⟨Q, st7, hQ⟩ : ∃ Q st7, G (stAt st1 (st1.at_ + 1)) = (Q, st7) := ⟨_, _, rfl⟩
    have HO2 : Hid (altL S.data.toList G f' (ps ++ [Q]) st7 = Rv) := by
     show _ = _
     rw [← HO.out, altL_step _ _ _ _ _ HCOND.out, hQ]
    have hres := HG.out (stAt st1 (st1.at_ + 1)) HDOM.out
    have hcl := HC.out lo g (stAt st1 (st1.at_ + 1)) W6 h5 HDOM.out (hlo.fr hFt)
    rw [hQ] at hres hcl
    have hQok : PcOk Q := hres.ok
    have hb7 : st7.at_ ≤ S.data.toList.length + B := hres.bd
    have hg7 : st7.bad = 0 → (stAt st1 (st1.at_ + 1)).at_ < st7.at_ ∧ st7.at_ ≤ S.data.toList.length ∧ st7.op = (stAt st1 (st1.at_ + 1)).op := hres.good
    rw [len_eq] at hb7 hg7
    have hg7 : st7.bad = 0 → st1.at_ + 1 < st7.at_ ∧ st7.at_ ≤ S.size ∧ st7.op = st1.op := hg7
    have HCL := Lib.hid hcl
    clear hQ hcl hres HO HCOND HDOM
    go_wp2_with fail
    refine HCL.out.mono ?_
    rintro e w7 ⟨k1, a1, b1, c1, d1, A1, n1, cp1, rfl, hr7, h7, hf7⟩
    have O7 := O5.fr hf7 (h5.spares lo) (O5.ne h5 (by decide))
    have D4 := blkF hf7 ne4 X4
    have hF7 := frF hFt hf7
    clear h5 O5 X4 hFt HCL hf7
    have hszw := D4.lt
    go_wp2_with (at_builtin; go_loud (refine wpList_append_p _ rfl (.tmp 23) (.tmp 26) rfl lo (w.heap.size + 1) A n cp ps rfl (O7.later ((Later.refl _).alloc _)) Q ⟨k1, a1, b1, c1, d1, A1, n1, cp1⟩ (hr7.later ((Later.refl _).alloc _)) _ _ rfl (reads_p w7 Q ⟨k1, a1, b1, c1, d1, A1, n1, cp1⟩ _) (by omega) (by simp; omega) ?_); intro A9 n9 c9 w8 hn9 hown9 hg9 _)
    have hOl := O7.lt
    have hla : Later w7 (w7.alloc (.cells #[.int .i64 k1, .int .u64 a1, .int .u64 b1, .int .u64 c1, .int .u64 d1, .slice A1 n1 cp1, .int .i64 (Q.deep : Int), .int .i64 (Q.leaves : Int), .bool Q.big] 117)) := (Later.refl w7).alloc _
    have hne9 := (O7.later hla).ne (h7.later hla) (by decide)
    have K7 : RdC w8 g S st7 := Blk.grown (Blk.alloc h7 _) hg9 (fun e => hne9 _ e.symm rfl)
    have K4 := (D4.alloc (.cells #[.int .i64 k1, .int .u64 a1, .int .u64 b1, .int .u64 c1, .int .u64 d1, .slice A1 n1 cp1, .int .i64 (Q.deep : Int), .int .i64 (Q.leaves : Int), .bool Q.big] 117)).grown hg9 (fun e => by have := (hOl _ e.symm).1; omega)
    have KF : Fr w w8 (fun k => k = g) := Fr.grown (hF7.alloc _) hg9 (fun k hk e => by have := (hOl _ e).1; omega)
    clear hg9 hOl hne9 hla O7 D4 h7 hF7 hr7
    subst hn9
    have hm2 := K7.msR
    have HB7 := Lib.hid hg7
    go_roundw
    case rel => exact ⟨ps ++ [Q], st7, f', A9, n + 1, c9, by go_num, Nat.succ_pos _, fun hb => by have := hg7 hb; omega, by omega, HO2, fun p hp => by
     rcases List.mem_append.1 hp with h | h
     ·exact hok p h
     ·rw [List.mem_singleton.1 h]; exact hQok, fun hb => by have := hg7 hb; omega, fun hb => ⟨(hg7 hb).2.1, by rw [(hg7 hb).2.2]; exact hgop⟩, hb7, K7, hown9, K4, KF⟩
    case measure =>
     rw [hm2, HM.out, if_pos HB1.out]
     by_cases hb7 : st7.bad = 0
     ·rw [if_pos hb7]; have := HB7.out hb7; omega
     ·rw [if_neg hb7]; omega
  ·have hbi : ((st1.bad : Int) == 0) = false := by rw [beq_eq_false_iff_ne]; omega
   have HE : Hid (Rv = (ps, st1)) := by
    show _ = _
    rw [← HO.out, altL_stop _ _ _ _ _ (fun hh => hb hh.1)]
   have h5 := h1
   have O5 := hO
   have X4 := B4
   have hFt := hF
   obtain ⟨wt, hwt⟩ : ∃ wt, wt = wr := ⟨_, rfl⟩
   rw [← hwt] at h5 O5 X4 hFt c3 ⊢
   clear hwt h1 hO B4 hF HM
   obtain ⟨Q, hQ⟩ : ∃ Q, Q = pcRow 3 ps := ⟨_, rfl⟩
   have hrow : Calls Tryz.prog 83 #[.int .i64 3, .slice A n cp] wt (RetPc wt lo Q) := by
    rw [hQ]
    exact row_any lo 3 A n cp ps wt O5.rd hok hn0 (by omega) (hlo.fr hFt)
   have HR5 : Hid (R = (Q, st1)) := by show _ = _; rw [HR.out, HE.out, hQ]
   have HROW := Lib.hid hrow
   clear hQ hrow HE O5 HO
   go_wp2_with fail
   refine HROW.out.mono ?_
   rintro e w6 ⟨k1, a1, b1, c1, d1, A1, n1, cp1, rfl, hr1, hl1⟩
   have G4 := blkL hl1 X4
   obtain ⟨z0, z1, z2, z3, z4, z5, z6, z7, z8, y0, y1, y2, y3, y4, y5, y6, y7, y8⟩ := cells9 G4
   go_wp2_with fail
   refine bodyPost_ret (v := .agg #[.int .i64 k1, .int .u64 a1, .int .u64 b1, .int .u64 c1, .int .u64 d1, .slice A1 n1 cp1, .int .i64 (Q.deep : Int), .int .i64 (Q.leaves : Int), .bool Q.big]) (by simp [results, Tryz.results64, go_sem, z0, z1, z2, z3, z4, z5, z6, z7, z8]) rfl ?_
   exact RetPcS.store9 HR5.out G4 hr1 (h5.later hl1) (frL hFt hl1) (Nat.le_refl _)
end Go.Proofs.YtmkddhkpeiajhaaGreatDoor
namespace Go.Proofs.YtmkddhkpeiajhaaGreatDoor
open Go.RowKit
def EscRet (g : Nat) (S : ByteArray) (st : St) (w : World) (e : Ending) (w' : World) : Prop :=
 e = .returned (.int .u8 ((escF S.data.toList st).1 : Int)) ∧ RdC w' g S (escF S.data.toList st).2 ∧ Fr w w' (fun k => k = g)
theorem EscRet.mk {g : Nat} {S : ByteArray} {st : St} {w w' : World} {R : Nat × St} {b : Nat} {x : Int} {st' : St} (hR : R = (b, st')) (hE : escF S.data.toList st = R) (hx : x = (b : Int)) (hr : RdC w' g S st') (hF : Fr w w' (fun k => k = g)) :
  EscRet g S st w (.returned (.int .u8 x)) w' := by
 subst hx hR
 unfold EscRet
 rw [hE]
 exact ⟨rfl, hr, hF⟩
theorem escR_none (g : Nat) (S : ByteArray) (st : St) (w : World) (h : RdC w g S st) (hs : S.size ≤ 1000000000) (hc : S.data.toList[st.at_]? = none) :
  Calls Tryz.prog 130 #[.pointer (some ⟨g, 0, none⟩)] w (EscRet g S st w) := by
 have hle := str_none S _ hc
 have hE : escF S.data.toList st = (0, stFault 24 S.size st) := by unfold escF; rw [hc]; show _ = _; rw [Array.length_toList]; rfl
 have HE := Lib.hid hE
 clear hc hE
 have hfl : ∀ wx, RdC wx g S st → Calls Tryz.prog 66 #[.pointer (some ⟨g, 0, none⟩), .int .i64 (S.size : Int), .int .i64 24] wx fun r w' => r = .returned (.tuple #[]) ∧ RdC w' g S (stFault 24 S.size st) ∧ Fr wx w' (fun k => k = g) := fun wx hx => faultR_any g S st _ _ S.size 24 wx hx rfl rfl
 go_enter Tryz.func130, Tryz.ntmps130
 go_wp2_with fail
 refine (more_no g S st _ h hle hs).mono ?_
 rintro e w1 ⟨rfl, hl1⟩
 have h1 := h.later hl1
 have c0 := h1.c0
 go_wp2_with fail
 refine (hfl _ h1).mono ?_
 rintro e w2 ⟨rfl, h2, hF2⟩
 go_wp2_with fail
 go_ret
 exact EscRet.mk rfl HE.out rfl h2 ((Fr.later hl1).trans hF2 (fun _ _ h => h))
end Go.Proofs.YtmkddhkpeiajhaaGreatDoor
