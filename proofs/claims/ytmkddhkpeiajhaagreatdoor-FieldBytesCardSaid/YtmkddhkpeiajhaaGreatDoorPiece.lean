import Derived.Test.YtmkddhkpeiajhaaGreatDoorStarW
import Derived.Test.YtmkddhkpeiajhaaGreatDoorGroup
namespace Go.Proofs.YtmkddhkpeiajhaaGreatDoor
open Go.RowKit
def RdrC (f : FuncId) (S : ByteArray) (d : Nat) (G : St → Pc × St) : Prop := ∀ (lo : Nat → Prop) (g : Nat) (st : St) (w : World), RdC w g S st → Dom S.data.toList d st → Up w lo →
 Calls Tryz.prog f #[.pointer (some ⟨g, 0, none⟩)] w (RetPcS w g lo S (G st))
theorem isAt_c {s : List UInt8} {a : Nat} {x : UInt8} (h : s[a]? = some x) (c : Nat) : isAt s a c = (x.toNat == c) := by
 unfold isAt
 rw [h]
theorem signs_bad (s : List UInt8) (f : Nat) (p : Pc) (st : St) (h : st.bad ≠ 0) : signsF s f p st = (p, st) := by
 cases f with
 | zero => rfl
 | succ f => rw [signsF, if_neg h]
theorem signs_end (s : List UInt8) (f : Nat) (p : Pc) (st : St) (h : s[st.at_]? = none) : signsF s f p st = (p, st) := by
 cases f with
 | zero => rfl
 | succ f =>
  rw [signsF]
  have : ∀ c, isAt s st.at_ c = false := fun c => by unfold isAt; rw [h]
  simp only [this, Bool.false_eq_true, if_false, ite_self]
theorem signs_other (s : List UInt8) (f : Nat) (p : Pc) (st : St) (x : UInt8) (h : s[st.at_]? = some x) (h1 : x.toNat ≠ 42) (h2 : x.toNat ≠ 43) (h3 : x.toNat ≠ 63) (h4 : x.toNat ≠ 123) : signsF s f p st = (p, st) := by
 cases f with
 | zero => rfl
 | succ f =>
  rw [signsF]
  simp only [isAt_c h, beq_iff_eq, h1, h2, h3, h4, if_false, ite_self]
theorem signs_42 (s : List UInt8) (f : Nat) (p : Pc) (st : St) (x : UInt8) (h : s[st.at_]? = some x) (hx : x.toNat = 42) (hb : st.bad = 0) : signsF s (f + 1) p st = signsF s f (pcOne 4 p) (stAt st (st.at_ + 1)) := by
 rw [signsF]
 simp only [isAt_c h, hx, hb, beq_iff_eq, ↓reduceIte]
theorem signs_43 (s : List UInt8) (f : Nat) (p : Pc) (st : St) (x : UInt8) (h : s[st.at_]? = some x) (hx : x.toNat = 43) (hb : st.bad = 0) : signsF s (f + 1) p st = signsF s f (pcOne 5 p) (stAt st (st.at_ + 1)) := by
 rw [signsF]
 simp only [isAt_c h, hx, hb, beq_iff_eq, ↓reduceIte, show ¬ (43 : Nat) = 42 by decide]
theorem signs_63 (s : List UInt8) (f : Nat) (p : Pc) (st : St) (x : UInt8) (h : s[st.at_]? = some x) (hx : x.toNat = 63) (hb : st.bad = 0) : signsF s (f + 1) p st = signsF s f (pcOne 6 p) (stAt st (st.at_ + 1)) := by
 rw [signsF]
 simp only [isAt_c h, hx, hb, beq_iff_eq, ↓reduceIte, show ¬ (63 : Nat) = 42 by decide, show ¬ (63 : Nat) = 43 by decide]
def PieceAt (w : World) (b3 g : Nat) (lo : Nat → Prop) (S : ByteArray) (Rv : Pc × St) (wr : World) : Prop :=
 ∃ (p : Pc) (st : St) (f : Nat) (k a b c d : Int) (A : Option Addr) (n cp : Nat), Hid (signsF S.data.toList f p st = Rv) ∧ PcOk p ∧ (st.bad = 0 → S.size + 1 ≤ f + st.at_) ∧ st.at_ ≤ S.size + 100 ∧ RdC wr g S st ∧
  ReC wr lo p.re ⟨k, a, b, c, d, A, n, cp⟩ ∧ Blk wr b3 117 #[.int .i64 k, .int .u64 a, .int .u64 b, .int .u64 c, .int .u64 d, .slice A n cp, .int .i64 (p.deep : Int), .int .i64 (p.leaves : Int), .bool p.big] ∧ Blk wr w.heap.size 117 #[.int .i64 0, .int .u64 0, .int .u64 0, .int .u64 0, .int .u64 0, .slice none 0 0, .int .i64 0, .int .i64 0, .bool false] ∧ Fr w wr (fun k => k = g)
set_option maxRecDepth 100000 in
set_option maxHeartbeats 8000000 in
theorem pieceR_any (S : ByteArray) [Txt S] (d : Nat) (hd : d ≤ 11) (hs : S.size ≤ 1000000000) (hatom : RdrC 114 S (d + 1) (atomF S.data.toList (altF S.data.toList d))) : RdrC 100 S (d + 1) (pieceF S.data.toList (altF S.data.toList d)) := by
 intro lo g st w h hD hlo
 obtain ⟨R, hR⟩ : ∃ R, R = pieceF S.data.toList (altF S.data.toList d) st := ⟨_, rfl⟩
 rw [← hR]
 have hres := atom_res S.data.toList d (6 + d) (by omega) _ (alt_res S.data.toList d) st hD
 obtain ⟨p0, st0, hat⟩ : ∃ p0 st0, atomF S.data.toList (altF S.data.toList d) st = (p0, st0) := ⟨_, _, rfl⟩
 rw [hat] at hres
 have hp0 : PcOk p0 := hres.ok
 have hb0 : st0.at_ ≤ S.data.toList.length + (6 + d + 1) := hres.bd
 rw [len_eq] at hb0
 have HR : Hid (signsF S.data.toList (S.size + 2) p0 st0 = R) := by
  show _ = _
  rw [hR]
  unfold pieceF
  rw [hat, len_eq]
 have HD := Lib.hid hD
 have HAT := Lib.hid hat
 have hgw := h.lt
 clear hR hD hres hat
 go_enter Tryz.func100, Tryz.ntmps100
 go_upto_region 1 with fail
 obtain ⟨W0, hW0⟩ : ∃ W0, W0 = w.alloc (.cells #[.int .i64 0, .int .u64 0, .int .u64 0, .int .u64 0, .int .u64 0, .slice none 0 0, .int .i64 0, .int .i64 0, .bool false] 117) := ⟨_, rfl⟩
 have B4 : Blk W0 w.heap.size 117 #[.int .i64 0, .int .u64 0, .int .u64 0, .int .u64 0, .int .u64 0, .slice none 0 0, .int .i64 0, .int .i64 0, .bool false] := by rw [hW0]; exact Blk.new w _ _
 have hl0 : Later w W0 := by rw [hW0]; exact (Later.refl w).alloc _
 have h0 := h.later hl0
 have hF0 : Fr w W0 (fun k => k = g) := Fr.later hl0
 have ne4 : w.heap.size ≠ g := by omega
 rw [← hW0]
 clear hW0 hl0
 go_wp2_with fail
 refine (hatom lo g st _ h0 HD.out (hlo.fr hF0)).mono ?_
 rw [HAT.out]
 rintro e w2 ⟨k, a, b, c, d', A, n, cp, rfl, hC, h2, hF2⟩
 have hF3 := frF hF0 hF2
 have D4 := blkF hF2 ne4 B4
 clear B4 hF0 h0 hF2
 go_wp2_with fail
 obtain ⟨W3, hW3⟩ : ∃ W3, W3 = w2.alloc (.cells #[.int .i64 k, .int .u64 a, .int .u64 b, .int .u64 c, .int .u64 d', .slice A n cp, .int .i64 (p0.deep : Int), .int .i64 (p0.leaves : Int), .bool p0.big] 117) := ⟨_, rfl⟩
 have B5 : Blk W3 w2.heap.size 117 #[.int .i64 k, .int .u64 a, .int .u64 b, .int .u64 c, .int .u64 d', .slice A n cp, .int .i64 (p0.deep : Int), .int .i64 (p0.leaves : Int), .bool p0.big] := by rw [hW3]; exact Blk.new w2 _ _
 have hl3 : Later w2 W3 := by rw [hW3]; exact (Later.refl w2).alloc _
 have ne5 : w2.heap.size ≠ g := by have := h2.lt; omega
 have ne54 : w2.heap.size ≠ w.heap.size := by have := D4.lt; omega
 have ne45 : w.heap.size ≠ w2.heap.size := fun e => ne54 e.symm
 have hle5 : w.heap.size ≤ w2.heap.size := by have := D4.lt; omega
 have h3 := h2.later hl3
 have B4 := blkL hl3 D4
 have hF4 := frL hF3 hl3
 have hC3 := hC.later hl3
 rw [← hW3]
 clear hW3 hl3 h2 D4 hF3 hC
 obtain ⟨b3, hb3⟩ : ∃ b3, b3 = w2.heap.size := ⟨_, rfl⟩
 rw [← hb3] at B5 ne5 ne54 ne45 hle5 ⊢
 clear hb3
 go_loopw [] (fun wr => PieceAt w b3 g lo S R wr) (fun wr => S.size + 200 - atR wr g)
 case atStart => exact ⟨p0, st0, S.size + 2, k, a, b, c, d', A, n, cp, HR, hp0, fun _ => by omega, by omega, h3, hC3, B5, B4, hF4⟩
 case round =>
  clear hp0 hb0 HR HAT HD hC3 B5 B4 hF4 h3 hgw
  obtain ⟨p, st1, f, k, a, b, c, d', A, n, cp, HO, hp, hfu, hat, h1, hC, B5, B4, hF⟩ := hrel
  have HM : Hid (atR wr g = st1.at_) := h1.atR
  by_cases hb : st1.bad = 0
  ·have hbi : ((st1.bad : Int) == 0) = true := by rw [hb]; rfl
   have c3 : wr.cell? ⟨g, 3, none⟩ = some (.int .i64 (st1.bad : Int)) := h1.c3
   have hfu := hfu hb
   cases hx : S.data.toList[st1.at_]? with
   | none =>
    have hle := str_none S _ hx
    have HR2 : Hid (R = (p, st1)) := by
     show _ = _
     rw [← HO.out, signs_end _ _ _ _ hx]
    clear hx HO hb
    go_wp2_with fail
    refine (more_no g S st1 wr h1 hle hs).mono ?_
    rintro e wt ⟨rfl, hl5⟩
    have h5 := h1.later hl5
    have X5 := blkL hl5 B5
    have X4 := blkL hl5 B4
    have hFt := frL hF hl5
    have hCt := hC.later hl5
    clear h1 B5 B4 hF hC c3
    obtain ⟨z0, z1, z2, z3, z4, z5, z6, z7, z8, y0, y1, y2, y3, y4, y5, y6, y7, y8⟩ := cells9 X4
    obtain ⟨u0, u1, u2, u3, u4, u5, u6, u7, u8, -⟩ := cells9 X5
    go_wp2_with fail
    refine bodyPost_ret (v := .agg #[.int .i64 k, .int .u64 a, .int .u64 b, .int .u64 c, .int .u64 d', .slice A n cp, .int .i64 (p.deep : Int), .int .i64 (p.leaves : Int), .bool p.big]) (by simp [results, Tryz.results100, go_sem, z0, z1, z2, z3, z4, z5, z6, z7, z8]) rfl ?_
    exact RetPcS.store9 HR2.out X4 hCt h5 hFt (Nat.le_refl _)
   | some x =>
    obtain ⟨hi, he⟩ := str_get S _ x hx
    have hx255 := x.toNat_lt
    have HX := Lib.hid hx
    have HB := Lib.hid hb
    have hii : (st1.at_ : Int) < (S.size : Int) := by omega
    obtain ⟨f', rfl⟩ : ∃ f', f = f' + 1 := ⟨f - 1, by omega⟩
    clear hx hb
    go_wp2_with fail
    refine (more_yes g S st1 wr h1 hi hs).mono ?_
    rintro e w5 ⟨rfl, hl5⟩
    have h5 := h1.later hl5
    have X5 := blkL hl5 B5
    have X4 := blkL hl5 B4
    have hFt := frL hF hl5
    have hCt := hC.later hl5
    clear h1 B5 B4 hF hC c3 hl5
    have k0 : ∀ x : LW w5, x.val.cell? ⟨g, 0, none⟩ = some (.string S) := LW.cell_ h5.c0
    have k1 : ∀ x : LW w5, x.val.cell? ⟨g, 1, none⟩ = some (.int .i64 (st1.at_ : Int)) := LW.cell_ h5.c1
    have eq0 : ∀ q : Nat, x.toNat = q → ((S[st1.at_].toNat : Int) == (q : Int)) = true := fun q hq => by rw [he, hq]; exact beq_self_eq_true _
    have eq1 : ∀ q : Nat, x.toNat ≠ q → ((S[st1.at_].toNat : Int) == (q : Int)) = false := fun q hq => by rw [he, beq_eq_false_iff_ne]; omega
    have EQ0 := Lib.hid eq0
    have EQ1 := Lib.hid eq1
    clear eq0 eq1 he
    go_wp2_with fail
    refine wp_region_laterq (by kernel_rfl) (by kernel_rfl) ?_
    repeat (go_big_quiet_step (fail))
    refine wpQuiet_nil ?_
    intro _ hwq
    obtain ⟨xz, rfl⟩ := hwq
    have hl6 := xz.later
    obtain ⟨wt, hwt⟩ : ∃ wt, wt = xz.val := ⟨_, rfl⟩
    rw [← hwt] at hl6 ⊢
    have h1 := h5.later hl6
    have B5 := blkL hl6 X5
    have B4 := blkL hl6 X4
    have hF := frL hFt hl6
    have hC := hCt.later hl6
    clear h5 X5 X4 hFt hCt k0 k1 hwt hl6
    clear xz
    obtain ⟨u0, u1, u2, u3, u4, u5, u6, u7, u8, v0, v1, v2, v3, v4, v5, v6, v7, v8⟩ := cells9 B5
    have hex : x.toNat = 42 ∨ x.toNat = 43 ∨ x.toNat = 63 ∨ x.toNat = 123 ∨ (x.toNat ≠ 42 ∧ x.toNat ≠ 43 ∧ x.toNat ≠ 63 ∧ x.toNat ≠ 123) := by omega
    rcases hex with hc | hc | hc | hc | ⟨hc1, hc2, hc3, hc4⟩
    ·have e42 : ((S[st1.at_].toNat : Int) == 42) = true := EQ0.out 42 (by omega)
     have HO2 : Hid (signsF S.data.toList f' (pcOne 4 p) (stAt st1 (st1.at_ + 1)) = R) := by
      show _ = _
      rw [← HO.out, signs_42 _ _ _ _ x HX.out hc HB.out]
     obtain ⟨Q, hQ⟩ : ∃ Q, Q = pcOne 4 p := ⟨_, rfl⟩
     have hQok : PcOk Q := by rw [hQ]; exact pcOne_ok 4 hp
     have hone : Calls Tryz.prog 115 #[.int .i64 4, .agg #[.int .i64 k, .int .u64 a, .int .u64 b, .int .u64 c, .int .u64 d', .slice A n cp, .int .i64 (p.deep : Int), .int .i64 (p.leaves : Int), .bool p.big]] wt (RetPc wt lo Q) := by
      rw [hQ]
      exact one_any lo 4 k a b c d' A n cp p wt hC hp (hlo.fr hF)
     rw [← hQ] at HO2
     have HONE := Lib.hid hone
     clear hQ hone hc HO
     go_wp2_with fail
     refine HONE.out.mono ?_
     rintro e w7 ⟨k1, a1, b1, c1, d1, A1, n1, cp1, rfl, hr7, hl7⟩
     have h7 := h1.later hl7
     have D5 := blkL hl7 B5
     have D4 := blkL hl7 B4
     have hF7 := frL hF hl7
     clear h1 B5 B4 hF hC HONE u0 u1 u2 u3 u4 u5 u6 u7 u8 v0 v1 v2 v3 v4 v5 v6 v7 v8
     obtain ⟨u0, u1, u2, u3, u4, u5, u6, u7, u8, v0, v1, v2, v3, v4, v5, v6, v7, v8⟩ := cells9 D5
     go_upto_region 7 with fail
     obtain ⟨W8, hW8⟩ : ∃ W8, W8 = set9 w7 b3 (.int .i64 k1) (.int .u64 a1) (.int .u64 b1) (.int .u64 c1) (.int .u64 d1) (.slice A1 n1 cp1) (.int .i64 (Q.deep : Int)) (.int .i64 (Q.leaves : Int)) (.bool Q.big) := ⟨_, rfl⟩
     have f9 : Fr w7 W8 (fun k => k = b3) := by rw [hW8]; exact Fr.set9 b3 _ _ _ _ _ _ _ _ _
     have G5 : Blk W8 b3 117 #[.int .i64 k1, .int .u64 a1, .int .u64 b1, .int .u64 c1, .int .u64 d1, .slice A1 n1 cp1, .int .i64 (Q.deep : Int), .int .i64 (Q.leaves : Int), .bool Q.big] := by rw [hW8]; exact D5.set9
     have h8 : RdC W8 g S st1 := Blk.fr h7 f9 (fun e => ne5 e.symm)
     have G4 : Blk W8 w.heap.size 117 #[.int .i64 0, .int .u64 0, .int .u64 0, .int .u64 0, .int .u64 0, .slice none 0 0, .int .i64 0, .int .i64 0, .bool false] := Blk.fr D4 f9 ne45
     have hF8 : Fr w W8 (fun k => k = g) := hF7.trans f9 (fun k hk e => by omega)
     have hC8 : ReC W8 lo Q.re ⟨k1, a1, b1, c1, d1, A1, n1, cp1⟩ := ReC.fr f9 (spares_blk lo D5 (by decide)) _ hr7
     unfold set9 at hW8
     rw [← hW8]
     clear hW8 f9 D5 D4 h7 hF7 hr7 u0 u1 u2 u3 u4 u5 u6 u7 u8 v0 v1 v2 v3 v4 v5 v6 v7 v8
     have q1 := h8.c1
     have f1 := h8.f 1
     have hm1 := h8.atR
     go_wp2_with fail
     have h9 := h8.setAt (st1.at_ + 1) ((st1.at_ : Int) + 1) (by omega)
     have hm2 := h9.atR
     go_roundw
     case rel => exact ⟨Q, stAt st1 (st1.at_ + 1), f', k1, a1, b1, c1, d1, A1, n1, cp1, HO2, hQok, fun _ => by show _ ≤ f' + (st1.at_ + 1); omega, by show st1.at_ + 1 ≤ _; omega, h9, ReC.fr (frG (i := 1) (Fr.refl W8 (fun k => k = g)) _) (h8.spares lo) _ hC8, G5.far (p := ⟨g, 1, none⟩) ne5 _, G4.far (p := ⟨g, 1, none⟩) ne4 _, frG (i := 1) hF8 _⟩
     case measure => rw [hm2]; have hm0 := HM.out; rw [hm0]; show _ - (st1.at_ + 1) < _; omega
    ·have e42 : ((S[st1.at_].toNat : Int) == 42) = false := EQ1.out 42 (by omega)
     have e43 : ((S[st1.at_].toNat : Int) == 43) = true := EQ0.out 43 (by omega)
     have HO2 : Hid (signsF S.data.toList f' (pcOne 5 p) (stAt st1 (st1.at_ + 1)) = R) := by
      show _ = _
      rw [← HO.out, signs_43 _ _ _ _ x HX.out hc HB.out]
     obtain ⟨Q, hQ⟩ : ∃ Q, Q = pcOne 5 p := ⟨_, rfl⟩
     have hQok : PcOk Q := by rw [hQ]; exact pcOne_ok 5 hp
     have hone : Calls Tryz.prog 115 #[.int .i64 5, .agg #[.int .i64 k, .int .u64 a, .int .u64 b, .int .u64 c, .int .u64 d', .slice A n cp, .int .i64 (p.deep : Int), .int .i64 (p.leaves : Int), .bool p.big]] wt (RetPc wt lo Q) := by
      rw [hQ]
      exact one_any lo 5 k a b c d' A n cp p wt hC hp (hlo.fr hF)
     rw [← hQ] at HO2
     have HONE := Lib.hid hone
     clear hQ hone hc HO
     go_wp2_with fail
     refine HONE.out.mono ?_
     rintro e w7 ⟨k1, a1, b1, c1, d1, A1, n1, cp1, rfl, hr7, hl7⟩
     have h7 := h1.later hl7
     have D5 := blkL hl7 B5
     have D4 := blkL hl7 B4
     have hF7 := frL hF hl7
     clear h1 B5 B4 hF hC HONE u0 u1 u2 u3 u4 u5 u6 u7 u8 v0 v1 v2 v3 v4 v5 v6 v7 v8
     obtain ⟨u0, u1, u2, u3, u4, u5, u6, u7, u8, v0, v1, v2, v3, v4, v5, v6, v7, v8⟩ := cells9 D5
     go_upto_region 10 with fail
     obtain ⟨W8, hW8⟩ : ∃ W8, W8 = set9 w7 b3 (.int .i64 k1) (.int .u64 a1) (.int .u64 b1) (.int .u64 c1) (.int .u64 d1) (.slice A1 n1 cp1) (.int .i64 (Q.deep : Int)) (.int .i64 (Q.leaves : Int)) (.bool Q.big) := ⟨_, rfl⟩
     have f9 : Fr w7 W8 (fun k => k = b3) := by rw [hW8]; exact Fr.set9 b3 _ _ _ _ _ _ _ _ _
     have G5 : Blk W8 b3 117 #[.int .i64 k1, .int .u64 a1, .int .u64 b1, .int .u64 c1, .int .u64 d1, .slice A1 n1 cp1, .int .i64 (Q.deep : Int), .int .i64 (Q.leaves : Int), .bool Q.big] := by rw [hW8]; exact D5.set9
     have h8 : RdC W8 g S st1 := Blk.fr h7 f9 (fun e => ne5 e.symm)
     have G4 : Blk W8 w.heap.size 117 #[.int .i64 0, .int .u64 0, .int .u64 0, .int .u64 0, .int .u64 0, .slice none 0 0, .int .i64 0, .int .i64 0, .bool false] := Blk.fr D4 f9 ne45
     have hF8 : Fr w W8 (fun k => k = g) := hF7.trans f9 (fun k hk e => by omega)
     have hC8 : ReC W8 lo Q.re ⟨k1, a1, b1, c1, d1, A1, n1, cp1⟩ := ReC.fr f9 (spares_blk lo D5 (by decide)) _ hr7
     unfold set9 at hW8
     rw [← hW8]
     clear hW8 f9 D5 D4 h7 hF7 hr7 u0 u1 u2 u3 u4 u5 u6 u7 u8 v0 v1 v2 v3 v4 v5 v6 v7 v8
     have q1 := h8.c1
     have f1 := h8.f 1
     have hm1 := h8.atR
     go_wp2_with fail
     have h9 := h8.setAt (st1.at_ + 1) ((st1.at_ : Int) + 1) (by omega)
     have hm2 := h9.atR
     go_roundw
     case rel => exact ⟨Q, stAt st1 (st1.at_ + 1), f', k1, a1, b1, c1, d1, A1, n1, cp1, HO2, hQok, fun _ => by show _ ≤ f' + (st1.at_ + 1); omega, by show st1.at_ + 1 ≤ _; omega, h9, ReC.fr (frG (i := 1) (Fr.refl W8 (fun k => k = g)) _) (h8.spares lo) _ hC8, G5.far (p := ⟨g, 1, none⟩) ne5 _, G4.far (p := ⟨g, 1, none⟩) ne4 _, frG (i := 1) hF8 _⟩
     case measure => rw [hm2]; have hm0 := HM.out; rw [hm0]; show _ - (st1.at_ + 1) < _; omega
    ·have e42 : ((S[st1.at_].toNat : Int) == 42) = false := EQ1.out 42 (by omega)
     have e43 : ((S[st1.at_].toNat : Int) == 43) = false := EQ1.out 43 (by omega)
     have e63 : ((S[st1.at_].toNat : Int) == 63) = true := EQ0.out 63 (by omega)
     have HO2 : Hid (signsF S.data.toList f' (pcOne 6 p) (stAt st1 (st1.at_ + 1)) = R) := by
      show _ = _
      rw [← HO.out, signs_63 _ _ _ _ x HX.out hc HB.out]
     obtain ⟨Q, hQ⟩ : ∃ Q, Q = pcOne 6 p := ⟨_, rfl⟩
     have hQok : PcOk Q := by rw [hQ]; exact pcOne_ok 6 hp
     have hone : Calls Tryz.prog 115 #[.int .i64 6, .agg #[.int .i64 k, .int .u64 a, .int .u64 b, .int .u64 c, .int .u64 d', .slice A n cp, .int .i64 (p.deep : Int), .int .i64 (p.leaves : Int), .bool p.big]] wt (RetPc wt lo Q) := by
      rw [hQ]
      exact one_any lo 6 k a b c d' A n cp p wt hC hp (hlo.fr hF)
     rw [← hQ] at HO2
     have HONE := Lib.hid hone
     clear hQ hone hc HO
     go_wp2_with fail
     refine HONE.out.mono ?_
     rintro e w7 ⟨k1, a1, b1, c1, d1, A1, n1, cp1, rfl, hr7, hl7⟩
     have h7 := h1.later hl7
     have D5 := blkL hl7 B5
     have D4 := blkL hl7 B4
     have hF7 := frL hF hl7
     clear h1 B5 B4 hF hC HONE u0 u1 u2 u3 u4 u5 u6 u7 u8 v0 v1 v2 v3 v4 v5 v6 v7 v8
     obtain ⟨u0, u1, u2, u3, u4, u5, u6, u7, u8, v0, v1, v2, v3, v4, v5, v6, v7, v8⟩ := cells9 D5
     go_upto_region 13 with fail
     obtain ⟨W8, hW8⟩ : ∃ W8, W8 = set9 w7 b3 (.int .i64 k1) (.int .u64 a1) (.int .u64 b1) (.int .u64 c1) (.int .u64 d1) (.slice A1 n1 cp1) (.int .i64 (Q.deep : Int)) (.int .i64 (Q.leaves : Int)) (.bool Q.big) := ⟨_, rfl⟩
     have f9 : Fr w7 W8 (fun k => k = b3) := by rw [hW8]; exact Fr.set9 b3 _ _ _ _ _ _ _ _ _
     have G5 : Blk W8 b3 117 #[.int .i64 k1, .int .u64 a1, .int .u64 b1, .int .u64 c1, .int .u64 d1, .slice A1 n1 cp1, .int .i64 (Q.deep : Int), .int .i64 (Q.leaves : Int), .bool Q.big] := by rw [hW8]; exact D5.set9
     have h8 : RdC W8 g S st1 := Blk.fr h7 f9 (fun e => ne5 e.symm)
     have G4 : Blk W8 w.heap.size 117 #[.int .i64 0, .int .u64 0, .int .u64 0, .int .u64 0, .int .u64 0, .slice none 0 0, .int .i64 0, .int .i64 0, .bool false] := Blk.fr D4 f9 ne45
     have hF8 : Fr w W8 (fun k => k = g) := hF7.trans f9 (fun k hk e => by omega)
     have hC8 : ReC W8 lo Q.re ⟨k1, a1, b1, c1, d1, A1, n1, cp1⟩ := ReC.fr f9 (spares_blk lo D5 (by decide)) _ hr7
     unfold set9 at hW8
     rw [← hW8]
     clear hW8 f9 D5 D4 h7 hF7 hr7 u0 u1 u2 u3 u4 u5 u6 u7 u8 v0 v1 v2 v3 v4 v5 v6 v7 v8
     have q1 := h8.c1
     have f1 := h8.f 1
     have hm1 := h8.atR
     go_wp2_with fail
     have h9 := h8.setAt (st1.at_ + 1) ((st1.at_ : Int) + 1) (by omega)
     have hm2 := h9.atR
     go_roundw
     case rel => exact ⟨Q, stAt st1 (st1.at_ + 1), f', k1, a1, b1, c1, d1, A1, n1, cp1, HO2, hQok, fun _ => by show _ ≤ f' + (st1.at_ + 1); omega, by show st1.at_ + 1 ≤ _; omega, h9, ReC.fr (frG (i := 1) (Fr.refl W8 (fun k => k = g)) _) (h8.spares lo) _ hC8, G5.far (p := ⟨g, 1, none⟩) ne5 _, G4.far (p := ⟨g, 1, none⟩) ne4 _, frG (i := 1) hF8 _⟩
     case measure => rw [hm2]; have hm0 := HM.out; rw [hm0]; show _ - (st1.at_ + 1) < _; omega
    ·exact absurd (show x.toNat = 123 by omega) (Txt.n123 (S := S) _ x HX.out)
    ·have e42 : ((S[st1.at_].toNat : Int) == 42) = false := EQ1.out 42 (by omega)
     have e43 : ((S[st1.at_].toNat : Int) == 43) = false := EQ1.out 43 (by omega)
     have e63 : ((S[st1.at_].toNat : Int) == 63) = false := EQ1.out 63 (by omega)
     have e123 : ((S[st1.at_].toNat : Int) == 123) = false := EQ1.out 123 (by omega)
     have HR2 : Hid (R = (p, st1)) := by
      show _ = _
      rw [← HO.out, signs_other _ _ _ _ x HX.out hc1 hc2 hc3 hc4]
     have h5 := h1
     have X5 := B5
     have X4 := B4
     have hFt := hF
     have hCt := hC
     clear HO h1 B5 B4 hF hC hc1 hc2 hc3 hc4 v0 v1 v2 v3 v4 v5 v6 v7 v8 u0 u1 u2 u3 u4 u5 u6 u7 u8
     obtain ⟨z0, z1, z2, z3, z4, z5, z6, z7, z8, y0, y1, y2, y3, y4, y5, y6, y7, y8⟩ := cells9 X4
     obtain ⟨u0, u1, u2, u3, u4, u5, u6, u7, u8, -⟩ := cells9 X5
     go_wp2_with fail
     refine bodyPost_ret (v := .agg #[.int .i64 k, .int .u64 a, .int .u64 b, .int .u64 c, .int .u64 d', .slice A n cp, .int .i64 (p.deep : Int), .int .i64 (p.leaves : Int), .bool p.big]) (by simp [results, Tryz.results100, go_sem, z0, z1, z2, z3, z4, z5, z6, z7, z8]) rfl ?_
     exact RetPcS.store9 HR2.out X4 hCt h5 hFt (Nat.le_refl _)
  ·have hbi : ((st1.bad : Int) == 0) = false := by rw [beq_eq_false_iff_ne]; omega
   have c3 : wr.cell? ⟨g, 3, none⟩ = some (.int .i64 (st1.bad : Int)) := h1.c3
   have HR2 : Hid (R = (p, st1)) := by
    show _ = _
    rw [← HO.out, signs_bad _ _ _ _ hb]
   have h5 := h1
   have X5 := B5
   have X4 := B4
   have hFt := hF
   have hCt := hC
   clear HO h1 B5 B4 hF hC hb
   obtain ⟨z0, z1, z2, z3, z4, z5, z6, z7, z8, y0, y1, y2, y3, y4, y5, y6, y7, y8⟩ := cells9 X4
   obtain ⟨u0, u1, u2, u3, u4, u5, u6, u7, u8, -⟩ := cells9 X5
   go_wp2_with fail
   refine bodyPost_ret (v := .agg #[.int .i64 k, .int .u64 a, .int .u64 b, .int .u64 c, .int .u64 d', .slice A n cp, .int .i64 (p.deep : Int), .int .i64 (p.leaves : Int), .bool p.big]) (by simp [results, Tryz.results100, go_sem, z0, z1, z2, z3, z4, z5, z6, z7, z8]) rfl ?_
   exact RetPcS.store9 HR2.out X4 hCt h5 hFt (Nat.le_refl _)
end Go.Proofs.YtmkddhkpeiajhaaGreatDoor
