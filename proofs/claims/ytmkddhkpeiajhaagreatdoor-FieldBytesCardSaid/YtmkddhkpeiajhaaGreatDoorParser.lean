import Derived.Test.YtmkddhkpeiajhaaGreatDoorPieces
import Derived.Test.YtmkddhkpeiajhaaGreatDoorAtom
import Derived.Test.YtmkddhkpeiajhaaGreatDoorShaped
import Derived.Test.YtmkddhkpeiajhaaGreatDoorStepLaw
namespace Go.Proofs.YtmkddhkpeiajhaaGreatDoor
open Go.RowKit
theorem alterC (S : ByteArray) [Txt S] (hs : S.size ≤ 999999990) : ∀ d, d ≤ 11 → AltC S d
 | 0, _ => fun _ _ st _ _ hD _ => by have := hD.deep; have := hD.op; omega
 | d + 1, hd => by
  have ih := alterC S hs d (by omega)
  have hat := atomR_any S d (by omega) (by omega) ih
  have hpi := pieceR_any S d (by omega) (by omega) hat
  have hpr := piece_res S.data.toList d (6 + d) (by omega) _ (alt_res S.data.toList d)
  have hps := piecesR_any S (d + 1) (6 + d + 1) (by omega) hs _ hpr hpi
  have hsr := pieces_res S.data.toList (d + 1) (6 + d + 1) _ hpr
  exact alterR_any S (d + 1) (6 + d + 1) (by omega) hs _ hsr hps
theorem parse_nil {s : List UInt8} (h : s.length = 0) : parseF s = (tEmpty, 0, 0) := by unfold parseF; rw [if_pos h]
theorem parse_bad {s : List UInt8} {p : Pc} {st : St} (h : s.length ≠ 0) (ha : altF s 11 st0 = (p, st)) (hb : st.bad ≠ 0) : parseF s = (tEmpty, st.fr, st.bad) := by
 unfold parseF
 rw [if_neg h, ha]
 simp only [hb, false_and, if_false]
theorem parse_more {s : List UInt8} {p : Pc} {st : St} (h : s.length ≠ 0) (ha : altF s 11 st0 = (p, st)) (hb : st.bad = 0) (hm : st.at_ < s.length) : parseF s = (tEmpty, st.at_, 24) := by
 unfold parseF
 rw [if_neg h, ha]
 simp [hb, hm, stFault]
theorem parse_no {s : List UInt8} {p : Pc} {st : St} (h : s.length ≠ 0) (ha : altF s 11 st0 = (p, st)) (hb : st.bad = 0) (hm : ¬ st.at_ < s.length) (hq : p.big = true ∨ rightT p.re = false) : parseF s = (tEmpty, 0, 24) := by
 unfold parseF
 rw [if_neg h, ha]
 simp [hb, hm, stFault, hq]
theorem parse_yes {s : List UInt8} {p : Pc} {st : St} (h : s.length ≠ 0) (ha : altF s 11 st0 = (p, st)) (hb : st.bad = 0) (hm : ¬ st.at_ < s.length) (hq : p.big = false) (hr : rightT p.re = true) : parseF s = (p.re, 0, 0) := by
 unfold parseF
 rw [if_neg h, ha]
 simp [hb, hm, hq, hr]
def RetParse (w : World) (lo : Nat → Prop) (R : Tree × Nat × Nat) (e : Ending) (w' : World) : Prop :=
 ∃ (k a b c d : Int) (A : Option Addr) (n cp : Nat), e = .returned (.tuple #[.agg #[.int .i64 k, .int .u64 a, .int .u64 b, .int .u64 c, .int .u64 d, .slice A n cp], .int .i64 (R.2.1 : Int), .int .i64 (R.2.2 : Int)]) ∧ ReC w' lo R.1 ⟨k, a, b, c, d, A, n, cp⟩ ∧ Later w w'
theorem RetParse.none_ {w w' : World} {lo : Nat → Prop} {R : Tree × Nat × Nat} {x y : Nat} (hR : R = (tEmpty, x, y)) (hl : Later w w') : RetParse w lo R (.returned (.tuple #[.agg #[.int .i64 0, .int .u64 0, .int .u64 0, .int .u64 0, .int .u64 0, .slice none 0 0], .int .i64 (x : Int), .int .i64 (y : Int)])) w' := by
 subst hR
 exact ⟨0, 0, 0, 0, 0, none, 0, 0, rfl, ReC.leaf w' lo 0 z4 none 0, hl⟩
set_option maxRecDepth 100000 in
set_option maxHeartbeats 8000000 in
theorem parse_any (S : ByteArray) [Txt S] (lo : Nat → Prop) (w : World) (hs : S.size ≤ 999999990) (hlo : Up w lo) :
  Calls Tryz.prog 55 #[.string S] w (RetParse w lo (parseF S.data.toList)) := by
 obtain ⟨R, hR⟩ : ∃ R, R = parseF S.data.toList := ⟨_, rfl⟩
 rw [← hR]
 by_cases hz : S.size = 0
 ·have HR : Hid (R = (tEmpty, 0, 0)) := hR.trans (parse_nil (by rw [len_eq]; exact hz))
  obtain rfl : S = ⟨#[]⟩ := ByteArray.ext (Array.eq_empty_of_size_eq_zero hz)
  clear hR hz hs
  go_enter Tryz.func55, Tryz.ntmps55
  go_wp2_with fail
  exact bodyPost_ret (v := .tuple #[.agg #[.int .i64 0, .int .u64 0, .int .u64 0, .int .u64 0, .int .u64 0, .slice none 0 0], .int .i64 0, .int .i64 0]) (by simp [results, Tryz.results55, go_sem]) rfl (RetParse.none_ HR.out ((Later.refl w).alloc _))
 ·have hz2 : S.data.toList.length ≠ 0 := by rw [len_eq]; exact hz
  have hS0 : S.toList.isEmpty = false := by
   have hb : S = bstr S.data.toList := rfl
   rw [hb, bstr_toList]
   cases hq : S.data.toList with
   | nil => rw [hq] at hz2; exact absurd rfl hz2
   | cons _ _ => rfl
  obtain ⟨lo2, hlo2⟩ : ∃ lo2 : Nat → Prop, lo2 = fun k => lo k ∧ k ≠ w.heap.size := ⟨_, rfl⟩
  have HLO := Lib.hid hlo2
  obtain ⟨p, st1, ha⟩ : ∃ p st1, altF S.data.toList 11 st0 = (p, st1) := ⟨_, _, rfl⟩
  have HR := Lib.hid hR
  have HZ : Hid (S.data.toList.length ≠ 0) := hz2
  have HA := Lib.hid ha
  have HC : Hid (∀ (w2 : World), RdC w2 (w.heap.size + 1) S st0 → Later w w2 → w.heap.size < w2.heap.size → Calls Tryz.prog 64 #[.pointer (some ⟨w.heap.size + 1, 0, none⟩)] w2 (RetPcS w2 (w.heap.size + 1) lo2 S (p, st1))) := fun w2 hr hl hlt => by
   have := alterC S hs 11 (by omega) lo2 (w.heap.size + 1) st0 w2 hr ⟨rfl, Nat.zero_le _, by show 0 ≤ 10; omega, by show 11 ≤ 11 + 0; omega⟩ (fun k hk => by rw [hlo2]; exact ⟨hlo.later hl k hk, by omega⟩)
   rw [ha] at this
   exact this
  have HOK : Hid (PcOk p) := by
   have := alt_res S.data.toList 11 st0 ⟨rfl, Nat.zero_le _, by show 0 ≤ 10; omega, by show 11 ≤ 11 + 0; omega⟩
   rw [ha] at this
   exact this.ok
  have hs' : S.size ≤ 1000000000 := by omega
  clear hR hz hz2 ha hlo2
  go_enter Tryz.func55, Tryz.ntmps55
  go_upto_region 4 with fail
  obtain ⟨W1, hW1⟩ : ∃ W1, W1 = (w.alloc (.cells #[.int .i64 0, .int .u64 0, .int .u64 0, .int .u64 0, .int .u64 0, .slice none 0 0] 98)).alloc (.cells #[.string S, .int .i64 0, .int .i64 0, .int .i64 0, .int .i64 0] 115) := ⟨_, rfl⟩
  have B2 : Blk W1 w.heap.size 98 #[.int .i64 0, .int .u64 0, .int .u64 0, .int .u64 0, .int .u64 0, .slice none 0 0] := by rw [hW1]; exact (Blk.new w _ _).alloc _
  have h1 : RdC W1 (w.heap.size + 1) S st0 := by rw [hW1]; exact blk_at (by simp)
  have hl1 : Later w W1 := by rw [hW1]; exact ((Later.refl w).alloc _).alloc _
  rw [← hW1]
  clear hW1
  go_wp2_with fail
  refine (HC.out _ h1 hl1 B2.lt).mono ?_
  rintro e w2 ⟨k, a, b, c, d, A, n, cp, rfl, hC, h2, hF2⟩
  obtain ⟨g, hg⟩ : ∃ g, g = w.heap.size + 1 := ⟨_, rfl⟩
  rw [← hg] at h1 h2 hF2 ⊢
  have neg : w.heap.size ≠ g := by omega
  have ngg : ¬ w.heap.size = g := neg
  have ngg2 : ¬ g = w.heap.size := fun e => neg e.symm
  have D2 := blkF hF2 neg B2
  have hF0 : Fr w w2 (fun k => k = g) := (Fr.later hl1).trans hF2 (fun _ _ h => h)
  have HG := Lib.hid hg
  clear h1 B2 HC hF2 hl1 hg
  go_upto_region 5 with fail
  obtain ⟨W3, hW3⟩ : ∃ W3, W3 = w2.alloc (.cells #[.int .i64 k, .int .u64 a, .int .u64 b, .int .u64 c, .int .u64 d, .slice A n cp, .int .i64 (p.deep : Int), .int .i64 (p.leaves : Int), .bool p.big] 117) := ⟨_, rfl⟩
  obtain ⟨gp, hgp⟩ : ∃ gp, gp = w2.heap.size := ⟨_, rfl⟩
  have B6 : Blk W3 gp 117 #[.int .i64 k, .int .u64 a, .int .u64 b, .int .u64 c, .int .u64 d, .slice A n cp, .int .i64 (p.deep : Int), .int .i64 (p.leaves : Int), .bool p.big] := by rw [hW3, hgp]; exact Blk.new w2 _ _
  have hl3 : Later w2 W3 := by rw [hW3]; exact (Later.refl w2).alloc _
  have nep : gp ≠ g := by have := h2.lt; omega
  have h := h2.later hl3
  have B2 := blkL hl3 D2
  have hF := frL hF0 hl3
  have hC := hC.later hl3
  rw [← hW3, ← hgp]
  clear hW3 hl3 h2 D2 hF0 hgp
  by_cases hb : st1.bad = 0
  ·have HB := Lib.hid hb
   have hbi : ((st1.bad : Int) == 0) = true := by rw [hb]; rfl
   have c3 : W3.cell? ⟨g, 3, none⟩ = some (.int .i64 (st1.bad : Int)) := h.c3
   clear hb
   by_cases hm : st1.at_ < S.size
   ·obtain ⟨st5, hst5⟩ : ∃ st5, st5 = stFault 24 st1.at_ st1 := ⟨_, rfl⟩
    have hst6 : st5 = ⟨st1.at_, st1.op, 24, st1.at_⟩ := by rw [hst5]; exact if_pos HB.out
    have HB5 : Hid (st5.bad ≠ 0) := by show _ ≠ _; rw [hst6]; show (24 : Nat) ≠ 0; decide
    have HS5 := Lib.hid hst5
    have HRE : Hid (R = (tEmpty, st5.fr, st5.bad)) := by
     show _ = _
     rw [HR.out, parse_more HZ.out HA.out HB.out (by rw [len_eq]; exact hm), hst6]
    clear hst5 hst6
    go_wp2_with fail
    refine (more_yes g S st1 W3 h hm hs').mono ?_
    rintro e w4 ⟨rfl, hl4⟩
    have h4 := h.later hl4
    have X2 := blkL hl4 B2
    have X6 := blkL hl4 B6
    have hCt := hC.later hl4
    have hFt := frL hF hl4
    clear h B2 B6 hC hF c3 hl4
    have c1 : w4.cell? ⟨g, 1, none⟩ = some (.int .i64 (st1.at_ : Int)) := h4.c1
    go_wp2_with fail
    refine (faultR_any g S st1 _ _ st1.at_ 24 w4 h4 rfl rfl).mono ?_
    rintro e wt ⟨rfl, h5, hf9⟩
    rw [← HS5.out] at h5
    have X2 := blkF hf9 neg X2
    have X6 := blkF hf9 nep X6
    have hFt := frF hFt hf9
    have hCt := ReC.fr hf9 (h4.spares lo2) _ hCt
    clear c1 h4 hf9 hbi
    have hbn : ((st5.bad : Int) == 0) = false := by rw [beq_eq_false_iff_ne]; have := HB5.out; omega
    have hbz : ((st5.bad : Int) != 0) = true := by rw [bne, hbn]; rfl
    have c3 : wt.cell? ⟨g, 3, none⟩ = some (.int .i64 (st5.bad : Int)) := h5.c3
    have c4 : wt.cell? ⟨g, 4, none⟩ = some (.int .i64 (st5.fr : Int)) := h5.c4
    obtain ⟨z0, z1, z2, z3, z4, z5, y0, y1, y2, y3, y4, y5⟩ := cells6 X2
    have hlt : Later w wt := Fr.none_ hFt (fun k hk e => by have := HG.out; omega)
    clear h5 X6 hCt hFt X2
    go_wp2_with fail
    go_region
    all_goals
     go_wp2_with fail
     refine bodyPost_ret (v := .tuple #[.agg #[.int .i64 0, .int .u64 0, .int .u64 0, .int .u64 0, .int .u64 0, .slice none 0 0], .int .i64 (st5.fr : Int), .int .i64 (st5.bad : Int)]) (by simp [results, Tryz.results55, go_sem, z0, z1, z2, z3, z4, z5]) rfl ?_
     exact RetParse.none_ HRE.out (by repeat (first | (with_reducible exact hlt) | (with_reducible apply Later.drew) | (with_reducible refine Later.setCell ?_ (Nat.le_refl w.heap.size) _)))
   ·have hle : S.size ≤ st1.at_ := by omega
    have HM : Hid (¬ st1.at_ < S.data.toList.length) := by show ¬ _; rw [len_eq]; exact hm
    clear hm
    go_wp2_with fail
    refine (more_no g S st1 W3 h hle hs').mono ?_
    rintro e w4 ⟨rfl, hl4⟩
    have h4 := h.later hl4
    have X2 := blkL hl4 B2
    have X6 := blkL hl4 B6
    have hCt := hC.later hl4
    have hFt := frL hF hl4
    clear h B2 B6 hC hF c3 hl4
    have c3 : w4.cell? ⟨g, 3, none⟩ = some (.int .i64 (st1.bad : Int)) := h4.c3
    obtain ⟨u0, u1, u2, u3, u4, u5, u6, u7, u8, -⟩ := cells9 X6
    cases hbig : p.big with
    | true =>
     obtain ⟨st5, hst5⟩ : ∃ st5, st5 = stFault 24 0 st1 := ⟨_, rfl⟩
     have hst6 : st5 = ⟨st1.at_, st1.op, 24, 0⟩ := by rw [hst5]; exact if_pos HB.out
     have HB5 : Hid (st5.bad ≠ 0) := by show _ ≠ _; rw [hst6]; show (24 : Nat) ≠ 0; decide
     have HS5 := Lib.hid hst5
     have HRE : Hid (R = (tEmpty, st5.fr, st5.bad)) := by
      show _ = _
      rw [HR.out, parse_no HZ.out HA.out HB.out HM.out (.inl hbig), hst6]
     rw [hbig] at u8
     clear hst5 hst6
     go_wp2_with fail
     refine (faultR_any g S st1 _ _ 0 24 w4 h4 rfl rfl).mono ?_
     rintro e wt ⟨rfl, h5, hf9⟩
     rw [← HS5.out] at h5
     have X2 := blkF hf9 neg X2
     have X6 := blkF hf9 nep X6
     have hFt := frF hFt hf9
     have hCt := ReC.fr hf9 (h4.spares lo2) _ hCt
     clear h4 hf9 c3 u0 u1 u2 u3 u4 u5 u6 u7 u8 hbi
     have hbn : ((st5.bad : Int) == 0) = false := by rw [beq_eq_false_iff_ne]; have := HB5.out; omega
     have hbz : ((st5.bad : Int) != 0) = true := by rw [bne, hbn]; rfl
     have c3 : wt.cell? ⟨g, 3, none⟩ = some (.int .i64 (st5.bad : Int)) := h5.c3
     have c4 : wt.cell? ⟨g, 4, none⟩ = some (.int .i64 (st5.fr : Int)) := h5.c4
     obtain ⟨z0, z1, z2, z3, z4, z5, y0, y1, y2, y3, y4, y5⟩ := cells6 X2
     have hlt : Later w wt := Fr.none_ hFt (fun k hk e => by have := HG.out; omega)
     clear h5 X6 hCt hFt X2
     go_wp2_with fail
     go_region
     all_goals
      go_wp2_with fail
      refine bodyPost_ret (v := .tuple #[.agg #[.int .i64 0, .int .u64 0, .int .u64 0, .int .u64 0, .int .u64 0, .slice none 0 0], .int .i64 (st5.fr : Int), .int .i64 (st5.bad : Int)]) (by simp [results, Tryz.results55, go_sem, z0, z1, z2, z3, z4, z5]) rfl ?_
      exact RetParse.none_ HRE.out (by repeat (first | (with_reducible exact hlt) | (with_reducible apply Later.drew) | (with_reducible refine Later.setCell ?_ (Nat.le_refl w.heap.size) _)))
    | false =>
     rw [hbig] at u8
     cases hrt : rightT p.re with
     | false =>
      obtain ⟨st5, hst5⟩ : ∃ st5, st5 = stFault 24 0 st1 := ⟨_, rfl⟩
      have hst6 : st5 = ⟨st1.at_, st1.op, 24, 0⟩ := by rw [hst5]; exact if_pos HB.out
      have HB5 : Hid (st5.bad ≠ 0) := by show _ ≠ _; rw [hst6]; show (24 : Nat) ≠ 0; decide
      have HS5 := Lib.hid hst5
      have HRE : Hid (R = (tEmpty, st5.fr, st5.bad)) := by
       show _ = _
       rw [HR.out, parse_no HZ.out HA.out HB.out HM.out (.inr hrt), hst6]
      have hrc := right_any p.re lo2 k a b c d A n cp w4 hCt
      rw [hrt] at hrc
      have HRC := Lib.hid hrc
      clear hst5 hst6 hrt hrc
      go_wp2_with fail
      refine HRC.out.mono ?_
      rintro e w5 ⟨rfl, hl5⟩
      have h4 := h4.later hl5
      have X2 := blkL hl5 X2
      have X6 := blkL hl5 X6
      have hCt := hCt.later hl5
      have hFt := frL hFt hl5
      clear hl5 c3 u0 u1 u2 u3 u4 u5 u6 u7 u8
      go_wp2_with fail
      refine (faultR_any g S st1 _ _ 0 24 w5 h4 rfl rfl).mono ?_
      rintro e wt ⟨rfl, h5, hf9⟩
      rw [← HS5.out] at h5
      have X2 := blkF hf9 neg X2
      have X6 := blkF hf9 nep X6
      have hFt := frF hFt hf9
      have hCt := ReC.fr hf9 (h4.spares lo2) _ hCt
      clear h4 hf9 hbi
      have hbn : ((st5.bad : Int) == 0) = false := by rw [beq_eq_false_iff_ne]; have := HB5.out; omega
      have hbz : ((st5.bad : Int) != 0) = true := by rw [bne, hbn]; rfl
      have c3 : wt.cell? ⟨g, 3, none⟩ = some (.int .i64 (st5.bad : Int)) := h5.c3
      have c4 : wt.cell? ⟨g, 4, none⟩ = some (.int .i64 (st5.fr : Int)) := h5.c4
      obtain ⟨z0, z1, z2, z3, z4, z5, y0, y1, y2, y3, y4, y5⟩ := cells6 X2
      have hlt : Later w wt := Fr.none_ hFt (fun k hk e => by have := HG.out; omega)
      clear h5 X6 hCt hFt X2
      go_wp2_with fail
      go_region
      all_goals
       go_wp2_with fail
       refine bodyPost_ret (v := .tuple #[.agg #[.int .i64 0, .int .u64 0, .int .u64 0, .int .u64 0, .int .u64 0, .slice none 0 0], .int .i64 (st5.fr : Int), .int .i64 (st5.bad : Int)]) (by simp [results, Tryz.results55, go_sem, z0, z1, z2, z3, z4, z5]) rfl ?_
       exact RetParse.none_ HRE.out (by repeat (first | (with_reducible exact hlt) | (with_reducible apply Later.drew) | (with_reducible refine Later.setCell ?_ (Nat.le_refl w.heap.size) _)))
     | true =>
      have HRY : Hid (R = (p.re, 0, 0)) := HR.out.trans (parse_yes HZ.out HA.out HB.out HM.out hbig hrt)
      have hrc := right_any p.re lo2 k a b c d A n cp w4 hCt
      rw [hrt] at hrc
      have HRC := Lib.hid hrc
      have hbn : ((st1.bad : Int) != 0) = false := by rw [HB.out]; rfl
      clear hrt hrc hbig
      go_wp2_with fail
      refine HRC.out.mono ?_
      rintro e wt ⟨rfl, hl5⟩
      have h5 := h4.later hl5
      have X2 := blkL hl5 X2
      have X6 := blkL hl5 X6
      have hCt := hCt.later hl5
      have hFt := frL hFt hl5
      clear hl5 c3 u0 u1 u2 u3 u4 u5 u6 u7 u8
      have c3 : wt.cell? ⟨g, 3, none⟩ = some (.int .i64 (st1.bad : Int)) := h5.c3
      obtain ⟨u0, u1, u2, u3, u4, u5, u6, u7, u8, -⟩ := cells9 X6
      obtain ⟨z0, z1, z2, z3, z4, z5, y0, y1, y2, y3, y4, y5⟩ := cells6 X2
      have hlt : Later w wt := Fr.none_ hFt (fun k hk e => by have := HG.out; omega)
      go_wp2_with fail
      refine bodyPost_ret (v := .tuple #[.agg #[.int .i64 k, .int .u64 a, .int .u64 b, .int .u64 c, .int .u64 d, .slice A n cp], .int .i64 0, .int .i64 0]) (by simp [results, Tryz.results55, go_sem, z0, z1, z2, z3, z4, z5]) rfl ?_
      rw [HRY.out]
      exact ⟨k, a, b, c, d, A, n, cp, rfl, ReC.weaken (fun _ _ hh => by rw [HLO.out] at hh; exact hh.1) _ (ReC.fr (Fr.set6 w.heap.size _ _ _ _ _ _) (spares_not _ (fun hh => by rw [HLO.out] at hh; exact hh.2 rfl)) _ hCt), hlt.set6 (Nat.le_refl _)⟩
  ·obtain ⟨st5, hst5⟩ : ∃ st5, st5 = st1 := ⟨_, rfl⟩
   have HB5 : Hid (st5.bad ≠ 0) := by show _ ≠ _; rw [hst5]; exact hb
   have HRE : Hid (R = (tEmpty, st5.fr, st5.bad)) := by
    show _ = _
    rw [HR.out, parse_bad HZ.out HA.out hb, hst5]
   have h5 := h
   rw [← hst5] at h5
   clear hst5 hb h
   obtain ⟨wt, hwt⟩ : ∃ wt, wt = W3 := ⟨_, rfl⟩
   rw [← hwt] at h5 B2 B6 hC hF ⊢
   have X2 := B2
   have X6 := B6
   have hCt := hC
   have hFt := hF
   clear hwt B2 B6 hC hF
   have hbn : ((st5.bad : Int) == 0) = false := by rw [beq_eq_false_iff_ne]; have := HB5.out; omega
   have hbz : ((st5.bad : Int) != 0) = true := by rw [bne, hbn]; rfl
   have c3 : wt.cell? ⟨g, 3, none⟩ = some (.int .i64 (st5.bad : Int)) := h5.c3
   have c4 : wt.cell? ⟨g, 4, none⟩ = some (.int .i64 (st5.fr : Int)) := h5.c4
   obtain ⟨z0, z1, z2, z3, z4, z5, y0, y1, y2, y3, y4, y5⟩ := cells6 X2
   have hlt : Later w wt := Fr.none_ hFt (fun k hk e => by have := HG.out; omega)
   clear h5 X6 hCt hFt X2
   go_wp2_with fail
   go_region
   all_goals
    go_wp2_with fail
    refine bodyPost_ret (v := .tuple #[.agg #[.int .i64 0, .int .u64 0, .int .u64 0, .int .u64 0, .int .u64 0, .slice none 0 0], .int .i64 (st5.fr : Int), .int .i64 (st5.bad : Int)]) (by simp [results, Tryz.results55, go_sem, z0, z1, z2, z3, z4, z5]) rfl ?_
    exact RetParse.none_ HRE.out (by repeat (first | (with_reducible exact hlt) | (with_reducible apply Later.drew) | (with_reducible refine Later.setCell ?_ (Nat.le_refl w.heap.size) _)))
end Go.Proofs.YtmkddhkpeiajhaaGreatDoor
namespace Go.Proofs.YtmkddhkpeiajhaaGreatDoor
open Go.RowKit
def RetT (w : World) (lo : Nat → Prop) (t : Tree) (e : Ending) (w' : World) : Prop :=
 ∃ (k a b c d : Int) (A : Option Addr) (n cp : Nat), e = .returned (.agg #[.int .i64 k, .int .u64 a, .int .u64 b, .int .u64 c, .int .u64 d, .slice A n cp]) ∧ ReC w' lo t ⟨k, a, b, c, d, A, n, cp⟩ ∧ Later w w'
def tOne (b : Nat) : Tree := .node 1 (w4 (mOf [UInt8.ofNat b])) []
theorem boolC_one (b : Nat) (hb : b < 256) : (boolC mNone).setIfInBounds b (.bool true) = boolC (mOf [UInt8.ofNat b]) := by
 apply Array.ext_getElem?
 intro i
 rw [Array.getElem?_setIfInBounds]
 by_cases hi : i < 256
 ·rw [boolC_get _ hi, boolC_get _ hi]
  by_cases e : b = i
  ·subst e
   rw [if_pos rfl, if_pos (by rw [boolC_size]; exact hb)]
   unfold mOf
   simp [UInt8.toNat_ofNat']
   omega
  ·rw [if_neg e]
   unfold mOf mNone
   simp [UInt8.toNat_ofNat']
   omega
 ·rw [Array.getElem?_eq_none (xs := boolC (mOf _)) (by rw [boolC_size]; omega), if_neg (by omega), Array.getElem?_eq_none (by rw [boolC_size]; omega)]
set_option maxHeartbeats 2000000 in
theorem refOne_any (lo : Nat → Prop) (b : Nat) (hb : b < 256) (w : World) :
  Calls Tryz.prog 136 #[.int .u8 (b : Int)] w (RetT w lo (tOne b)) := by
 obtain ⟨hz, hsz⟩ := zero_set
 obtain ⟨m, hm⟩ : ∃ m, m = mOf [UInt8.ofNat b] := ⟨_, rfl⟩
 have hone := boolC_one b hb
 have HT : Hid (tOne b = .node 1 (w4 m) []) := by show _ = _; rw [hm]; rfl
 rw [← hm] at hone
 have HO := Lib.hid hone
 have hpk : ∀ wx : World, Calls Tryz.prog 133 #[.agg (boolC m)] wx fun e w' => e = .returned (.agg #[.int .u64 (word m 0 : Nat), .int .u64 (word m 1 : Nat), .int .u64 (word m 2 : Nat), .int .u64 (word m 3 : Nat)]) ∧ Later wx w' := fun wx => packed_any m wx
 have HPK := Lib.hid hpk
 have hbi : (b : Int) < 256 := by omega
 clear hone hm hpk
 go_enter Tryz.func136, Tryz.ntmps136
 go_upto_region 2 with fail
 obtain ⟨W1, hW1⟩ : ∃ W1, W1 = (w.alloc (.cells #[.int .i64 0, .int .u64 0, .int .u64 0, .int .u64 0, .int .u64 0, .slice none 0 0] 98)).alloc (.cells (boolC mNone) 181) := ⟨_, rfl⟩
 have B0 : Blk W1 w.heap.size 98 #[.int .i64 0, .int .u64 0, .int .u64 0, .int .u64 0, .int .u64 0, .slice none 0 0] := by rw [hW1]; exact (Blk.new w _ _).alloc _
 have B1 : Blk W1 (w.heap.size + 1) 181 (boolC mNone) := by rw [hW1]; exact blk_at (by simp)
 have hl1 : Later w W1 := by rw [hW1]; exact ((Later.refl w).alloc _).alloc _
 rw [← hW1]
 clear hW1
 have c1 : W1.cell? ⟨w.heap.size + 1, b, none⟩ = some (.bool (mNone b)) := by rw [B1.cell, boolC_get _ hb]
 have f1 := B1.frozen b
 go_upto_region 3 with fail
 obtain ⟨W2, hW2⟩ : ∃ W2, W2 = W1.setCell ⟨w.heap.size + 1, b, none⟩ (.bool true) := ⟨_, rfl⟩
 have D1 : Blk W2 (w.heap.size + 1) 181 (boolC m) := by rw [hW2, ← HO.out]; exact B1.set_ b _
 have D0 : Blk W2 w.heap.size 98 #[.int .i64 0, .int .u64 0, .int .u64 0, .int .u64 0, .int .u64 0, .slice none 0 0] := by rw [hW2]; exact B0.far (by simp) _
 have hl2 : Later w W2 := by rw [hW2]; exact Later.setCell hl1 (Nat.le_succ _) _
 rw [← hW2]
 clear hW2 c1 f1 B0 B1 hl1
 have R1 : Hid (W2.rangeAt (w.heap.size + 1) 0 (boolC m).toList) := rangeB D1
 go_wp2_with (refine wpList_load_mid (P := Tryz.prog) rfl 181 (.tmp 3) rfl (w.heap.size + 1) 0 rfl (boolC m).toList _ R1.out Tryz.underlying181 rfl (sizeB m) ?_)
 refine (HPK.out _).mono ?_
 rintro e w3 ⟨rfl, hl3⟩
 have E0 := blkL hl3 D0
 obtain ⟨z0, z1, z2, z3, z4, z5, y0, y1, y2, y3, y4, y5⟩ := cells6 E0
 go_wp2_with fail
 refine bodyPost_ret (v := .agg #[.int .i64 1, .int .u64 (word m 0 : Nat), .int .u64 (word m 1 : Nat), .int .u64 (word m 2 : Nat), .int .u64 (word m 3 : Nat), .slice none 0 0]) (by simp [results, Tryz.results136, go_sem, z0, z1, z2, z3, z4, z5]) rfl ?_
 rw [HT.out]
 exact ⟨1, _, _, _, _, none, 0, 0, rfl, ReC.leaf _ lo 1 (w4 m) none 0, (hl2.trans hl3).set6 (Nat.le_refl _)⟩
end Go.Proofs.YtmkddhkpeiajhaaGreatDoor
namespace Go.Proofs.YtmkddhkpeiajhaaGreatDoor
open Go.RowKit
end Go.Proofs.YtmkddhkpeiajhaaGreatDoor
namespace Go.Proofs.YtmkddhkpeiajhaaGreatDoor
open Go.RowKit
def octD (n : Nat) : List UInt8 := [92, UInt8.ofNat (48 + n / 64), UInt8.ofNat (48 + n / 8 % 8), UInt8.ofNat (48 + n % 8)]
end Go.Proofs.YtmkddhkpeiajhaaGreatDoor
namespace Go.Proofs.YtmkddhkpeiajhaaGreatDoor
open Go.RowKit
def okW (s : W4) : Prop := s.1 < 18446744073709551616 ∧ s.2.1 < 18446744073709551616 ∧ s.2.2.1 < 18446744073709551616 ∧ s.2.2.2 < 18446744073709551616
def memW (s : W4) : Mem := fun b => if b < 64 then s.1.testBit b else if b < 128 then s.2.1.testBit (b - 64) else if b < 192 then s.2.2.1.testBit (b - 128) else if b < 256 then s.2.2.2.testBit (b - 192) else false
theorem word_of (p : Mem) (i x : Nat) (hx : x < 2 ^ 64) (h : ∀ j, j < 64 → p (64 * i + j) = x.testBit j) : word p i = x := by
 apply Nat.eq_of_testBit_eq
 intro j
 show (nbits _ 64).testBit j = _
 rw [nbits_bit]
 by_cases hj : j < 64
 ·rw [decide_eq_true hj, Bool.true_and, ← h j hj]
 ·rw [decide_eq_false hj, Bool.false_and]
  exact (Nat.testBit_lt_two_pow (Nat.lt_of_lt_of_le hx (Nat.pow_le_pow_right (by omega) (by omega)))).symm
theorem w4_mem {s : W4} (h : okW s) : w4 (memW s) = s := by
 obtain ⟨s0, s1, s2, s3⟩ := s
 obtain ⟨h0, h1, h2, h3⟩ := h
 have e0 : word (memW (s0, s1, s2, s3)) 0 = s0 := word_of _ 0 s0 h0 fun j hj => by unfold memW; rw [if_pos (by omega)]; rw [show 64 * 0 + j = j by omega]
 have e1 : word (memW (s0, s1, s2, s3)) 1 = s1 := word_of _ 1 s1 h1 fun j hj => by unfold memW; rw [if_neg (by omega), if_pos (by omega)]; rw [show 64 * 1 + j - 64 = j by omega]
 have e2 : word (memW (s0, s1, s2, s3)) 2 = s2 := word_of _ 2 s2 h2 fun j hj => by unfold memW; rw [if_neg (by omega), if_neg (by omega), if_pos (by omega)]; rw [show 64 * 2 + j - 128 = j by omega]
 have e3 : word (memW (s0, s1, s2, s3)) 3 = s3 := word_of _ 3 s3 h3 fun j hj => by unfold memW; rw [if_neg (by omega), if_neg (by omega), if_neg (by omega), if_pos (by omega)]; rw [show 64 * 3 + j - 192 = j by omega]
 unfold w4
 rw [e0, e1, e2, e3]
def setUp (m : Mem) (j : Nat) : List UInt8 := (List.range j).flatMap fun b => if m b then octD b else []
def setL (m : Mem) : List UInt8 := if cntN m 256 = 256 then [46] else if cntN m 256 = 0 then [91, 94, 92, 48, 48, 48, 45, 92, 51, 55, 55, 93] else 91 :: (setUp m 256 ++ [93])
end Go.Proofs.YtmkddhkpeiajhaaGreatDoor
