/-
  The contracts of package ere's reader, and of Parse.
-/
import Derived.Test.YtmkddhkpeiajhaaDoorPieces
import Derived.Test.YtmkddhkpeiajhaaDoorAtom
namespace Go.Proofs.YtmkddhkpeiajhaaDoor
open Go.RowKit

theorem alterC (S : ByteArray) (hs : S.size ≤ 999999990) : ∀ d, d ≤ 11 → AltC S d
  | 0, _ => fun _ _ st _ _ hD _ => by have := hD.deep; have := hD.op; omega
  | d + 1, hd => by
    have ih := alterC S hs d (by omega)
    have hat := atomR_any S d (by omega) (by omega) ih
    have hpi := pieceR_any S d (by omega) (by omega) hat
    have hpr := piece_res S.data.toList d (6 + d) (by omega) _ (alt_res S.data.toList d)
    have hps := piecesR_any S (d + 1) (6 + d + 1) (by omega) hs _ hpr hpi
    have hsr := pieces_res S.data.toList (d + 1) (6 + d + 1) _ hpr
    exact alterR_any S (d + 1) (6 + d + 1) (by omega) hs _ hsr hps

theorem parse_nil {s : List UInt8} (h : s.length = 0) : parseF s = (tEmpty, 0, 0) := by unfold parseF; rw [if_pos h]
theorem parse_bad {s : List UInt8} {p : Pc} {st : St} (h : s.length ≠ 0) (ha : altF s 11 st0 = (p, st)) (hb : st.bad ≠ 0) : parseF s = (tEmpty, st.fr, st.bad) := by
  unfold parseF
  rw [if_neg h, ha]
  simp only [hb, false_and, if_false]
theorem parse_more {s : List UInt8} {p : Pc} {st : St} (h : s.length ≠ 0) (ha : altF s 11 st0 = (p, st)) (hb : st.bad = 0) (hm : st.at_ < s.length) : parseF s = (tEmpty, st.at_, 24) := by
  unfold parseF
  rw [if_neg h, ha]
  simp [hb, hm, stFault]
theorem parse_no {s : List UInt8} {p : Pc} {st : St} (h : s.length ≠ 0) (ha : altF s 11 st0 = (p, st)) (hb : st.bad = 0) (hm : ¬ st.at_ < s.length) (hq : p.big = true ∨ rightT p.re = false) : parseF s = (tEmpty, 0, 24) := by
  unfold parseF
  rw [if_neg h, ha]
  simp [hb, hm, stFault, hq]
theorem parse_yes {s : List UInt8} {p : Pc} {st : St} (h : s.length ≠ 0) (ha : altF s 11 st0 = (p, st)) (hb : st.bad = 0) (hm : ¬ st.at_ < s.length) (hq : p.big = false) (hr : rightT p.re = true) : parseF s = (p.re, 0, 0) := by
  unfold parseF
  rw [if_neg h, ha]
  simp [hb, hm, hq, hr]

/-- what Parse leaves -/
def RetParse (w : World) (lo : Nat → Prop) (R : Tree × Nat × Nat) (e : Ending) (w' : World) : Prop :=
  ∃ (k a b c d : Int) (A : Option Addr) (n cp : Nat), e = .returned (.tuple #[.agg #[.int .i64 k, .int .u64 a, .int .u64 b, .int .u64 c, .int .u64 d, .slice A n cp], .int .i64 (R.2.1 : Int), .int .i64 (R.2.2 : Int)]) ∧ ReC w' lo R.1 ⟨k, a, b, c, d, A, n, cp⟩ ∧ Later w w'
theorem RetParse.none_ {w w' : World} {lo : Nat → Prop} {R : Tree × Nat × Nat} {x y : Nat} (hR : R = (tEmpty, x, y)) (hl : Later w w') : RetParse w lo R (.returned (.tuple #[.agg #[.int .i64 0, .int .u64 0, .int .u64 0, .int .u64 0, .int .u64 0, .slice none 0 0], .int .i64 (x : Int), .int .i64 (y : Int)])) w' := by
  subst hR
  exact ⟨0, 0, 0, 0, 0, none, 0, 0, rfl, ReC.leaf w' lo 0 z4 none 0, hl⟩
theorem Later.of_fr {w w' : World} {g : Nat} (h : Fr w w' (fun k => k = g)) (hg : w.heap.size ≤ g) : Later w w' := Fr.none_ h (fun k hk e => by omega)

set_option maxRecDepth 100000 in
set_option maxHeartbeats 8000000 in
theorem parse_any (S : ByteArray) (lo : Nat → Prop) (w : World) (hs : S.size ≤ 999999990) (hlo : Up w lo) :
    Calls Tryd.prog 26 #[.string S] w (RetParse w lo (parseF S.data.toList)) := by
  obtain ⟨R, hR⟩ : ∃ R, R = parseF S.data.toList := ⟨_, rfl⟩
  rw [← hR]
  by_cases hz : S.size = 0
  · have HR : Hid (R = (tEmpty, 0, 0)) := hR.trans (parse_nil (by rw [len_eq]; exact hz))
    obtain rfl : S = ⟨#[]⟩ := ByteArray.ext (Array.eq_empty_of_size_eq_zero hz)
    clear hR hz hs
    go_enter Tryd.func26, Tryd.ntmps26
    go_wp2_with fail
    exact bodyPost_ret (v := .tuple #[.agg #[.int .i64 0, .int .u64 0, .int .u64 0, .int .u64 0, .int .u64 0, .slice none 0 0], .int .i64 0, .int .i64 0]) (by simp [results, Tryd.results26, go_sem]) rfl (RetParse.none_ HR.out ((Later.refl w).alloc _))
  · have hz2 : S.data.toList.length ≠ 0 := by rw [len_eq]; exact hz
    have hS0 : S.toList.isEmpty = false := by
      have hb : S = bstr S.data.toList := rfl
      rw [hb, bstr_toList]
      cases hq : S.data.toList with
      | nil => rw [hq] at hz2; exact absurd rfl hz2
      | cons _ _ => rfl
    obtain ⟨lo2, hlo2⟩ : ∃ lo2 : Nat → Prop, lo2 = fun k => lo k ∧ k ≠ w.heap.size := ⟨_, rfl⟩
    have HLO := Lib.hid hlo2
    obtain ⟨p, st1, ha⟩ : ∃ p st1, altF S.data.toList 11 st0 = (p, st1) := ⟨_, _, rfl⟩
    have HR := Lib.hid hR
    have HZ : Hid (S.data.toList.length ≠ 0) := hz2
    have HA := Lib.hid ha
    have HC : Hid (∀ (w2 : World), RdC w2 (w.heap.size + 1) S st0 → Later w w2 → w.heap.size < w2.heap.size → Calls Tryd.prog 32 #[.pointer (some ⟨w.heap.size + 1, 0, none⟩)] w2 (RetPcS w2 (w.heap.size + 1) lo2 S (p, st1))) := fun w2 hr hl hlt => by
      have := alterC S hs 11 (by omega) lo2 (w.heap.size + 1) st0 w2 hr ⟨rfl, Nat.zero_le _, by show 0 ≤ 10; omega, by show 11 ≤ 11 + 0; omega⟩ (fun k hk => by rw [hlo2]; exact ⟨hlo.later hl k hk, by omega⟩)
      rw [ha] at this
      exact this
    have HOK : Hid (PcOk p) := by
      have := alt_res S.data.toList 11 st0 ⟨rfl, Nat.zero_le _, by show 0 ≤ 10; omega, by show 11 ≤ 11 + 0; omega⟩
      rw [ha] at this
      exact this.ok
    have hs' : S.size ≤ 1000000000 := by omega
    clear hR hz hz2 ha hlo2
    go_enter Tryd.func26, Tryd.ntmps26
    go_upto_region 4 with fail
    obtain ⟨W1, hW1⟩ : ∃ W1, W1 = (w.alloc (.cells #[.int .i64 0, .int .u64 0, .int .u64 0, .int .u64 0, .int .u64 0, .slice none 0 0] 60)).alloc (.cells #[.string S, .int .i64 0, .int .i64 0, .int .i64 0, .int .i64 0] 74) := ⟨_, rfl⟩
    have B2 : Blk W1 w.heap.size 60 #[.int .i64 0, .int .u64 0, .int .u64 0, .int .u64 0, .int .u64 0, .slice none 0 0] := by rw [hW1]; exact (Blk.new w _ _).alloc _
    have h1 : RdC W1 (w.heap.size + 1) S st0 := by rw [hW1]; exact blk_at (by simp)
    have hl1 : Later w W1 := by rw [hW1]; exact ((Later.refl w).alloc _).alloc _
    rw [← hW1]
    clear hW1
    go_wp2_with fail
    refine (HC.out _ h1 hl1 B2.lt).mono ?_
    rintro e w2 ⟨k, a, b, c, d, A, n, cp, rfl, hC, h2, hF2⟩
    obtain ⟨g, hg⟩ : ∃ g, g = w.heap.size + 1 := ⟨_, rfl⟩
    rw [← hg] at h1 h2 hF2 ⊢
    have neg : w.heap.size ≠ g := by omega
    have ngg : ¬ w.heap.size = g := neg
    have ngg2 : ¬ g = w.heap.size := fun e => neg e.symm
    have D2 := blkF hF2 neg B2
    have hF0 : Fr w w2 (fun k => k = g) := (Fr.later hl1).trans hF2 (fun _ _ h => h)
    have HG := Lib.hid hg
    clear h1 B2 HC hF2 hl1 hg
    go_upto_region 5 with fail
    obtain ⟨W3, hW3⟩ : ∃ W3, W3 = w2.alloc (.cells #[.int .i64 k, .int .u64 a, .int .u64 b, .int .u64 c, .int .u64 d, .slice A n cp, .int .i64 (p.deep : Int), .int .i64 (p.leaves : Int), .bool p.big] 76) := ⟨_, rfl⟩
    obtain ⟨gp, hgp⟩ : ∃ gp, gp = w2.heap.size := ⟨_, rfl⟩
    have B6 : Blk W3 gp 76 #[.int .i64 k, .int .u64 a, .int .u64 b, .int .u64 c, .int .u64 d, .slice A n cp, .int .i64 (p.deep : Int), .int .i64 (p.leaves : Int), .bool p.big] := by rw [hW3, hgp]; exact Blk.new w2 _ _
    have hl3 : Later w2 W3 := by rw [hW3]; exact (Later.refl w2).alloc _
    have nep : gp ≠ g := by have := h2.lt; omega
    have h := h2.later hl3
    have B2 := blkL hl3 D2
    have hF := frL hF0 hl3
    have hC := hC.later hl3
    rw [← hW3, ← hgp]
    clear hW3 hl3 h2 D2 hF0 hgp
    by_cases hb : st1.bad = 0
    · have HB := Lib.hid hb
      have hbi : ((st1.bad : Int) == 0) = true := by rw [hb]; rfl
      have c3 : W3.cell? ⟨g, 3, none⟩ = some (.int .i64 (st1.bad : Int)) := h.c3
      clear hb
      by_cases hm : st1.at_ < S.size
      · obtain ⟨st5, hst5⟩ : ∃ st5, st5 = stFault 24 st1.at_ st1 := ⟨_, rfl⟩
        have hst6 : st5 = ⟨st1.at_, st1.op, 24, st1.at_⟩ := by rw [hst5]; exact if_pos HB.out
        have HB5 : Hid (st5.bad ≠ 0) := by show _ ≠ _; rw [hst6]; show (24 : Nat) ≠ 0; decide
        have HS5 := Lib.hid hst5
        have HRE : Hid (R = (tEmpty, st5.fr, st5.bad)) := by
          show _ = _
          rw [HR.out, parse_more HZ.out HA.out HB.out (by rw [len_eq]; exact hm), hst6]
        clear hst5 hst6
        go_wp2_with fail
        refine (more_yes g S st1 W3 h hm hs').mono ?_
        rintro e w4 ⟨rfl, hl4⟩
        have h4 := h.later hl4
        have X2 := blkL hl4 B2
        have X6 := blkL hl4 B6
        have hCt := hC.later hl4
        have hFt := frL hF hl4
        clear h B2 B6 hC hF c3 hl4
        have c1 : w4.cell? ⟨g, 1, none⟩ = some (.int .i64 (st1.at_ : Int)) := h4.c1
        go_wp2_with fail
        refine (faultR_any g S st1 _ _ st1.at_ 24 w4 h4 rfl rfl).mono ?_
        rintro e wt ⟨rfl, h5, hf9⟩
        rw [← HS5.out] at h5
        have X2 := blkF hf9 neg X2
        have X6 := blkF hf9 nep X6
        have hFt := frF hFt hf9
        have hCt := ReC.fr hf9 (h4.spares lo2) _ hCt
        clear c1 h4 hf9 hbi
        have hbn : ((st5.bad : Int) == 0) = false := by rw [beq_eq_false_iff_ne]; have := HB5.out; omega
        have hbz : ((st5.bad : Int) != 0) = true := by rw [bne, hbn]; rfl
        have c3 : wt.cell? ⟨g, 3, none⟩ = some (.int .i64 (st5.bad : Int)) := h5.c3
        have c4 : wt.cell? ⟨g, 4, none⟩ = some (.int .i64 (st5.fr : Int)) := h5.c4
        obtain ⟨z0, z1, z2, z3, z4, z5, y0, y1, y2, y3, y4, y5⟩ := cells6 X2
        have hlt : Later w wt := Fr.none_ hFt (fun k hk e => by have := HG.out; omega)
        clear h5 X6 hCt hFt X2
        go_wp2_with fail
        go_region
        all_goals
          go_wp2_with fail
          refine bodyPost_ret (v := .tuple #[.agg #[.int .i64 0, .int .u64 0, .int .u64 0, .int .u64 0, .int .u64 0, .slice none 0 0], .int .i64 (st5.fr : Int), .int .i64 (st5.bad : Int)]) (by simp [results, Tryd.results26, go_sem, z0, z1, z2, z3, z4, z5]) rfl ?_
          exact RetParse.none_ HRE.out (by repeat (first | (with_reducible exact hlt) | (with_reducible apply Later.drew) | (with_reducible refine Later.setCell ?_ (Nat.le_refl w.heap.size) _)))
      · have hle : S.size ≤ st1.at_ := by omega
        have HM : Hid (¬ st1.at_ < S.data.toList.length) := by show ¬ _; rw [len_eq]; exact hm
        clear hm
        go_wp2_with fail
        refine (more_no g S st1 W3 h hle hs').mono ?_
        rintro e w4 ⟨rfl, hl4⟩
        have h4 := h.later hl4
        have X2 := blkL hl4 B2
        have X6 := blkL hl4 B6
        have hCt := hC.later hl4
        have hFt := frL hF hl4
        clear h B2 B6 hC hF c3 hl4
        have c3 : w4.cell? ⟨g, 3, none⟩ = some (.int .i64 (st1.bad : Int)) := h4.c3
        obtain ⟨u0, u1, u2, u3, u4, u5, u6, u7, u8, -⟩ := cells9 X6
        cases hbig : p.big with
        | true =>
          obtain ⟨st5, hst5⟩ : ∃ st5, st5 = stFault 24 0 st1 := ⟨_, rfl⟩
          have hst6 : st5 = ⟨st1.at_, st1.op, 24, 0⟩ := by rw [hst5]; exact if_pos HB.out
          have HB5 : Hid (st5.bad ≠ 0) := by show _ ≠ _; rw [hst6]; show (24 : Nat) ≠ 0; decide
          have HS5 := Lib.hid hst5
          have HRE : Hid (R = (tEmpty, st5.fr, st5.bad)) := by
            show _ = _
            rw [HR.out, parse_no HZ.out HA.out HB.out HM.out (.inl hbig), hst6]
          rw [hbig] at u8
          clear hst5 hst6
          go_wp2_with fail
          refine (faultR_any g S st1 _ _ 0 24 w4 h4 rfl rfl).mono ?_
          rintro e wt ⟨rfl, h5, hf9⟩
          rw [← HS5.out] at h5
          have X2 := blkF hf9 neg X2
          have X6 := blkF hf9 nep X6
          have hFt := frF hFt hf9
          have hCt := ReC.fr hf9 (h4.spares lo2) _ hCt
          clear h4 hf9 c3 u0 u1 u2 u3 u4 u5 u6 u7 u8 hbi
          have hbn : ((st5.bad : Int) == 0) = false := by rw [beq_eq_false_iff_ne]; have := HB5.out; omega
          have hbz : ((st5.bad : Int) != 0) = true := by rw [bne, hbn]; rfl
          have c3 : wt.cell? ⟨g, 3, none⟩ = some (.int .i64 (st5.bad : Int)) := h5.c3
          have c4 : wt.cell? ⟨g, 4, none⟩ = some (.int .i64 (st5.fr : Int)) := h5.c4
          obtain ⟨z0, z1, z2, z3, z4, z5, y0, y1, y2, y3, y4, y5⟩ := cells6 X2
          have hlt : Later w wt := Fr.none_ hFt (fun k hk e => by have := HG.out; omega)
          clear h5 X6 hCt hFt X2
          go_wp2_with fail
          go_region
          all_goals
            go_wp2_with fail
            refine bodyPost_ret (v := .tuple #[.agg #[.int .i64 0, .int .u64 0, .int .u64 0, .int .u64 0, .int .u64 0, .slice none 0 0], .int .i64 (st5.fr : Int), .int .i64 (st5.bad : Int)]) (by simp [results, Tryd.results26, go_sem, z0, z1, z2, z3, z4, z5]) rfl ?_
            exact RetParse.none_ HRE.out (by repeat (first | (with_reducible exact hlt) | (with_reducible apply Later.drew) | (with_reducible refine Later.setCell ?_ (Nat.le_refl w.heap.size) _)))
        | false =>
          rw [hbig] at u8
          cases hrt : rightT p.re with
          | false =>
            obtain ⟨st5, hst5⟩ : ∃ st5, st5 = stFault 24 0 st1 := ⟨_, rfl⟩
            have hst6 : st5 = ⟨st1.at_, st1.op, 24, 0⟩ := by rw [hst5]; exact if_pos HB.out
            have HB5 : Hid (st5.bad ≠ 0) := by show _ ≠ _; rw [hst6]; show (24 : Nat) ≠ 0; decide
            have HS5 := Lib.hid hst5
            have HRE : Hid (R = (tEmpty, st5.fr, st5.bad)) := by
              show _ = _
              rw [HR.out, parse_no HZ.out HA.out HB.out HM.out (.inr hrt), hst6]
            have hrc := right_any p.re lo2 k a b c d A n cp w4 hCt
            rw [hrt] at hrc
            have HRC := Lib.hid hrc
            clear hst5 hst6 hrt hrc
            go_wp2_with fail
            refine HRC.out.mono ?_
            rintro e w5 ⟨rfl, hl5⟩
            have h4 := h4.later hl5
            have X2 := blkL hl5 X2
            have X6 := blkL hl5 X6
            have hCt := hCt.later hl5
            have hFt := frL hFt hl5
            clear hl5 c3 u0 u1 u2 u3 u4 u5 u6 u7 u8
            go_wp2_with fail
            refine (faultR_any g S st1 _ _ 0 24 w5 h4 rfl rfl).mono ?_
            rintro e wt ⟨rfl, h5, hf9⟩
            rw [← HS5.out] at h5
            have X2 := blkF hf9 neg X2
            have X6 := blkF hf9 nep X6
            have hFt := frF hFt hf9
            have hCt := ReC.fr hf9 (h4.spares lo2) _ hCt
            clear h4 hf9 hbi
            have hbn : ((st5.bad : Int) == 0) = false := by rw [beq_eq_false_iff_ne]; have := HB5.out; omega
            have hbz : ((st5.bad : Int) != 0) = true := by rw [bne, hbn]; rfl
            have c3 : wt.cell? ⟨g, 3, none⟩ = some (.int .i64 (st5.bad : Int)) := h5.c3
            have c4 : wt.cell? ⟨g, 4, none⟩ = some (.int .i64 (st5.fr : Int)) := h5.c4
            obtain ⟨z0, z1, z2, z3, z4, z5, y0, y1, y2, y3, y4, y5⟩ := cells6 X2
            have hlt : Later w wt := Fr.none_ hFt (fun k hk e => by have := HG.out; omega)
            clear h5 X6 hCt hFt X2
            go_wp2_with fail
            go_region
            all_goals
              go_wp2_with fail
              refine bodyPost_ret (v := .tuple #[.agg #[.int .i64 0, .int .u64 0, .int .u64 0, .int .u64 0, .int .u64 0, .slice none 0 0], .int .i64 (st5.fr : Int), .int .i64 (st5.bad : Int)]) (by simp [results, Tryd.results26, go_sem, z0, z1, z2, z3, z4, z5]) rfl ?_
              exact RetParse.none_ HRE.out (by repeat (first | (with_reducible exact hlt) | (with_reducible apply Later.drew) | (with_reducible refine Later.setCell ?_ (Nat.le_refl w.heap.size) _)))
          | true =>
            have HRY : Hid (R = (p.re, 0, 0)) := HR.out.trans (parse_yes HZ.out HA.out HB.out HM.out hbig hrt)
            have hrc := right_any p.re lo2 k a b c d A n cp w4 hCt
            rw [hrt] at hrc
            have HRC := Lib.hid hrc
            have hbn : ((st1.bad : Int) != 0) = false := by rw [HB.out]; rfl
            clear hrt hrc hbig
            go_wp2_with fail
            refine HRC.out.mono ?_
            rintro e wt ⟨rfl, hl5⟩
            have h5 := h4.later hl5
            have X2 := blkL hl5 X2
            have X6 := blkL hl5 X6
            have hCt := hCt.later hl5
            have hFt := frL hFt hl5
            clear hl5 c3 u0 u1 u2 u3 u4 u5 u6 u7 u8
            have c3 : wt.cell? ⟨g, 3, none⟩ = some (.int .i64 (st1.bad : Int)) := h5.c3
            obtain ⟨u0, u1, u2, u3, u4, u5, u6, u7, u8, -⟩ := cells9 X6
            obtain ⟨z0, z1, z2, z3, z4, z5, y0, y1, y2, y3, y4, y5⟩ := cells6 X2
            have hlt : Later w wt := Fr.none_ hFt (fun k hk e => by have := HG.out; omega)
            go_wp2_with fail
            refine bodyPost_ret (v := .tuple #[.agg #[.int .i64 k, .int .u64 a, .int .u64 b, .int .u64 c, .int .u64 d, .slice A n cp], .int .i64 0, .int .i64 0]) (by simp [results, Tryd.results26, go_sem, z0, z1, z2, z3, z4, z5]) rfl ?_
            rw [HRY.out]
            exact ⟨k, a, b, c, d, A, n, cp, rfl, ReC.weaken (fun _ _ hh => by rw [HLO.out] at hh; exact hh.1) _ (ReC.fr (Fr.set6 w.heap.size _ _ _ _ _ _) (spares_not _ (fun hh => by rw [HLO.out] at hh; exact hh.2 rfl)) _ hCt), hlt.set6 (Nat.le_refl _)⟩
    · obtain ⟨st5, hst5⟩ : ∃ st5, st5 = st1 := ⟨_, rfl⟩
      have HB5 : Hid (st5.bad ≠ 0) := by show _ ≠ _; rw [hst5]; exact hb
      have HRE : Hid (R = (tEmpty, st5.fr, st5.bad)) := by
        show _ = _
        rw [HR.out, parse_bad HZ.out HA.out hb, hst5]
      have h5 := h
      rw [← hst5] at h5
      clear hst5 hb h
      obtain ⟨wt, hwt⟩ : ∃ wt, wt = W3 := ⟨_, rfl⟩
      rw [← hwt] at h5 B2 B6 hC hF ⊢
      have X2 := B2
      have X6 := B6
      have hCt := hC
      have hFt := hF
      clear hwt B2 B6 hC hF
      have hbn : ((st5.bad : Int) == 0) = false := by rw [beq_eq_false_iff_ne]; have := HB5.out; omega
      have hbz : ((st5.bad : Int) != 0) = true := by rw [bne, hbn]; rfl
      have c3 : wt.cell? ⟨g, 3, none⟩ = some (.int .i64 (st5.bad : Int)) := h5.c3
      have c4 : wt.cell? ⟨g, 4, none⟩ = some (.int .i64 (st5.fr : Int)) := h5.c4
      obtain ⟨z0, z1, z2, z3, z4, z5, y0, y1, y2, y3, y4, y5⟩ := cells6 X2
      have hlt : Later w wt := Fr.none_ hFt (fun k hk e => by have := HG.out; omega)
      clear h5 X6 hCt hFt X2
      go_wp2_with fail
      go_region
      all_goals
        go_wp2_with fail
        refine bodyPost_ret (v := .tuple #[.agg #[.int .i64 0, .int .u64 0, .int .u64 0, .int .u64 0, .int .u64 0, .slice none 0 0], .int .i64 (st5.fr : Int), .int .i64 (st5.bad : Int)]) (by simp [results, Tryd.results26, go_sem, z0, z1, z2, z3, z4, z5]) rfl ?_
        exact RetParse.none_ HRE.out (by repeat (first | (with_reducible exact hlt) | (with_reducible apply Later.drew) | (with_reducible refine Later.setCell ?_ (Nat.le_refl w.heap.size) _)))

end Go.Proofs.YtmkddhkpeiajhaaDoor
