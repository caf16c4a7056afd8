import Derived.Test.YtmkddhkpeiajhaaGreatDoorStarW
import Derived.Test.YtmkddhkpeiajhaaGreatDoorRrd2
import Derived.Test.YtmkddhkpeiajhaaGreatDoorRefShaped
import Derived.Test.YtmkddhkpeiajhaaGreatDoorRefParse
namespace Go.Proofs.YtmkddhkpeiajhaaGreatDoor
open Go.RowKit
theorem OwnT.frg {w wx : World} {lo : Nat → Prop} {base g : Nat} {A : Option Addr} {n c : Nat} {ts : List Tree} {S : ByteArray} {st : St} (h : OwnT w lo base A n c ts) (hR : RfC w g S st) (hF : Fr w wx (fun k => k = g)) : OwnT wx lo base A n c ts :=
 h.fr hF (hR.spares lo) (fun k hk e => by
  subst e
  obtain ⟨_, xs, _, h3⟩ := h
  obtain ⟨_, _, cs, hB⟩ := own_row_blk h3 hk
  exact Blk.ne_ hB hR (by decide) rfl)
end Go.Proofs.YtmkddhkpeiajhaaGreatDoor
namespace Go.Proofs.YtmkddhkpeiajhaaGreatDoor
open Go.RowKit
def RdfC (f : FuncId) (S : ByteArray) (d : Nat) (G : St → Tree × St) : Prop := ∀ (lo : Nat → Prop) (g : Nat) (st : St) (w : World), RfC w g S st → Dom S.data.toList d st → Up w lo →
 Calls Tryz.prog f #[.pointer (some ⟨g, 0, none⟩)] w (RetTS w g lo S (G st))
theorem rsigns_bad (s : List UInt8) (f : Nat) (p : Tree) (st : St) (h : st.bad ≠ 0) : rSigns s f p st = (p, st) := by
 cases f with
 | zero => rfl
 | succ f => rw [rSigns, if_neg h]
theorem rsigns_end (s : List UInt8) (f : Nat) (p : Tree) (st : St) (h : s[st.at_]? = none) : rSigns s f p st = (p, st) := by
 cases f with
 | zero => rfl
 | succ f =>
  rw [rSigns]
  have : ∀ c, isAt s st.at_ c = false := fun c => by unfold isAt; rw [h]
  simp only [this, Bool.false_eq_true, if_false, ite_self]
theorem rsigns_other (s : List UInt8) (f : Nat) (p : Tree) (st : St) (x : UInt8) (h : s[st.at_]? = some x) (h1 : x.toNat ≠ 42) (h2 : x.toNat ≠ 43) (h3 : x.toNat ≠ 63) (h4 : x.toNat ≠ 123) : rSigns s f p st = (p, st) := by
 cases f with
 | zero => rfl
 | succ f =>
  rw [rSigns]
  simp only [isAt_c h, beq_iff_eq, h1, h2, h3, h4, if_false, ite_self]
theorem rsigns_42 (s : List UInt8) (f : Nat) (p : Tree) (st : St) (x : UInt8) (h : s[st.at_]? = some x) (hx : x.toNat = 42) (hb : st.bad = 0) : rSigns s (f + 1) p st = rSigns s f (.node 4 z4 [p]) (stAt st (st.at_ + 1)) := by
 rw [rSigns]
 simp only [isAt_c h, hx, hb, beq_iff_eq, ↓reduceIte]
theorem rsigns_43 (s : List UInt8) (f : Nat) (p : Tree) (st : St) (x : UInt8) (h : s[st.at_]? = some x) (hx : x.toNat = 43) (hb : st.bad = 0) : rSigns s (f + 1) p st = rSigns s f (.node 5 z4 [p]) (stAt st (st.at_ + 1)) := by
 rw [rSigns]
 simp only [isAt_c h, hx, hb, beq_iff_eq, ↓reduceIte, show ¬ (43 : Nat) = 42 by decide]
theorem rsigns_63 (s : List UInt8) (f : Nat) (p : Tree) (st : St) (x : UInt8) (h : s[st.at_]? = some x) (hx : x.toNat = 63) (hb : st.bad = 0) : rSigns s (f + 1) p st = rSigns s f (.node 6 z4 [p]) (stAt st (st.at_ + 1)) := by
 rw [rSigns]
 simp only [isAt_c h, hx, hb, beq_iff_eq, ↓reduceIte, show ¬ (63 : Nat) = 42 by decide, show ¬ (63 : Nat) = 43 by decide]
def PieceTAt (w : World) (b3 g : Nat) (lo : Nat → Prop) (S : ByteArray) (Rv : Tree × St) (wr : World) : Prop :=
 ∃ (p : Tree) (st : St) (f : Nat) (k a b c d : Int) (A : Option Addr) (n cp : Nat), Hid (rSigns S.data.toList f p st = Rv) ∧ thinT p ∧ (st.bad = 0 → S.size + 1 ≤ f + st.at_ ∧ setsR p ≤ 40000 * st.at_) ∧ st.at_ ≤ S.size + 100 ∧ RfC wr g S st ∧
  ReC wr (fun k => lo k ∧ k ≠ w.heap.size ∧ k ≠ b3) p ⟨k, a, b, c, d, A, n, cp⟩ ∧ Blk wr b3 98 #[.int .i64 k, .int .u64 a, .int .u64 b, .int .u64 c, .int .u64 d, .slice A n cp] ∧ Blk wr w.heap.size 98 #[.int .i64 0, .int .u64 0, .int .u64 0, .int .u64 0, .int .u64 0, .slice none 0 0] ∧ Fr w wr (fun k => k = g)
theorem three_ways {lo : Nat → Prop} {w wr : World} {b3 : Nat} (h : Up w lo) (h1 : w.heap.size < wr.heap.size) (h3 : b3 < wr.heap.size) : Up wr (fun k => lo k ∧ k ≠ w.heap.size ∧ k ≠ b3) := fun k hk => ⟨h k (by omega), by omega, by omega⟩
theorem meas_lt {S : ByteArray} {x : Nat} {st1 st2 : St} (h : x = st2.at_) (h1 : st1.at_ < st2.at_) (h2 : st2.at_ ≤ S.size + 100) : S.size + 200 - x < S.size + 200 - st1.at_ := by omega
set_option maxRecDepth 100000 in
set_option maxHeartbeats 16000000 in
theorem pieceT_any (S : ByteArray) [Txt S] (d : Nat) (hd : d ≤ 11) (hs : S.size ≤ 20000) (hatom : RdfC 118 S (d + 1) (rAtom S.data.toList (rAlt S.data.toList d))) : RdfC 103 S (d + 1) (rPiece S.data.toList (rAlt S.data.toList d)) := by
 intro lo g st w h hD hlo
 obtain ⟨R, hR⟩ : ∃ R, R = rPiece S.data.toList (rAlt S.data.toList d) st := ⟨_, rfl⟩
 rw [← hR]
 have hres := ratom_res S.data.toList d (6 + d) (by omega) _ (ralt_res S.data.toList d) st hD
 have hth0 := thin_atom S.data.toList _ (thin_alt S.data.toList d) st
 obtain ⟨p0, st0, hat⟩ : ∃ p0 st0, rAtom S.data.toList (rAlt S.data.toList d) st = (p0, st0) := ⟨_, _, rfl⟩
 rw [hat] at hres hth0
 have hb0 : st0.at_ ≤ S.data.toList.length + (6 + d + 1) := hres.bd
 have hg0 : st0.bad = 0 → setsR p0 ≤ 40000 * st0.at_ := fun hb => by
  have h4 : setsR p0 ≤ 40000 * (st0.at_ - st.at_) := (hres.good hb).2.2.2
  omega
 rw [len_eq] at hb0
 have HR : Hid (rSigns S.data.toList (S.size + 2) p0 st0 = R) := by
  show _ = _
  rw [hR]
  unfold rPiece
  rw [hat, len_eq]
 have HD := Lib.hid hD
 have HAT := Lib.hid hat
 have HLO := Lib.hid hlo
 have hgw := h.lt
 clear hR hD hres hat
 go_enter Tryz.func103, Tryz.ntmps103
 go_upto_region 1 with fail
 obtain ⟨W0, hW0⟩ : ∃ W0, W0 = w.alloc (.cells #[.int .i64 0, .int .u64 0, .int .u64 0, .int .u64 0, .int .u64 0, .slice none 0 0] 98) := ⟨_, rfl⟩
 have B4 : Blk W0 w.heap.size 98 #[.int .i64 0, .int .u64 0, .int .u64 0, .int .u64 0, .int .u64 0, .slice none 0 0] := by rw [hW0]; exact Blk.new w _ _
 have hl0 : Later w W0 := by rw [hW0]; exact (Later.refl w).alloc _
 have h0 := h.later hl0
 have hF0 : Fr w W0 (fun k => k = g) := Fr.later hl0
 have ne4 : w.heap.size ≠ g := by have := h.lt; omega
 rw [← hW0]
 clear hW0 hl0 h
 go_wp2_with fail
 refine (hatom (fun k => lo k ∧ k ≠ w.heap.size) g st _ h0 HD.out (fun k hk => ⟨HLO.out k (by have := B4.lt; omega), by have := B4.lt; omega⟩)).mono ?_
 rw [HAT.out]
 rintro e w2 ⟨k, a, b, c, d', A, n, cp, rfl, hC, h2, hF2⟩
 have hF3 := frF hF0 hF2
 have D4 := blkF hF2 ne4 B4
 clear B4 hF0 h0 hF2
 go_wp2_with fail
 obtain ⟨W3, hW3⟩ : ∃ W3, W3 = w2.alloc (.cells #[.int .i64 k, .int .u64 a, .int .u64 b, .int .u64 c, .int .u64 d', .slice A n cp] 98) := ⟨_, rfl⟩
 have B5 : Blk W3 w2.heap.size 98 #[.int .i64 k, .int .u64 a, .int .u64 b, .int .u64 c, .int .u64 d', .slice A n cp] := by rw [hW3]; exact Blk.new w2 _ _
 have hl3 : Later w2 W3 := by rw [hW3]; exact (Later.refl w2).alloc _
 have ne5 : w2.heap.size ≠ g := by have := h2.lt; omega
 have ne45 : w.heap.size ≠ w2.heap.size := by have := D4.lt; omega
 have hle5 : w.heap.size ≤ w2.heap.size := by have := D4.lt; omega
 have h3 := h2.later hl3
 have B4 := blkL hl3 D4
 have hF4 := frL hF3 hl3
 have hC3 : ReC W3 (fun k => lo k ∧ k ≠ w.heap.size ∧ k ≠ w2.heap.size) p0 ⟨k, a, b, c, d', A, n, cp⟩ := (ReC.weaken (fun k hk h => ⟨h.1, h.2, by omega⟩) _ hC).later hl3
 rw [← hW3]
 clear hW3 hl3 h2 D4 hF3 hC
 obtain ⟨b3, hb3⟩ : ∃ b3, b3 = w2.heap.size := ⟨_, rfl⟩
 rw [← hb3] at B5 ne5 ne45 hle5 hC3 ⊢
 clear hb3
 go_loopw [] (fun wr => PieceTAt w b3 g lo S R wr) (fun wr => S.size + 200 - atF wr g)
 case atStart => exact ⟨p0, st0, S.size + 2, k, a, b, c, d', A, n, cp, HR, hth0, fun hb => ⟨by omega, hg0 hb⟩, by omega, h3, hC3, B5, B4, hF4⟩
 case round =>
  clear hg0 hb0 HR HAT HD hC3 B5 B4 hF4 h3 hth0
  obtain ⟨p, st1, f, k, a, b, c, d, A, n, cp, HO, hth, hfu, hat, h1, hC, B5, B4, hF⟩ := hrel
  have HM : Hid (atF wr g = st1.at_) := h1.atF
  have hati : (st1.at_ : Int) ≤ 100000 := by omega
  have k0 : ∀ x : LW wr, x.val.cell? ⟨g, 0, none⟩ = some (.string S) := LW.cell_ h1.c0
  have k1 : ∀ x : LW wr, x.val.cell? ⟨g, 1, none⟩ = some (.int .i64 (st1.at_ : Int)) := LW.cell_ h1.c1
  have k3 : ∀ x : LW wr, x.val.cell? ⟨g, 3, none⟩ = some (.int .i64 (st1.bad : Int)) := LW.cell_ h1.c3
  by_cases hb : st1.bad = 0
  ·have hbi : ((st1.bad : Int) == 0) = true := by rw [hb]; rfl
   have hbn : (st1.bad == 0) = true := by rw [hb]; rfl
   obtain ⟨hfu, hst1⟩ := hfu hb
   have HB := Lib.hid hb
   clear hb
   cases hx : S.data.toList[st1.at_]? with
   | none =>
    have hle := str_none S _ hx
    have hled : decide (st1.at_ < S.size) = false := by simp; omega
    have HR2 : Hid (R = (p, st1)) := by show _ = _; rw [← HO.out, rsigns_end _ _ _ _ hx]
    clear hx HO
    go_wp2_with fail
    refine wp_region_laterq (by kernel_rfl) (by kernel_rfl) ?_
    repeat (go_big_quiet_step (fail))
    refine wpQuiet_nil ?_
    intro _ hwq
    obtain ⟨xz, rfl⟩ := hwq
    have h1 := h1.later xz.later
    have hC := hC.later xz.later
    have B5 := blkL xz.later B5
    have B4 := blkL xz.later B4
    have hF := frL hF xz.later
    clear k0 k1 k3
    obtain ⟨wq, hwq⟩ : ∃ wq, wq = xz.val := ⟨_, rfl⟩
    rw [← hwq] at h1 hC B5 B4 hF ⊢
    clear hwq xz
    obtain ⟨u0, u1, u2, u3, u4, u5, -⟩ := cells6 B5
    obtain ⟨z0, z1, z2, z3, z4, z5, y0, y1, y2, y3, y4, y5⟩ := cells6 B4
    go_wp2_with fail
    refine bodyPost_ret (v := .agg #[.int .i64 k, .int .u64 a, .int .u64 b, .int .u64 c, .int .u64 d, .slice A n cp]) (by simp [results, Tryz.results103, go_sem, z0, z1, z2, z3, z4, z5]) rfl ?_
    exact RetTS.store6 HR2.out hC h1 hF rfl B4 (fun h => h.2.1 rfl) (Nat.le_refl _) (fun k h => h.1)
   | some x =>
    obtain ⟨hi, he⟩ := str_get S _ x hx
    have hi1 : (st1.at_ : Int) < (S.size : Int) := by omega
    have hx1 := x.toNat_lt
    have HX := Lib.hid hx
    obtain ⟨xn, hxn⟩ : ∃ xn, xn = x.toNat := ⟨_, rfl⟩
    have hei : (S[st1.at_].toNat : Int) = (xn : Int) := by rw [he, hxn]
    rw [← hxn] at hx1
    have HXN := Lib.hid hxn
    clear hx he hxn
    go_wp2_with fail
    refine wp_region_laterq (by kernel_rfl) (by kernel_rfl) ?_
    repeat (go_big_quiet_step (fail))
    refine wpQuiet_nil ?_
    intro _ hwq
    obtain ⟨xz, rfl⟩ := hwq
    have h1 := h1.later xz.later
    have hC := hC.later xz.later
    have B5 := blkL xz.later B5
    have B4 := blkL xz.later B4
    have hF := frL hF xz.later
    clear k0 k1 k3
    obtain ⟨wq, hwq⟩ : ∃ wq, wq = xz.val := ⟨_, rfl⟩
    rw [← hwq] at h1 hC B5 B4 hF ⊢
    clear hwq xz
    have k0 : ∀ x : LW wq, x.val.cell? ⟨g, 0, none⟩ = some (.string S) := LW.cell_ h1.c0
    have k1 : ∀ x : LW wq, x.val.cell? ⟨g, 1, none⟩ = some (.int .i64 (st1.at_ : Int)) := LW.cell_ h1.c1
    have k3 : ∀ x : LW wq, x.val.cell? ⟨g, 3, none⟩ = some (.int .i64 (st1.bad : Int)) := LW.cell_ h1.c3
    go_wp2_with fail
    refine wp_region_laterq (by kernel_rfl) (by kernel_rfl) ?_
    repeat (go_big_quiet_step (fail))
    refine wpQuiet_nil ?_
    intro _ hwq
    obtain ⟨xz, rfl⟩ := hwq
    have h1 := h1.later xz.later
    have hC := hC.later xz.later
    have B5 := blkL xz.later B5
    have B4 := blkL xz.later B4
    have hF := frL hF xz.later
    clear k0 k1 k3
    obtain ⟨wq, hwq⟩ : ∃ wq, wq = xz.val := ⟨_, rfl⟩
    rw [← hwq] at h1 hC B5 B4 hF ⊢
    clear hwq xz
    have hcase : xn = 42 ∨ xn = 43 ∨ xn = 63 ∨ xn = 123 ∨ (xn ≠ 42 ∧ xn ≠ 43 ∧ xn ≠ 63 ∧ xn ≠ 123) := by omega
    rcases hcase with hx | hx | hx | hx | hx
    ·have hx : x.toNat = 42 := by rw [← HXN.out]; exact hx
     have hxi : (xn : Int) = 42 := by have := HXN.out; omega
     obtain ⟨f, rfl⟩ : ∃ f', f = f' + 1 := ⟨f - 1, by omega⟩
     have HO2 : Hid (rSigns S.data.toList f (.node 4 Proofs.YtmkddhkpeiajhaaGreatDoor.z4 [p]) (stAt st1 (st1.at_ + 1)) = R) := by show _ = _; rw [← HO.out, rsigns_42 _ _ _ _ x HX.out hx HB.out]
     have hst : setsR (.node 4 Proofs.YtmkddhkpeiajhaaGreatDoor.z4 [p]) ≤ 40000 * (st1.at_ + 1) := by rw [setsR_one]; omega
     have HST := Lib.hid hst
     have HTH := Lib.hid (thin1 4 Proofs.YtmkddhkpeiajhaaGreatDoor.z4 hth)
     have hup := three_ways HLO.out (wr := wq) B4.lt B5.lt
     have hK := ReC.one 4 hC hup
     have D5 := B5.alloc (.cells #[.int .i64 k, .int .u64 a, .int .u64 b, .int .u64 c, .int .u64 d, .slice A n cp] 98)
     have D4 := B4.alloc (.cells #[.int .i64 k, .int .u64 a, .int .u64 b, .int .u64 c, .int .u64 d, .slice A n cp] 98)
     have e1 : RfC (wq.alloc (.cells #[.int .i64 k, .int .u64 a, .int .u64 b, .int .u64 c, .int .u64 d, .slice A n cp] 98)) g S st1 := Blk.alloc h1 _
     have eF : Fr w (wq.alloc (.cells #[.int .i64 k, .int .u64 a, .int .u64 b, .int .u64 c, .int .u64 d, .slice A n cp] 98)) (fun k => k = g) := hF.alloc _
     obtain ⟨u0, u1, u2, u3, u4, u5, -⟩ := cells6 B5
     obtain ⟨z0, z1, z2, z3, z4, z5, y0, y1, y2, y3, y4, y5⟩ := cells6 D5
     obtain ⟨gn, hgn⟩ : ∃ gn, gn = wq.heap.size := ⟨_, rfl⟩
     rw [← hgn] at hK
     have HGN := Lib.hid hgn
     obtain ⟨W7, hW7⟩ : ∃ W7, W7 = wq.alloc (.cells #[.int .i64 k, .int .u64 a, .int .u64 b, .int .u64 c, .int .u64 d, .slice A n cp] 98) := ⟨_, rfl⟩
     rw [← hW7] at hK D5 D4 e1 eF
     have HW7 := Lib.hid hW7
     have c1 := e1.c1
     have f1 := e1.f 1
     rw [hW7] at c1 f1
     clear HO HX hx hst hup hC B5 B4 h1 hF hgn hW7 hth
     go_wp2_with fail
     rw [← HW7.out, ← HGN.out]
     have hf6 := Fr.set6 (w := W7) b3 (.int .i64 4) (.int .u64 0) (.int .u64 0) (.int .u64 0) (.int .u64 0) (.slice (some ⟨gn, 0, none⟩) 1 1)
     have e2 : RfC (set6 W7 b3 (.int .i64 4) (.int .u64 0) (.int .u64 0) (.int .u64 0) (.int .u64 0) (.slice (some ⟨gn, 0, none⟩) 1 1)) g S st1 := Blk.fr e1 hf6 (fun e => ne5 e.symm)
     have e3 := e2.setAt (st1.at_ + 1) ((st1.at_ : Int) + 1) (by omega)
     have HM2 := e3.atF
     have hf7 := Fr.set6 (w := W7) b3 (.int .i64 4) (.int .u64 0) (.int .u64 0) (.int .u64 0) (.int .u64 0) (.slice (some ⟨gn, 0, none⟩) 1 1)
     have G5 : Blk _ b3 _ _ := (D5.set6 (x0 := .int .i64 4) (x1 := .int .u64 0) (x2 := .int .u64 0) (x3 := .int .u64 0) (x4 := .int .u64 0) (x5 := .slice (some ⟨gn, 0, none⟩) 1 1)).far (p := ⟨g, 1, none⟩) ne5 (.int .i64 ((st1.at_ : Int) + 1))
     have G4 : Blk _ w.heap.size _ _ := (Blk.fr D4 hf6 ne45).far (p := ⟨g, 1, none⟩) ne4 (.int .i64 ((st1.at_ : Int) + 1))
     have GF : Fr w _ (fun k => k = g) := frG (i := 1) (Fr.trans eF hf6 (fun k hk e => by omega)) (.int .i64 ((st1.at_ : Int) + 1))
     have GC := ReC.fr (frG (i := 1) (Fr.refl (set6 W7 b3 (.int .i64 4) (.int .u64 0) (.int .u64 0) (.int .u64 0) (.int .u64 0) (.slice (some ⟨gn, 0, none⟩) 1 1)) (fun k => k = g)) (.int .i64 ((st1.at_ : Int) + 1))) (e2.spares _) _ (ReC.fr hf6 (spares_not _ (fun h => h.2.2 rfl)) _ hK)
     go_roundw
     case rel => exact ⟨.node 4 Proofs.YtmkddhkpeiajhaaGreatDoor.z4 [p], stAt st1 (st1.at_ + 1), f, 4, 0, 0, 0, 0, some ⟨gn, 0, none⟩, 1, 1, HO2, HTH.out, fun _ => ⟨by show S.size + 1 ≤ f + (st1.at_ + 1); omega, HST.out⟩, by show st1.at_ + 1 ≤ _; omega, e3, GC, G5, G4, GF⟩
     case measure => rw [HM.out]; exact meas_lt HM2 (by show st1.at_ < st1.at_ + 1; omega) (by show st1.at_ + 1 ≤ _; omega)
    ·have hx : x.toNat = 43 := by rw [← HXN.out]; exact hx
     have hxi : (xn : Int) = 43 := by have := HXN.out; omega
     obtain ⟨f, rfl⟩ : ∃ f', f = f' + 1 := ⟨f - 1, by omega⟩
     have HO2 : Hid (rSigns S.data.toList f (.node 5 Proofs.YtmkddhkpeiajhaaGreatDoor.z4 [p]) (stAt st1 (st1.at_ + 1)) = R) := by show _ = _; rw [← HO.out, rsigns_43 _ _ _ _ x HX.out hx HB.out]
     have hst : setsR (.node 5 Proofs.YtmkddhkpeiajhaaGreatDoor.z4 [p]) ≤ 40000 * (st1.at_ + 1) := by rw [setsR_one]; omega
     have HST := Lib.hid hst
     have HTH := Lib.hid (thin1 5 Proofs.YtmkddhkpeiajhaaGreatDoor.z4 hth)
     have hup := three_ways HLO.out (wr := wq) B4.lt B5.lt
     have hK := ReC.one 5 hC hup
     have D5 := B5.alloc (.cells #[.int .i64 k, .int .u64 a, .int .u64 b, .int .u64 c, .int .u64 d, .slice A n cp] 98)
     have D4 := B4.alloc (.cells #[.int .i64 k, .int .u64 a, .int .u64 b, .int .u64 c, .int .u64 d, .slice A n cp] 98)
     have e1 : RfC (wq.alloc (.cells #[.int .i64 k, .int .u64 a, .int .u64 b, .int .u64 c, .int .u64 d, .slice A n cp] 98)) g S st1 := Blk.alloc h1 _
     have eF : Fr w (wq.alloc (.cells #[.int .i64 k, .int .u64 a, .int .u64 b, .int .u64 c, .int .u64 d, .slice A n cp] 98)) (fun k => k = g) := hF.alloc _
     obtain ⟨u0, u1, u2, u3, u4, u5, -⟩ := cells6 B5
     obtain ⟨z0, z1, z2, z3, z4, z5, y0, y1, y2, y3, y4, y5⟩ := cells6 D5
     obtain ⟨gn, hgn⟩ : ∃ gn, gn = wq.heap.size := ⟨_, rfl⟩
     rw [← hgn] at hK
     have HGN := Lib.hid hgn
     obtain ⟨W7, hW7⟩ : ∃ W7, W7 = wq.alloc (.cells #[.int .i64 k, .int .u64 a, .int .u64 b, .int .u64 c, .int .u64 d, .slice A n cp] 98) := ⟨_, rfl⟩
     rw [← hW7] at hK D5 D4 e1 eF
     have HW7 := Lib.hid hW7
     have c1 := e1.c1
     have f1 := e1.f 1
     rw [hW7] at c1 f1
     clear HO HX hx hst hup hC B5 B4 h1 hF hgn hW7 hth
     go_wp2_with fail
     rw [← HW7.out, ← HGN.out]
     have hf6 := Fr.set6 (w := W7) b3 (.int .i64 5) (.int .u64 0) (.int .u64 0) (.int .u64 0) (.int .u64 0) (.slice (some ⟨gn, 0, none⟩) 1 1)
     have e2 : RfC (set6 W7 b3 (.int .i64 5) (.int .u64 0) (.int .u64 0) (.int .u64 0) (.int .u64 0) (.slice (some ⟨gn, 0, none⟩) 1 1)) g S st1 := Blk.fr e1 hf6 (fun e => ne5 e.symm)
     have e3 := e2.setAt (st1.at_ + 1) ((st1.at_ : Int) + 1) (by omega)
     have HM2 := e3.atF
     have hf7 := Fr.set6 (w := W7) b3 (.int .i64 5) (.int .u64 0) (.int .u64 0) (.int .u64 0) (.int .u64 0) (.slice (some ⟨gn, 0, none⟩) 1 1)
     have G5 : Blk _ b3 _ _ := (D5.set6 (x0 := .int .i64 5) (x1 := .int .u64 0) (x2 := .int .u64 0) (x3 := .int .u64 0) (x4 := .int .u64 0) (x5 := .slice (some ⟨gn, 0, none⟩) 1 1)).far (p := ⟨g, 1, none⟩) ne5 (.int .i64 ((st1.at_ : Int) + 1))
     have G4 : Blk _ w.heap.size _ _ := (Blk.fr D4 hf6 ne45).far (p := ⟨g, 1, none⟩) ne4 (.int .i64 ((st1.at_ : Int) + 1))
     have GF : Fr w _ (fun k => k = g) := frG (i := 1) (Fr.trans eF hf6 (fun k hk e => by omega)) (.int .i64 ((st1.at_ : Int) + 1))
     have GC := ReC.fr (frG (i := 1) (Fr.refl (set6 W7 b3 (.int .i64 5) (.int .u64 0) (.int .u64 0) (.int .u64 0) (.int .u64 0) (.slice (some ⟨gn, 0, none⟩) 1 1)) (fun k => k = g)) (.int .i64 ((st1.at_ : Int) + 1))) (e2.spares _) _ (ReC.fr hf6 (spares_not _ (fun h => h.2.2 rfl)) _ hK)
     go_roundw
     case rel => exact ⟨.node 5 Proofs.YtmkddhkpeiajhaaGreatDoor.z4 [p], stAt st1 (st1.at_ + 1), f, 5, 0, 0, 0, 0, some ⟨gn, 0, none⟩, 1, 1, HO2, HTH.out, fun _ => ⟨by show S.size + 1 ≤ f + (st1.at_ + 1); omega, HST.out⟩, by show st1.at_ + 1 ≤ _; omega, e3, GC, G5, G4, GF⟩
     case measure => rw [HM.out]; exact meas_lt HM2 (by show st1.at_ < st1.at_ + 1; omega) (by show st1.at_ + 1 ≤ _; omega)
    ·have hx : x.toNat = 63 := by rw [← HXN.out]; exact hx
     have hxi : (xn : Int) = 63 := by have := HXN.out; omega
     obtain ⟨f, rfl⟩ : ∃ f', f = f' + 1 := ⟨f - 1, by omega⟩
     have HO2 : Hid (rSigns S.data.toList f (.node 6 Proofs.YtmkddhkpeiajhaaGreatDoor.z4 [p]) (stAt st1 (st1.at_ + 1)) = R) := by show _ = _; rw [← HO.out, rsigns_63 _ _ _ _ x HX.out hx HB.out]
     have hst : setsR (.node 6 Proofs.YtmkddhkpeiajhaaGreatDoor.z4 [p]) ≤ 40000 * (st1.at_ + 1) := by rw [setsR_one]; omega
     have HST := Lib.hid hst
     have HTH := Lib.hid (thin1 6 Proofs.YtmkddhkpeiajhaaGreatDoor.z4 hth)
     have hup := three_ways HLO.out (wr := wq) B4.lt B5.lt
     have hK := ReC.one 6 hC hup
     have D5 := B5.alloc (.cells #[.int .i64 k, .int .u64 a, .int .u64 b, .int .u64 c, .int .u64 d, .slice A n cp] 98)
     have D4 := B4.alloc (.cells #[.int .i64 k, .int .u64 a, .int .u64 b, .int .u64 c, .int .u64 d, .slice A n cp] 98)
     have e1 : RfC (wq.alloc (.cells #[.int .i64 k, .int .u64 a, .int .u64 b, .int .u64 c, .int .u64 d, .slice A n cp] 98)) g S st1 := Blk.alloc h1 _
     have eF : Fr w (wq.alloc (.cells #[.int .i64 k, .int .u64 a, .int .u64 b, .int .u64 c, .int .u64 d, .slice A n cp] 98)) (fun k => k = g) := hF.alloc _
     obtain ⟨u0, u1, u2, u3, u4, u5, -⟩ := cells6 B5
     obtain ⟨z0, z1, z2, z3, z4, z5, y0, y1, y2, y3, y4, y5⟩ := cells6 D5
     obtain ⟨gn, hgn⟩ : ∃ gn, gn = wq.heap.size := ⟨_, rfl⟩
     rw [← hgn] at hK
     have HGN := Lib.hid hgn
     obtain ⟨W7, hW7⟩ : ∃ W7, W7 = wq.alloc (.cells #[.int .i64 k, .int .u64 a, .int .u64 b, .int .u64 c, .int .u64 d, .slice A n cp] 98) := ⟨_, rfl⟩
     rw [← hW7] at hK D5 D4 e1 eF
     have HW7 := Lib.hid hW7
     have c1 := e1.c1
     have f1 := e1.f 1
     rw [hW7] at c1 f1
     clear HO HX hx hst hup hC B5 B4 h1 hF hgn hW7 hth
     go_wp2_with fail
     rw [← HW7.out, ← HGN.out]
     have hf6 := Fr.set6 (w := W7) b3 (.int .i64 6) (.int .u64 0) (.int .u64 0) (.int .u64 0) (.int .u64 0) (.slice (some ⟨gn, 0, none⟩) 1 1)
     have e2 : RfC (set6 W7 b3 (.int .i64 6) (.int .u64 0) (.int .u64 0) (.int .u64 0) (.int .u64 0) (.slice (some ⟨gn, 0, none⟩) 1 1)) g S st1 := Blk.fr e1 hf6 (fun e => ne5 e.symm)
     have e3 := e2.setAt (st1.at_ + 1) ((st1.at_ : Int) + 1) (by omega)
     have HM2 := e3.atF
     have hf7 := Fr.set6 (w := W7) b3 (.int .i64 6) (.int .u64 0) (.int .u64 0) (.int .u64 0) (.int .u64 0) (.slice (some ⟨gn, 0, none⟩) 1 1)
     have G5 : Blk _ b3 _ _ := (D5.set6 (x0 := .int .i64 6) (x1 := .int .u64 0) (x2 := .int .u64 0) (x3 := .int .u64 0) (x4 := .int .u64 0) (x5 := .slice (some ⟨gn, 0, none⟩) 1 1)).far (p := ⟨g, 1, none⟩) ne5 (.int .i64 ((st1.at_ : Int) + 1))
     have G4 : Blk _ w.heap.size _ _ := (Blk.fr D4 hf6 ne45).far (p := ⟨g, 1, none⟩) ne4 (.int .i64 ((st1.at_ : Int) + 1))
     have GF : Fr w _ (fun k => k = g) := frG (i := 1) (Fr.trans eF hf6 (fun k hk e => by omega)) (.int .i64 ((st1.at_ : Int) + 1))
     have GC := ReC.fr (frG (i := 1) (Fr.refl (set6 W7 b3 (.int .i64 6) (.int .u64 0) (.int .u64 0) (.int .u64 0) (.int .u64 0) (.slice (some ⟨gn, 0, none⟩) 1 1)) (fun k => k = g)) (.int .i64 ((st1.at_ : Int) + 1))) (e2.spares _) _ (ReC.fr hf6 (spares_not _ (fun h => h.2.2 rfl)) _ hK)
     go_roundw
     case rel => exact ⟨.node 6 Proofs.YtmkddhkpeiajhaaGreatDoor.z4 [p], stAt st1 (st1.at_ + 1), f, 6, 0, 0, 0, 0, some ⟨gn, 0, none⟩, 1, 1, HO2, HTH.out, fun _ => ⟨by show S.size + 1 ≤ f + (st1.at_ + 1); omega, HST.out⟩, by show st1.at_ + 1 ≤ _; omega, e3, GC, G5, G4, GF⟩
     case measure => rw [HM.out]; exact meas_lt HM2 (by show st1.at_ < st1.at_ + 1; omega) (by show st1.at_ + 1 ≤ _; omega)
    ·exact absurd (show x.toNat = 123 by rw [← HXN.out]; exact hx) (Txt.n123 (S := S) _ x HX.out)
    ·obtain ⟨x1, x2, x3, x4⟩ := hx
     have HR2 : Hid (R = (p, st1)) := by show _ = _; rw [← HO.out, rsigns_other _ _ _ _ x HX.out (by rw [← HXN.out]; exact x1) (by rw [← HXN.out]; exact x2) (by rw [← HXN.out]; exact x3) (by rw [← HXN.out]; exact x4)]
     have y1 : ((xn : Int) == 42) = false := by rw [beq_eq_false_iff_ne]; omega
     have y2 : ((xn : Int) == 43) = false := by rw [beq_eq_false_iff_ne]; omega
     have y3 : ((xn : Int) == 63) = false := by rw [beq_eq_false_iff_ne]; omega
     have y4 : ((xn : Int) == 123) = false := by rw [beq_eq_false_iff_ne]; omega
     clear HO x1 x2 x3 x4
     obtain ⟨u0, u1, u2, u3, u4, u5, -⟩ := cells6 B5
     obtain ⟨z0, z1, z2, z3, z4, z5, v0, v1, v2, v3, v4, v5⟩ := cells6 B4
     go_wp2_with fail
     refine bodyPost_ret (v := .agg #[.int .i64 k, .int .u64 a, .int .u64 b, .int .u64 c, .int .u64 d, .slice A n cp]) (by simp [results, Tryz.results103, go_sem, z0, z1, z2, z3, z4, z5]) rfl ?_
     exact RetTS.store6 HR2.out hC h1 hF rfl B4 (fun h => h.2.1 rfl) (Nat.le_refl _) (fun k h => h.1)
  ·have hbi : ((st1.bad : Int) == 0) = false := by rw [beq_eq_false_iff_ne]; omega
   have hbn : (st1.bad == 0) = false := by rw [beq_eq_false_iff_ne]; exact hb
   have HR2 : Hid (R = (p, st1)) := by show _ = _; rw [← HO.out, rsigns_bad _ _ _ _ hb]
   clear hb HO hfu
   go_wp2_with fail
   refine wp_region_laterq (by kernel_rfl) (by kernel_rfl) ?_
   repeat (go_big_quiet_step (fail))
   refine wpQuiet_nil ?_
   intro _ hwq
   obtain ⟨xz, rfl⟩ := hwq
   have h1 := h1.later xz.later
   have hC := hC.later xz.later
   have B5 := blkL xz.later B5
   have B4 := blkL xz.later B4
   have hF := frL hF xz.later
   clear k0 k1 k3
   obtain ⟨wq, hwq⟩ : ∃ wq, wq = xz.val := ⟨_, rfl⟩
   rw [← hwq] at h1 hC B5 B4 hF ⊢
   clear hwq xz
   obtain ⟨u0, u1, u2, u3, u4, u5, -⟩ := cells6 B5
   obtain ⟨z0, z1, z2, z3, z4, z5, y0, y1, y2, y3, y4, y5⟩ := cells6 B4
   go_wp2_with fail
   refine bodyPost_ret (v := .agg #[.int .i64 k, .int .u64 a, .int .u64 b, .int .u64 c, .int .u64 d, .slice A n cp]) (by simp [results, Tryz.results103, go_sem, z0, z1, z2, z3, z4, z5]) rfl ?_
   exact RetTS.store6 HR2.out hC h1 hF rfl B4 (fun h => h.2.1 rfl) (Nat.le_refl _) (fun k h => h.1)
end Go.Proofs.YtmkddhkpeiajhaaGreatDoor
