import Derived.Test.YtmkddhkpeiajhaaGreatDoorShaped
import Derived.Test.YtmkddhkpeiajhaaGreatDoorBrk5
namespace Go.Proofs.YtmkddhkpeiajhaaGreatDoor
open Go.RowKit
def AltC (S : ByteArray) (d : Nat) : Prop := ∀ (lo : Nat → Prop) (g : Nat) (st : St) (w : World), RdC w g S st → Dom S.data.toList d st → Up w lo →
 Calls Tryz.prog 64 #[.pointer (some ⟨g, 0, none⟩)] w (RetPcS w g lo S (altF S.data.toList d st))
theorem len_eq (S : ByteArray) : S.data.toList.length = S.size := Array.length_toList
set_option maxHeartbeats 4000000 in
theorem groupR_any (lo : Nat → Prop) (d g : Nat) (S : ByteArray) (st : St) (fr : Nat) (w : World) (hd : d ≤ 11) (ih : AltC S d) (h : RdC w g S st) (hs : S.size ≤ 1000000000) (hD : Dom S.data.toList (d + 1) st) (hlo : Up w lo) :
  Calls Tryz.prog 126 #[.pointer (some ⟨g, 0, none⟩), .int .i64 (fr : Int)] w (RetPcS w g lo S (groupF S.data.toList (altF S.data.toList d) st fr)) := by
 obtain ⟨R, hR⟩ : ∃ R, R = groupF S.data.toList (altF S.data.toList d) st fr := ⟨_, rfl⟩
 rw [← hR]
 have HD := Lib.hid hD
 have hop := hD.op
 have hgw := h.lt
 by_cases ho : 10 < st.op + 1
 ·have HR : Hid (R = (pcLeaf 0 z4, stFault 26 fr (stOp st (st.op + 1)))) := by
   show _ = _
   rw [hR]
   unfold groupF
   rw [if_pos ho]
  have hi : (10 : Int) < (st.op : Int) + 1 := by omega
  clear hR hD
  go_enter Tryz.func126, Tryz.ntmps126
  go_upto_region 1 with fail
  obtain ⟨W0, hW0⟩ : ∃ W0, W0 = w.alloc (.cells #[.int .i64 0, .int .u64 0, .int .u64 0, .int .u64 0, .int .u64 0, .slice none 0 0, .int .i64 0, .int .i64 0, .bool false] 117) := ⟨_, rfl⟩
  have B4 : Blk W0 w.heap.size 117 #[.int .i64 0, .int .u64 0, .int .u64 0, .int .u64 0, .int .u64 0, .slice none 0 0, .int .i64 0, .int .i64 0, .bool false] := by rw [hW0]; exact Blk.new w _ _
  have hl0 : Later w W0 := by rw [hW0]; exact (Later.refl w).alloc _
  have h0 := h.later hl0
  have hF0 : Fr w W0 (fun k => k = g) := Fr.later hl0
  have ne4 : w.heap.size ≠ g := by omega
  rw [← hW0]
  clear hW0 hl0
  have c2 := h0.c2
  have f2 := h0.f 2
  go_wp2_with fail
  have h1 := h0.setOp (st.op + 1) ((st.op : Int) + 1) (by omega)
  have hF1 : Fr w _ (fun k => k = g) := frG (i := 2) hF0 (.int .i64 ((st.op : Int) + 1))
  have E4 := B4.far (p := ⟨g, 2, none⟩) ne4 (.int .i64 ((st.op : Int) + 1))
  refine (faultR_any g S _ _ _ fr 26 _ h1 rfl rfl).mono ?_
  rintro e w2 ⟨rfl, h2, hF2⟩
  have hF3 := frF hF1 hF2
  have D4 := blkF hF2 ne4 E4
  clear c2 f2 hF1 E4 B4 hF0 h0 h1 hF2
  go_wp2_with fail
  refine (leaf_z lo 0 _).mono ?_
  rintro e w3 ⟨k, a, b, c, d, A, n, cp, rfl, hr, hl⟩
  have G4 := blkL hl D4
  obtain ⟨z0, z1, z2, z3, z4, z5, z6, z7, z8, y0, y1, y2, y3, y4, y5, y6, y7, y8⟩ := cells9 G4
  go_wp2_with fail
  refine bodyPost_ret (v := .agg #[.int .i64 k, .int .u64 a, .int .u64 b, .int .u64 c, .int .u64 d, .slice A n cp, .int .i64 ((pcLeaf 0 Proofs.YtmkddhkpeiajhaaGreatDoor.z4).deep : Int), .int .i64 ((pcLeaf 0 Proofs.YtmkddhkpeiajhaaGreatDoor.z4).leaves : Int), .bool (pcLeaf 0 Proofs.YtmkddhkpeiajhaaGreatDoor.z4).big]) (by simp [results, Tryz.results126, go_sem, z0, z1, z2, z3, z4, z5, z6, z7, z8]) rfl ?_
  exact RetPcS.store9 HR.out G4 hr (h2.later hl) (frL hF3 hl) (Nat.le_refl _)
 ·obtain ⟨q, st2, hal⟩ : ∃ q st2, altF S.data.toList d (stOp st (st.op + 1)) = (q, st2) := ⟨_, _, rfl⟩
  have hdom : Dom S.data.toList d (stOp st (st.op + 1)) := ⟨hD.bad, hD.at_, by show st.op + 1 ≤ 10; omega, by show 11 ≤ d + (st.op + 1); have := hD.deep; omega⟩
  have hres := alt_res S.data.toList d _ hdom
  rw [hal] at hres
  have hop2 : st.op + 1 ≤ st2.op := hres.opl
  have hop3 : st2.op ≤ 11 := hres.op
  have hat2 : st2.at_ ≤ S.data.toList.length + (6 + d) := hres.bd
  obtain ⟨o2, ho2⟩ : ∃ o2, st2.op = o2 + 1 := ⟨st2.op - 1, by omega⟩
  have HR : Hid (R = (q, let st3 := if (stOp st2 o2).bad = 0 ∧ isAt S.data.toList (stOp st2 o2).at_ 41 = false then stFault 24 (stOp st2 o2).at_ (stOp st2 o2) else stOp st2 o2; stAt st3 (st3.at_ + 1))) := by
   show _ = _
   rw [hR]
   unfold groupF
   rw [if_neg ho, hal]
   simp only [ho2, Nat.add_sub_cancel]
  have HDOM := Lib.hid hdom
  have HAL := Lib.hid hal
  have hi : ¬ (10 : Int) < (st.op : Int) + 1 := by omega
  rw [len_eq] at hat2
  have hat3 : st2.at_ ≤ 1000000100 := by omega
  have hat4 : (st2.at_ : Int) ≤ 1000000100 := by omega
  clear hR hD hres hdom hal
  go_enter Tryz.func126, Tryz.ntmps126
  go_upto_region 1 with fail
  obtain ⟨W0, hW0⟩ : ∃ W0, W0 = w.alloc (.cells #[.int .i64 0, .int .u64 0, .int .u64 0, .int .u64 0, .int .u64 0, .slice none 0 0, .int .i64 0, .int .i64 0, .bool false] 117) := ⟨_, rfl⟩
  have B4 : Blk W0 w.heap.size 117 #[.int .i64 0, .int .u64 0, .int .u64 0, .int .u64 0, .int .u64 0, .slice none 0 0, .int .i64 0, .int .i64 0, .bool false] := by rw [hW0]; exact Blk.new w _ _
  have hl0 : Later w W0 := by rw [hW0]; exact (Later.refl w).alloc _
  have h0 := h.later hl0
  have hF0 : Fr w W0 (fun k => k = g) := Fr.later hl0
  have ne4 : w.heap.size ≠ g := by omega
  rw [← hW0]
  clear hW0 hl0
  have c2 := h0.c2
  have f2 := h0.f 2
  go_wp2_with fail
  have h1 := h0.setOp (st.op + 1) ((st.op : Int) + 1) (by omega)
  have hF1 : Fr w _ (fun k => k = g) := frG (i := 2) hF0 (.int .i64 ((st.op : Int) + 1))
  have E4 := B4.far (p := ⟨g, 2, none⟩) ne4 (.int .i64 ((st.op : Int) + 1))
  refine (ih lo g _ _ h1 HDOM.out (hlo.fr hF1)).mono ?_
  rw [HAL.out]
  rintro e w2 ⟨k, a, b, c, d', A, n, cp, rfl, hC, h2, hF2⟩
  have hF3 := frF hF1 hF2
  have D4 := blkF hF2 ne4 E4
  clear c2 f2 hF1 E4 B4 hF0 h0 h1 hF2
  go_upto_region 6 with fail
  obtain ⟨W3, hW3⟩ : ∃ W3, W3 = w2.alloc (.cells #[.int .i64 k, .int .u64 a, .int .u64 b, .int .u64 c, .int .u64 d', .slice A n cp, .int .i64 (q.deep : Int), .int .i64 (q.leaves : Int), .bool q.big] 117) := ⟨_, rfl⟩
  have B5 : Blk W3 w2.heap.size 117 #[.int .i64 k, .int .u64 a, .int .u64 b, .int .u64 c, .int .u64 d', .slice A n cp, .int .i64 (q.deep : Int), .int .i64 (q.leaves : Int), .bool q.big] := by rw [hW3]; exact Blk.new w2 _ _
  have hl3 : Later w2 W3 := by rw [hW3]; exact (Later.refl w2).alloc _
  have ne5 : w2.heap.size ≠ g := by have := h2.lt; omega
  have h3 := h2.later hl3
  have B4 := blkL hl3 D4
  have hF4 := frL hF3 hl3
  have hC3 := hC.later hl3
  rw [← hW3]
  clear hW3 hl3 h2 D4 hF3 hC
  have c2 := h3.c2
  have f2 := h3.f 2
  go_upto_region 7 with fail
  obtain ⟨W4, hW4⟩ : ∃ W4, W4 = W3.setCell ⟨g, 2, none⟩ (.int .i64 (o2 : Int)) := ⟨_, rfl⟩
  have h4 : RdC W4 g S (stOp st2 o2) := by rw [hW4]; exact h3.setOp o2 _ rfl
  have E5 : Blk W4 w2.heap.size 117 #[.int .i64 k, .int .u64 a, .int .u64 b, .int .u64 c, .int .u64 d', .slice A n cp, .int .i64 (q.deep : Int), .int .i64 (q.leaves : Int), .bool q.big] := by rw [hW4]; exact B5.far (p := ⟨g, 2, none⟩) ne5 _
  have E4 : Blk W4 w.heap.size 117 #[.int .i64 0, .int .u64 0, .int .u64 0, .int .u64 0, .int .u64 0, .slice none 0 0, .int .i64 0, .int .i64 0, .bool false] := by rw [hW4]; exact B4.far (p := ⟨g, 2, none⟩) ne4 _
  have hF5 : Fr w W4 (fun k => k = g) := by rw [hW4]; exact frG (i := 2) hF4 _
  have hC4 : ReC W4 lo q.re ⟨k, a, b, c, d', A, n, cp⟩ := by rw [hW4]; exact ReC.fr (frG (i := 2) (Fr.refl W3 (fun k => k = g)) _) (h3.spares lo) _ hC3
  rw [← hW4]
  clear hW4 c2 f2 h3 B5 B4 hF4 hC3
  by_cases hb2 : st2.bad = 0
  ·have hbi : ((st2.bad : Int) == 0) = true := by rw [hb2]; rfl
   cases hv : isAt S.data.toList (stOp st2 o2).at_ 41 with
   | true =>
    have HR2 : Hid (R = (q, stAt (stOp st2 o2) ((stOp st2 o2).at_ + 1))) := by
     show _ = _
     rw [HR.out, if_neg (by rw [hv]; simp)]
    have HV := Lib.hid hv
    have c3 : W4.cell? ⟨g, 3, none⟩ = some (.int .i64 (st2.bad : Int)) := h4.c3
    clear HR hv hb2
    go_wp2_with fail
    refine (isR_any g S (stOp st2 o2) 41 41 true W4 h4 rfl HV.out hs).mono ?_
    rintro e wt ⟨rfl, hl5⟩
    have h5 := h4.later hl5
    have X5 := blkL hl5 E5
    have X4 := blkL hl5 E4
    have hFt := frL hF5 hl5
    have hCt := hC4.later hl5
    clear hl5 h4 E5 E4 hF5 hC4 c3
    have c1 : wt.cell? ⟨g, 1, none⟩ = some (.int .i64 (st2.at_ : Int)) := h5.c1
    have f1 := h5.f 1
    go_upto_region 10 with fail
    obtain ⟨W6, hW6⟩ : ∃ W6, W6 = wt.setCell ⟨g, 1, none⟩ (.int .i64 ((st2.at_ : Int) + 1)) := ⟨_, rfl⟩
    have h6 : RdC W6 g S (stAt (stOp st2 o2) ((stOp st2 o2).at_ + 1)) := by rw [hW6]; exact h5.setAt ((stOp st2 o2).at_ + 1) _ (by first | (show _ = ((st2.at_ + 1 : Nat) : Int); omega) | (rw [HA5.out]; omega))
    have G5 : Blk W6 w2.heap.size 117 #[.int .i64 k, .int .u64 a, .int .u64 b, .int .u64 c, .int .u64 d', .slice A n cp, .int .i64 (q.deep : Int), .int .i64 (q.leaves : Int), .bool q.big] := by rw [hW6]; exact X5.far (p := ⟨g, 1, none⟩) ne5 _
    have G4 : Blk W6 w.heap.size 117 #[.int .i64 0, .int .u64 0, .int .u64 0, .int .u64 0, .int .u64 0, .slice none 0 0, .int .i64 0, .int .i64 0, .bool false] := by rw [hW6]; exact X4.far (p := ⟨g, 1, none⟩) ne4 _
    have hF6 : Fr w W6 (fun k => k = g) := by rw [hW6]; exact frG (i := 1) hFt _
    have hC6 : ReC W6 lo q.re ⟨k, a, b, c, d', A, n, cp⟩ := by rw [hW6]; exact ReC.fr (frG (i := 1) (Fr.refl wt (fun k => k = g)) _) (h5.spares lo) _ hCt
    rw [← hW6]
    clear hW6 c1 f1 h5 X5 X4 hFt hCt
    obtain ⟨z0, z1, z2, z3, z4, z5, z6, z7, z8, y0, y1, y2, y3, y4, y5, y6, y7, y8⟩ := cells9 G4
    obtain ⟨u0, u1, u2, u3, u4, u5, u6, u7, u8, -⟩ := cells9 G5
    go_wp2_with fail
    refine bodyPost_ret (v := .agg #[.int .i64 k, .int .u64 a, .int .u64 b, .int .u64 c, .int .u64 d', .slice A n cp, .int .i64 (q.deep : Int), .int .i64 (q.leaves : Int), .bool q.big]) (by simp [results, Tryz.results126, go_sem, z0, z1, z2, z3, z4, z5, z6, z7, z8]) rfl ?_
    exact RetPcS.store9 HR2.out G4 hC6 h6 hF6 (Nat.le_refl _)
   | false =>
    have HR2 : Hid (R = (q, stAt (stFault 24 (stOp st2 o2).at_ (stOp st2 o2)) ((stFault 24 (stOp st2 o2).at_ (stOp st2 o2)).at_ + 1))) := by
     show _ = _
     rw [HR.out, if_pos ⟨hb2, hv⟩]
    have HV := Lib.hid hv
    have hlo4 : Hid (Up w lo) := hlo
    have c3 : W4.cell? ⟨g, 3, none⟩ = some (.int .i64 (st2.bad : Int)) := h4.c3
    clear HR hv hb2
    go_wp2_with fail
    refine (isR_any g S (stOp st2 o2) 41 41 false W4 h4 rfl HV.out hs).mono ?_
    rintro e w5 ⟨rfl, hl5⟩
    have h5 := h4.later hl5
    have X5 := blkL hl5 E5
    have X4 := blkL hl5 E4
    have hFt := frL hF5 hl5
    have hCt := hC4.later hl5
    clear hl5 h4 E5 E4 hF5 hC4 c3
    have c1 : w5.cell? ⟨g, 1, none⟩ = some (.int .i64 (st2.at_ : Int)) := h5.c1
    go_wp2_with fail
    refine (faultR_any g S _ _ _ st2.at_ 24 _ h5 rfl rfl).mono ?_
    rintro e wt ⟨rfl, h6, hF6⟩
    have hCt := ReC.fr hF6 (h5.spares lo) _ hCt
    have h5 := h6
    have X5 := blkF hF6 ne5 X5
    have X4 := blkF hF6 ne4 X4
    have hFt := frF hFt hF6
    have hst : stFault 24 (stOp st2 o2).at_ (stOp st2 o2) = stFault 24 st2.at_ (stOp st2 o2) := rfl
    rw [hst] at HR2
    obtain ⟨st5, hst5⟩ : ∃ st5, st5 = stFault 24 st2.at_ (stOp st2 o2) := ⟨_, rfl⟩
    rw [← hst5] at h5 HR2
    have HA5 : Hid (st5.at_ = st2.at_) := by show _ = _; rw [hst5]; exact fault_at _ _ _
    clear hst5 h6 c1 hF6 hst
    have c1 : wt.cell? ⟨g, 1, none⟩ = some (.int .i64 (st2.at_ : Int)) := (by have hh := h5.c1; rw [HA5.out] at hh; exact hh)
    have f1 := h5.f 1
    go_upto_region 10 with fail
    obtain ⟨W6, hW6⟩ : ∃ W6, W6 = wt.setCell ⟨g, 1, none⟩ (.int .i64 ((st2.at_ : Int) + 1)) := ⟨_, rfl⟩
    have h6 : RdC W6 g S (stAt st5 (st5.at_ + 1)) := by rw [hW6]; exact h5.setAt (st5.at_ + 1) _ (by first | (show _ = ((st2.at_ + 1 : Nat) : Int); omega) | (rw [HA5.out]; omega))
    have G5 : Blk W6 w2.heap.size 117 #[.int .i64 k, .int .u64 a, .int .u64 b, .int .u64 c, .int .u64 d', .slice A n cp, .int .i64 (q.deep : Int), .int .i64 (q.leaves : Int), .bool q.big] := by rw [hW6]; exact X5.far (p := ⟨g, 1, none⟩) ne5 _
    have G4 : Blk W6 w.heap.size 117 #[.int .i64 0, .int .u64 0, .int .u64 0, .int .u64 0, .int .u64 0, .slice none 0 0, .int .i64 0, .int .i64 0, .bool false] := by rw [hW6]; exact X4.far (p := ⟨g, 1, none⟩) ne4 _
    have hF6 : Fr w W6 (fun k => k = g) := by rw [hW6]; exact frG (i := 1) hFt _
    have hC6 : ReC W6 lo q.re ⟨k, a, b, c, d', A, n, cp⟩ := by rw [hW6]; exact ReC.fr (frG (i := 1) (Fr.refl wt (fun k => k = g)) _) (h5.spares lo) _ hCt
    rw [← hW6]
    clear hW6 c1 f1 h5 X5 X4 hFt hCt
    obtain ⟨z0, z1, z2, z3, z4, z5, z6, z7, z8, y0, y1, y2, y3, y4, y5, y6, y7, y8⟩ := cells9 G4
    obtain ⟨u0, u1, u2, u3, u4, u5, u6, u7, u8, -⟩ := cells9 G5
    go_wp2_with fail
    refine bodyPost_ret (v := .agg #[.int .i64 k, .int .u64 a, .int .u64 b, .int .u64 c, .int .u64 d', .slice A n cp, .int .i64 (q.deep : Int), .int .i64 (q.leaves : Int), .bool q.big]) (by simp [results, Tryz.results126, go_sem, z0, z1, z2, z3, z4, z5, z6, z7, z8]) rfl ?_
    exact RetPcS.store9 HR2.out G4 hC6 h6 hF6 (Nat.le_refl _)
  ·have hbi : ((st2.bad : Int) == 0) = false := by rw [beq_eq_false_iff_ne]; omega
   have HR2 : Hid (R = (q, stAt (stOp st2 o2) ((stOp st2 o2).at_ + 1))) := by
    show _ = _
    rw [HR.out, if_neg (fun hh => hb2 hh.1)]
   have c3 : W4.cell? ⟨g, 3, none⟩ = some (.int .i64 (st2.bad : Int)) := h4.c3
   clear HR hb2
   have h5 := h4
   have X5 := E5
   have X4 := E4
   have hFt := hF5
   have hCt := hC4
   obtain ⟨wt, hwt⟩ : ∃ wt, wt = W4 := ⟨_, rfl⟩
   rw [← hwt] at h5 X5 X4 hFt hCt c3 ⊢
   clear hwt h4 E5 E4 hF5 hC4
   have c1 : wt.cell? ⟨g, 1, none⟩ = some (.int .i64 (st2.at_ : Int)) := h5.c1
   have f1 := h5.f 1
   go_upto_region 10 with fail
   obtain ⟨W6, hW6⟩ : ∃ W6, W6 = wt.setCell ⟨g, 1, none⟩ (.int .i64 ((st2.at_ : Int) + 1)) := ⟨_, rfl⟩
   have h6 : RdC W6 g S (stAt (stOp st2 o2) ((stOp st2 o2).at_ + 1)) := by rw [hW6]; exact h5.setAt ((stOp st2 o2).at_ + 1) _ (by first | (show _ = ((st2.at_ + 1 : Nat) : Int); omega) | (rw [HA5.out]; omega))
   have G5 : Blk W6 w2.heap.size 117 #[.int .i64 k, .int .u64 a, .int .u64 b, .int .u64 c, .int .u64 d', .slice A n cp, .int .i64 (q.deep : Int), .int .i64 (q.leaves : Int), .bool q.big] := by rw [hW6]; exact X5.far (p := ⟨g, 1, none⟩) ne5 _
   have G4 : Blk W6 w.heap.size 117 #[.int .i64 0, .int .u64 0, .int .u64 0, .int .u64 0, .int .u64 0, .slice none 0 0, .int .i64 0, .int .i64 0, .bool false] := by rw [hW6]; exact X4.far (p := ⟨g, 1, none⟩) ne4 _
   have hF6 : Fr w W6 (fun k => k = g) := by rw [hW6]; exact frG (i := 1) hFt _
   have hC6 : ReC W6 lo q.re ⟨k, a, b, c, d', A, n, cp⟩ := by rw [hW6]; exact ReC.fr (frG (i := 1) (Fr.refl wt (fun k => k = g)) _) (h5.spares lo) _ hCt
   rw [← hW6]
   clear hW6 c1 f1 h5 X5 X4 hFt hCt
   obtain ⟨z0, z1, z2, z3, z4, z5, z6, z7, z8, y0, y1, y2, y3, y4, y5, y6, y7, y8⟩ := cells9 G4
   obtain ⟨u0, u1, u2, u3, u4, u5, u6, u7, u8, -⟩ := cells9 G5
   go_wp2_with fail
   refine bodyPost_ret (v := .agg #[.int .i64 k, .int .u64 a, .int .u64 b, .int .u64 c, .int .u64 d', .slice A n cp, .int .i64 (q.deep : Int), .int .i64 (q.leaves : Int), .bool q.big]) (by simp [results, Tryz.results126, go_sem, z0, z1, z2, z3, z4, z5, z6, z7, z8]) rfl ?_
   exact RetPcS.store9 HR2.out G4 hC6 h6 hF6 (Nat.le_refl _)
end Go.Proofs.YtmkddhkpeiajhaaGreatDoor
