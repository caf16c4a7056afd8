import Derived.Test.YtmkddhkpeiajhaaGreatDoorErd
import Derived.Test.YtmkddhkpeiajhaaGreatDoorShaped
import Derived.Deep.DeepCutAuto
import Derived.Deep.CutBlock
import Derived.Deep.RegionHeldLaw
namespace Go.Proofs.YtmkddhkpeiajhaaGreatDoor
open Go.RowKit
def RetPcS (w : World) (g : Nat) (lo : Nat → Prop) (S : ByteArray) (r : Pc × St) (e : Ending) (w' : World) : Prop :=
  ∃ (k a b c d : Int) (A : Option Addr) (n cp : Nat), e = .returned (.agg #[.int .i64 k, .int .u64 a, .int .u64 b, .int .u64 c, .int .u64 d, .slice A n cp, .int .i64 (r.1.deep : Int), .int .i64 (r.1.leaves : Int), .bool r.1.big]) ∧ ReC w' lo r.1.re ⟨k, a, b, c, d, A, n, cp⟩ ∧ RdC w' g S r.2 ∧ Fr w w' (fun k => k = g)
theorem frL {w w1 w2 : World} {g : Nat} (h : Fr w w1 (fun k => k = g)) (hl : Later w1 w2) : Fr w w2 (fun k => k = g) := h.andLater hl
theorem frF {w w1 w2 : World} {g : Nat} (h : Fr w w1 (fun k => k = g)) (hl : Fr w1 w2 (fun k => k = g)) : Fr w w2 (fun k => k = g) := h.trans hl (fun _ _ h => h)
theorem blkF {w w1 : World} {g b : Nat} {t : TypeId} {cs : Array Value} (hf : Fr w w1 (fun k => k = g)) (hb : b ≠ g) (h : Blk w b t cs) : Blk w1 b t cs := h.fr hf hb
def TmA (w : World) (g : Nat) (S : ByteArray) (st : St) (k a b c d : Int) (A : Option Addr) (n cp : Nat) (p : Pc) (r : Int × Int × Bool × Nat) (s6 s7 s8 : Value) (wx : World) : Prop :=
  s6 = .int .i64 r.1 ∧ s7 = .int .i64 r.2.1 ∧ s8 = .bool r.2.2.1 ∧ -1 ≤ r.2.1 ∧ r.2.1 ≤ 99 ∧ r.2.2.2 ≤ S.size + 5 ∧ RdC wx g S (stAt st r.2.2.2) ∧ Blk wx w.heap.size 117 #[.int .i64 k, .int .u64 a, .int .u64 b, .int .u64 c, .int .u64 d, .slice A n cp, .int .i64 (p.deep : Int), .int .i64 (p.leaves : Int), .bool p.big] ∧ Blk wx (w.heap.size + 1) 117 #[.int .i64 0, .int .u64 0, .int .u64 0, .int .u64 0, .int .u64 0, .slice none 0 0, .int .i64 0, .int .i64 0, .bool false] ∧ Fr w wx (fun k => k = g)
def TmB (w : World) (g : Nat) (S : ByteArray) (st : St) (k a b c d : Int) (A : Option Addr) (n cp : Nat) (p : Pc) (r : Int × Int × Bool × Nat) (s9 : Value) (wx : World) : Prop :=
  s9 = .bool (rangeOk S.data.toList r) ∧ RdC wx g S (stAt st r.2.2.2) ∧ Blk wx w.heap.size 117 #[.int .i64 k, .int .u64 a, .int .u64 b, .int .u64 c, .int .u64 d, .slice A n cp, .int .i64 (p.deep : Int), .int .i64 (p.leaves : Int), .bool p.big] ∧ Blk wx (w.heap.size + 1) 117 #[.int .i64 0, .int .u64 0, .int .u64 0, .int .u64 0, .int .u64 0, .slice none 0 0, .int .i64 0, .int .i64 0, .bool false] ∧ Fr w wx (fun k => k = g)
theorem digitsF_bd (s : List UInt8) (a : Nat) : -1 ≤ (digitsF s a).1 ∧ (digitsF s a).1 ≤ 99 ∧ a ≤ (digitsF s a).2 ∧ (digitsF s a).2 ≤ a + 2 := by
  have hd : ∀ d : UInt8, isDig d = true → d.toNat - 48 ≤ 9 := fun d hd => by have := (isDig_iff d).1 hd; omega
  unfold digitsF
  cases h0 : s[a]? with
  | none =>
    rw [digF_none _ _ _ _ h0, if_pos rfl]
    exact ⟨by show (-1 : Int) ≤ -1; omega, by show (-1 : Int) ≤ 99; omega, Nat.le_refl _, by show a ≤ a + 2; omega⟩
  | some d =>
    by_cases o : isDig d = true
    · have := hd d o
      rw [digF_some _ _ _ _ d h0 o]
      cases h1 : s[a + 1]? with
      | none =>
        rw [digF_none _ _ _ _ h1, if_neg (by simp)]
        simp only
        omega
      | some d2 =>
        by_cases o2 : isDig d2 = true
        · have := hd d2 o2
          rw [digF_some _ _ _ _ d2 h1 o2, digF]
          rw [if_neg (by omega)]
          simp only
          omega
        · rw [digF_not _ _ _ _ d2 h1 o2, if_neg (by simp)]
          simp only
          omega
    · rw [digF_not _ _ _ _ d h0 o, if_pos rfl]
      exact ⟨by show (-1 : Int) ≤ -1; omega, by show (-1 : Int) ≤ 99; omega, Nat.le_refl _, by show a ≤ a + 2; omega⟩
theorem RetPcS.store9 {w w1 : World} {g g2 : Nat} {lo : Nat → Prop} {S : ByteArray} {R : Pc × St} {q : Pc} {st : St} {{k a b c d : Int}} {{A : Option Addr}} {{n cp : Nat}} {y0 y1 y2 y3 y4 y5 y6 y7 y8 : Value} (hR : R = (q, st)) (hB : Blk w1 g2 117 #[y0, y1, y2, y3, y4, y5, y6, y7, y8]) (hC : ReC w1 lo q.re ⟨k, a, b, c, d, A, n, cp⟩) (hr : RdC w1 g S st) (hF : Fr w w1 (fun k => k = g)) (hg : w.heap.size ≤ g2) :
    RetPcS w g lo S R (.returned (.agg #[.int .i64 k, .int .u64 a, .int .u64 b, .int .u64 c, .int .u64 d, .slice A n cp, .int .i64 (q.deep : Int), .int .i64 (q.leaves : Int), .bool q.big])) (set9 w1 g2 (.int .i64 k) (.int .u64 a) (.int .u64 b) (.int .u64 c) (.int .u64 d) (.slice A n cp) (.int .i64 (q.deep : Int)) (.int .i64 (q.leaves : Int)) (.bool q.big)) := by
  subst hR
  have hne : g ≠ g2 := by
    rintro rfl
    exact Blk.ne_ hB hr (by decide) rfl
  exact ⟨k, a, b, c, d, A, n, cp, rfl, ReC.fr (Fr.set9 g2 _ _ _ _ _ _ _ _ _) (spares_blk lo hB (by decide)) _ hC, Blk.fr hr (Fr.set9 g2 _ _ _ _ _ _ _ _ _) hne, (hF.trans (Fr.set9 g2 _ _ _ _ _ _ _ _ _) (fun k hk e => by omega))⟩
theorem leaf_z (lo : Nat → Prop) (kind : Int) (w : World) : Calls Tryz.prog 125 #[.int .i64 kind, .agg #[.int .u64 0, .int .u64 0, .int .u64 0, .int .u64 0]] w (RetPc w lo (pcLeaf kind z4)) := leaf_any lo kind z4 w
theorem fits_big (lo : Nat → Prop) (w : World) : Calls Tryz.prog 117 #[.agg #[.int .i64 0, .int .u64 0, .int .u64 0, .int .u64 0, .int .u64 0, .slice none 0 0, .int .i64 0, .int .i64 0, .bool true]] w (RetPc w lo bigPc) :=
  fits_any lo 0 0 0 0 0 none 0 0 tEmpty 0 0 true 0 0 w (ReC.leaf w lo 0 z4 none 0) rfl rfl (by omega) (by omega)
def TmC (w : World) (g : Nat) (S : ByteArray) (st' : St) (k a b c d : Int) (A : Option Addr) (n cp : Nat) (p : Pc) (x : Int) (s10 : Value) (wx : World) : Prop :=
  s10 = .int .i64 x ∧ RdC wx g S st' ∧ Blk wx w.heap.size 117 #[.int .i64 k, .int .u64 a, .int .u64 b, .int .u64 c, .int .u64 d, .slice A n cp, .int .i64 (p.deep : Int), .int .i64 (p.leaves : Int), .bool p.big] ∧ Blk wx (w.heap.size + 1) 117 #[.int .i64 0, .int .u64 0, .int .u64 0, .int .u64 0, .int .u64 0, .slice none 0 0, .int .i64 0, .int .i64 0, .bool false] ∧ Fr w wx (fun k => k = g)
def TmL (w : World) (g : Nat) (lo : Nat → Prop) (S : ByteArray) (st' : St) (k a b c d : Int) (A : Option Addr) (n cp : Nat) (p : Pc) (L : Nat) (en : Bool) (N : Nat) (s11 s12 : Value) (wx : World) : Prop :=
  ∃ (i : Nat) (Al : Option Addr) (cl : Nat), i ≤ N ∧ s12 = .int .i64 (i : Int) ∧ s11 = .slice Al i cl ∧ OwnP wx lo (w.heap.size + 2) Al i cl (copiesPc p L en i) ∧ RdC wx g S st' ∧ Blk wx w.heap.size 117 #[.int .i64 k, .int .u64 a, .int .u64 b, .int .u64 c, .int .u64 d, .slice A n cp, .int .i64 (p.deep : Int), .int .i64 (p.leaves : Int), .bool p.big] ∧ Blk wx (w.heap.size + 1) 117 #[.int .i64 0, .int .u64 0, .int .u64 0, .int .u64 0, .int .u64 0, .slice none 0 0, .int .i64 0, .int .i64 0, .bool false] ∧ Fr w wx (fun k => k = g)
def TmX (w : World) (g : Nat) (lo : Nat → Prop) (S : ByteArray) (st' : St) (k a b c d : Int) (A : Option Addr) (n cp : Nat) (p : Pc) (Al : Option Addr) (i cl : Nat) (ps : List Pc) (q : Pc) (s13 : Value) (wx : World) : Prop :=
  ∃ (g13 : Nat) (xk xa xb xc xd : Int) (xA : Option Addr) (xn xcp : Nat), s13 = .pointer (some ⟨g13, 0, none⟩) ∧ w.heap.size + 2 ≤ g13 ∧ (∀ b, ob Al = some b → b ≠ g13) ∧ Blk wx g13 117 #[.int .i64 xk, .int .u64 xa, .int .u64 xb, .int .u64 xc, .int .u64 xd, .slice xA xn xcp, .int .i64 (q.deep : Int), .int .i64 (q.leaves : Int), .bool q.big] ∧ ReC wx lo q.re ⟨xk, xa, xb, xc, xd, xA, xn, xcp⟩ ∧
    OwnP wx lo (w.heap.size + 2) Al i cl ps ∧ RdC wx g S st' ∧ Blk wx w.heap.size 117 #[.int .i64 k, .int .u64 a, .int .u64 b, .int .u64 c, .int .u64 d, .slice A n cp, .int .i64 (p.deep : Int), .int .i64 (p.leaves : Int), .bool p.big] ∧ Blk wx (w.heap.size + 1) 117 #[.int .i64 0, .int .u64 0, .int .u64 0, .int .u64 0, .int .u64 0, .slice none 0 0, .int .i64 0, .int .i64 0, .bool false] ∧ Fr w wx (fun k => k = g)
theorem copies_snoc (p : Pc) (L : Nat) (en : Bool) (i : Nat) : copiesPc p L en (i + 1) = copiesPc p L en i ++ [copyPc p L en i] := by
  unfold copiesPc
  rw [List.range_succ, List.map_append]
  rfl
theorem copies_ok {p : Pc} (h : PcOk p) (L : Nat) (en : Bool) (i : Nat) : ∀ q ∈ copiesPc p L en i, PcOk q := by
  intro q hq
  unfold copiesPc at hq
  obtain ⟨j, _, rfl⟩ := List.mem_map.1 hq
  have h0 : PcOk ⟨p.re, p.deep, p.leaves, false⟩ := h
  unfold copyPc
  split
  · exact h0
  · exact pcOne_ok _ h0
theorem cells8 {w : World} {b : Nat} {t : TypeId} {x0 x1 x2 x3 x4 x5 x6 x7 x8 : Value} (h : Blk w b t #[x0, x1, x2, x3, x4, x5, x6, x7, x8]) :
    w.cell? ⟨b, 0, none⟩ = some x0 ∧ w.cell? ⟨b, 1, none⟩ = some x1 ∧ w.cell? ⟨b, 2, none⟩ = some x2 ∧ w.cell? ⟨b, 3, none⟩ = some x3 ∧ w.cell? ⟨b, 4, none⟩ = some x4 ∧ w.cell? ⟨b, 5, none⟩ = some x5 ∧ w.cell? ⟨b, 6, none⟩ = some x6 ∧ w.cell? ⟨b, 7, none⟩ = some x7 :=
  ⟨h.cell 0, h.cell 1, h.cell 2, h.cell 3, h.cell 4, h.cell 5, h.cell 6, h.cell 7⟩
theorem blkNw {w w1 : World} {t : TypeId} {cs : Array Value} (hl : Later (w.alloc (.cells cs t)) w1) : Blk w1 w.heap.size t cs := blkL hl (Blk.new w t cs)
theorem blkNwD {w w1 : World} {t : TypeId} {cs : Array Value} (hl : Later (w.alloc (.cells cs t)).drew w1) : Blk w1 w.heap.size t cs := blkL hl (Blk.new w t cs)
theorem TmX.store {w w1 : World} {g g13 : Nat} {lo : Nat → Prop} {S : ByteArray} {st' : St} {{k a b c d : Int}} {{A : Option Addr}} {{n cp : Nat}} {p q : Pc} {Al : Option Addr} {i cl : Nat} {ps : List Pc} {{xk xa xb xc xd : Int}} {{xA : Option Addr}} {{xn xcp : Nat}} {y0 y1 y2 y3 y4 y5 y6 y7 y8 : Value} (hge : w.heap.size + 2 ≤ g13) (hne : ∀ b, ob Al = some b → b ≠ g13)
    (hB : Blk w1 g13 117 #[y0, y1, y2, y3, y4, y5, y6, y7, y8]) (hx : ReC w1 lo q.re ⟨xk, xa, xb, xc, xd, xA, xn, xcp⟩) (hO : OwnP w1 lo (w.heap.size + 2) Al i cl ps) (hr : RdC w1 g S st') (B3 : Blk w1 w.heap.size 117 #[.int .i64 k, .int .u64 a, .int .u64 b, .int .u64 c, .int .u64 d, .slice A n cp, .int .i64 (p.deep : Int), .int .i64 (p.leaves : Int), .bool p.big]) (B4 : Blk w1 (w.heap.size + 1) 117 #[.int .i64 0, .int .u64 0, .int .u64 0, .int .u64 0, .int .u64 0, .slice none 0 0, .int .i64 0, .int .i64 0, .bool false]) (hF : Fr w w1 (fun k => k = g)) :
    TmX w g lo S st' k a b c d A n cp p Al i cl ps q (.pointer (some ⟨g13, 0, none⟩)) (set9 w1 g13 (.int .i64 xk) (.int .u64 xa) (.int .u64 xb) (.int .u64 xc) (.int .u64 xd) (.slice xA xn xcp) (.int .i64 (q.deep : Int)) (.int .i64 (q.leaves : Int)) (.bool q.big)) := by
  have hf : Fr w1 (set9 w1 g13 (.int .i64 xk) (.int .u64 xa) (.int .u64 xb) (.int .u64 xc) (.int .u64 xd) (.slice xA xn xcp) (.int .i64 (q.deep : Int)) (.int .i64 (q.leaves : Int)) (.bool q.big)) (fun k => k = g13) := Fr.set9 g13 _ _ _ _ _ _ _ _ _
  have hg : g ≠ g13 := by
    rintro rfl
    exact Blk.ne_ hB hr (by decide) rfl
  exact ⟨g13, xk, xa, xb, xc, xd, xA, xn, xcp, rfl, hge, hne, hB.set9, ReC.fr hf (spares_blk lo hB (by decide)) _ hx, hO.fr hf (spares_blk lo hB (by decide)) hne, Blk.fr hr hf hg, Blk.fr B3 hf (by show ¬ w.heap.size = g13; omega), Blk.fr B4 hf (by show ¬ w.heap.size + 1 = g13; omega), hF.trans hf (fun k hk e => by omega)⟩
set_option maxRecDepth 100000 in
set_option maxHeartbeats 16000000 in
theorem timesR_any (lo : Nat → Prop) (g : Nat) (S : ByteArray) (st : St) (k a b c d : Int) (A : Option Addr) (n cp : Nat) (p : Pc) (w : World) (h : RdC w g S st) (hC : ReC w lo p.re ⟨k, a, b, c, d, A, n, cp⟩) (hok : PcOk p) (hs : S.size ≤ 1000000000) (hbad : st.bad = 0) (hat : st.at_ < S.size) (hlo : Up w lo) :
    Calls Tryz.prog 116 #[.pointer (some ⟨g, 0, none⟩), .agg #[.int .i64 k, .int .u64 a, .int .u64 b, .int .u64 c, .int .u64 d, .slice A n cp, .int .i64 (p.deep : Int), .int .i64 (p.leaves : Int), .bool p.big]] w (RetPcS w g lo S (timesF S.data.toList p st)) := by
  obtain ⟨R, hR⟩ : ∃ R, R = timesF S.data.toList p st := ⟨_, rfl⟩
  rw [← hR]
  obtain ⟨r, hr⟩ : ∃ r, r = rangeF S.data.toList (st.at_ + 1) := ⟨_, rfl⟩
  unfold timesF at hR
  rw [← hr] at hR
  have HR : Hid (R = _) := Lib.hid hR
  clear hR
  have HRG := Lib.hid hr
  have HB := Lib.hid hbad
  have hgw := h.lt
  clear hr hbad
  go_enter Tryz.func116, Tryz.ntmps116
  go_upto_region 1 with fail
  obtain ⟨W0, hW0⟩ : ∃ W0, W0 = (w.alloc (.cells #[.int .i64 k, .int .u64 a, .int .u64 b, .int .u64 c, .int .u64 d, .slice A n cp, .int .i64 (p.deep : Int), .int .i64 (p.leaves : Int), .bool p.big] 117)).alloc (.cells #[.int .i64 0, .int .u64 0, .int .u64 0, .int .u64 0, .int .u64 0, .slice none 0 0, .int .i64 0, .int .i64 0, .bool false] 117) := ⟨_, rfl⟩
  have B3 : Blk W0 w.heap.size 117 #[.int .i64 k, .int .u64 a, .int .u64 b, .int .u64 c, .int .u64 d, .slice A n cp, .int .i64 (p.deep : Int), .int .i64 (p.leaves : Int), .bool p.big] := by rw [hW0]; exact (Blk.new w _ _).alloc _
  have B4 : Blk W0 (w.heap.size + 1) 117 #[.int .i64 0, .int .u64 0, .int .u64 0, .int .u64 0, .int .u64 0, .slice none 0 0, .int .i64 0, .int .i64 0, .bool false] := by rw [hW0]; exact blk_at (by simp)
  have hl0 : Later w W0 := by rw [hW0]; exact ((Later.refl w).alloc _).alloc _
  have h0 := h.later hl0
  have hF0 : Fr w W0 (fun k => k = g) := Fr.later hl0
  have ne3 : w.heap.size ≠ g := by omega
  have ne4 : w.heap.size + 1 ≠ g := by omega
  rw [← hW0]
  clear hW0 hl0
  have c1 := h0.c1
  have f1 := h0.f 1
  go_wp2_with fail
  have h1 := h0.setAt (st.at_ + 1) ((st.at_ : Int) + 1) (by omega)
  have hF1 : Fr w _ (fun k => k = g) := frG (i := 1) hF0 (.int .i64 ((st.at_ : Int) + 1))
  have E3 := B3.far (p := ⟨g, 1, none⟩) ne3 (.int .i64 ((st.at_ : Int) + 1))
  have E4 := B4.far (p := ⟨g, 1, none⟩) ne4 (.int .i64 ((st.at_ : Int) + 1))
  clear c1 f1 B3 B4 hF0 h0
  obtain ⟨L, q1, hd1⟩ : ∃ L q1, digitsF S.data.toList (st.at_ + 1) = (L, q1) := ⟨_, _, rfl⟩
  have bd1 := digitsF_bd S.data.toList (st.at_ + 1)
  rw [hd1] at bd1
  simp only at bd1
  have hdig : Calls Tryz.prog 131 #[.pointer (some ⟨g, 0, none⟩)] (W0.setCell ⟨g, 1, none⟩ (.int .i64 ((st.at_ : Int) + 1))) fun e w' => e = .returned (.int .i64 L) ∧ RdC w' g S (stAt st q1) ∧ Fr (W0.setCell ⟨g, 1, none⟩ (.int .i64 ((st.at_ : Int) + 1))) w' (fun k => k = g) :=
    (digitsR_any g S (stAt st (st.at_ + 1)) _ h1 hs (by show st.at_ + 1 ≤ _; omega)).mono fun e w' he => by
      obtain ⟨h1, h2, h3⟩ := he
      have hd1' : digitsF S.data.toList (stAt st (st.at_ + 1)).at_ = (L, q1) := hd1
      rw [hd1'] at h1 h2
      exact ⟨h1, h2, h3⟩
  have HD1 := Lib.hid hd1
  clear hd1
  refine hdig.mono ?_
  rintro e w2 ⟨rfl, h3, hF2⟩
  have hF3 := frF hF1 hF2
  have D3 := blkF hF2 ne3 E3
  have D4 := blkF hF2 ne4 E4
  clear hF2 hF1 E3 E4 h1 hdig
  obtain ⟨v, hv⟩ : ∃ v, isAt S.data.toList (stAt st q1).at_ 44 = v := ⟨_, rfl⟩
  have HV := Lib.hid hv
  go_wp2_with fail
  refine (isR_any g S (stAt st q1) 44 44 v w2 h3 rfl hv hs).mono ?_
  rintro e w3 ⟨rfl, hl3⟩
  have h4 := h3.later hl3
  have hF4 := frL hF3 hl3
  have B3 := blkL hl3 D3
  have B4 := blkL hl3 D4
  clear h3 hF3 D3 D4 hl3 hv
  go_upto_if 29 with (fail)
  go_cut [7, 8] (fun s7 s8 wx => TmA w g S st k a b c d A n cp p r (.int .i64 L) s7 s8 wx)
  case first =>
    cases v with
    | false =>
      have hr : r = (L, L, false, q1) := by
        have h1 := HRG.out
        have h2 : isAt S.data.toList q1 44 = false := HV.out
        unfold rangeF at h1
        rw [HD1.out, h2] at h1
        exact h1
      go_wp2_with fail
      go_meet
      subst hr
      exact ⟨rfl, rfl, rfl, by show -1 ≤ L; omega, by show L ≤ 99; omega, by show q1 ≤ _; omega, h4, B3, B4, hF4⟩
    | true =>
      have h2 : isAt S.data.toList q1 44 = true := HV.out
      have hq1 : q1 < S.size := by
        unfold isAt at h2
        cases hx : S.data.toList[q1]? with
        | none => rw [hx] at h2; cases h2
        | some x => exact (str_get S _ x hx).1
      obtain ⟨M, q2, hd2⟩ : ∃ M q2, digitsF S.data.toList (q1 + 1) = (M, q2) := ⟨_, _, rfl⟩
      have bd2 := digitsF_bd S.data.toList (q1 + 1)
      rw [hd2] at bd2
      simp only at bd2
      have hr : r = (L, M, decide (M < 0), q2) := by
        have h1 := HRG.out
        unfold rangeF at h1
        rw [HD1.out, h2] at h1
        simp only [if_true] at h1
        rw [hd2] at h1
        exact h1
      have hdig : ∀ wx, RdC wx g S (stAt st (q1 + 1)) → Calls Tryz.prog 131 #[.pointer (some ⟨g, 0, none⟩)] wx fun e w' => e = .returned (.int .i64 M) ∧ RdC w' g S (stAt st q2) ∧ Fr wx w' (fun k => k = g) := fun wx hwx =>
        (digitsR_any g S (stAt st (q1 + 1)) wx hwx hs (by show q1 + 1 ≤ _; omega)).mono fun e w' he => by
          obtain ⟨h1, h2, h3⟩ := he
          have hd1' : digitsF S.data.toList (stAt st (q1 + 1)).at_ = (M, q2) := hd2
          rw [hd1'] at h1 h2
          exact ⟨h1, h2, h3⟩
      have HDIG := Lib.hid hdig
      have HRR := Lib.hid hr
      have c1 : w3.cell? ⟨g, 1, none⟩ = some (.int .i64 (q1 : Int)) := h4.c1
      have f1 := h4.f 1
      have hq1i : (q1 : Int) < (S.size : Int) := by omega
      have h5 := h4.setAt (q1 + 1) ((q1 : Int) + 1) (by omega)
      clear hdig hr hd2 h2
      go_wp2_with fail
      refine (HDIG.out _ h5).mono ?_
      rintro e w4 ⟨rfl, h6, hF6⟩
      have hF5 : Fr w _ (fun k => k = g) := frG (i := 1) hF4 (.int .i64 ((q1 : Int) + 1))
      have hF7 := frF hF5 hF6
      have D3 := blkF hF6 ne3 (B3.far (p := ⟨g, 1, none⟩) ne3 (.int .i64 ((q1 : Int) + 1)))
      have D4 := blkF hF6 ne4 (B4.far (p := ⟨g, 1, none⟩) ne4 (.int .i64 ((q1 : Int) + 1)))
      clear c1 f1 h5
      go_wp2_with fail
      go_meet
      have hr := HRR.out
      subst hr
      exact ⟨rfl, rfl, rfl, by show -1 ≤ M; omega, by show M ≤ 99; omega, by show q2 ≤ _; omega, h6, D3, D4, hF7⟩
  case rest =>
    obtain ⟨hL, hM, hE, bM1, bM2, bq, h5, B3, B4, hF5⟩ := hcut
    obtain ⟨L2, M, en, q⟩ := r
    injection hL with _ hL
    have hL : L = L2 := hL
    subst hL
    subst hM hE
    simp only at bM1 bM2 bq
    clear HRG HD1 HV
    go_upto_region 9 with fail
    go_cut [9] (fun s9 wx => TmB w g S st k a b c d A n cp p (L, M, en, q) s9 wx)
    case first =>
      obtain ⟨v, hv⟩ : ∃ v, isAt S.data.toList (stAt st q).at_ 125 = v := ⟨_, rfl⟩
      have HV := Lib.hid hv
      have hok : rangeOk S.data.toList (L, M, en, q) = (decide (0 ≤ L) && decide (L ≤ 50) && (en || (decide (L ≤ M) && decide (M ≤ 50))) && v) := by rw [← hv]; rfl
      clear hv
      by_cases g1 : 0 ≤ L
      · have g1d : decide (0 ≤ L) = true := decide_eq_true g1
        by_cases g2 : L ≤ 50
        · have g2d : decide (L ≤ 50) = true := decide_eq_true g2
          rw [g1d, g2d] at hok
          cases en with
          | true =>
            have HOK : Hid (rangeOk S.data.toList (L, M, true, q) = v) := Lib.hid (by rw [hok]; cases v <;> rfl)
            clear hok
            go_wp2_with fail
            refine (isR_any g S (stAt st q) 125 125 v wc h5 rfl HV.out hs).mono ?_
            rintro e w5 ⟨rfl, hl5⟩
            go_wp2_with fail
            go_meet
            exact ⟨by show _ = Value.bool (rangeOk _ _); rw [HOK.out], h5.later hl5, blkL hl5 B3, blkL hl5 B4, frL hF5 hl5⟩
          | false =>
            by_cases g3 : L ≤ M
            · have g3d : decide (L ≤ M) = true := decide_eq_true g3
              by_cases g4 : M ≤ 50
              · have g4d : decide (M ≤ 50) = true := decide_eq_true g4
                rw [g3d, g4d] at hok
                have HOK : Hid (rangeOk S.data.toList (L, M, false, q) = v) := Lib.hid (by rw [hok]; cases v <;> rfl)
                clear hok
                go_wp2_with fail
                refine (isR_any g S (stAt st q) 125 125 v wc h5 rfl HV.out hs).mono ?_
                rintro e w5 ⟨rfl, hl5⟩
                go_wp2_with fail
                go_meet
                exact ⟨by show _ = Value.bool (rangeOk _ _); rw [HOK.out], h5.later hl5, blkL hl5 B3, blkL hl5 B4, frL hF5 hl5⟩
              · have g4d : decide (M ≤ 50) = false := decide_eq_false g4
                have HOK : Hid (rangeOk S.data.toList (L, M, false, q) = false) := Lib.hid (by rw [hok, g4d]; cases v <;> simp)
                clear hok
                go_wp2_with fail
                go_meet
                exact ⟨by show _ = Value.bool (rangeOk _ _); rw [HOK.out], h5, B3, B4, hF5⟩
            · have g3d : decide (L ≤ M) = false := decide_eq_false g3
              have HOK : Hid (rangeOk S.data.toList (L, M, false, q) = false) := Lib.hid (by rw [hok, g3d]; cases v <;> simp)
              clear hok
              go_wp2_with fail
              go_meet
              exact ⟨by show _ = Value.bool (rangeOk _ _); rw [HOK.out], h5, B3, B4, hF5⟩
        · have g2d : decide (L ≤ 50) = false := decide_eq_false g2
          have HOK : Hid (rangeOk S.data.toList (L, M, en, q) = false) := Lib.hid (by rw [hok, g2d]; cases v <;> simp)
          clear hok
          go_wp2_with fail
          go_meet
          exact ⟨by show _ = Value.bool (rangeOk _ _); rw [HOK.out], h5, B3, B4, hF5⟩
      · have g1d : decide (0 ≤ L) = false := decide_eq_false g1
        have HOK : Hid (rangeOk S.data.toList (L, M, en, q) = false) := Lib.hid (by rw [hok, g1d]; cases v <;> simp)
        clear hok
        go_wp2_with fail
        go_meet
        exact ⟨by show _ = Value.bool (rangeOk _ _); rw [HOK.out], h5, B3, B4, hF5⟩
    case rest =>
      obtain ⟨h9, h6, C3, C4, hF6⟩ := hcut
      subst h9
      clear h5 B3 B4 hF5
      cases hok2 : rangeOk S.data.toList (L, M, en, q) with
      | false =>
        have HR2 : Hid (R = (p, stFault 24 st.at_ (stAt st q))) := by show _ = _; rw [HR.out, hok2]; rfl
        clear HR hok2
        go_wp2_with fail
        refine (faultR_any g S (stAt st q) _ _ st.at_ 24 _ h6 rfl rfl).mono ?_
        rintro e w5 ⟨rfl, h7, hF7⟩
        have hF8 := frF hF6 hF7
        have D3 := blkF hF7 ne3 C3
        have D4 := blkF hF7 ne4 C4
        have hC5 : ReC w5 lo p.re ⟨k, a, b, c, d, A, n, cp⟩ := ReC.fr hF8 (h.spares lo) _ hC
        obtain ⟨u0, u1, u2, u3, u4, u5, u6, u7, u8, -⟩ := cells9 D3
        obtain ⟨z0, z1, z2, z3, z4, z5, z6, z7, z8, y0, y1, y2, y3, y4, y5, y6, y7, y8⟩ := cells9 D4
        go_wp2_with fail
        refine bodyPost_ret (v := .agg #[.int .i64 k, .int .u64 a, .int .u64 b, .int .u64 c, .int .u64 d, .slice A n cp, .int .i64 (p.deep : Int), .int .i64 (p.leaves : Int), .bool p.big]) (by simp [results, Tryz.results116, go_sem, z0, z1, z2, z3, z4, z5, z6, z7, z8]) rfl ?_
        exact RetPcS.store9 HR2.out D4 hC5 h7 hF8 (Nat.le_succ _)
      | true =>
        obtain ⟨N, hN⟩ : ∃ N, N = rangeMany (L, M, en, q) := ⟨_, rfl⟩
        have hbd : 0 ≤ L ∧ L ≤ 50 ∧ (en = false → L ≤ M ∧ M ≤ 50) := by
          unfold rangeOk at hok2
          simp only [Bool.and_eq_true, Bool.or_eq_true, decide_eq_true_eq] at hok2
          refine ⟨hok2.1.1.1, hok2.1.1.2, fun he => ?_⟩
          rcases hok2.1.2 with h | h
          · rw [he] at h; cases h
          · exact h
        have hN1 : N ≤ 51 := by
          rw [hN]
          unfold rangeMany
          cases en with
          | true => show (L + 1).toNat ≤ 51; omega
          | false => have := hbd.2.2 rfl; show (max L M).toNat ≤ 51; omega
        have HR2 : Hid (R = (if N = 0 then pcLeaf 0 z4 else if p.big = true ∨ 400 < N * p.leaves then bigPc else pcRow 2 (copiesPc p L.toNat en N), stAt st (q + 1))) := by show _ = _; rw [HR.out, hok2, hN]; rfl
        have hN2 : (N : Int) = if en = true then L + 1 else max L M := by
          rw [hN]
          unfold rangeMany
          cases en with
          | true => show (((L + 1).toNat : Nat) : Int) = L + 1; omega
          | false => have := hbd.2.2 rfl; show (((max L M).toNat : Nat) : Int) = max L M; omega
        have HN2 := Lib.hid hN2
        have HBD := Lib.hid hbd
        obtain ⟨hL0, hL1, -⟩ := hbd
        clear HR hok2 hN hN2
        have c1 : wc.cell? ⟨g, 1, none⟩ = some (.int .i64 (q : Int)) := h6.c1
        have f1 := h6.f 1
        have hqi : (q : Int) ≤ 1000000100 := by omega
        go_upto_region 14 with fail
        obtain ⟨W1, hW1⟩ : ∃ W1, W1 = wc.setCell ⟨g, 1, none⟩ (.int .i64 ((q : Int) + 1)) := ⟨_, rfl⟩
        have h7 : RdC W1 g S (stAt st (q + 1)) := by rw [hW1]; exact h6.setAt (q + 1) _ (by omega)
        have hF7 : Fr w W1 (fun k => k = g) := by rw [hW1]; exact frG hF6 _
        have D3 : Blk W1 w.heap.size 117 #[.int .i64 k, .int .u64 a, .int .u64 b, .int .u64 c, .int .u64 d, .slice A n cp, .int .i64 (p.deep : Int), .int .i64 (p.leaves : Int), .bool p.big] := by rw [hW1]; exact C3.far (p := ⟨g, 1, none⟩) ne3 _
        have D4 : Blk W1 (w.heap.size + 1) 117 #[.int .i64 0, .int .u64 0, .int .u64 0, .int .u64 0, .int .u64 0, .slice none 0 0, .int .i64 0, .int .i64 0, .bool false] := by rw [hW1]; exact C4.far (p := ⟨g, 1, none⟩) ne4 _
        rw [← hW1]
        clear hW1 c1 f1 h6 hF6 C3 C4
        go_cut [10] (fun s10 wx => TmC w g S (stAt st (q + 1)) k a b c d A n cp p (max L M) s10 wx)
        case first =>
          by_cases hm : M ≤ L
          · go_wp2_with fail
            go_meet
            exact ⟨by rw [Int.max_eq_left hm], h7, D3, D4, hF7⟩
          · have hm2 : L < M := by omega
            go_wp2_with fail
            go_meet
            exact ⟨by rw [Int.max_eq_right (by omega)], h7, D3, D4, hF7⟩
        case rest =>
          obtain ⟨h10, h8, E3, E4, hF8⟩ := hcut
          subst h10
          clear h7 D3 D4 hF7
          go_upto_if 79 with (fail)
          go_cut [10] (fun s10 wx => TmC w g S (stAt st (q + 1)) k a b c d A n cp p (N : Int) s10 wx)
          case first =>
            cases en with
            | true =>
              go_wp2_with fail
              go_meet
              exact ⟨by rw [HN2.out, if_pos trivial, IntWalk.i64_in _ (by omega)], h8, E3, E4, hF8⟩
            | false =>
              go_wp2_with fail
              go_meet
              exact ⟨by rw [HN2.out]; rfl, h8, E3, E4, hF8⟩
          case rest =>
            obtain ⟨h10, h7, D3, D4, hF7⟩ := hcut
            subst h10
            clear h8 E3 E4 hF8
            have hC5 := ReC.fr hF7 (h.spares lo) _ hC
            obtain ⟨z0, z1, z2, z3, z4, z5, z6, z7, z8, y0, y1, y2, y3, y4, y5, y6, y7, y8⟩ := cells9 D4
            rcases Nat.eq_zero_or_pos N with hN0 | hN0
            · have hNi : ((N : Int) == 0) = true := by rw [hN0]; rfl
              have HR3 : Hid (R = (pcLeaf 0 Proofs.YtmkddhkpeiajhaaGreatDoor.z4, stAt st (q + 1))) := by show _ = _; rw [HR2.out, if_pos hN0]
              obtain ⟨Q, hQ⟩ : ∃ Q, Q = pcLeaf 0 Proofs.YtmkddhkpeiajhaaGreatDoor.z4 := ⟨_, rfl⟩
              have hlf : ∀ wx, Calls Tryz.prog 125 #[.int .i64 0, .agg #[.int .u64 0, .int .u64 0, .int .u64 0, .int .u64 0]] wx (RetPc wx lo Q) := by rw [hQ]; exact fun wx => leaf_z lo 0 wx
              rw [← hQ] at HR3
              have HLF := Lib.hid hlf
              clear hN0 hQ hlf HR2
              go_wp2_with fail
              refine (HLF.out _).mono ?_
              rintro e w6 ⟨k1, a1, b1, c1, d1, A1, n1, cp1, rfl, hr1, hl1⟩
              have G4 := blkL hl1 D4
              obtain ⟨z0, z1, z2, z3, z4, z5, z6, z7, z8, y0, y1, y2, y3, y4, y5, y6, y7, y8⟩ := cells9 G4
              go_wp2_with fail
              refine bodyPost_ret (v := .agg #[.int .i64 k1, .int .u64 a1, .int .u64 b1, .int .u64 c1, .int .u64 d1, .slice A1 n1 cp1, .int .i64 (Q.deep : Int), .int .i64 (Q.leaves : Int), .bool Q.big]) (by simp [results, Tryz.results116, go_sem, z0, z1, z2, z3, z4, z5, z6, z7, z8]) rfl ?_
              exact RetPcS.store9 HR3.out G4 hr1 (h7.later hl1) (frL hF7 hl1) (Nat.le_succ _)
            · have hNi : ((N : Int) == 0) = false := by rw [beq_eq_false_iff_ne]; omega
              have hNp : 0 < N := hN0
              have HR3 : Hid (R = (if p.big = true ∨ 400 < N * p.leaves then bigPc else pcRow 2 (copiesPc p L.toNat en N), stAt st (q + 1))) := by show _ = _; rw [HR2.out, if_neg (by omega)]
              obtain ⟨u0, u1, u2, u3, u4, u5, u6, u7, u8, -⟩ := cells9 D3
              obtain ⟨t, dp, lv, bg⟩ := p
              obtain ⟨o1, o2, o3, o4⟩ : 1 ≤ dp ∧ dp ≤ 40 ∧ 1 ≤ lv ∧ lv ≤ 400 := ⟨hok.1, hok.2.1, hok.2.2.1, hok.2.2.2.1⟩
              have hth : thinT t := hok.2.2.2.2
              simp only at D3 u6 u7 u8 hC hC5
              clear HR2 hN0
              cases bg with
              | true =>
                have HBIG : Hid (true = true ∨ 400 < N * lv) := .inl rfl
                have HR4 : Hid (R = (bigPc, stAt st (q + 1))) := by show _ = _; rw [HR3.out, if_pos HBIG.out]
                clear HR3 HBIG
                go_wp2_with fail
                refine (fits_big lo _).mono ?_
                rintro e w6 ⟨k1, a1, b1, c1, d1, A1, n1, cp1, rfl, hr1, hl1⟩
                have G4 := blkL hl1 D4
                obtain ⟨z0, z1, z2, z3, z4, z5, z6, z7, z8, y0, y1, y2, y3, y4, y5, y6, y7, y8⟩ := cells9 G4
                obtain ⟨Q, hQ⟩ : ∃ Q, Q = bigPc := ⟨_, rfl⟩
                rw [← hQ] at hr1 HR4 ⊢
                clear hQ
                go_wp2_with fail
                refine bodyPost_ret (v := .agg #[.int .i64 k1, .int .u64 a1, .int .u64 b1, .int .u64 c1, .int .u64 d1, .slice A1 n1 cp1, .int .i64 (Q.deep : Int), .int .i64 (Q.leaves : Int), .bool Q.big]) (by simp [results, Tryz.results116, go_sem, z0, z1, z2, z3, z4, z5, z6, z7, z8]) rfl ?_
                exact RetPcS.store9 HR4.out G4 hr1 (h7.later hl1) (frL hF7 hl1) (Nat.le_succ _)
              | false =>
                have hm0 : 0 ≤ N * lv := Nat.zero_le _
                have hm1 : N * lv ≤ 51 * 400 := Nat.mul_le_mul hN1 o4
                have hmi : (N : Int) * (lv : Int) = ((N * lv : Nat) : Int) := by rw [Int.natCast_mul]
                have hmw : IntKind.i64.wrap ((N : Int) * (lv : Int)) = (N : Int) * (lv : Int) := IntWalk.i64_in _ (by rw [hmi]; omega)
                by_cases hbig : 400 < N * lv
                · have hb1 : (400 : Int) < (N : Int) * (lv : Int) := by rw [hmi]; omega
                  have HBIG : Hid (false = true ∨ 400 < N * lv) := .inr hbig
                  clear hmi hm0 hm1 hbig
                  have HR4 : Hid (R = (bigPc, stAt st (q + 1))) := by show _ = _; rw [HR3.out, if_pos HBIG.out]
                  clear HR3 HBIG
                  go_wp2_with fail
                  refine (fits_big lo _).mono ?_
                  rintro e w6 ⟨k1, a1, b1, c1, d1, A1, n1, cp1, rfl, hr1, hl1⟩
                  have G4 := blkL hl1 D4
                  obtain ⟨z0, z1, z2, z3, z4, z5, z6, z7, z8, y0, y1, y2, y3, y4, y5, y6, y7, y8⟩ := cells9 G4
                  obtain ⟨Q, hQ⟩ : ∃ Q, Q = bigPc := ⟨_, rfl⟩
                  rw [← hQ] at hr1 HR4 ⊢
                  clear hQ
                  go_wp2_with fail
                  refine bodyPost_ret (v := .agg #[.int .i64 k1, .int .u64 a1, .int .u64 b1, .int .u64 c1, .int .u64 d1, .slice A1 n1 cp1, .int .i64 (Q.deep : Int), .int .i64 (Q.leaves : Int), .bool Q.big]) (by simp [results, Tryz.results116, go_sem, z0, z1, z2, z3, z4, z5, z6, z7, z8]) rfl ?_
                  exact RetPcS.store9 HR4.out G4 hr1 (h7.later hl1) (frL hF7 hl1) (Nat.le_succ _)
                · have hb1 : ¬ (400 : Int) < (N : Int) * (lv : Int) := by rw [hmi]; omega
                  have hb2 : decide ((400 : Int) < (N : Int) * (lv : Int)) = false := decide_eq_false hb1
                  have HR4 : Hid (R = (pcRow 2 (copiesPc ⟨t, dp, lv, false⟩ L.toNat en N), stAt st (q + 1))) := by show _ = _; rw [HR3.out, if_neg (by rintro (h | h); cases h; exact hbig h)]
                  clear hmi hm0 hm1 hbig HR3
                  go_wp2_with fail
                  have hup : Up w lo := hlo
                  have hC0 : ReC w lo t ⟨k, a, b, c, d, A, n, cp⟩ := hC
                  go_loopw [11, 12] (fun s11 s12 wr => TmL w g lo S (stAt st (q + 1)) k a b c d A n cp ⟨t, dp, lv, false⟩ L.toNat en N s11 s12 wr) (fun _ s12 _ => N - (intOf s12).toNat)
                  case atStart => exact ⟨0, none, 0, Nat.zero_le _, rfl, rfl, OwnP.nil, h7, D3, D4, hF7⟩
                  case round =>
                    clear h7 D3 D4 hF7 hC5 u0 u1 u2 u3 u4 u5 u6 u7 u8 z0 z1 z2 z3 z4 z5 z6 z7 z8 y0 y1 y2 y3 y4 y5 y6 y7 y8
                    obtain ⟨i, Al, cl, hi, rfl, rfl, hO, h7, B3, B4, hF7⟩ := hrel
                    by_cases hlt : i < N
                    · have hlti : (i : Int) < (N : Int) := by omega
                      have hsz2 : w.heap.size + 2 ≤ wr.heap.size := by have := B4.lt; omega
                      have HTW : Hid (∀ wx, Later wr wx → Calls Tryz.prog 132 #[.agg #[.int .i64 k, .int .u64 a, .int .u64 b, .int .u64 c, .int .u64 d, .slice A n cp]] wx fun e w' => ∃ (A1 : Option Addr) (n1 cp1 : Nat), e = .returned (.agg #[.int .i64 k, .int .u64 a, .int .u64 b, .int .u64 c, .int .u64 d, .slice A1 n1 cp1]) ∧ ReC w' lo t ⟨k, a, b, c, d, A1, n1, cp1⟩ ∧ Later wx w') :=
                        fun wx hwx => (twin_any _ t lo k a b c d A n cp wx (Nat.le_refl _) hth ((ReC.fr hF7 (h.spares lo) _ hC0).later hwx)).mono fun e w' he => by
                          obtain ⟨A1, n1, cp1, e1, e2, e3⟩ := he
                          exact ⟨A1, n1, cp1, e1, ReC.weaken (fun gg _ hg => hup gg (by have := hwx.size; omega)) t e2, e3⟩
                      obtain ⟨w0, hw0⟩ : ∃ w0, w0 = wr := ⟨_, rfl⟩
                      have hlt : Later w0 wr := by rw [hw0]; exact Later.refl _
                      have HW0 := Lib.hid hw0
                      clear hw0
                      have hgA : w0.heap.size ≤ w0.heap.size := Nat.le_refl _
                      have HTW : Hid (∀ wx, Later w0 wx → Calls Tryz.prog 132 #[.agg #[.int .i64 k, .int .u64 a, .int .u64 b, .int .u64 c, .int .u64 d, .slice A n cp]] wx fun e w' => ∃ (A1 : Option Addr) (n1 cp1 : Nat), e = .returned (.agg #[.int .i64 k, .int .u64 a, .int .u64 b, .int .u64 c, .int .u64 d, .slice A1 n1 cp1]) ∧ ReC w' lo t ⟨k, a, b, c, d, A1, n1, cp1⟩ ∧ Later wx w') := by rw [HW0.out]; exact HTW
                      go_upto_region 25 with fail
                      go_cut [13] (fun s13 wx => TmX w g lo S (stAt st (q + 1)) k a b c d A n cp ⟨t, dp, lv, false⟩ Al i cl (copiesPc ⟨t, dp, lv, false⟩ L.toNat en i) ⟨t, dp, lv, false⟩ s13 wx)
                      case first =>
                        go_wp2_with fail
                        have hne0 : w.heap.size ≠ wr.heap.size := by omega
                        go_region_held_law (fun w' => w'.cell? ⟨w.heap.size, 0, none⟩ = some (.int .i64 k) ∧ w'.cell? ⟨w.heap.size, 1, none⟩ = some (.int .u64 a) ∧ w'.cell? ⟨w.heap.size, 2, none⟩ = some (.int .u64 b) ∧ w'.cell? ⟨w.heap.size, 3, none⟩ = some (.int .u64 c) ∧ w'.cell? ⟨w.heap.size, 4, none⟩ = some (.int .u64 d) ∧ w'.cell? ⟨w.heap.size, 5, none⟩ = some (.slice A n cp) ∧ w'.cell? ⟨w.heap.size, 6, none⟩ = some (.int .i64 (dp : Int)) ∧ w'.cell? ⟨w.heap.size, 7, none⟩ = some (.int .i64 (lv : Int))) (exact cells8 (t := 117) (by repeat (first | (with_reducible exact B3) | (with_reducible apply Blk.drew) | (with_reducible apply Blk.alloc) | (with_reducible refine Blk.far ?_ hne0 _))))
                          ((((go_at_call 132; (with_reducible refine (HTW.out _ (by repeat (first | (with_reducible exact hlt) | (with_reducible apply Later.drew) | (with_reducible apply Later.alloc) | (with_reducible refine Later.setCell ?_ hgA _)))).mono ?_)); rintro e w1 ⟨A1, n1, cp1, rfl, hr1, hl1⟩);
                            (first
                              | (with_reducible have A13 : Blk w1 _ 117 #[.int .i64 0, .int .u64 0, .int .u64 0, .int .u64 0, .int .u64 0, .slice none 0 0, .int .i64 0, .int .i64 0, .bool false] := blkNwD hl1; obtain ⟨z0, z1, z2, z3, z4, z5, z6, z7, z8, y0, y1, y2, y3, y4, y5, y6, y7, y8⟩ := cells9 A13)
                              | (with_reducible have A13 : Blk w1 _ 117 #[.int .i64 0, .int .u64 0, .int .u64 0, .int .u64 0, .int .u64 0, .slice none 0 0, .int .i64 0, .int .i64 0, .bool false] := blkNw hl1; obtain ⟨z0, z1, z2, z3, z4, z5, z6, z7, z8, y0, y1, y2, y3, y4, y5, y6, y7, y8⟩ := cells9 A13)
                              | skip);
                            have hne1 : w.heap.size ≠ w1.heap.size := by have := hl1.size; simp at this; omega;
                            have B3 := blkL hl1 (by repeat (first | (with_reducible exact B3) | (with_reducible apply Blk.drew) | (with_reducible apply Blk.alloc) | (with_reducible refine Blk.far ?_ hne0 _)));
                            have hlt : Later w0 w1 := Later.trans (by repeat (first | (with_reducible exact hlt) | (with_reducible apply Later.drew) | (with_reducible apply Later.alloc) | (with_reducible refine Later.setCell ?_ hgA _))) hl1))
                        all_goals
                          go_wp2_with fail
                          go_meet
                          have lt : Later wr w1 := by rw [← HW0.out]; exact hlt
                          have hszl := lt.size
                          have hOl := hO.lt
                          first
                            | (have hA13 := A13
                               have ltW := lt.set9 (x0 := .int .i64 k) (x1 := .int .u64 a) (x2 := .int .u64 b) (x3 := .int .u64 c) (x4 := .int .u64 d) (x5 := .slice A1 n1 cp1) (x6 := .int .i64 (dp : Int)) (x7 := .int .i64 (lv : Int)) (x8 := .bool false) (Nat.le_refl wr.heap.size)
                               have hX : Blk _ _ _ _ := A13.set9 (x0 := .int .i64 k) (x1 := .int .u64 a) (x2 := .int .u64 b) (x3 := .int .u64 c) (x4 := .int .u64 d) (x5 := .slice A1 n1 cp1) (x6 := .int .i64 (dp : Int)) (x7 := .int .i64 (lv : Int)) (x8 := .bool false)
                               have hY := ReC.fr (Fr.set9 wr.heap.size (.int .i64 k) (.int .u64 a) (.int .u64 b) (.int .u64 c) (.int .u64 d) (.slice A1 n1 cp1) (.int .i64 (dp : Int)) (.int .i64 (lv : Int)) (.bool false)) (spares_blk lo A13 (by decide)) _ hr1
                               have hZ := Blk.fr B3 (Fr.set9 wr.heap.size (.int .i64 k) (.int .u64 a) (.int .u64 b) (.int .u64 c) (.int .u64 d) (.slice A1 n1 cp1) (.int .i64 (dp : Int)) (.int .i64 (lv : Int)) (.bool false)) hne0
                               exact ⟨_, k, a, b, c, d, A1, n1, cp1, rfl, by omega, fun b hb => by have := (hOl b hb).2; omega, hX, hY, hO.later ltW, h7.later ltW, hZ, blkL ltW B4, frL hF7 ltW⟩)
                            | (have ltW := lt.alloc (.cells #[.int .i64 k, .int .u64 a, .int .u64 b, .int .u64 c, .int .u64 d, .slice A1 n1 cp1, .int .i64 (dp : Int), .int .i64 (lv : Int), .bool false] 117)
                               exact ⟨_, k, a, b, c, d, A1, n1, cp1, rfl, by omega, fun b hb => by have := (hOl b hb).2; omega, Blk.new w1 _ _, hr1.later ((Later.refl w1).alloc _), hO.later ltW, h7.later ltW, B3.alloc _, blkL ltW B4, frL hF7 ltW⟩)
                      case rest =>
                        obtain ⟨g13, xk, xa, xb, xc, xd, xA, xn, xcp, h13, hge, hneA, B13, hx, hO', h8, E3, E4, hF8⟩ := hcut
                        subst h13
                        have hokq : PcOk ⟨t, dp, lv, false⟩ := hok
                        have hupc : Up wc lo := hup.fr hF8
                        clear hO h7 B3 B4 hF7 hlt HTW HW0
                        have HC : Hid (∀ q2, q2 = copyPc ⟨t, dp, lv, false⟩ L.toNat en i → q2 = if i < L.toNat then ⟨t, dp, lv, false⟩ else pcOne (if en then 4 else 6) ⟨t, dp, lv, false⟩) := fun q2 h => h
                        obtain ⟨qi, hqi⟩ : ∃ qi, qi = copyPc ⟨t, dp, lv, false⟩ L.toNat en i := ⟨_, rfl⟩
                        have HQI := Lib.hid hqi
                        have hcp := HC.out qi hqi
                        clear hqi HC
                        obtain ⟨u0, u1, u2, u3, u4, u5, u6, u7, u8, -⟩ := cells9 B13
                        go_upto_block 2 with fail
                        go_cut [] (fun wx => TmX w g lo S (stAt st (q + 1)) k a b c d A n cp ⟨t, dp, lv, false⟩ Al i cl (copiesPc ⟨t, dp, lv, false⟩ L.toNat en i) qi (.pointer (some ⟨g13, 0, none⟩)) wx)
                        case first =>
                          by_cases hil : i < L.toNat
                          · rw [if_pos hil] at hcp
                            have hil2 : (i : Int) < L := by omega
                            have HCP := Lib.hid hcp
                            clear hcp hil
                            go_wp2_with fail
                            go_meet
                            rw [HCP.out]
                            exact ⟨g13, xk, xa, xb, xc, xd, xA, xn, xcp, rfl, hge, hneA, B13, hx, hO', h8, E3, E4, hF8⟩
                          · rw [if_neg hil] at hcp
                            have hil2 : decide ((i : Int) < L) = false := decide_eq_false (by omega)
                            have hil3 : ¬ (i : Int) < L := by omega
                            clear hil
                            cases en with
                            | true =>
                              obtain ⟨Q1, hQ1⟩ : ∃ Q1, Q1 = pcOne 4 ⟨t, dp, lv, false⟩ := ⟨_, rfl⟩
                              have HCP : Hid (qi = Q1) := by show _ = _; rw [hQ1]; exact hcp
                              have hone : Calls Tryz.prog 115 #[.int .i64 4, .agg #[.int .i64 xk, .int .u64 xa, .int .u64 xb, .int .u64 xc, .int .u64 xd, .slice xA xn xcp, .int .i64 (dp : Int), .int .i64 (lv : Int), .bool false]] wc (RetPc wc lo Q1) := by
                                rw [hQ1]
                                exact one_any lo 4 xk xa xb xc xd xA xn xcp ⟨t, dp, lv, false⟩ wc hx hokq hupc
                              have HONE := Lib.hid hone
                              clear hQ1 hcp hone
                              go_wp2_with fail
                              refine HONE.out.mono ?_
                              rintro e w6 ⟨k1, a1, b1, c1, d1, A1, n1, cp1, rfl, hr1, hl1⟩
                              have G13 := blkL hl1 B13
                              obtain ⟨z0, z1, z2, z3, z4, z5, z6, z7, z8, y0, y1, y2, y3, y4, y5, y6, y7, y8⟩ := cells9 G13
                              go_wp2_with fail
                              go_meet
                              rw [HCP.out]
                              exact TmX.store hge hneA G13 hr1 (hO'.later hl1) (h8.later hl1) (blkL hl1 E3) (blkL hl1 E4) (frL hF8 hl1)
                            | false =>
                              obtain ⟨Q1, hQ1⟩ : ∃ Q1, Q1 = pcOne 6 ⟨t, dp, lv, false⟩ := ⟨_, rfl⟩
                              have HCP : Hid (qi = Q1) := by show _ = _; rw [hQ1]; exact hcp
                              have hone : Calls Tryz.prog 115 #[.int .i64 6, .agg #[.int .i64 xk, .int .u64 xa, .int .u64 xb, .int .u64 xc, .int .u64 xd, .slice xA xn xcp, .int .i64 (dp : Int), .int .i64 (lv : Int), .bool false]] wc (RetPc wc lo Q1) := by
                                rw [hQ1]
                                exact one_any lo 6 xk xa xb xc xd xA xn xcp ⟨t, dp, lv, false⟩ wc hx hokq hupc
                              have HONE := Lib.hid hone
                              clear hQ1 hcp hone
                              go_wp2_with fail
                              refine HONE.out.mono ?_
                              rintro e w6 ⟨k1, a1, b1, c1, d1, A1, n1, cp1, rfl, hr1, hl1⟩
                              have G13 := blkL hl1 B13
                              obtain ⟨z0, z1, z2, z3, z4, z5, z6, z7, z8, y0, y1, y2, y3, y4, y5, y6, y7, y8⟩ := cells9 G13
                              go_wp2_with fail
                              go_meet
                              rw [HCP.out]
                              exact TmX.store hge hneA G13 hr1 (hO'.later hl1) (h8.later hl1) (blkL hl1 E3) (blkL hl1 E4) (frL hF8 hl1)
                        case rest =>
                          clear hcp B13 hx hO' h8 E3 E4 hF8 u0 u1 u2 u3 u4 u5 u6 u7 u8 hupc
                          obtain ⟨g14, xk, xa, xb, xc, xd, xA, xn, xcp, h14, hge, hneA, B13, hx, hO, h7, B3, B4, hF7⟩ := hcut
                          injection h14 with h14
                          injection h14 with h14
                          injection h14 with h14
                          subst h14
                          obtain ⟨u0, u1, u2, u3, u4, u5, u6, u7, u8, -⟩ := cells9 B13
                          have hszw := B4.lt
                          go_wp2_with (at_builtin; go_loud (refine wpList_append_p _ rfl (.tmp 120) (.tmp 122) rfl lo (w.heap.size + 2) Al i cl (copiesPc ⟨t, dp, lv, false⟩ L.toNat en i) rfl (hO.later ((Later.refl _).alloc _)) qi ⟨xk, xa, xb, xc, xd, xA, xn, xcp⟩ (hx.later ((Later.refl _).alloc _)) _ _ rfl (reads_p wc qi ⟨xk, xa, xb, xc, xd, xA, xn, xcp⟩ _) (by omega) (by simp; omega) ?_); intro A9 n9 c9 w7 hn9 hown9 hg9 _)
                          have hOl := hO.lt
                          have hne9 := (hO.later ((Later.refl wc).alloc (.cells #[.int .i64 xk, .int .u64 xa, .int .u64 xb, .int .u64 xc, .int .u64 xd, .slice xA xn xcp, .int .i64 (qi.deep : Int), .int .i64 (qi.leaves : Int), .bool qi.big] 117))).ne ((h7.later ((Later.refl wc).alloc (.cells #[.int .i64 xk, .int .u64 xa, .int .u64 xb, .int .u64 xc, .int .u64 xd, .slice xA xn xcp, .int .i64 (qi.deep : Int), .int .i64 (qi.leaves : Int), .bool qi.big] 117)))) (by decide)
                          have K7 : RdC w7 g S (stAt st (q + 1)) := Blk.grown (Blk.alloc h7 _) hg9 (fun e => hne9 _ e.symm rfl)
                          have K3 := (B3.alloc (.cells #[.int .i64 xk, .int .u64 xa, .int .u64 xb, .int .u64 xc, .int .u64 xd, .slice xA xn xcp, .int .i64 (qi.deep : Int), .int .i64 (qi.leaves : Int), .bool qi.big] 117)).grown hg9 (fun e => by have := (hOl _ e.symm).1; omega)
                          have K4 := (B4.alloc (.cells #[.int .i64 xk, .int .u64 xa, .int .u64 xb, .int .u64 xc, .int .u64 xd, .slice xA xn xcp, .int .i64 (qi.deep : Int), .int .i64 (qi.leaves : Int), .bool qi.big] 117)).grown hg9 (fun e => by have := (hOl _ e.symm).1; omega)
                          have KF : Fr w w7 (fun k => k = g) := Fr.grown (hF7.alloc _) hg9 (fun k hk e => by have := (hOl _ e).1; omega)
                          clear hg9 hOl hne9
                          subst hn9
                          have hsn := copies_snoc ⟨t, dp, lv, false⟩ L.toNat en i
                          rw [← HQI.out] at hsn
                          have HSN := Lib.hid hsn
                          clear hsn
                          go_roundw
                          case rel => exact ⟨i + 1, A9, c9, by omega, by go_num, rfl, by rw [HSN.out]; exact hown9, K7, K3, K4, KF⟩
                          case measure => simp [intOf]; omega
                    · obtain rfl : N = i := by omega
                      have hNi2 : ¬ (N : Int) < (N : Int) := by omega
                      obtain ⟨Q, hQ⟩ : ∃ Q, Q = pcRow 2 (copiesPc ⟨t, dp, lv, false⟩ L.toNat en N) := ⟨_, rfl⟩
                      have hrow : Calls Tryz.prog 83 #[.int .i64 2, .slice Al N cl] wr (RetPc wr lo Q) := by
                        rw [hQ]
                        exact row_any lo 2 Al N cl _ wr hO.rd (copies_ok hok L.toNat en N) hNp (by omega) (hup.fr hF7)
                      have HR5 : Hid (R = (Q, stAt st (q + 1))) := by show _ = _; rw [HR4.out, hQ]
                      have HROW := Lib.hid hrow
                      clear hQ hrow
                      go_wp2_with fail
                      refine HROW.out.mono ?_
                      rintro e w6 ⟨k1, a1, b1, c1, d1, A1, n1, cp1, rfl, hr1, hl1⟩
                      have G4 := blkL hl1 B4
                      obtain ⟨z0, z1, z2, z3, z4, z5, z6, z7, z8, y0, y1, y2, y3, y4, y5, y6, y7, y8⟩ := cells9 G4
                      go_wp2_with fail
                      refine bodyPost_ret (v := .agg #[.int .i64 k1, .int .u64 a1, .int .u64 b1, .int .u64 c1, .int .u64 d1, .slice A1 n1 cp1, .int .i64 (Q.deep : Int), .int .i64 (Q.leaves : Int), .bool Q.big]) (by simp [results, Tryz.results116, go_sem, z0, z1, z2, z3, z4, z5, z6, z7, z8]) rfl ?_
                      exact RetPcS.store9 HR5.out G4 hr1 (h7.later hl1) (frL hF7 hl1) (Nat.le_succ _)
end Go.Proofs.YtmkddhkpeiajhaaGreatDoor
