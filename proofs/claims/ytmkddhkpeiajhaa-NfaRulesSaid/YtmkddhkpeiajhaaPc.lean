/-
  The contracts of fits, leaf, one, two.
-/
import Derived.Test.YtmkddhkpeiajhaaTree
namespace Go.Proofs.Ytmkddhkpeiajhaa
open Go.RowKit

theorem RetPc.big {w w' : World} {lo : Nat → Prop} {q : Pc} (hq : q = bigPc) (hl : Later w w') : RetPc w lo q (.returned (.agg #[.int .i64 0, .int .u64 0, .int .u64 0, .int .u64 0, .int .u64 0, .slice none 0 0, .int .i64 1, .int .i64 1, .bool true])) w' := by
  subst hq
  exact ⟨0, 0, 0, 0, 0, none, 0, 0, rfl, ReC.leaf w' lo 0 z4 none 0, hl⟩
theorem RetPc.mk {w w' : World} {lo : Nat → Prop} {q : Pc} {t : Tree} {dp lv : Nat} {bg : Bool} {k a b c d : Int} {A : Option Addr} {n cp : Nat} {D L : Int} (hq : q = ⟨t, dp, lv, bg⟩) (hD : D = (dp : Int)) (hL : L = (lv : Int)) (h : ReC w' lo t ⟨k, a, b, c, d, A, n, cp⟩) (hl : Later w w') :
    RetPc w lo q (.returned (.agg #[.int .i64 k, .int .u64 a, .int .u64 b, .int .u64 c, .int .u64 d, .slice A n cp, .int .i64 D, .int .i64 L, .bool bg])) w' := by
  subst hq hD hL
  exact ⟨k, a, b, c, d, A, n, cp, rfl, h, hl⟩

theorem fits_any (lo : Nat → Prop) (k a b c d : Int) (A : Option Addr) (n cp : Nat) (t : Tree) (dp lv : Nat) (bg : Bool) (D L : Int) (w : World) (h : ReC w lo t ⟨k, a, b, c, d, A, n, cp⟩) (hD : D = (dp : Int)) (hL : L = (lv : Int)) (hd : dp ≤ 1000000) (hl : lv ≤ 1000000) :
    Calls Try.prog 48 #[.agg #[.int .i64 k, .int .u64 a, .int .u64 b, .int .u64 c, .int .u64 d, .slice A n cp, .int .i64 (D : Int), .int .i64 (L : Int), .bool bg]] w (RetPc w lo (pcFits ⟨t, dp, lv, bg⟩)) := by
  subst hD hL
  cases bg with
  | true =>
    have hq : Hid (pcFits ⟨t, dp, lv, true⟩ = bigPc) := by show _ = _; unfold pcFits; rw [if_pos (by simp)]
    go_enter Try.func48, Try.ntmps48
    go_wp2_with fail
    exact bodyPost_ret (v := .agg #[.int .i64 0, .int .u64 0, .int .u64 0, .int .u64 0, .int .u64 0, .slice none 0 0, .int .i64 1, .int .i64 1, .bool true]) (by simp [results, Try.results48, go_sem]) rfl (RetPc.big hq.out (((Later.refl w).alloc _).alloc _))
  | false =>
    by_cases h1 : 40 < dp
    · have hq : Hid (pcFits ⟨t, dp, lv, false⟩ = bigPc) := by show _ = _; unfold pcFits; rw [if_pos (by simp [h1])]
      have hi : (40 : Int) < (dp : Int) := by omega
      go_enter Try.func48, Try.ntmps48
      go_wp2_with fail
      exact bodyPost_ret (v := .agg #[.int .i64 0, .int .u64 0, .int .u64 0, .int .u64 0, .int .u64 0, .slice none 0 0, .int .i64 1, .int .i64 1, .bool true]) (by simp [results, Try.results48, go_sem]) rfl (RetPc.big hq.out (((Later.refl w).alloc _).alloc _))
    · have hi : ¬ (40 : Int) < (dp : Int) := by omega
      by_cases h2 : 400 < lv
      · have hq : Hid (pcFits ⟨t, dp, lv, false⟩ = bigPc) := by show _ = _; unfold pcFits; rw [if_pos (by simp [h2])]
        have hi2 : (400 : Int) < (lv : Int) := by omega
        go_enter Try.func48, Try.ntmps48
        go_wp2_with fail
        exact bodyPost_ret (v := .agg #[.int .i64 0, .int .u64 0, .int .u64 0, .int .u64 0, .int .u64 0, .slice none 0 0, .int .i64 1, .int .i64 1, .bool true]) (by simp [results, Try.results48, go_sem]) rfl (RetPc.big hq.out (((Later.refl w).alloc _).alloc _))
      · have hq : Hid (pcFits ⟨t, dp, lv, false⟩ = ⟨t, dp, lv, false⟩) := by show _ = _; unfold pcFits; rw [if_neg (by simp [h1, h2])]
        have hi2 : ¬ (400 : Int) < (lv : Int) := by omega
        go_enter Try.func48, Try.ntmps48
        go_wp2_with fail
        exact bodyPost_ret (v := .agg #[.int .i64 k, .int .u64 a, .int .u64 b, .int .u64 c, .int .u64 d, .slice A n cp, .int .i64 (dp : Int), .int .i64 (lv : Int), .bool false]) (by simp [results, Try.results48, go_sem]) rfl (RetPc.mk hq.out rfl rfl (h.later (((Later.refl w).alloc _).alloc _)) (((Later.refl w).alloc _).alloc _))

theorem cells9 {w : World} {b : Nat} {t : TypeId} {x0 x1 x2 x3 x4 x5 x6 x7 x8 : Value} (h : Blk w b t #[x0, x1, x2, x3, x4, x5, x6, x7, x8]) :
    w.cell? ⟨b, 0, none⟩ = some x0 ∧ w.cell? ⟨b, 1, none⟩ = some x1 ∧ w.cell? ⟨b, 2, none⟩ = some x2 ∧ w.cell? ⟨b, 3, none⟩ = some x3 ∧ w.cell? ⟨b, 4, none⟩ = some x4 ∧ w.cell? ⟨b, 5, none⟩ = some x5 ∧ w.cell? ⟨b, 6, none⟩ = some x6 ∧ w.cell? ⟨b, 7, none⟩ = some x7 ∧ w.cell? ⟨b, 8, none⟩ = some x8 ∧
    w.frozen? ⟨b, 0, none⟩ = false ∧ w.frozen? ⟨b, 1, none⟩ = false ∧ w.frozen? ⟨b, 2, none⟩ = false ∧ w.frozen? ⟨b, 3, none⟩ = false ∧ w.frozen? ⟨b, 4, none⟩ = false ∧ w.frozen? ⟨b, 5, none⟩ = false ∧ w.frozen? ⟨b, 6, none⟩ = false ∧ w.frozen? ⟨b, 7, none⟩ = false ∧ w.frozen? ⟨b, 8, none⟩ = false :=
  ⟨h.cell 0, h.cell 1, h.cell 2, h.cell 3, h.cell 4, h.cell 5, h.cell 6, h.cell 7, h.cell 8, h.frozen 0, h.frozen 1, h.frozen 2, h.frozen 3, h.frozen 4, h.frozen 5, h.frozen 6, h.frozen 7, h.frozen 8⟩
/-- nine cells of a block of the call's own, set -/
def set9 (w : World) (g : Nat) (x0 x1 x2 x3 x4 x5 x6 x7 x8 : Value) : World :=
  ((((((((w.setCell ⟨g, 0, none⟩ x0).setCell ⟨g, 1, none⟩ x1).setCell ⟨g, 2, none⟩ x2).setCell ⟨g, 3, none⟩ x3).setCell ⟨g, 4, none⟩ x4).setCell ⟨g, 5, none⟩ x5).setCell ⟨g, 6, none⟩ x6).setCell ⟨g, 7, none⟩ x7).setCell ⟨g, 8, none⟩ x8
theorem Later.set9 {w w1 : World} {g : Nat} {x0 x1 x2 x3 x4 x5 x6 x7 x8 : Value} (h : Later w w1) (hg : w.heap.size ≤ g) : Later w (set9 w1 g x0 x1 x2 x3 x4 x5 x6 x7 x8) := by
  unfold Proofs.Ytmkddhkpeiajhaa.set9
  repeat (first | (with_reducible exact h) | (with_reducible refine Later.setCell ?_ hg _))
theorem frG {w w1 : World} {g i : Nat} (h : Fr w w1 (fun k => k = g)) (u : Value) : Fr w (w1.setCell ⟨g, i, none⟩ u) (fun k => k = g) := Fr.set (p := fun k => k = g) (a := ⟨g, i, none⟩) h (fun _ => rfl) u
theorem Fr.set9 {w : World} (g : Nat) (x0 x1 x2 x3 x4 x5 x6 x7 x8 : Value) : Fr w (set9 w g x0 x1 x2 x3 x4 x5 x6 x7 x8) (fun k => k = g) := by
  unfold Proofs.Ytmkddhkpeiajhaa.set9
  repeat (first | (with_reducible exact Fr.refl _ _) | (with_reducible refine frG ?_ _))
theorem Blk.set9 {w : World} {g : Nat} {t : TypeId} {y0 y1 y2 y3 y4 y5 y6 y7 y8 x0 x1 x2 x3 x4 x5 x6 x7 x8 : Value} (h : Blk w g t #[y0, y1, y2, y3, y4, y5, y6, y7, y8]) : Blk (set9 w g x0 x1 x2 x3 x4 x5 x6 x7 x8) g t #[x0, x1, x2, x3, x4, x5, x6, x7, x8] :=
  by
  unfold Proofs.Ytmkddhkpeiajhaa.set9
  have h0 := (h.set_ 0 x0).set_ 1 x1
  simp only [List.setIfInBounds_toArray, List.set_cons_zero, List.set_cons_succ] at h0
  have h1 := (h0.set_ 2 x2).set_ 3 x3
  simp only [List.setIfInBounds_toArray, List.set_cons_zero, List.set_cons_succ] at h1
  have h2 := (h1.set_ 4 x4).set_ 5 x5
  simp only [List.setIfInBounds_toArray, List.set_cons_zero, List.set_cons_succ] at h2
  have h3 := (h2.set_ 6 x6).set_ 7 x7
  simp only [List.setIfInBounds_toArray, List.set_cons_zero, List.set_cons_succ] at h3
  have h4 := h3.set_ 8 x8
  simp only [List.setIfInBounds_toArray, List.set_cons_zero, List.set_cons_succ] at h4
  exact h4

theorem RetPc.store9 {w w1 : World} {lo : Nat → Prop} {g : Nat} {q : Pc} {t : TypeId} {y0 y1 y2 y3 y4 y5 y6 y7 y8 : Value} {k1 a1 b1 c1 d1 : Int} {A1 : Option Addr} {n1 cp1 : Nat} (ht : 30 ≠ t) (hB : Blk w1 g t #[y0, y1, y2, y3, y4, y5, y6, y7, y8]) (h1 : ReC w1 lo q.re ⟨k1, a1, b1, c1, d1, A1, n1, cp1⟩) (hl : Later w w1) (hg : w.heap.size ≤ g) :
    RetPc w lo q (.returned (.agg #[.int .i64 k1, .int .u64 a1, .int .u64 b1, .int .u64 c1, .int .u64 d1, .slice A1 n1 cp1, .int .i64 (q.deep : Int), .int .i64 (q.leaves : Int), .bool q.big])) (set9 w1 g (.int .i64 k1) (.int .u64 a1) (.int .u64 b1) (.int .u64 c1) (.int .u64 d1) (.slice A1 n1 cp1) (.int .i64 (q.deep : Int)) (.int .i64 (q.leaves : Int)) (.bool q.big)) :=
  ⟨k1, a1, b1, c1, d1, A1, n1, cp1, rfl, ReC.fr (Fr.set9 g _ _ _ _ _ _ _ _ _) (spares_blk lo hB ht) _ h1, hl.set9 hg⟩

theorem leaf_any (lo : Nat → Prop) (kind : Int) (s : W4) (w : World) :
    Calls Try.prog 49 #[.int .i64 kind, .agg #[.int .u64 (s.1 : Int), .int .u64 (s.2.1 : Int), .int .u64 (s.2.2.1 : Int), .int .u64 (s.2.2.2 : Int)]] w (RetPc w lo (pcLeaf kind s)) := by
  obtain ⟨s0, s1, s2, s3⟩ := s
  go_enter Try.func49, Try.ntmps49
  go_wp2_with fail
  exact bodyPost_ret (v := .agg #[.int .i64 kind, .int .u64 (s0 : Int), .int .u64 (s1 : Int), .int .u64 (s2 : Int), .int .u64 (s3 : Int), .slice none 0 0, .int .i64 1, .int .i64 1, .bool false]) (by simp [results, Try.results49, go_sem]) rfl (RetPc.mk (q := pcLeaf kind (s0, s1, s2, s3)) rfl rfl rfl (ReC.leaf _ lo kind (s0, s1, s2, s3) none 0) (((Later.refl w).alloc _).alloc _))

theorem one_any (lo : Nat → Prop) (kind : Int) (k a b c d : Int) (A : Option Addr) (n cp : Nat) (p : Pc) (w : World) (h : ReC w lo p.re ⟨k, a, b, c, d, A, n, cp⟩) (hp : PcOk p) (hlo : Up w lo) :
    Calls Try.prog 46 #[.int .i64 kind, .agg #[.int .i64 k, .int .u64 a, .int .u64 b, .int .u64 c, .int .u64 d, .slice A n cp, .int .i64 (p.deep : Int), .int .i64 (p.leaves : Int), .bool p.big]] w (RetPc w lo (pcOne kind p)) := by
  obtain ⟨t, dp, lv, bg⟩ := p
  obtain ⟨o1, o2, o3, o4⟩ : 1 ≤ dp ∧ dp ≤ 40 ∧ 1 ≤ lv ∧ lv ≤ 400 := ⟨hp.1, hp.2.1, hp.2.2.1, hp.2.2.2.1⟩
  have hd : (dp : Int) ≤ 40 := by omega
  obtain ⟨q, hq⟩ : ∃ q, q = pcOne kind ⟨t, dp, lv, bg⟩ := ⟨_, rfl⟩
  have hc : ∀ (w0 : World) (B : Nat), B = w.heap.size + 1 + 1 → ReC w0 lo (.node kind z4 [t]) ⟨kind, 0, 0, 0, 0, some ⟨B, 0, none⟩, 1, 1⟩ → Calls Try.prog 48 #[.agg #[.int .i64 kind, .int .u64 0, .int .u64 0, .int .u64 0, .int .u64 0, .slice (some ⟨w.heap.size + 1 + 1, 0, none⟩) 1 1, .int .i64 ((dp : Int) + 1), .int .i64 (lv : Int), .bool bg]] w0 (RetPc w0 lo q) := by
    rintro w0 B rfl h0
    rw [hq]
    exact fits_any lo kind 0 0 0 0 _ 1 1 (.node kind z4 [t]) (dp + 1) lv bg _ _ w0 h0 (by omega) rfl (by omega) (by omega)
  rw [← hq]
  clear hq
  go_enter Try.func46, Try.ntmps46
  go_wp2_with fail
  refine (hc _ _ (by simp) (ReC.one (x1 := ⟨k, a, b, c, d, A, n, cp⟩) kind ((h.later (((Later.refl w).alloc _).alloc _))) (hlo.later (((Later.refl w).alloc _).alloc _)))).mono ?_
  rintro e w1 ⟨k1, a1, b1, c1, d1, A1, n1, cp1, rfl, h1, hl1⟩
  have B4 := blkL hl1 (Blk.alloc (blk_at (w := w.alloc _) (cs := #[.int .i64 0, .int .u64 0, .int .u64 0, .int .u64 0, .int .u64 0, .slice none 0 0, .int .i64 0, .int .i64 0, .bool false]) (t := 87) (g := w.heap.size + 1) (by simp)) _)
  obtain ⟨z0, z1, z2, z3, z4, z5, z6, z7, z8, y0, y1, y2, y3, y4, y5, y6, y7, y8⟩ := cells9 B4
  have hl1 := (((((Later.refl w).alloc _).alloc _).alloc _).trans hl1)
  have hsz : w.heap.size ≤ w.heap.size + 1 := by omega
  go_wp2_with fail
  refine bodyPost_ret (v := .agg #[.int .i64 k1, .int .u64 a1, .int .u64 b1, .int .u64 c1, .int .u64 d1, .slice A1 n1 cp1, .int .i64 (q.deep : Int), .int .i64 (q.leaves : Int), .bool q.big]) (by simp [results, Try.results46, go_sem, z0, z1, z2, z3, z4, z5, z6, z7, z8]) rfl ?_
  exact RetPc.store9 (by decide) B4 h1 hl1 hsz

set_option maxHeartbeats 1000000 in
theorem two_any (lo : Nat → Prop) (kind : Int) (lk la lb lc ld : Int) (lA : Option Addr) (ln lcp : Nat) (rk ra rb rc rd : Int) (rA : Option Addr) (rn rcp : Nat) (p1 p2 : Pc) (w : World) (hl : ReC w lo p1.re ⟨lk, la, lb, lc, ld, lA, ln, lcp⟩) (hr : ReC w lo p2.re ⟨rk, ra, rb, rc, rd, rA, rn, rcp⟩) (hp1 : PcOk p1) (hp2 : PcOk p2) (hlo : Up w lo) :
    Calls Try.prog 44 #[.int .i64 kind, .agg #[.int .i64 lk, .int .u64 la, .int .u64 lb, .int .u64 lc, .int .u64 ld, .slice lA ln lcp, .int .i64 (p1.deep : Int), .int .i64 (p1.leaves : Int), .bool p1.big], .agg #[.int .i64 rk, .int .u64 ra, .int .u64 rb, .int .u64 rc, .int .u64 rd, .slice rA rn rcp, .int .i64 (p2.deep : Int), .int .i64 (p2.leaves : Int), .bool p2.big]] w (RetPc w lo (pcTwo kind p1 p2)) := by
  obtain ⟨t1, d1, l1, b1⟩ := p1
  obtain ⟨t2, d2, l2, b2⟩ := p2
  obtain ⟨o1, o2, o3, o4⟩ : 1 ≤ d1 ∧ d1 ≤ 40 ∧ 1 ≤ l1 ∧ l1 ≤ 400 := ⟨hp1.1, hp1.2.1, hp1.2.2.1, hp1.2.2.2.1⟩
  obtain ⟨o5, o6, o7, o8⟩ : 1 ≤ d2 ∧ d2 ≤ 40 ∧ 1 ≤ l2 ∧ l2 ≤ 400 := ⟨hp2.1, hp2.2.1, hp2.2.2.1, hp2.2.2.2.1⟩
  obtain ⟨q, hq⟩ : ∃ q, q = pcTwo kind ⟨t1, d1, l1, b1⟩ ⟨t2, d2, l2, b2⟩ := ⟨_, rfl⟩
  have hc : ∀ (w0 : World) (B : Nat) (D L : Int) (bg : Bool), D = ((max (d1 + 1) d2 : Nat) : Int) → L = ((l1 + l2 : Nat) : Int) → bg = (b1 || b2) → ReC w0 lo (.node kind z4 [t1, t2]) ⟨kind, 0, 0, 0, 0, some ⟨B, 0, none⟩, 2, 2⟩ →
      Calls Try.prog 48 #[.agg #[.int .i64 kind, .int .u64 0, .int .u64 0, .int .u64 0, .int .u64 0, .slice (some ⟨B, 0, none⟩) 2 2, .int .i64 D, .int .i64 L, .bool bg]] w0 (RetPc w0 lo q) := by
    intro w0 B D L bg hD hL hb h0
    rw [hq]
    subst hb
    exact fits_any lo kind 0 0 0 0 _ 2 2 (.node kind z4 [t1, t2]) (max (d1 + 1) d2) (l1 + l2) (b1 || b2) D L w0 h0 hD hL (by omega) (by omega)
  rw [← hq]
  clear hq
  cases b1
  all_goals
    by_cases hm : d2 ≤ d1 + 1
    all_goals
      have hmi : (d2 : Int) ≤ (d1 : Int) + 1 ∨ (d1 : Int) + 1 < (d2 : Int) := by omega
      rcases hmi with hmi | hmi
      all_goals (try (exfalso; omega))
      all_goals
        go_enter Try.func44, Try.ntmps44
        go_wp2_with fail
        refine (hc _ (w.heap.size + 1 + 1 + 1) _ _ _ (by omega) (by omega) (by first | rfl | simp) (ReC.two (x1 := ⟨lk, la, lb, lc, ld, lA, ln, lcp⟩) (x2 := ⟨rk, ra, rb, rc, rd, rA, rn, rcp⟩) kind (hl.later ((((Later.refl w).alloc _).alloc _).alloc _)) (hr.later ((((Later.refl w).alloc _).alloc _).alloc _)) (hlo.later ((((Later.refl w).alloc _).alloc _).alloc _)) |> fun h => (by simpa using h))).mono ?_
        rintro e w1 ⟨k1, a1, b1, c1, d1, A1, n1, cp1, rfl, h1, hl1⟩
        have B6 := blkL hl1 (Blk.alloc (blk_at (w := (w.alloc _).alloc _) (cs := #[.int .i64 0, .int .u64 0, .int .u64 0, .int .u64 0, .int .u64 0, .slice none 0 0, .int .i64 0, .int .i64 0, .bool false]) (t := 87) (g := w.heap.size + 1 + 1) (by simp)) _)
        obtain ⟨z0, z1, z2, z3, z4, z5, z6, z7, z8, y0, y1, y2, y3, y4, y5, y6, y7, y8⟩ := cells9 B6
        have hl1 := ((((((Later.refl w).alloc _).alloc _).alloc _).alloc _).trans hl1)
        have hsz : w.heap.size ≤ w.heap.size + 1 + 1 := by omega
        go_wp2_with fail
        refine bodyPost_ret (v := .agg #[.int .i64 k1, .int .u64 a1, .int .u64 b1, .int .u64 c1, .int .u64 d1, .slice A1 n1 cp1, .int .i64 (q.deep : Int), .int .i64 (q.leaves : Int), .bool q.big]) (by simp [results, Try.results44, go_sem, z0, z1, z2, z3, z4, z5, z6, z7, z8]) rfl ?_
        exact RetPc.store9 (by decide) B6 h1 hl1 hsz

end Go.Proofs.Ytmkddhkpeiajhaa
