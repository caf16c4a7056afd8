import Derived.Test.YtmkddhkpeiajhaaGreatDoorStepLaw
namespace Go.Proofs.YtmkddhkpeiajhaaGreatDoor
open Go.RowKit
theorem kidO_at {w : World} {lo : Nat → Prop} {n p0 off : Nat} {xs : List ReX} (hL : LoR w lo 6 (some ⟨p0, off, none⟩) n (xs.flatMap reL)) {i : Nat} {y : ReX} (hi : i < n) (hy : xs[i]? = some y) :
    w.cell? ⟨p0, off + i * 6, none⟩ = some (.int .i64 y.k) ∧ w.cell? ⟨p0, off + i * 6 + 1, none⟩ = some (.int .u64 y.a) ∧ w.cell? ⟨p0, off + i * 6 + 2, none⟩ = some (.int .u64 y.b) ∧ w.cell? ⟨p0, off + i * 6 + 3, none⟩ = some (.int .u64 y.c) ∧ w.cell? ⟨p0, off + i * 6 + 4, none⟩ = some (.int .u64 y.d) ∧ w.cell? ⟨p0, off + i * 6 + 5, none⟩ = some (.slice y.A y.n y.cp) := by
  obtain ⟨b, o, hA, h⟩ := hL.six hi hy
  injection hA with hA
  injection hA with h1 h2
  subst h1 h2
  exact h
theorem oneO {w : World} {lo : Nat → Prop} {kd k : Int} {t : Tree} {a b c d : Int} {A : Option Addr} {n cp : Nat} (h : ReC w lo (.node kd z4 [t]) ⟨k, a, b, c, d, A, n, cp⟩) :
    k = kd ∧ a = 0 ∧ b = 0 ∧ c = 0 ∧ d = 0 ∧ n = 1 ∧ 1 ≤ cp ∧ ∃ p0 off xs y0, A = some ⟨p0, off, none⟩ ∧ LoR w lo 6 A 1 (List.flatMap reL xs) ∧ xs[0]? = some y0 ∧ ReC w lo t y0 := by
  unfold ReC at h
  obtain ⟨hk, ⟨ha, hb, hc, hd⟩, hn, hcp, xs, hL, hKs⟩ := h
  obtain ⟨y0, h0, hC0⟩ := hKs.get 0 t rfl
  have hn : n = 1 := hn.symm
  subst hn
  obtain ⟨p0, off, hA, _⟩ := hL.six (i := 0) (by simp) h0
  exact ⟨hk, ha, hb, hc, hd, rfl, hcp, p0, off, xs, y0, hA, hL, h0, hC0⟩
theorem twoO {w : World} {lo : Nat → Prop} {kd k : Int} {t u : Tree} {a b c d : Int} {A : Option Addr} {n cp : Nat} (h : ReC w lo (.node kd z4 [t, u]) ⟨k, a, b, c, d, A, n, cp⟩) :
    k = kd ∧ a = 0 ∧ b = 0 ∧ c = 0 ∧ d = 0 ∧ n = 2 ∧ 2 ≤ cp ∧ ∃ p0 off xs y0 y1, A = some ⟨p0, off, none⟩ ∧ LoR w lo 6 A 2 (List.flatMap reL xs) ∧ xs[0]? = some y0 ∧ xs[1]? = some y1 ∧ ReC w lo t y0 ∧ ReC w lo u y1 := by
  unfold ReC at h
  obtain ⟨hk, ⟨ha, hb, hc, hd⟩, hn, hcp, xs, hL, hKs⟩ := h
  obtain ⟨y0, h0, hC0⟩ := hKs.get 0 t rfl
  obtain ⟨y1, h1, hC1⟩ := hKs.get 1 u rfl
  have hn : n = 2 := hn.symm
  subst hn
  obtain ⟨p0, off, hA, _⟩ := hL.six (i := 0) (by simp) h0
  exact ⟨hk, ha, hb, hc, hd, rfl, hcp, p0, off, xs, y0, y1, hA, hL, h0, h1, hC0, hC1⟩
def Stepped (x : List UInt8) (r : Rx) (B : List Bool) (w : World) (e : Ending) (w' : World) : Prop := ∃ C, Sees x r B C ∧ RetO w C e w'
def StepAt (S : ByteArray) (r : Rx) : Prop := ∀ (lo : Nat → Prop) (k a b c d : Int) (A : Option Addr) (n cp : Nat) (An : Option Addr) (m c2 : Nat) (B : List Bool) (w : World), ReC w lo (rxT r) ⟨k, a, b, c, d, A, n, cp⟩ → RdO w An m B → m = S.size + 1 →
  Calls Tryz.prog 106 #[.agg #[.int .i64 k, .int .u64 a, .int .u64 b, .int .u64 c, .int .u64 d, .slice A n cp], .string S, .slice An m c2] w (Stepped S.data.toList r B w)
def StarAt (S : ByteArray) (r : Rx) : Prop := ∀ (lo : Nat → Prop) (k a b c d : Int) (A : Option Addr) (n cp : Nat) (An : Option Addr) (m c2 : Nat) (B : List Bool) (w : World), ReC w lo (rxT r) ⟨k, a, b, c, d, A, n, cp⟩ → RdO w An m B → m = S.size + 1 →
  Calls Tryz.prog 122 #[.agg #[.int .i64 k, .int .u64 a, .int .u64 b, .int .u64 c, .int .u64 d, .slice A n cp], .string S, .slice An m c2] w (Stepped S.data.toList (.star r) B w)
theorem Stepped.back {x : List UInt8} {r : Rx} {B : List Bool} {w w1 : World} {e : Ending} {w' : World} (hl : Later w w1) (h : Stepped x r B w1 e w') : Stepped x r B w e w' := by
  obtain ⟨C, h1, A, n, c, h2, h3, h4⟩ := h
  refine ⟨C, h1, A, n, c, h2, ⟨h3.1, h3.2.1, h3.2.2.imp id fun ⟨g, cap, cur, q1, q2, q3⟩ => ⟨g, cap, cur, q1, Nat.le_trans hl.size q2, q3⟩⟩, hl.trans h4⟩
theorem addO (off i : Nat) : off + 0 * 6 + i = off + i := by omega
theorem kidsL1 {w : World} {lo : Nat → Prop} {b3 p0 off cp : Nat} {kd : Int} {xs : List ReX} {y0 : ReX} (hB : Blk w b3 98 #[.int .i64 kd, .int .u64 0, .int .u64 0, .int .u64 0, .int .u64 0, .slice (some ⟨p0, off, none⟩) 1 cp]) (hL : LoR w lo 6 (some ⟨p0, off, none⟩) 1 (xs.flatMap reL)) (h0 : xs[0]? = some y0) (wx : World) (hf : Later w wx) : wx.cell? ⟨b3, 5, none⟩ = some (.slice (some ⟨p0, off, none⟩) 1 cp) ∧ wx.cell? ⟨p0, off, none⟩ = some (.int .i64 y0.k) ∧ wx.cell? ⟨p0, off + 1, none⟩ = some (.int .u64 y0.a) ∧ wx.cell? ⟨p0, off + 2, none⟩ = some (.int .u64 y0.b) ∧ wx.cell? ⟨p0, off + 3, none⟩ = some (.int .u64 y0.c) ∧ wx.cell? ⟨p0, off + 4, none⟩ = some (.int .u64 y0.d) ∧ wx.cell? ⟨p0, off + 5, none⟩ = some (.slice y0.A y0.n y0.cp) := by
  have hB1 := blkL hf hB
  have hL1 := LoR.fr hL (Fr.laterF hf) (spares_false _ _)
  obtain ⟨e0, e1, e2, e3, e4, e5⟩ := kidO_at hL1 (i := 0) (by omega) h0
  simp only [addO] at e1 e2 e3 e4 e5
  rw [show off + 0 * 6 = off by omega] at e0
  exact ⟨hB1.cell 5, e0, e1, e2, e3, e4, e5⟩
theorem kidsL2 {w : World} {lo : Nat → Prop} {b3 p0 off cp : Nat} {kd : Int} {xs : List ReX} {y0 y1 : ReX} (hB : Blk w b3 98 #[.int .i64 kd, .int .u64 0, .int .u64 0, .int .u64 0, .int .u64 0, .slice (some ⟨p0, off, none⟩) 2 cp]) (hL : LoR w lo 6 (some ⟨p0, off, none⟩) 2 (xs.flatMap reL)) (h0 : xs[0]? = some y0) (h1 : xs[1]? = some y1) (wx : World) (hf : Later w wx) : wx.cell? ⟨b3, 5, none⟩ = some (.slice (some ⟨p0, off, none⟩) 2 cp) ∧ wx.cell? ⟨p0, off, none⟩ = some (.int .i64 y0.k) ∧ wx.cell? ⟨p0, off + 1, none⟩ = some (.int .u64 y0.a) ∧ wx.cell? ⟨p0, off + 2, none⟩ = some (.int .u64 y0.b) ∧ wx.cell? ⟨p0, off + 3, none⟩ = some (.int .u64 y0.c) ∧ wx.cell? ⟨p0, off + 4, none⟩ = some (.int .u64 y0.d) ∧ wx.cell? ⟨p0, off + 5, none⟩ = some (.slice y0.A y0.n y0.cp) ∧ wx.cell? ⟨p0, off + 6, none⟩ = some (.int .i64 y1.k) ∧ wx.cell? ⟨p0, off + 7, none⟩ = some (.int .u64 y1.a) ∧ wx.cell? ⟨p0, off + 8, none⟩ = some (.int .u64 y1.b) ∧ wx.cell? ⟨p0, off + 9, none⟩ = some (.int .u64 y1.c) ∧ wx.cell? ⟨p0, off + 10, none⟩ = some (.int .u64 y1.d) ∧ wx.cell? ⟨p0, off + 11, none⟩ = some (.slice y1.A y1.n y1.cp) := by
  have hB1 := blkL hf hB
  have hL1 := LoR.fr hL (Fr.laterF hf) (spares_false _ _)
  obtain ⟨e0, e1, e2, e3, e4, e5⟩ := kidO_at hL1 (i := 0) (by omega) h0
  simp only [addO] at e1 e2 e3 e4 e5
  rw [show off + 0 * 6 = off by omega] at e0
  obtain ⟨g0, g1, g2, g3, g4, g5⟩ := kidO_at hL1 (i := 1) (by omega) h1
  rw [show off + 1 * 6 = off + 6 by omega] at g0 g1 g2 g3 g4 g5
  simp only [Nat.add_assoc, Nat.reduceAdd] at g1 g2 g3 g4 g5
  exact ⟨hB1.cell 5, e0, e1, e2, e3, e4, e5, g0, g1, g2, g3, g4, g5⟩
set_option maxRecDepth 100000 in
set_option maxHeartbeats 4000000 in
theorem step_cat (S : ByteArray) (hS : S.size ≤ 1000000) (x y : Rx) (hx : StepAt S x) (hy : StepAt S y) : StepAt S (.cat x y) := by
  intro lo k a b c d A n cp An m c2 B w hC hR hm
  obtain ⟨rfl, rfl, rfl, rfl, rfl, rfl, hcp, p0, off, xs, y0, y1, rfl, hL, h0, h1, hC0, hC1⟩ := twoO hC
  obtain ⟨Z, hZ, hmk⟩ := made_bools m (by omega)
  clear hZ
  obtain ⟨W1, hW1⟩ : ∃ W1, W1 = (w.alloc (.cells #[.int .i64 2, .int .u64 0, .int .u64 0, .int .u64 0, .int .u64 0, .slice (some ⟨p0, off, none⟩) 2 cp] 98)).alloc (.cells Z 4) := ⟨_, rfl⟩
  have hlw : Later w W1 := by rw [hW1]; exact ((Later.refl w).alloc _).alloc _
  have B3 : Blk W1 w.heap.size 98 #[.int .i64 2, .int .u64 0, .int .u64 0, .int .u64 0, .int .u64 0, .slice (some ⟨p0, off, none⟩) 2 cp] := by rw [hW1]; exact (Blk.new w _ _).alloc _
  obtain ⟨b3, hb3⟩ : ∃ b3, b3 = w.heap.size := ⟨_, rfl⟩
  rw [← hb3] at B3
  have hL1 := LoR.fr hL (Fr.laterF hlw) (spares_false _ _)
  have KF := Lib.hid (kidsL2 B3 hL1 h0 h1)
  have hC0 := hC0.later hlw
  have hR1 := hR.later hlw
  have hC1 := hC1.later hlw
  have hia : ∀ wx, Later W1 wx → Calls Tryz.prog 106 #[.agg #[.int .i64 y0.k, .int .u64 y0.a, .int .u64 y0.b, .int .u64 y0.c, .int .u64 y0.d, .slice y0.A y0.n y0.cp], .string S, .slice An m c2] wx (Stepped S.data.toList x B wx) := fun wx hl => hx lo _ _ _ _ _ _ _ _ An m c2 B wx (hC0.later hl) (hR1.later hl) hm
  have hib : ∀ w3 wx C A' n' c', Later W1 w3 → Later w3 wx → Sees S.data.toList x B C → RdO w3 A' n' C → Calls Tryz.prog 106 #[.agg #[.int .i64 y1.k, .int .u64 y1.a, .int .u64 y1.b, .int .u64 y1.c, .int .u64 y1.d, .slice y1.A y1.n y1.cp], .string S, .slice A' n' c'] wx (Stepped S.data.toList y C wx) := fun w3 wx C A' n' c' h1 h2 hs hr =>
    hy lo _ _ _ _ _ _ _ _ A' n' c' C wx ((hC1.later h1).later h2) (hr.later h2) (by rw [← hr.1, hs.1, hR.1]; exact hm)
  have HIA := Lib.hid hia
  have HIB := Lib.hid hib
  have HLW := Lib.hid hlw
  have hph : Later W1 W1 := Later.refl _
  obtain ⟨z0, z1, z2, z3, z4, z5, z6, z7, z8, z9, z10, z11, z12⟩ := KF.out W1 hph
  have hmi : (m : Int) ≤ 1000001 := by omega
  clear hC hR hR1 hC0 hC1 hx hy hL hL1 h0 h1 hia hib hlw hm
  go_enter Tryz.func106, Tryz.ntmps106
  go_upto_region 16 with fail
  rw [← hW1, ← hb3]
  clear hW1 hb3 hmk
  go_region_held_law (fun w' => w'.cell? ⟨b3, 5, none⟩ = some (.slice (some ⟨p0, off, none⟩) 2 cp) ∧ w'.cell? ⟨p0, off, none⟩ = some (.int .i64 y0.k) ∧ w'.cell? ⟨p0, off + 1, none⟩ = some (.int .u64 y0.a) ∧ w'.cell? ⟨p0, off + 2, none⟩ = some (.int .u64 y0.b) ∧ w'.cell? ⟨p0, off + 3, none⟩ = some (.int .u64 y0.c) ∧ w'.cell? ⟨p0, off + 4, none⟩ = some (.int .u64 y0.d) ∧ w'.cell? ⟨p0, off + 5, none⟩ = some (.slice y0.A y0.n y0.cp) ∧ w'.cell? ⟨p0, off + 6, none⟩ = some (.int .i64 y1.k) ∧ w'.cell? ⟨p0, off + 7, none⟩ = some (.int .u64 y1.a) ∧ w'.cell? ⟨p0, off + 8, none⟩ = some (.int .u64 y1.b) ∧ w'.cell? ⟨p0, off + 9, none⟩ = some (.int .u64 y1.c) ∧ w'.cell? ⟨p0, off + 10, none⟩ = some (.int .u64 y1.d) ∧ w'.cell? ⟨p0, off + 11, none⟩ = some (.slice y1.A y1.n y1.cp)) (exact KF.out _ (by repeat (first | (with_reducible exact hph) | (with_reducible apply Later.drew) | (with_reducible apply Later.alloc))))
    ((first
      | (((go_at_call 106; (with_reducible refine (HIA.out _ (by repeat (first | (with_reducible exact hph) | (with_reducible apply Later.drew) | (with_reducible apply Later.alloc)))).mono ?_)); rintro e w3 ⟨C, hsC, A3, n3, c3, rfl, ho3, hl3⟩); have hph := Later.trans (by repeat (first | (with_reducible exact hph) | (with_reducible apply Later.drew) | (with_reducible apply Later.alloc))) hl3; have hph3 := hph; have hrd3 := ho3.rd)
      | (((go_at_call 106; (with_reducible refine (HIB.out _ _ _ _ _ _ hph3 (by repeat (first | (with_reducible exact Later.refl _) | (with_reducible apply Later.drew) | (with_reducible apply Later.alloc))) hsC hrd3).mono ?_)); rintro e w5 ⟨D, hsD, A5, n5, c5, rfl, ho5, hl5⟩); have hph5 := Later.trans (by repeat (first | (with_reducible exact hph) | (with_reducible apply Later.drew) | (with_reducible apply Later.alloc))) hl5; have hph := hph5)))
  all_goals
    go_wp2_with fail
    go_ret
    exact ⟨D, sees_cat hsC hsD, A5, n5, c5, rfl, ⟨ho5.1, ho5.2.1, ho5.2.2.imp id fun ⟨g, cap, cur, q1, q2, q3⟩ => ⟨g, cap, cur, q1, Nat.le_trans (HLW.out.trans hph3).size (Nat.le_trans (by simp) q2), q3⟩⟩, HLW.out.trans hph5⟩
set_option maxRecDepth 100000 in
set_option maxHeartbeats 4000000 in
theorem step_opt (S : ByteArray) (hS : S.size ≤ 1000000) (x : Rx) (hx : StepAt S x) : StepAt S (.opt x) := by
  intro lo k a b c d A n cp An m c2 B w hC hR hm
  obtain ⟨rfl, rfl, rfl, rfl, rfl, rfl, hcp, p0, off, xs, y0, rfl, hL, h0, hC0⟩ := oneO hC
  obtain ⟨Z, hZ, hmk⟩ := made_bools m (by omega)
  clear hZ
  obtain ⟨W1, hW1⟩ : ∃ W1, W1 = (w.alloc (.cells #[.int .i64 6, .int .u64 0, .int .u64 0, .int .u64 0, .int .u64 0, .slice (some ⟨p0, off, none⟩) 1 cp] 98)).alloc (.cells Z 4) := ⟨_, rfl⟩
  have hlw : Later w W1 := by rw [hW1]; exact ((Later.refl w).alloc _).alloc _
  have B3 : Blk W1 w.heap.size 98 #[.int .i64 6, .int .u64 0, .int .u64 0, .int .u64 0, .int .u64 0, .slice (some ⟨p0, off, none⟩) 1 cp] := by rw [hW1]; exact (Blk.new w _ _).alloc _
  obtain ⟨b3, hb3⟩ : ∃ b3, b3 = w.heap.size := ⟨_, rfl⟩
  rw [← hb3] at B3
  have hL1 := LoR.fr hL (Fr.laterF hlw) (spares_false _ _)
  have KF := Lib.hid (kidsL1 B3 hL1 h0)
  have hC0 := hC0.later hlw
  have hR1 := hR.later hlw
  have HIA : Hid (∀ wx, Later W1 wx → Calls Tryz.prog 106 #[.agg #[.int .i64 y0.k, .int .u64 y0.a, .int .u64 y0.b, .int .u64 y0.c, .int .u64 y0.d, .slice y0.A y0.n y0.cp], .string S, .slice An m c2] wx (Stepped S.data.toList x B wx)) := fun wx hl => hx lo _ _ _ _ _ _ _ _ An m c2 B wx (hC0.later hl) (hR1.later hl) hm
  have HEI : Hid (∀ wx E A5 n5 c5, Later W1 wx → Sees S.data.toList x B E → RdO wx A5 n5 E → Calls Tryz.prog 121 #[.slice An m c2, .slice A5 n5 c5] wx (RetO wx (orL B E))) := fun wx E A5 n5 c5 hl hs hr5 => by
    have hn : n5 = m := by rw [← hr5.1, hs.1, hR.1]
    subst hn
    exact either_any An n5 c2 B A5 c5 E wx (hR1.later hl) hr5 (by omega)
  have HLW := Lib.hid hlw
  have hph : Later W1 W1 := Later.refl _
  obtain ⟨z0, z1, z2, z3, z4, z5, z6⟩ := KF.out W1 hph
  have hmi : (m : Int) ≤ 1000001 := by omega
  clear hC hR hR1 hC0 hx hL hL1 h0 hlw hm
  go_enter Tryz.func106, Tryz.ntmps106
  go_upto_region 20 with fail
  rw [← hW1, ← hb3]
  clear hW1 hb3 hmk
  go_wp2_with fail
  refine (HIA.out _ (Later.refl _)).mono ?_
  rintro e w3 ⟨C, hsC, A3, n3, c3, rfl, ho3, hl3⟩
  go_wp2_with fail
  refine (HEI.out _ _ _ _ _ hl3 hsC ho3.rd).mono ?_
  rintro e w5 ⟨A5, n5, c5, rfl, ho5, hl5⟩
  go_wp2_with fail
  go_ret
  have hall := HLW.out.trans hl3
  exact ⟨_, sees_opt hsC, A5, n5, c5, rfl, ⟨ho5.1, ho5.2.1, ho5.2.2.imp id fun ⟨g, cap, cur, q1, q2, q3⟩ => ⟨g, cap, cur, q1, Nat.le_trans hall.size q2, q3⟩⟩, hall.trans hl5⟩
set_option maxRecDepth 100000 in
set_option maxHeartbeats 4000000 in
theorem step_star (S : ByteArray) (hS : S.size ≤ 1000000) (x : Rx) (hx : StarAt S x) : StepAt S (.star x) := by
  intro lo k a b c d A n cp An m c2 B w hC hR hm
  obtain ⟨rfl, rfl, rfl, rfl, rfl, rfl, hcp, p0, off, xs, y0, rfl, hL, h0, hC0⟩ := oneO hC
  obtain ⟨Z, hZ, hmk⟩ := made_bools m (by omega)
  clear hZ
  obtain ⟨W1, hW1⟩ : ∃ W1, W1 = (w.alloc (.cells #[.int .i64 4, .int .u64 0, .int .u64 0, .int .u64 0, .int .u64 0, .slice (some ⟨p0, off, none⟩) 1 cp] 98)).alloc (.cells Z 4) := ⟨_, rfl⟩
  have hlw : Later w W1 := by rw [hW1]; exact ((Later.refl w).alloc _).alloc _
  have B3 : Blk W1 w.heap.size 98 #[.int .i64 4, .int .u64 0, .int .u64 0, .int .u64 0, .int .u64 0, .slice (some ⟨p0, off, none⟩) 1 cp] := by rw [hW1]; exact (Blk.new w _ _).alloc _
  obtain ⟨b3, hb3⟩ : ∃ b3, b3 = w.heap.size := ⟨_, rfl⟩
  rw [← hb3] at B3
  have hL1 := LoR.fr hL (Fr.laterF hlw) (spares_false _ _)
  have KF := Lib.hid (kidsL1 B3 hL1 h0)
  have hC0 := hC0.later hlw
  have hR1 := hR.later hlw
  have HIA : Hid (∀ wx, Later W1 wx → Calls Tryz.prog 122 #[.agg #[.int .i64 y0.k, .int .u64 y0.a, .int .u64 y0.b, .int .u64 y0.c, .int .u64 y0.d, .slice y0.A y0.n y0.cp], .string S, .slice An m c2] wx (Stepped S.data.toList (.star x) B wx)) := fun wx hl => hx lo _ _ _ _ _ _ _ _ An m c2 B wx (hC0.later hl) (hR1.later hl) hm
  have HLW := Lib.hid hlw
  have hph : Later W1 W1 := Later.refl _
  obtain ⟨z0, z1, z2, z3, z4, z5, z6⟩ := KF.out W1 hph
  have hmi : (m : Int) ≤ 1000001 := by omega
  clear hC hR hR1 hC0 hx hL hL1 h0 hlw hm
  go_enter Tryz.func106, Tryz.ntmps106
  go_upto_region 22 with fail
  rw [← hW1, ← hb3]
  clear hW1 hb3 hmk
  go_wp2_with fail
  refine (HIA.out _ (Later.refl _)).mono ?_
  rintro e w3 ⟨C, hsC, A3, n3, c3, rfl, ho3, hl3⟩
  go_wp2_with fail
  go_ret
  exact ⟨C, hsC, A3, n3, c3, rfl, ⟨ho3.1, ho3.2.1, ho3.2.2.imp id fun ⟨g, cap, cur, q1, q2, q3⟩ => ⟨g, cap, cur, q1, Nat.le_trans HLW.out.size q2, q3⟩⟩, HLW.out.trans hl3⟩
set_option maxRecDepth 100000 in
set_option maxHeartbeats 4000000 in
theorem step_plus (S : ByteArray) (hS : S.size ≤ 1000000) (x : Rx) (hx : StepAt S x) (hst : StarAt S x) : StepAt S (.plus x) := by
  intro lo k a b c d A n cp An m c2 B w hC hR hm
  obtain ⟨rfl, rfl, rfl, rfl, rfl, rfl, hcp, p0, off, xs, y0, rfl, hL, h0, hC0⟩ := oneO hC
  obtain ⟨Z, hZ, hmk⟩ := made_bools m (by omega)
  clear hZ
  obtain ⟨W1, hW1⟩ : ∃ W1, W1 = (w.alloc (.cells #[.int .i64 5, .int .u64 0, .int .u64 0, .int .u64 0, .int .u64 0, .slice (some ⟨p0, off, none⟩) 1 cp] 98)).alloc (.cells Z 4) := ⟨_, rfl⟩
  have hlw : Later w W1 := by rw [hW1]; exact ((Later.refl w).alloc _).alloc _
  have B3 : Blk W1 w.heap.size 98 #[.int .i64 5, .int .u64 0, .int .u64 0, .int .u64 0, .int .u64 0, .slice (some ⟨p0, off, none⟩) 1 cp] := by rw [hW1]; exact (Blk.new w _ _).alloc _
  obtain ⟨b3, hb3⟩ : ∃ b3, b3 = w.heap.size := ⟨_, rfl⟩
  rw [← hb3] at B3
  have hL1 := LoR.fr hL (Fr.laterF hlw) (spares_false _ _)
  have KF := Lib.hid (kidsL1 B3 hL1 h0)
  have hC0 := hC0.later hlw
  have hR1 := hR.later hlw
  have HIA : Hid (∀ wx, Later W1 wx → Calls Tryz.prog 106 #[.agg #[.int .i64 y0.k, .int .u64 y0.a, .int .u64 y0.b, .int .u64 y0.c, .int .u64 y0.d, .slice y0.A y0.n y0.cp], .string S, .slice An m c2] wx (Stepped S.data.toList x B wx)) := fun wx hl => hx lo _ _ _ _ _ _ _ _ An m c2 B wx (hC0.later hl) (hR1.later hl) hm
  have HIB : Hid (∀ w3 wx C A' n' c', Later W1 w3 → Later w3 wx → Sees S.data.toList x B C → RdO w3 A' n' C → Calls Tryz.prog 122 #[.agg #[.int .i64 y0.k, .int .u64 y0.a, .int .u64 y0.b, .int .u64 y0.c, .int .u64 y0.d, .slice y0.A y0.n y0.cp], .string S, .slice A' n' c'] wx (Stepped S.data.toList (.star x) C wx)) := fun w3 wx C A' n' c' h1 h2 hs hr =>
    hst lo _ _ _ _ _ _ _ _ A' n' c' C wx ((hC0.later h1).later h2) (hr.later h2) (by rw [← hr.1, hs.1, hR.1]; exact hm)
  have HLW := Lib.hid hlw
  have hph : Later W1 W1 := Later.refl _
  obtain ⟨z0, z1, z2, z3, z4, z5, z6⟩ := KF.out W1 hph
  have hmi : (m : Int) ≤ 1000001 := by omega
  clear hC hR hR1 hC0 hx hL hL1 h0 hlw hm
  go_enter Tryz.func106, Tryz.ntmps106
  go_upto_region 24 with fail
  rw [← hW1, ← hb3]
  clear hW1 hb3 hmk
  go_region_held_law (fun w' => w'.cell? ⟨b3, 5, none⟩ = some (.slice (some ⟨p0, off, none⟩) 1 cp) ∧ w'.cell? ⟨p0, off, none⟩ = some (.int .i64 y0.k) ∧ w'.cell? ⟨p0, off + 1, none⟩ = some (.int .u64 y0.a) ∧ w'.cell? ⟨p0, off + 2, none⟩ = some (.int .u64 y0.b) ∧ w'.cell? ⟨p0, off + 3, none⟩ = some (.int .u64 y0.c) ∧ w'.cell? ⟨p0, off + 4, none⟩ = some (.int .u64 y0.d) ∧ w'.cell? ⟨p0, off + 5, none⟩ = some (.slice y0.A y0.n y0.cp)) (exact KF.out _ (by repeat (first | (with_reducible exact hph) | (with_reducible apply Later.drew) | (with_reducible apply Later.alloc))))
    ((first
      | (((go_at_call 106; (with_reducible refine (HIA.out _ (by repeat (first | (with_reducible exact hph) | (with_reducible apply Later.drew) | (with_reducible apply Later.alloc)))).mono ?_)); rintro e w3 ⟨C, hsC, A3, n3, c3, rfl, ho3, hl3⟩); have hph := Later.trans (by repeat (first | (with_reducible exact hph) | (with_reducible apply Later.drew) | (with_reducible apply Later.alloc))) hl3; have hph3 := hph; have hrd3 := ho3.rd)
      | (((go_at_call 122; (with_reducible refine (HIB.out _ _ _ _ _ _ hph3 (by repeat (first | (with_reducible exact Later.refl _) | (with_reducible apply Later.drew) | (with_reducible apply Later.alloc))) hsC hrd3).mono ?_)); rintro e w5 ⟨D, hsD, A5, n5, c5, rfl, ho5, hl5⟩); have hph5 := Later.trans (by repeat (first | (with_reducible exact hph) | (with_reducible apply Later.drew) | (with_reducible apply Later.alloc))) hl5; have hph := hph5)))
  all_goals
    go_wp2_with fail
    go_ret
    exact ⟨D, sees_plus hsC hsD, A5, n5, c5, rfl, ⟨ho5.1, ho5.2.1, ho5.2.2.imp id fun ⟨g, cap, cur, q1, q2, q3⟩ => ⟨g, cap, cur, q1, Nat.le_trans (HLW.out.trans hph3).size (Nat.le_trans (by simp) q2), q3⟩⟩, HLW.out.trans hph5⟩
set_option maxRecDepth 100000 in
set_option maxHeartbeats 4000000 in
theorem step_alt (S : ByteArray) (hS : S.size ≤ 1000000) (x y : Rx) (hx : StepAt S x) (hy : StepAt S y) : StepAt S (.alt x y) := by
  intro lo k a b c d A n cp An m c2 B w hC hR hm
  obtain ⟨rfl, rfl, rfl, rfl, rfl, rfl, hcp, p0, off, xs, y0, y1, rfl, hL, h0, h1, hC0, hC1⟩ := twoO hC
  obtain ⟨Z, hZ, hmk⟩ := made_bools m (by omega)
  clear hZ
  obtain ⟨W1, hW1⟩ : ∃ W1, W1 = (w.alloc (.cells #[.int .i64 3, .int .u64 0, .int .u64 0, .int .u64 0, .int .u64 0, .slice (some ⟨p0, off, none⟩) 2 cp] 98)).alloc (.cells Z 4) := ⟨_, rfl⟩
  have hlw : Later w W1 := by rw [hW1]; exact ((Later.refl w).alloc _).alloc _
  have B3 : Blk W1 w.heap.size 98 #[.int .i64 3, .int .u64 0, .int .u64 0, .int .u64 0, .int .u64 0, .slice (some ⟨p0, off, none⟩) 2 cp] := by rw [hW1]; exact (Blk.new w _ _).alloc _
  obtain ⟨b3, hb3⟩ : ∃ b3, b3 = w.heap.size := ⟨_, rfl⟩
  rw [← hb3] at B3
  have hL1 := LoR.fr hL (Fr.laterF hlw) (spares_false _ _)
  have KF := Lib.hid (kidsL2 B3 hL1 h0 h1)
  have hC0 := hC0.later hlw
  have hR1 := hR.later hlw
  have hC1 := hC1.later hlw
  have HIA : Hid (∀ wx, Later W1 wx → Calls Tryz.prog 106 #[.agg #[.int .i64 y0.k, .int .u64 y0.a, .int .u64 y0.b, .int .u64 y0.c, .int .u64 y0.d, .slice y0.A y0.n y0.cp], .string S, .slice An m c2] wx (Stepped S.data.toList x B wx)) := fun wx hl => hx lo _ _ _ _ _ _ _ _ An m c2 B wx (hC0.later hl) (hR1.later hl) hm
  have HIB : Hid (∀ wx, Later W1 wx → Calls Tryz.prog 106 #[.agg #[.int .i64 y1.k, .int .u64 y1.a, .int .u64 y1.b, .int .u64 y1.c, .int .u64 y1.d, .slice y1.A y1.n y1.cp], .string S, .slice An m c2] wx (Stepped S.data.toList y B wx)) := fun wx hl => hy lo _ _ _ _ _ _ _ _ An m c2 B wx (hC1.later hl) (hR1.later hl) hm
  have HEI : Hid (∀ w3 w5 wx C D A3 n3 c3 A5 n5 c5, Later w3 w5 → Later w5 wx → Sees S.data.toList x B C → Sees S.data.toList y B D → RdO w3 A3 n3 C → RdO w5 A5 n5 D → Calls Tryz.prog 121 #[.slice A3 n3 c3, .slice A5 n5 c5] wx (RetO wx (orL C D))) := fun w3 w5 wx C D A3 n3 c3 A5 n5 c5 h1 h2 hs hs2 hr3 hr5 => by
    have hn : n5 = n3 := by rw [← hr5.1, hs2.1, ← hs.1, hr3.1]
    have hn3 : n3 = m := by rw [← hr3.1, hs.1, hR.1]
    subst hn
    exact either_any A3 n5 c3 C A5 c5 D wx ((hr3.later h1).later h2) (hr5.later h2) (by omega)
  have HLW := Lib.hid hlw
  have hph : Later W1 W1 := Later.refl _
  obtain ⟨z0, z1, z2, z3, z4, z5, z6, z7, z8, z9, z10, z11, z12⟩ := KF.out W1 hph
  have hmi : (m : Int) ≤ 1000001 := by omega
  clear hC hR hR1 hC0 hC1 hx hy hL hL1 h0 h1 hlw hm
  go_enter Tryz.func106, Tryz.ntmps106
  go_upto_region 18 with fail
  rw [← hW1, ← hb3]
  clear hW1 hb3 hmk
  go_region_held_law (fun w' => w'.cell? ⟨b3, 5, none⟩ = some (.slice (some ⟨p0, off, none⟩) 2 cp) ∧ w'.cell? ⟨p0, off, none⟩ = some (.int .i64 y0.k) ∧ w'.cell? ⟨p0, off + 1, none⟩ = some (.int .u64 y0.a) ∧ w'.cell? ⟨p0, off + 2, none⟩ = some (.int .u64 y0.b) ∧ w'.cell? ⟨p0, off + 3, none⟩ = some (.int .u64 y0.c) ∧ w'.cell? ⟨p0, off + 4, none⟩ = some (.int .u64 y0.d) ∧ w'.cell? ⟨p0, off + 5, none⟩ = some (.slice y0.A y0.n y0.cp) ∧ w'.cell? ⟨p0, off + 6, none⟩ = some (.int .i64 y1.k) ∧ w'.cell? ⟨p0, off + 7, none⟩ = some (.int .u64 y1.a) ∧ w'.cell? ⟨p0, off + 8, none⟩ = some (.int .u64 y1.b) ∧ w'.cell? ⟨p0, off + 9, none⟩ = some (.int .u64 y1.c) ∧ w'.cell? ⟨p0, off + 10, none⟩ = some (.int .u64 y1.d) ∧ w'.cell? ⟨p0, off + 11, none⟩ = some (.slice y1.A y1.n y1.cp)) (exact KF.out _ (by repeat (first | (with_reducible exact hph) | (with_reducible apply Later.drew) | (with_reducible apply Later.alloc))))
    ((first
      | (((go_at_call 106; (with_reducible refine (HIA.out _ (by repeat (first | (with_reducible exact hph) | (with_reducible apply Later.drew) | (with_reducible apply Later.alloc)))).mono ?_)); rintro e w3 ⟨C, hsC, A3, n3, c3, rfl, ho3, hl3⟩); have hph := Later.trans (by repeat (first | (with_reducible exact hph) | (with_reducible apply Later.drew) | (with_reducible apply Later.alloc))) hl3; have hph3 := hph; have hrd3 := ho3.rd; have lt3 := Later.refl w3)
      | (((go_at_call 106; (with_reducible refine (HIB.out _ (by repeat (first | (with_reducible exact hph) | (with_reducible apply Later.drew) | (with_reducible apply Later.alloc)))).mono ?_)); rintro e w5 ⟨D, hsD, A5, n5, c5, rfl, ho5, hl5⟩); have hph := Later.trans (by repeat (first | (with_reducible exact hph) | (with_reducible apply Later.drew) | (with_reducible apply Later.alloc))) hl5; have hph5 := hph; have hrd5 := ho5.rd; have l35 := Later.trans (by repeat (first | (with_reducible exact lt3) | (with_reducible apply Later.drew) | (with_reducible apply Later.alloc))) hl5)
      | (((go_at_call 121; (with_reducible refine (HEI.out _ _ _ _ _ _ _ _ _ _ _ l35 (by repeat (first | (with_reducible exact Later.refl _) | (with_reducible apply Later.drew) | (with_reducible apply Later.alloc))) hsC hsD hrd3 hrd5).mono ?_)); rintro e w7 ⟨A7, n7, c7, rfl, ho7, hl7⟩); have hph7 := Later.trans (by repeat (first | (with_reducible exact hph) | (with_reducible apply Later.drew) | (with_reducible apply Later.alloc))) hl7; have hph := hph7)))
  all_goals
    go_wp2_with fail
    go_ret
    exact ⟨_, sees_alt hsC hsD, A7, n7, c7, rfl, ⟨ho7.1, ho7.2.1, ho7.2.2.imp id fun ⟨g, cap, cur, q1, q2, q3⟩ => ⟨g, cap, cur, q1, Nat.le_trans (HLW.out.trans hph5).size (Nat.le_trans (by simp) q2), q3⟩⟩, HLW.out.trans hph7⟩
end Go.Proofs.YtmkddhkpeiajhaaGreatDoor
