import Derived.Test.YtmkddhkpeiajhaaGreatDoorStep
import Derived.Test.YtmkddhkpeiajhaaGreatDoorParser
import Derived.Laws.CopyOwn
import Derived.Test.YtmkddhkpeiajhaaGreatDoorRxs
import Derived.Test.YtmkddhkpeiajhaaGreatDoorStarW
import Derived.Test.YtmkddhkpeiajhaaGreatDoorStepLaw
namespace Go.Proofs.YtmkddhkpeiajhaaGreatDoor
open Go.RowKit
theorem on_rep {m j : Nat} : ¬ On (List.replicate m false) j := fun h => by
 unfold On at h
 rw [List.getElem?_replicate] at h
 split at h
 ·cases h
 ·cases h
theorem on_set {l : List Bool} {k : Nat} {x : Bool} (hk : k < l.length) (j : Nat) : On (l.set k x) j ↔ (j = k ∧ x = true) ∨ (j ≠ k ∧ On l j) := by
 unfold On
 rw [List.getElem?_set]
 by_cases hj : k = j
 ·subst hj
  rw [if_pos rfl, if_pos hk]
  simp
 ·rw [if_neg hj]
  exact ⟨fun h => .inr ⟨fun e => hj e.symm, h⟩, fun h => h.elim (fun ⟨e, _⟩ => absurd e.symm hj) (fun h => h.2)⟩
theorem sees_at {t : List UInt8} {r : Rx} {B : List Bool} {k : Nat} {x : Bool} (hr : ∀ i j, Mt t r i j ↔ i = j ∧ i = k) (hx : B[k]? = some x) : Sees t r B ((List.replicate B.length false).set k x) := by
 have hk := (List.getElem?_eq_some_iff.1 hx).1
 refine ⟨by simp, fun j => ?_⟩
 rw [on_set (by simpa using hk)]
 constructor
 ·rintro (⟨rfl, rfl⟩ | ⟨_, h⟩)
  ·exact ⟨j, hx, (hr _ _).2 ⟨rfl, rfl⟩⟩
  ·exact absurd h on_rep
 ·rintro ⟨i, hi, hm⟩
  obtain ⟨rfl, rfl⟩ := (hr _ _).1 hm
  exact .inl ⟨rfl, by unfold On at hi; rw [hx] at hi; injection hi⟩
def SetUpTo (t : List UInt8) (s : W4) (B : List Bool) (j : Nat) (C : List Bool) : Prop := C.length = B.length ∧ ∀ k, On C k ↔ ∃ i, i < j ∧ k = i + 1 ∧ On B i ∧ hasAt t s i = true
theorem setUp_zero (t : List UInt8) (s : W4) (B : List Bool) : SetUpTo t s B 0 (List.replicate B.length false) := ⟨by simp, fun k => ⟨fun h => absurd h on_rep, fun ⟨i, hi, _⟩ => absurd hi (by omega)⟩⟩
theorem setUp_next {t : List UInt8} {s : W4} {B C : List Bool} {j : Nat} (h : SetUpTo t s B j C) {x y z : Bool} (hx : B[j]? = some x) (hy : hasAt t s j = y) (hz : z = (x && y)) (hj : j + 1 < B.length) : SetUpTo t s B (j + 1) (C.set (j + 1) z) := by
 subst hz
 refine ⟨by rw [List.length_set]; exact h.1, fun k => ?_⟩
 rw [on_set (by rw [h.1]; exact hj), h.2 k]
 constructor
 ·rintro (⟨rfl, he⟩ | ⟨hne, i, hi, he, hb, hh⟩)
  ·rw [Bool.and_eq_true] at he
   obtain ⟨rfl, rfl⟩ := he
   exact ⟨j, by omega, rfl, hx, hy⟩
  ·exact ⟨i, by omega, he, hb, hh⟩
 ·rintro ⟨i, hi, rfl, hb, hh⟩
  by_cases hij : i = j
  ·subst hij
   refine .inl ⟨rfl, ?_⟩
   have hb : B[i]? = some true := hb
   rw [hb] at hx
   injection hx with hx
   rw [← hx, ← hy, hh]
   rfl
  ·exact .inr ⟨by omega, i, by omega, rfl, hb, hh⟩
theorem sees_set {t : List UInt8} {s : W4} {B C : List Bool} (_hl : B.length = t.length + 1) (h : SetUpTo t s B t.length C) : Sees t (.set s) B C :=
 ⟨h.1, fun k => by
  rw [h.2 k]
  exact ⟨fun ⟨i, _, he, hb, hh⟩ => ⟨i, hb, hh, he⟩, fun ⟨i, hb, hh, he⟩ => ⟨i, hasAt_lt t hh, he, hb, hh⟩⟩⟩
theorem leafO {w : World} {lo : Nat → Prop} {kd k : Int} {s : W4} {a b c d : Int} {A : Option Addr} {n cp : Nat} (h : ReC w lo (.node kd s []) ⟨k, a, b, c, d, A, n, cp⟩) :
  k = kd ∧ a = (s.1 : Int) ∧ b = (s.2.1 : Int) ∧ c = (s.2.2.1 : Int) ∧ d = (s.2.2.2 : Int) ∧ n = 0 := by
 unfold ReC at h
 obtain ⟨hk, ⟨ha, hb, hc, hd⟩, hn, _⟩ := h
 exact ⟨hk, ha, hb, hc, hd, hn.symm⟩
set_option maxRecDepth 100000 in
set_option maxHeartbeats 4000000 in
theorem step_first (S : ByteArray) (hS : S.size ≤ 1000000) : StepAt S .first := by
 intro lo k a b c d A n cp An m c2 B w hC hR hm
 obtain ⟨rfl, rfl, rfl, rfl, rfl, rfl⟩ := leafO (kd := 7) (s := z4) hC
 obtain ⟨x, hx⟩ : ∃ x, B[0]? = some x := ⟨_, List.getElem?_eq_getElem (by rw [hR.1]; omega)⟩
 obtain ⟨b1, o1, rfl, hb1, e1⟩ := hR.at_ hx
 rw [Nat.add_zero] at e1
 have hsee : Sees S.data.toList .first B ((List.replicate m false).set 0 x) := by rw [← hR.1]; exact sees_at (fun i j => Iff.rfl) hx
 obtain ⟨Z, hZ, hmk⟩ := made_bools m (by omega)
 obtain ⟨W0, hW0⟩ : ∃ W0, W0 = w.alloc (.cells #[.int .i64 7, .int .u64 (z4.1 : Int), .int .u64 (z4.2.1 : Int), .int .u64 (z4.2.2.1 : Int), .int .u64 (z4.2.2.2 : Int), .slice A 0 cp] 98) := ⟨_, rfl⟩
 have B0 : Blk W0 w.heap.size 98 #[.int .i64 7, .int .u64 (z4.1 : Int), .int .u64 (z4.2.1 : Int), .int .u64 (z4.2.2.1 : Int), .int .u64 (z4.2.2.2 : Int), .slice A 0 cp] := by rw [hW0]; exact Blk.new w _ _
 have hl0 : Later w W0 := by rw [hW0]; exact (Later.refl w).alloc _
 have hW0s : w.heap.size ≤ W0.heap.size := hl0.size
 have hO := hZ W0 w.heap.size hW0s
 have hO2 := own_seto hO x (k := 0) (by omega)
 have hl2 : Later w ((W0.alloc (.cells Z 4)).setCell ⟨W0.heap.size, 0, none⟩ (.bool x)) := Later.setCell (hl0.alloc _) hW0s _
 have HO := Lib.hid hO2
 have HL := Lib.hid hl2
 have HS := Lib.hid hsee
 have e1' : (W0.alloc (.cells Z 4)).cell? ⟨b1, o1, none⟩ = some (.bool x) := by rw [Later.cell (hl0.alloc _) hb1]; exact e1
 obtain ⟨v0, c0⟩ : ∃ v, (W0.alloc (.cells Z 4)).cell? ⟨W0.heap.size, 0, none⟩ = some v := by
  obtain ⟨b, o, hA, _, hc⟩ := hO.rd.at_ (k := 0) (List.getElem?_eq_getElem (by rw [hO.1]; omega))
  injection hA with hA
  injection hA with hA1 hA2
  subst hA1 hA2
  exact ⟨_, hc⟩
 have f0 : (W0.alloc (.cells Z 4)).frozen? ⟨W0.heap.size, 0, none⟩ = false := by
  obtain ⟨_, _, cs, hB⟩ := own_row_blk hO.2 (k := W0.heap.size) rfl
  exact hB.frozen 0
 have z0 : (W0.alloc (.cells Z 4)).cell? ⟨w.heap.size, 0, none⟩ = some (.int .i64 7) := (B0.alloc _).cell 0
 have hsz : W0.heap.size = w.heap.size + 1 := by rw [hW0]; simp
 rw [hsz] at HO HL c0 f0
 have hmi : (m : Int) ≤ 1000001 := by omega
 have hmp : (0 : Int) < (m : Int) := by omega
 clear hm hC hR hx e1 hsee hZ hO hO2 hl2 hl0 B0 hW0s hb1 hsz
 go_enter Tryz.func106, Tryz.ntmps106
 go_upto_region 12 with fail
 rw [← hW0]
 clear hW0
 go_wp2_with fail
 go_ret
 exact ⟨_, HS.out, _, _, _, rfl, HO.out, HL.out⟩
set_option maxRecDepth 100000 in
set_option maxHeartbeats 4000000 in
theorem step_last (S : ByteArray) (hS : S.size ≤ 1000000) : StepAt S .last := by
 intro lo k a b c d A n cp An m c2 B w hC hR hm
 obtain ⟨rfl, rfl, rfl, rfl, rfl, rfl⟩ := leafO (kd := 8) (s := z4) hC
 obtain ⟨x, hx⟩ : ∃ x, B[S.size]? = some x := ⟨_, List.getElem?_eq_getElem (by rw [hR.1]; omega)⟩
 obtain ⟨b1, o1, rfl, hb1, e1⟩ := hR.at_ hx
 have hsee : Sees S.data.toList .last B ((List.replicate m false).set S.size x) := by rw [← hR.1]; exact sees_at (fun i j => Iff.rfl) hx
 obtain ⟨Z, hZ, hmk⟩ := made_bools m (by omega)
 obtain ⟨W0, hW0⟩ : ∃ W0, W0 = w.alloc (.cells #[.int .i64 8, .int .u64 (z4.1 : Int), .int .u64 (z4.2.1 : Int), .int .u64 (z4.2.2.1 : Int), .int .u64 (z4.2.2.2 : Int), .slice A 0 cp] 98) := ⟨_, rfl⟩
 have B0 : Blk W0 w.heap.size 98 #[.int .i64 8, .int .u64 (z4.1 : Int), .int .u64 (z4.2.1 : Int), .int .u64 (z4.2.2.1 : Int), .int .u64 (z4.2.2.2 : Int), .slice A 0 cp] := by rw [hW0]; exact Blk.new w _ _
 have hl0 : Later w W0 := by rw [hW0]; exact (Later.refl w).alloc _
 have hW0s : w.heap.size ≤ W0.heap.size := hl0.size
 have hO := hZ W0 w.heap.size hW0s
 have hO2 := own_seto hO x (k := S.size) (by omega)
 have hl2 : Later w ((W0.alloc (.cells Z 4)).setCell ⟨W0.heap.size, S.size, none⟩ (.bool x)) := Later.setCell (hl0.alloc _) hW0s _
 have HO := Lib.hid hO2
 have HL := Lib.hid hl2
 have HS := Lib.hid hsee
 have e1' : (W0.alloc (.cells Z 4)).cell? ⟨b1, o1 + S.size, none⟩ = some (.bool x) := by rw [Later.cell (hl0.alloc _) hb1]; exact e1
 obtain ⟨v0, c0⟩ : ∃ v, (W0.alloc (.cells Z 4)).cell? ⟨W0.heap.size, S.size, none⟩ = some v := by
  obtain ⟨b, o, hA, _, hc⟩ := hO.rd.at_ (k := S.size) (List.getElem?_eq_getElem (by rw [hO.1]; omega))
  injection hA with hA
  injection hA with hA1 hA2
  subst hA1 hA2
  rw [Nat.zero_add] at hc
  exact ⟨_, hc⟩
 have f0 : (W0.alloc (.cells Z 4)).frozen? ⟨W0.heap.size, S.size, none⟩ = false := by
  obtain ⟨_, _, cs, hB⟩ := own_row_blk hO.2 (k := W0.heap.size) rfl
  exact hB.frozen S.size
 have z0 : (W0.alloc (.cells Z 4)).cell? ⟨w.heap.size, 0, none⟩ = some (.int .i64 8) := (B0.alloc _).cell 0
 have hsz : W0.heap.size = w.heap.size + 1 := by rw [hW0]; simp
 rw [hsz] at HO HL c0 f0
 have hmi : (m : Int) ≤ 1000001 := by omega
 have hmp : (S.size : Int) < (m : Int) := by omega
 clear hm hC hR hx e1 hsee hZ hO hO2 hl2 hl0 B0 hW0s hb1 hsz
 go_enter Tryz.func106, Tryz.ntmps106
 go_upto_region 14 with fail
 rw [← hW0]
 clear hW0
 go_wp2_with fail
 go_ret
 exact ⟨_, HS.out, _, _, _, rfl, HO.out, HL.out⟩
set_option maxRecDepth 100000 in
set_option maxHeartbeats 4000000 in
theorem step_eps (S : ByteArray) (hS : S.size ≤ 1000000) : StepAt S .eps := by
 intro lo k a b c d A n cp An m c2 B w hC hR hm
 obtain ⟨rfl, rfl, rfl, rfl, rfl, rfl⟩ := leafO (kd := 0) (s := z4) hC
 obtain ⟨Z, hZ, hmk⟩ := made_bools m (by omega)
 obtain ⟨W0, hW0⟩ : ∃ W0, W0 = w.alloc (.cells #[.int .i64 0, .int .u64 (z4.1 : Int), .int .u64 (z4.2.1 : Int), .int .u64 (z4.2.2.1 : Int), .int .u64 (z4.2.2.2 : Int), .slice A 0 cp] 98) := ⟨_, rfl⟩
 have B0 : Blk W0 w.heap.size 98 #[.int .i64 0, .int .u64 (z4.1 : Int), .int .u64 (z4.2.1 : Int), .int .u64 (z4.2.2.1 : Int), .int .u64 (z4.2.2.2 : Int), .slice A 0 cp] := by rw [hW0]; exact Blk.new w _ _
 have hl0 : Later w W0 := by rw [hW0]; exact (Later.refl w).alloc _
 have hW0s : w.heap.size ≤ W0.heap.size := hl0.size
 have hsz : W0.heap.size = w.heap.size + 1 := by rw [hW0]; simp
 have hO := hZ W0 w.heap.size hW0s
 obtain ⟨x0, hx0⟩ : ∃ x, B[0]? = some x := ⟨_, List.getElem?_eq_getElem (by rw [hR.1]; omega)⟩
 obtain ⟨b1, o1, rfl, hadb, _⟩ := hR.at_ hx0
 have hcells : ∀ j v, (boL B)[j]? = some v → (W0.alloc (.cells Z 4)).cell? ((⟨b1, o1, none⟩ : Addr).add j) = some v := fun j v hv => by
  unfold boL at hv
  rw [List.getElem?_map] at hv
  obtain ⟨x, hx, rfl⟩ := Option.map_eq_some_iff.1 hv
  obtain ⟨b, o, hA, hb, hc⟩ := hR.at_ hx
  injection hA with hA
  injection hA with hA1 hA2
  subst hA1 hA2
  rw [Addr.add_lit, Later.cell (hl0.alloc _) hb]
  exact hc
 have hblk : Blk (W0.alloc (.cells Z 4)) W0.heap.size 4 Z := Blk.new _ _ _
 have hzs : Z.size = m := by
  rcases hO.2.2 with ⟨e1, _⟩ | ⟨g', cap, cur, hv, h1, h2, h3, h4, h5, h6⟩
  ·cases e1
  ·injection hv with hv hv2 hv3
   injection hv with hv
   injection hv with hv hv4
   subst hv hv3
   have : (some (Obj.cells Z 4 (0, 0)) : Option Obj) = some (.cells cur 4 (0, 0)) := hblk.symm.trans h2
   injection this with this
   injection this with this
   rw [this, h5, Nat.mul_one]
 have hbl : (boL B).length = m := by unfold boL; rw [List.length_map]; exact hR.1
 have hone : ∀ v ∈ boL B, v.oneCell' = true := fun v hv => by
  unfold boL at hv
  obtain ⟨x, _, rfl⟩ := List.mem_map.1 hv
  rfl
 have z0 : (W0.alloc (.cells Z 4)).cell? ⟨w.heap.size, 0, none⟩ = some (.int .i64 0) := (B0.alloc _).cell 0
 obtain ⟨Y, hY⟩ : ∃ Y, Y = boL B := ⟨_, rfl⟩
 rw [← hY] at hcells hbl hone
 have HY := Lib.hid hY
 have HM : Hid (B.length = m) := hR.1
 have HW : Hid (W0.heap.size = w.heap.size + 1) := hsz
 have HL : Hid (Later w (W0.alloc (.cells Z 4))) := hl0.alloc _
 rw [hsz] at hblk
 have HC := Lib.hid hcells
 have HB := Lib.hid hblk
 have HZ := Lib.hid hzs
 have HN := Lib.hid hbl
 have HO1 := Lib.hid hone
 have hmi : (m : Int) ≤ 1000001 := by omega
 clear hm hC hR hY hcells hblk hzs hbl hone hZ hO hl0 B0 hW0s hsz hadb hx0
 go_enter Tryz.func106, Tryz.ntmps106
 go_upto_region 4 with fail
 rw [← hW0]
 clear hW0
 go_wp2_with (refine wpList_copy_own (o := ⟨some 19, _, _, _, _, _⟩) rfl (.tmp 17) (.tmp 18) 172 172 rfl 4 (by kernel_rfl) (by kernel_rfl) (w.heap.size + 1) 0 m m ⟨b1, o1, none⟩ m c2 rfl rfl Z 4 HB.out Y (HN.out.trans (Nat.min_self m).symm) HC.out (by rw [HN.out, HZ.out]; omega) HO1.out ?_)
 go_ret
 have hq : (Y ++ List.drop Y.length Z.toList) = boL B := by
  rw [List.drop_eq_nil_of_le (by rw [HN.out, Array.length_toList, HZ.out]; exact Nat.le_refl _), List.append_nil]
  exact HY.out
 rw [hq]
 refine ⟨B, sees_eps, _, _, _, rfl, ⟨HM.out, by rw [← HY.out, HN.out, Nat.mul_one], .inr ⟨w.heap.size + 1, m, (boL B).toArray, rfl, by omega, setRow_heap _ _ _ _ _ _ HB.out, Nat.le_refl _, by unfold maxLen; omega, ?_, ?_⟩⟩, below_setRow HL.out (by omega) _⟩
 ·rw [List.size_toArray, ← HY.out, HN.out, Nat.mul_one]
 ·rw [← HY.out, List.take_of_length_le (by rw [HN.out, Nat.mul_one]; exact Nat.le_refl _)]
end Go.Proofs.YtmkddhkpeiajhaaGreatDoor
namespace Go.Proofs.YtmkddhkpeiajhaaGreatDoor
open Go.RowKit
set_option maxRecDepth 100000 in
set_option maxHeartbeats 4000000 in
theorem step_set (S : ByteArray) (hS : S.size ≤ 1000000) (s : W4) (hok : okW s) : StepAt S (.set s) := by
 intro lo k a b c d A n cp An m c2 B w hC hR hm
 obtain ⟨hz, hsz0⟩ := zero_set
 obtain ⟨rfl, rfl, rfl, rfl, rfl, rfl⟩ := leafO (kd := 1) (s := s) hC
 obtain ⟨Z, hZ, hmk⟩ := made_bools m (by omega)
 obtain ⟨W0, hW0⟩ : ∃ W0, W0 = w.alloc (.cells #[.int .i64 1, .int .u64 (s.1 : Int), .int .u64 (s.2.1 : Int), .int .u64 (s.2.2.1 : Int), .int .u64 (s.2.2.2 : Int), .slice A 0 cp] 98) := ⟨_, rfl⟩
 have B0 : Blk W0 w.heap.size 98 #[.int .i64 1, .int .u64 (s.1 : Int), .int .u64 (s.2.1 : Int), .int .u64 (s.2.2.1 : Int), .int .u64 (s.2.2.2 : Int), .slice A 0 cp] := by rw [hW0]; exact Blk.new w _ _
 have hl0 : Later w W0 := by rw [hW0]; exact (Later.refl w).alloc _
 have hsz : W0.heap.size = w.heap.size + 1 := by rw [hW0]; simp
 have hO := hZ W0 w.heap.size hl0.size
 rw [hsz] at hO
 obtain ⟨W1, hW1⟩ : ∃ W1, W1 = W0.alloc (.cells Z 4) := ⟨_, rfl⟩
 rw [← hW1] at hO
 have hl1 : Later w W1 := by rw [hW1]; exact hl0.alloc _
 have B1 : Blk W1 w.heap.size 98 #[.int .i64 1, .int .u64 (s.1 : Int), .int .u64 (s.2.1 : Int), .int .u64 (s.2.2.1 : Int), .int .u64 (s.2.2.2 : Int), .slice A 0 cp] := by rw [hW1]; exact B0.alloc _
 have hpl : ∀ wx, Calls Tryz.prog 120 #[.agg #[.int .u64 (s.1 : Int), .int .u64 (s.2.1 : Int), .int .u64 (s.2.2.1 : Int), .int .u64 (s.2.2.2 : Int)]] wx (fun e w' => e = .returned (.agg (boolC (memW s))) ∧ Later wx w') := fun wx => by
  have h := plain_any (memW s) wx
  have e := w4_mem hok
  unfold setV setC at h
  unfold w4 at e
  have e0 : word (memW s) 0 = s.1 := congrArg (fun t : W4 => t.1) e
  have e1 : word (memW s) 1 = s.2.1 := congrArg (fun t : W4 => t.2.1) e
  have e2 : word (memW s) 2 = s.2.2.1 := congrArg (fun t : W4 => t.2.2.1) e
  have e3 : word (memW s) 3 = s.2.2.2 := congrArg (fun t : W4 => t.2.2.2) e
  rw [e0, e1, e2, e3] at h
  exact h
 have z0 : W1.cell? ⟨w.heap.size, 0, none⟩ = some (.int .i64 1) := B1.cell 0
 obtain ⟨z1, z2, z3, z5⟩ : W1.cell? ⟨w.heap.size, 1, none⟩ = some (.int .u64 (s.1 : Int)) ∧ W1.cell? ⟨w.heap.size, 2, none⟩ = some (.int .u64 (s.2.1 : Int)) ∧ W1.cell? ⟨w.heap.size, 3, none⟩ = some (.int .u64 (s.2.2.1 : Int)) ∧ W1.cell? ⟨w.heap.size, 4, none⟩ = some (.int .u64 (s.2.2.2 : Int)) := ⟨B1.cell 1, B1.cell 2, B1.cell 3, B1.cell 4⟩
 have HPL := Lib.hid hpl
 have HO := Lib.hid hO
 have HL := Lib.hid hl1
 have HR := Lib.hid hR
 have HSZ : Hid (B.length = S.data.toList.length + 1) := by rw [hR.1]; exact hm
 have HM := Lib.hid hm
 have hmi : (m : Int) ≤ 1000001 := by omega
 clear hm hC hR hZ hO hl0 hl1 B0 B1 hsz hpl
 go_enter Tryz.func106, Tryz.ntmps106
 go_upto_region 6 with fail
 rw [← hW0, ← hW1]
 clear hW0 hW1 hmk
 go_wp2_with fail
 refine (HPL.out _).mono ?_
 rintro e w2 ⟨rfl, hl2⟩
 have R2 : Hid ((w2.alloc (.cells (boolC mNone) 181)).there w2.heap.size 0 (boolC mNone).size) := thereB (Blk.new w2 _ _)
 go_wp2_with (refine wpList_store_mid (P := Tryz.prog) rfl 181 (.tmp 8) (.tmp 24) rfl w2.heap.size 0 (boolC (memW s)) rfl rfl R2.out (sizeB' _) (oneB _) ?_)
 obtain ⟨wf, hwf⟩ : ∃ wf, wf = (w2.alloc (.cells (boolC mNone) 181)).setCells w2.heap.size 0 (boolC (memW s)).toList := ⟨_, rfl⟩
 have Bf : Blk wf w2.heap.size 181 (boolC (memW s)) := by rw [hwf]; exact Blk.setBools (Blk.new w2 _ _)
 have hlf : Later W1 wf := by rw [hwf]; exact hl2.trans (laterCells ((Later.refl w2).alloc _) _ _)
 rw [← hwf]
 have HOf : Hid (OwnO wf w.heap.size (some ⟨w.heap.size + 1, 0, none⟩) m m (List.replicate m false)) := HO.out.later hlf
 have HLf : Hid (Later w wf) := HL.out.trans hlf
 have HNE : Hid (w.heap.size + 1 < w2.heap.size) := by
  obtain ⟨_, _, cs, hB⟩ := own_row_blk HO.out.2 (k := w.heap.size + 1) rfl
  exact Nat.lt_of_lt_of_le hB.lt hl2.size
 clear hwf z0 z1 z2 z3 z5 hl2 R2 hlf
 go_loopw [9] (fun s9 wr => ∃ (j : Nat) (C : List Bool), j ≤ S.size ∧ s9 = .int .i64 (j : Int) ∧ OwnO wr w.heap.size (some ⟨w.heap.size + 1, 0, none⟩) m m C ∧ SetUpTo S.data.toList s B j C ∧ Blk wr w2.heap.size 181 (boolC (memW s)) ∧ Later w wr) (fun s9 _ => S.size - (intOf s9).toNat)
 case atStart => exact ⟨0, _, Nat.zero_le _, rfl, HOf.out, by rw [← HR.out.1]; exact setUp_zero _ _ _, Bf, HLf.out⟩
 case round =>
  obtain ⟨j, C, hj, rfl, hown, hset, hB8, hlr⟩ := hrel
  by_cases hlt : j < S.size
  ·have hlti : (j : Int) < (S.size : Int) := by omega
   have hj1 : (j : Int) + 1 < (m : Int) := by have := HM.out; omega
   have hjm : (j : Int) < (m : Int) := by omega
   obtain ⟨ch, hch⟩ : ∃ ch, S.data.toList[j]? = some ch := ⟨_, List.getElem?_eq_getElem (by rw [show S.data.toList.length = S.size from rfl]; exact hlt)⟩
   obtain ⟨hpi2, hce⟩ := str_get S j ch hch
   obtain ⟨x, hx⟩ : ∃ x, B[j]? = some x := ⟨_, List.getElem?_eq_getElem (by rw [HR.out.1]; have := HM.out; omega)⟩
   obtain ⟨b1, o1, rfl, hb1, e1⟩ := (HR.out.later hlr).at_ hx
   have hchl : ch.toNat < 256 := ch.toNat_lt
   have e8 : wr.cell? ⟨w2.heap.size, ch.toNat, none⟩ = some (.bool (memW s ch.toNat)) := by rw [hB8.cell, boolC_get _ hchl]
   have hha : hasAt S.data.toList s j = memW s ch.toNat := by
    unfold hasAt
    rw [hch]
    show w4has s ch.toNat = _
    have := w4has_w4 (memW s) hchl
    rw [w4_mem hok] at this
    exact this
   obtain ⟨y, hy⟩ : ∃ y, y = memW s ch.toNat := ⟨_, rfl⟩
   rw [← hy] at e8 hha
   have hj1m : j + 1 < m := by have := HM.out; omega
   obtain ⟨v0, c0⟩ : ∃ v, wr.cell? ⟨w.heap.size + 1, j + 1, none⟩ = some v := by
    obtain ⟨b, o, hA, _, hc⟩ := hown.rd.at_ (k := j + 1) (List.getElem?_eq_getElem (by rw [hown.1]; exact hj1m))
    injection hA with hA
    injection hA with hA1 hA2
    subst hA1 hA2
    rw [Nat.zero_add] at hc
    exact ⟨_, hc⟩
   have f0 : wr.frozen? ⟨w.heap.size + 1, j + 1, none⟩ = false := by
    obtain ⟨_, _, cs, hB⟩ := own_row_blk hown.2 (k := w.heap.size + 1) rfl
    exact hB.frozen _
   have HNX : Hid (∀ z, z = (x && y) → OwnO (wr.setCell ⟨w.heap.size + 1, j + 1, none⟩ (.bool z)) w.heap.size (some ⟨w.heap.size + 1, 0, none⟩) m m (C.set (j + 1) z) ∧ SetUpTo S.data.toList s B (j + 1) (C.set (j + 1) z) ∧ Blk (wr.setCell ⟨w.heap.size + 1, j + 1, none⟩ (.bool z)) w2.heap.size 181 (boolC (memW s)) ∧ Later w (wr.setCell ⟨w.heap.size + 1, j + 1, none⟩ (.bool z))) := fun z hz =>
    ⟨own_seto hown z hj1m, setUp_next hset hx hha hz (by rw [HR.out.1]; exact hj1m), hB8.far (p := ⟨w.heap.size + 1, j + 1, none⟩) (Nat.ne_of_gt HNE.out) _, Later.setCell hlr (Nat.le_succ _) _⟩
   clear hx hown hset hB8 hlr hha hy hch
   cases x with
   | true =>
    go_wp2_with fail
    go_roundw
    case rel => exact ⟨j + 1, _, by omega, by go_num, HNX.out _ rfl⟩
    case measure => simp [intOf]; omega
   | false =>
    go_wp2_with fail
    go_roundw
    case rel => exact ⟨j + 1, _, by omega, by go_num, HNX.out _ rfl⟩
    case measure => simp [intOf]; omega
  ·obtain rfl : S.size = j := by omega
   go_wp2_with fail
   go_ret
   exact ⟨C, sees_set HSZ.out hset, _, _, _, rfl, hown, hlr⟩
end Go.Proofs.YtmkddhkpeiajhaaGreatDoor
namespace Go.Proofs.YtmkddhkpeiajhaaGreatDoor
mutual
def shapedR : Tree → Bool
 | .node k s ks => decide (kidsOf k = (ks.length : Int)) && (decide (k = 1) || decide (s = z4)) && shapedRL ks
def shapedRL : List Tree → Bool
 | [] => true
 | t :: ts => shapedR t && shapedRL ts
end
mutual
def deepR : Tree → Nat → Bool
 | .node k _ ks, n => decide (n ≠ 0) && deepRL ks k n 0
def deepRL : List Tree → Int → Nat → Nat → Bool
 | [], _, _, _ => true
 | t :: ts, k, n, i => deepR t (if i = 1 ∧ (k = 2 ∨ k = 3) then n else n - 1) && deepRL ts k n (i + 1)
end
mutual
def setsR : Tree → Nat
 | .node _ _ ks => if ks.length = 0 then 1 else setsRL ks
def setsRL : List Tree → Nat
 | [] => 0
 | t :: ts => setsR t + setsRL ts
end
def rightR (t : Tree) : Bool := shapedR t && deepR t 40 && decide (setsR t ≤ 400)
theorem shapedR_thin : ∀ (fuel : Nat) (t : Tree), SizeOf.sizeOf t ≤ fuel → shapedR t = true → thinT t
 | 0, t, hf, _ => by cases t; simp at hf
 | fuel + 1, .node k s ks, hf, h => by
  unfold shapedR at h
  simp only [Bool.and_eq_true, decide_eq_true_eq] at h
  unfold thinT
  refine ⟨kids_two h.1.1, ?_⟩
  have hall : ∀ (l : List Tree), SizeOf.sizeOf l ≤ fuel → shapedRL l = true → thinL l := by
   intro l
   induction l with
   | nil => intro _ _; unfold thinL; trivial
   | cons t ts ih =>
    intro hl h
    unfold shapedRL at h
    rw [Bool.and_eq_true] at h
    unfold thinL
    simp at hl
    exact ⟨shapedR_thin fuel t (by omega) h.1, ih (by omega) h.2⟩
  exact hall ks (by simp at hf; omega) h.2
end Go.Proofs.YtmkddhkpeiajhaaGreatDoor
namespace Go.Proofs.YtmkddhkpeiajhaaGreatDoor
end Go.Proofs.YtmkddhkpeiajhaaGreatDoor
namespace Go.Proofs.YtmkddhkpeiajhaaGreatDoor
def Sub (s : List UInt8) (p : Nat) (T : List UInt8) : Prop := ∀ k, k < T.length → s[p + k]? = T[k]?
section
variable {s : List UInt8} {p : Nat}
theorem Sub.app {A B : List UInt8} (h : Sub s p (A ++ B)) : Sub s p A ∧ Sub s (p + A.length) B :=
 ⟨fun k hk => by rw [h k (by rw [List.length_append]; omega), List.getElem?_append_left hk], fun k hk => by
  rw [Nat.add_assoc, h _ (by rw [List.length_append]; omega), List.getElem?_append_right (by omega), show A.length + k - A.length = k by omega]⟩
theorem Sub.cons {c : UInt8} {T : List UInt8} (h : Sub s p (c :: T)) : s[p]? = some c ∧ Sub s (p + 1) T :=
 ⟨h 0 (by simp), fun k hk => by rw [show p + 1 + k = p + (k + 1) by omega, h (k + 1) (by simp; omega)]; rfl⟩
end
end Go.Proofs.YtmkddhkpeiajhaaGreatDoor
namespace Go.Proofs.YtmkddhkpeiajhaaGreatDoor
def dpR : Rx → Nat
 | .eps => 1
 | .set _ => 1
 | .cat a b => max (dpR a + 1) (dpR b)
 | .alt a b => max (dpR a + 1) (dpR b)
 | .star a => dpR a + 1
 | .plus a => dpR a + 1
 | .opt a => dpR a + 1
 | .first => 1
 | .last => 1
def lvR : Rx → Nat
 | .eps => 1
 | .set _ => 1
 | .cat a b => lvR a + lvR b
 | .alt a b => lvR a + lvR b
 | .star a => lvR a
 | .plus a => lvR a
 | .opt a => lvR a
 | .first => 1
 | .last => 1
def okR : Rx → Prop
 | .eps => True
 | .set s => okW s
 | .cat a b => okR a ∧ okR b
 | .alt a b => okR a ∧ okR b
 | .star a => okR a
 | .plus a => okR a
 | .opt a => okR a
 | .first => True
 | .last => True
def fitR (r : Rx) : Prop := dpR r ≤ 40 ∧ lvR r ≤ 400
theorem shaped_two {k : Int} {a b : Tree} {d : Int} {n : Nat} (h : shapedT (.node k z4 [a, b]) d = some n) : ∃ x y, shapedT a (d - 1) = some x ∧ shapedT b d = some y ∧ x + y = n ∧ n ≤ 400 := by
 rw [shapedT] at h
 split at h
 ·cases h
 ·simp only [List.length_cons, List.length_nil] at h
  rw [if_neg (by omega), shapedL] at h
  cases hx : shapedT a (d - 1 + ((0 : Nat) : Int)) with
  | none => rw [hx] at h; cases h
  | some x =>
   rw [hx] at h
   simp only at h
   split at h
   ·cases h
   ·rw [shapedL] at h
    cases hy : shapedT b (d - 1 + ((0 + 1 : Nat) : Int)) with
    | none => rw [hy] at h; cases h
    | some y =>
     rw [hy] at h
     simp only at h
     split at h
     ·cases h
     ·rw [shapedL] at h
      injection h with h
      refine ⟨x, y, ?_, ?_, by omega, by omega⟩
      ·rw [← hx]; congr 1; omega
      ·rw [← hy]; congr 1; omega
theorem shaped_one {k : Int} {a : Tree} {d : Int} {n : Nat} (h : shapedT (.node k z4 [a]) d = some n) : shapedT a (d - 1) = some n ∧ n ≤ 400 := by
 rw [shapedT] at h
 split at h
 ·cases h
 ·simp only [List.length_cons, List.length_nil] at h
  rw [if_neg (by omega), shapedL] at h
  cases hx : shapedT a (d - 1 + ((0 : Nat) : Int)) with
  | none => rw [hx] at h; cases h
  | some x =>
   rw [hx] at h
   simp only at h
   split at h
   ·cases h
   ·rw [shapedL] at h
    injection h with h
    refine ⟨?_, by omega⟩
    rw [show d - 1 + ((0 : Nat) : Int) = d - 1 by omega] at hx
    rw [hx]; congr 1; omega
theorem shaped_zero {k : Int} {s : W4} {d : Int} {n : Nat} (h : shapedT (.node k s []) d = some n) : 1 ≤ d ∧ n = 1 := by
 rw [shapedT] at h
 split at h
 ·cases h
 ·rename_i hc
  simp only [List.length_nil, if_true] at h
  rw [shapedL] at h
  injection h with h
  exact ⟨by omega, by omega⟩
theorem fit_of_shaped : ∀ (r : Rx) (d : Int) (n : Nat), shapedT (rxT r) d = some n → (dpR r : Int) ≤ d ∧ lvR r = n ∧ n ≤ 400
 | .eps, d, n, h => by have := shaped_zero h; unfold dpR lvR; omega
 | .set s, d, n, h => by have := shaped_zero h; unfold dpR lvR; omega
 | .first, d, n, h => by have := shaped_zero h; unfold dpR lvR; omega
 | .last, d, n, h => by have := shaped_zero h; unfold dpR lvR; omega
 | .cat a b, d, n, h => by
  obtain ⟨x, y, h1, h2, h3, h4⟩ := shaped_two h
  have := fit_of_shaped a _ _ h1
  have := fit_of_shaped b _ _ h2
  unfold dpR lvR
  omega
 | .alt a b, d, n, h => by
  obtain ⟨x, y, h1, h2, h3, h4⟩ := shaped_two h
  have := fit_of_shaped a _ _ h1
  have := fit_of_shaped b _ _ h2
  unfold dpR lvR
  omega
 | .star a, d, n, h => by
  obtain ⟨h1, h2⟩ := shaped_one h
  have := fit_of_shaped a _ _ h1
  unfold dpR lvR
  omega
 | .plus a, d, n, h => by
  obtain ⟨h1, h2⟩ := shaped_one h
  have := fit_of_shaped a _ _ h1
  unfold dpR lvR
  omega
 | .opt a, d, n, h => by
  obtain ⟨h1, h2⟩ := shaped_one h
  have := fit_of_shaped a _ _ h1
  unfold dpR lvR
  omega
theorem fit_of_right {r : Rx} (h : rightT (rxT r) = true) : fitR r := by
 unfold rightT at h
 obtain ⟨n, hn⟩ := Option.isSome_iff_exists.1 h
 have := fit_of_shaped r 40 n hn
 unfold fitR
 omega
section
variable (s : List UInt8)
end
section
variable {s : List UInt8}
end
end Go.Proofs.YtmkddhkpeiajhaaGreatDoor
namespace Go.Proofs.YtmkddhkpeiajhaaGreatDoor
open Go.RowKit
theorem step_any (S : ByteArray) (hS : S.size ≤ 1000000) : ∀ r : Rx, okR r → StepAt S r
 | .eps, _ => step_eps S hS
 | .set s, h => step_set S hS s h
 | .first, _ => step_first S hS
 | .last, _ => step_last S hS
 | .cat a b, h => step_cat S hS a b (step_any S hS a h.1) (step_any S hS b h.2)
 | .alt a b, h => step_alt S hS a b (step_any S hS a h.1) (step_any S hS b h.2)
 | .opt a, h => step_opt S hS a (step_any S hS a h)
 | .star a, h => step_star S hS a (star_walk S hS a (step_any S hS a h))
 | .plus a, h => step_plus S hS a (step_any S hS a h) (star_walk S hS a (step_any S hS a h))
end Go.Proofs.YtmkddhkpeiajhaaGreatDoor
namespace Go.Proofs.YtmkddhkpeiajhaaGreatDoor
def downF (C : List Bool) : Nat → Nat × Bool
 | 0 => (0, false)
 | j + 1 => if C[j]? = some true then (j, true) else downF C j
theorem downF_on {C : List Bool} {j : Nat} (h : C[j]? = some true) : downF C (j + 1) = (j, true) := by rw [downF, if_pos h]
theorem downF_off {C : List Bool} {j : Nat} (h : C[j]? = some false) : downF C (j + 1) = downF C j := by rw [downF, if_neg (by rw [h]; simp)]
theorem down_yes {C : List Bool} {b : Nat} (hb : C[b]? = some true) (hmax : ∀ j : Nat, C[j]? = some true → j ≤ b) : ∀ n, b < n → downF C n = (b, true)
 | 0, h => absurd h (Nat.not_lt_zero _)
 | n + 1, h => by
  by_cases hn : b = n
  ·subst hn; exact downF_on hb
  ·have h1 : ¬ C[n]? = some true := fun e => by have := hmax n e; omega
   rw [downF, if_neg h1]
   exact down_yes hb hmax n (by omega)
theorem down_no {C : List Bool} (h : ∀ j : Nat, ¬ C[j]? = some true) : ∀ n, downF C n = (0, false)
 | 0 => rfl
 | n + 1 => by rw [downF, if_neg (h n)]; exact down_no h n
theorem sees_from {x : List UInt8} {r : Rx} {C : List Bool} {i n : Nat} (h : Sees x r ((List.replicate n false).set i true) C) (hi : i < n) (j : Nat) : On C j ↔ Mt x r i j := by
 have hon : ∀ q, On ((List.replicate n false).set i true) q ↔ q = i := fun q => by
  unfold On
  rw [List.getElem?_set]
  by_cases hq : i = q
  ·subst hq; rw [if_pos rfl, if_pos (by rw [List.length_replicate]; exact hi)]; simp
  ·rw [if_neg hq, List.getElem?_replicate]
   constructor
   ·intro h1; split at h1
    ·cases h1
    ·cases h1
   ·intro h1; exact absurd h1.symm hq
 rw [h.2 j]
 exact ⟨fun ⟨q, h1, h2⟩ => by rw [(hon q).1 h1] at h2; exact h2, fun h1 => ⟨i, (hon i).2 rfl, h1⟩⟩
theorem at_law {x : List UInt8} {r : Rx} {C : List Bool} {i : Nat} (h : Sees x r ((List.replicate (x.length + 1) false).set i true) C) (hi : i ≤ x.length) :
  (downF C (x.length + 1) = (0, false) ∧ ∀ j, ¬ Mt x r i j) ∨ ∃ b, downF C (x.length + 1) = (b, true) ∧ Mt x r i b ∧ b ≤ x.length ∧ ∀ j, Mt x r i j → j ≤ b := by
 have hs := sees_from h (by omega)
 have hlen : C.length = x.length + 1 := by rw [h.1]; simp
 by_cases hex : ∃ j, Mt x r i j
 ·right
  have hbd : ∀ j, Mt x r i j → j ≤ x.length := fun j hj => by
   have := On.lt ((hs j).2 hj)
   omega
  have : ∀ d b, Mt x r i b → x.length ≤ b + d → ∃ c, Mt x r i c ∧ ∀ j, Mt x r i j → j ≤ c := by
   intro d
   induction d with
   | zero => intro b hb hd; exact ⟨b, hb, fun j hj => by have := hbd j hj; omega⟩
   | succ d ih =>
    intro b hb hd
    by_cases hm : ∃ j, Mt x r i j ∧ b < j
    ·obtain ⟨j, hj, hbj⟩ := hm
     exact ih j hj (by omega)
    ·exact ⟨b, hb, fun j hj => by
      rcases Nat.lt_or_ge b j with h1 | h1
      ·exact absurd ⟨j, hj, h1⟩ hm
      ·exact h1⟩
  obtain ⟨j0, hj0⟩ := hex
  obtain ⟨b, hb, hmax⟩ := this x.length j0 hj0 (by omega)
  exact ⟨b, down_yes ((hs b).2 hb) (fun j hj => hmax j ((hs j).1 hj)) _ (by have := hbd b hb; omega), hb, hbd b hb, hmax⟩
 ·left
  have hno : ∀ j, ¬ Mt x r i j := fun j hj => hex ⟨j, hj⟩
  exact ⟨down_no (fun j hj => hno j ((hs j).1 hj)) _, hno⟩
theorem best_first {x : List UInt8} {r : Rx} {lo a b : Nat} {R : Option (Nat × Nat)} (hR : Best (Mt x r) lo x.length R) (hlo : lo ≤ a) (ha : a ≤ x.length) (hm : Mt x r a b) (hmax : ∀ j, Mt x r a j → j ≤ b) (hno : ∀ i, lo ≤ i → i < a → ∀ j, ¬ Mt x r i j) : R = some (a, b) := by
 cases R with
 | none => exact absurd hm (hR a b hlo ha)
 | some g =>
  obtain ⟨h1, h2, h3, h4, h5⟩ := hR
  obtain ⟨p, q⟩ := g
  simp only at h1 h2 h3 h4 h5
  have hle := h4 a b hlo ha hm
  have hge : a ≤ p := by
   rcases Nat.lt_or_ge p a with h | h
   ·exact absurd h3 (hno p h1 h q)
   ·exact h
  obtain rfl : p = a := by omega
  have e1 := hmax q h3
  have e2 := h5 b hm
  obtain rfl : q = b := by omega
  rfl
theorem best_none {x : List UInt8} {r : Rx} {lo : Nat} {R : Option (Nat × Nat)} (hR : Best (Mt x r) lo x.length R) (hno : ∀ i, lo ≤ i → i ≤ x.length → ∀ j, ¬ Mt x r i j) : R = none := by
 cases R with
 | none => rfl
 | some g => exact absurd hR.2.2.1 (hno g.1 hR.1 hR.2.1 g.2)
end Go.Proofs.YtmkddhkpeiajhaaGreatDoor
