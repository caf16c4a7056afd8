import Derived.Test.YtmkddhkpeiajhaaGreatDoorLater
import Derived.Deep.CutBlock
import Derived.Deep.DeepCutAuto
import Derived.Deep.RegionHeldLaw
namespace Go.Proofs.YtmkddhkpeiajhaaGreatDoor
open Go.RowKit
theorem span_int (x y : Int) (h0 : 0 ≤ x) (h1 : x < 256) (h2 : 0 ≤ y) (h3 : y < 256) (w : World) :
  Calls Tryz.prog 150 #[.int .u8 x, .int .u8 y] w fun e w' => e = .returned (.agg #[.int .u64 (word (mSpan x.toNat y.toNat) 0 : Nat), .int .u64 (word (mSpan x.toNat y.toNat) 1 : Nat), .int .u64 (word (mSpan x.toNat y.toNat) 2 : Nat), .int .u64 (word (mSpan x.toNat y.toNat) 3 : Nat)]) ∧ Later w w' := by
 have h := span_any x.toNat y.toNat (by omega) (by omega) w
 rw [Int.toNat_of_nonneg h0, Int.toNat_of_nonneg h2] at h
 exact h
theorem or_at (p q : Mem) (w : World) :
  Calls Tryz.prog 140 #[.agg #[.int .u64 (word p 0 : Nat), .int .u64 (word p 1 : Nat), .int .u64 (word p 2 : Nat), .int .u64 (word p 3 : Nat)], .agg #[.int .u64 (word q 0 : Nat), .int .u64 (word q 1 : Nat), .int .u64 (word q 2 : Nat), .int .u64 (word q 3 : Nat)]] w fun e w' => e = .returned (.agg #[.int .u64 (word (mOr p q) 0 : Nat), .int .u64 (word (mOr p q) 1 : Nat), .int .u64 (word (mOr p q) 2 : Nat), .int .u64 (word (mOr p q) 3 : Nat)]) ∧ Later w w' := or_any p q w
theorem of_at (A : Option Addr) (n c : Nat) (l : List UInt8) (w : World) (hr : RdB w w.heap.size A n l) (hn : n ≤ 9223372036854775807) :
  Calls Tryz.prog 129 #[.slice A n c] w fun e w' => e = .returned (.agg #[.int .u64 (word (mOf l) 0 : Nat), .int .u64 (word (mOf l) 1 : Nat), .int .u64 (word (mOf l) 2 : Nat), .int .u64 (word (mOf l) 3 : Nat)]) ∧ Later w w' := of_any A n c l w hr hn
def NmAt (w0 : World) (s4 s5 s6 : Value) (wx : World) : Prop :=
 ∃ g4 g5 g6, s4 = .pointer (some ⟨g4, 0, none⟩) ∧ s5 = .pointer (some ⟨g5, 0, none⟩) ∧ s6 = .pointer (some ⟨g6, 0, none⟩) ∧
  Blk wx w0.heap.size 95 #[.int .u64 0, .int .u64 0, .int .u64 0, .int .u64 0] ∧ Blk wx g4 95 (setC (mSpan 65 90)) ∧ Blk wx g5 95 (setC (mSpan 97 122)) ∧ Blk wx g6 95 (setC (mSpan 48 57)) ∧
  w0.heap.size < g4 ∧ w0.heap.size < g5 ∧ w0.heap.size < g6 ∧ Later w0 wx
def NmAt7 (w0 wa : World) (s7 : Value) (wx : World) : Prop :=
 ∃ g7, s7 = .pointer (some ⟨g7, 0, none⟩) ∧ Blk wx g7 95 (setC (mOr (mOr (mOr (mSpan 33 47) (mSpan 58 64)) (mSpan 91 96)) (mSpan 123 126))) ∧ w0.heap.size < g7 ∧ Later wa wx
def namedV (o : Option Mem) : Value := .tuple #[setV (o.getD mNone), .bool o.isSome]
def Nm (g2 g4 g5 g6 g7 : Nat) (wx : World) : Prop :=
 Blk wx g2 95 #[.int .u64 0, .int .u64 0, .int .u64 0, .int .u64 0] ∧ Blk wx g4 95 (setC (mSpan 65 90)) ∧ Blk wx g5 95 (setC (mSpan 97 122)) ∧ Blk wx g6 95 (setC (mSpan 48 57)) ∧ Blk wx g7 95 (setC (mOr (mOr (mOr (mSpan 33 47) (mSpan 58 64)) (mSpan 91 96)) (mSpan 123 126)))
theorem Nm.later {g2 g4 g5 g6 g7 : Nat} {w w' : World} (h : Nm g2 g4 g5 g6 g7 w) (hl : Later w w') : Nm g2 g4 g5 g6 g7 w' :=
 ⟨h.1.below hl h.1.lt, h.2.1.below hl h.2.1.lt, h.2.2.1.below hl h.2.2.1.lt, h.2.2.2.1.below hl h.2.2.2.1.lt, h.2.2.2.2.below hl h.2.2.2.2.lt⟩
theorem Nm.cells {g2 g4 g5 g6 g7 : Nat} {wx : World} (h : Nm g2 g4 g5 g6 g7 wx) : wx.cell? ⟨g2, 0, none⟩ = some (.int .u64 0) ∧ wx.cell? ⟨g2, 1, none⟩ = some (.int .u64 0) ∧ wx.cell? ⟨g2, 2, none⟩ = some (.int .u64 0) ∧ wx.cell? ⟨g2, 3, none⟩ = some (.int .u64 0) ∧ wx.cell? ⟨g4, 0, none⟩ = some (.int .u64 (word (mSpan 65 90) 0 : Nat)) ∧ wx.cell? ⟨g4, 1, none⟩ = some (.int .u64 (word (mSpan 65 90) 1 : Nat)) ∧ wx.cell? ⟨g4, 2, none⟩ = some (.int .u64 (word (mSpan 65 90) 2 : Nat)) ∧ wx.cell? ⟨g4, 3, none⟩ = some (.int .u64 (word (mSpan 65 90) 3 : Nat)) ∧ wx.cell? ⟨g5, 0, none⟩ = some (.int .u64 (word (mSpan 97 122) 0 : Nat)) ∧ wx.cell? ⟨g5, 1, none⟩ = some (.int .u64 (word (mSpan 97 122) 1 : Nat)) ∧ wx.cell? ⟨g5, 2, none⟩ = some (.int .u64 (word (mSpan 97 122) 2 : Nat)) ∧ wx.cell? ⟨g5, 3, none⟩ = some (.int .u64 (word (mSpan 97 122) 3 : Nat)) ∧ wx.cell? ⟨g6, 0, none⟩ = some (.int .u64 (word (mSpan 48 57) 0 : Nat)) ∧ wx.cell? ⟨g6, 1, none⟩ = some (.int .u64 (word (mSpan 48 57) 1 : Nat)) ∧ wx.cell? ⟨g6, 2, none⟩ = some (.int .u64 (word (mSpan 48 57) 2 : Nat)) ∧ wx.cell? ⟨g6, 3, none⟩ = some (.int .u64 (word (mSpan 48 57) 3 : Nat)) ∧ wx.cell? ⟨g7, 0, none⟩ = some (.int .u64 (word (mOr (mOr (mOr (mSpan 33 47) (mSpan 58 64)) (mSpan 91 96)) (mSpan 123 126)) 0 : Nat)) ∧ wx.cell? ⟨g7, 1, none⟩ = some (.int .u64 (word (mOr (mOr (mOr (mSpan 33 47) (mSpan 58 64)) (mSpan 91 96)) (mSpan 123 126)) 1 : Nat)) ∧ wx.cell? ⟨g7, 2, none⟩ = some (.int .u64 (word (mOr (mOr (mOr (mSpan 33 47) (mSpan 58 64)) (mSpan 91 96)) (mSpan 123 126)) 2 : Nat)) ∧ wx.cell? ⟨g7, 3, none⟩ = some (.int .u64 (word (mOr (mOr (mOr (mSpan 33 47) (mSpan 58 64)) (mSpan 91 96)) (mSpan 123 126)) 3 : Nat)) ∧ wx.frozen? ⟨g2, 0, none⟩ = false ∧ wx.frozen? ⟨g2, 1, none⟩ = false ∧ wx.frozen? ⟨g2, 2, none⟩ = false ∧ wx.frozen? ⟨g2, 3, none⟩ = false := by
 obtain ⟨h2, h4, h5, h6, h7⟩ := h
 exact ⟨h2.cell 0, h2.cell 1, h2.cell 2, h2.cell 3, h4.cell 0, h4.cell 1, h4.cell 2, h4.cell 3, h5.cell 0, h5.cell 1, h5.cell 2, h5.cell 3, h6.cell 0, h6.cell 1, h6.cell 2, h6.cell 3, h7.cell 0, h7.cell 1, h7.cell 2, h7.cell 3, h2.frozen 0, h2.frozen 1, h2.frozen 2, h2.frozen 3⟩
theorem RdB.lit {w : World} {xs : Array Value} {l : List UInt8} {n B : Nat} (hB : B = w.heap.size + 1) (hn : n = l.length) (hx : (bv l).toArray = xs) : RdB (w.alloc (.cells xs 5)) B (some ⟨w.heap.size, 0, none⟩) n l := by
 subst hB hx hn
 refine ⟨by rw [bv_length]; omega, fun _ => ⟨_, rfl, by simp, fun j u hu => ?_⟩⟩
 rw [Addr.add_lit, Nat.zero_add, (Blk.new w _ _).cell, List.getElem?_toArray]
 exact hu
set_option maxHeartbeats 8000000 in
theorem named_any (s : ByteArray) (w : World) (_hs : s.size ≤ 140737488355328) :
  Calls Tryz.prog 152 #[.string s] w fun e w' => e = .returned (namedV (classOf s.data.toList)) ∧ Later w w' := by
 go_enter Tryz.func152, Tryz.ntmps152
 go_upto_region 1 with fail
 go_cut [4, 5, 6] (fun s4 s5 s6 wx => NmAt w s4 s5 s6 wx)
 case first =>
  go_wp2_with (first | ((with_reducible refine (span_int _ _ (by decide) (by decide) (by decide) (by decide) _).mono ?_); rintro e w1 ⟨rfl, hl1⟩))
  have hA : Later (w.alloc (.cells #[.int .u64 0, .int .u64 0, .int .u64 0, .int .u64 0] 95)) w1 := (by repeat (first | exact Later.refl _ | assumption | apply Later.alloc | (refine Later.trans ?_ (by assumption))))
  have hsz : w.heap.size + 1 ≤ w1.heap.size := by have := hA.size; simpa using this
  go_meet
  exact ⟨_, _, _, rfl, rfl, rfl, (((Blk.below (Blk.new w _ _) hA (by simp)).alloc _).alloc _).alloc _, ((Blk.new w1 _ _).alloc _).alloc _, (blk_at (by simp)).alloc _, blk_at (by simp), by omega, by omega, by omega, ((((Later.refl w).alloc _).trans hA).alloc _).alloc _ |>.alloc _⟩
 case rest =>
  obtain ⟨g4, g5, g6, rfl, rfl, rfl, h2, h4, h5, h6, l4, l5, l6, hl⟩ := hcut
  go_upto_region 2 with fail
  go_cut [7] (fun s7 wx => NmAt7 w wc s7 wx)
  case first =>
   go_wp2_with (first | ((with_reducible refine (span_int _ _ (by decide) (by decide) (by decide) (by decide) _).mono ?_); rintro e w1 ⟨rfl, hl1⟩) | ((with_reducible refine (or_at _ _ _).mono ?_); rintro e w1 ⟨rfl, hl1⟩))
   have hA : Later wc w1 := (by repeat (first | exact Later.refl _ | assumption | apply Later.alloc | (refine Later.trans ?_ (by assumption))))
   have hsz := hl.size
   have hsz2 := hA.size
   have hsz3 := h4.lt
   go_meet
   exact ⟨_, rfl, blk_at rfl, by omega, hA.alloc _⟩
  case rest =>
   obtain ⟨g7, rfl, h7, l7, hl7⟩ := hcut
   have hN : Nm w.heap.size g4 g5 g6 g7 wc := ⟨h2.below hl7 h2.lt, h4.below hl7 h4.lt, h5.below hl7 h5.lt, h6.below hl7 h6.lt, h7⟩
   have hl := hl.trans hl7
   have hgb : w.heap.size ≤ w.heap.size := Nat.le_refl _
   clear h2 h4 h5 h6 h7 hl7
   obtain ⟨e0, e1, e2, e3, a0, a1, a2, a3, b0, b1, b2, b3, c0, c1, c2, c3, d0, d1, d2, d3, f0, f1, f2, f3⟩ := hN.cells
   by_cases t0 : s.data.toList = [97, 108, 112, 104, 97]
   ·have hC : classOf s.data.toList = some (mOr (mSpan 65 90) (mSpan 97 122)) := by rw [t0]; rfl
    have HC := Lib.hid hC
    have q0 : (s.toList == [97, 108, 112, 104, 97]) = true := by rw [ByteArray.toList_eq, t0]; rfl
    clear hC t0
    go_wp2_with (first
     | ((with_reducible refine (span_int _ _ (by decide) (by decide) (by decide) (by decide) _).mono ?_); rintro e w1 ⟨rfl, hl1⟩; have hN := hN.later (w' := w1) (by repeat (first | exact Later.refl _ | (with_reducible assumption) | apply Later.alloc | apply Later.drew | (refine Later.trans ?_ (by with_reducible assumption)))); obtain ⟨e0, e1, e2, e3, a0, a1, a2, a3, b0, b1, b2, b3, c0, c1, c2, c3, d0, d1, d2, d3, f0, f1, f2, f3⟩ := hN.cells)
     | ((with_reducible refine (or_at _ _ _).mono ?_); rintro e w1 ⟨rfl, hl1⟩; have hN := hN.later (w' := w1) (by repeat (first | exact Later.refl _ | (with_reducible assumption) | apply Later.alloc | apply Later.drew | (refine Later.trans ?_ (by with_reducible assumption)))); obtain ⟨e0, e1, e2, e3, a0, a1, a2, a3, b0, b1, b2, b3, c0, c1, c2, c3, d0, d1, d2, d3, f0, f1, f2, f3⟩ := hN.cells)
     | ((refine (of_at _ _ _ ([0] : List UInt8) _ (RdB.lit (by simp) (by rfl) (by rfl)) (by omega)).mono ?_); rintro e w1 ⟨rfl, hl1⟩; have hN := hN.later (w' := w1) (by repeat (first | exact Later.refl _ | (with_reducible assumption) | apply Later.alloc | apply Later.drew | (refine Later.trans ?_ (by with_reducible assumption)))); obtain ⟨e0, e1, e2, e3, a0, a1, a2, a3, b0, b1, b2, b3, c0, c1, c2, c3, d0, d1, d2, d3, f0, f1, f2, f3⟩ := hN.cells))
    exact bodyPost_ret (v := .tuple #[.agg #[.int .u64 (word (mOr (mSpan 65 90) (mSpan 97 122)) 0 : Nat), .int .u64 (word (mOr (mSpan 65 90) (mSpan 97 122)) 1 : Nat), .int .u64 (word (mOr (mSpan 65 90) (mSpan 97 122)) 2 : Nat), .int .u64 (word (mOr (mSpan 65 90) (mSpan 97 122)) 3 : Nat)], .bool true]) (by simp [results, Tryz.results152, go_sem, e0, e1, e2, e3]) rfl ⟨(by rw [HC.out]; rfl), (by repeat (first | exact hl | (with_reducible assumption) | apply Later.alloc | apply Later.drew | apply Later.drewN | (refine Later.setCell ?_ hgb _) | (refine Later.trans ?_ (by with_reducible assumption))))⟩
   have q0 : (s.toList == [97, 108, 112, 104, 97]) = false := by rw [ByteArray.toList_eq]; exact beq_eq_false_iff_ne.2 t0
   by_cases t1 : s.data.toList = [100, 105, 103, 105, 116]
   ·have hC : classOf s.data.toList = some (mSpan 48 57) := by rw [t1]; rfl
    have HC := Lib.hid hC
    have q1 : (s.toList == [100, 105, 103, 105, 116]) = true := by rw [ByteArray.toList_eq, t1]; rfl
    clear hC t1
    go_wp2_with (first
     | ((with_reducible refine (span_int _ _ (by decide) (by decide) (by decide) (by decide) _).mono ?_); rintro e w1 ⟨rfl, hl1⟩; have hN := hN.later (w' := w1) (by repeat (first | exact Later.refl _ | (with_reducible assumption) | apply Later.alloc | apply Later.drew | (refine Later.trans ?_ (by with_reducible assumption)))); obtain ⟨e0, e1, e2, e3, a0, a1, a2, a3, b0, b1, b2, b3, c0, c1, c2, c3, d0, d1, d2, d3, f0, f1, f2, f3⟩ := hN.cells)
     | ((with_reducible refine (or_at _ _ _).mono ?_); rintro e w1 ⟨rfl, hl1⟩; have hN := hN.later (w' := w1) (by repeat (first | exact Later.refl _ | (with_reducible assumption) | apply Later.alloc | apply Later.drew | (refine Later.trans ?_ (by with_reducible assumption)))); obtain ⟨e0, e1, e2, e3, a0, a1, a2, a3, b0, b1, b2, b3, c0, c1, c2, c3, d0, d1, d2, d3, f0, f1, f2, f3⟩ := hN.cells)
     | ((refine (of_at _ _ _ ([0] : List UInt8) _ (RdB.lit (by simp) (by rfl) (by rfl)) (by omega)).mono ?_); rintro e w1 ⟨rfl, hl1⟩; have hN := hN.later (w' := w1) (by repeat (first | exact Later.refl _ | (with_reducible assumption) | apply Later.alloc | apply Later.drew | (refine Later.trans ?_ (by with_reducible assumption)))); obtain ⟨e0, e1, e2, e3, a0, a1, a2, a3, b0, b1, b2, b3, c0, c1, c2, c3, d0, d1, d2, d3, f0, f1, f2, f3⟩ := hN.cells))
    exact bodyPost_ret (v := .tuple #[.agg #[.int .u64 (word (mSpan 48 57) 0 : Nat), .int .u64 (word (mSpan 48 57) 1 : Nat), .int .u64 (word (mSpan 48 57) 2 : Nat), .int .u64 (word (mSpan 48 57) 3 : Nat)], .bool true]) (by simp [results, Tryz.results152, go_sem, e0, e1, e2, e3]) rfl ⟨(by rw [HC.out]; rfl), (by repeat (first | exact hl | (with_reducible assumption) | apply Later.alloc | apply Later.drew | apply Later.drewN | (refine Later.setCell ?_ hgb _) | (refine Later.trans ?_ (by with_reducible assumption))))⟩
   have q1 : (s.toList == [100, 105, 103, 105, 116]) = false := by rw [ByteArray.toList_eq]; exact beq_eq_false_iff_ne.2 t1
   by_cases t2 : s.data.toList = [97, 108, 110, 117, 109]
   ·have hC : classOf s.data.toList = some (mOr (mOr (mSpan 65 90) (mSpan 97 122)) (mSpan 48 57)) := by rw [t2]; rfl
    have HC := Lib.hid hC
    have q2 : (s.toList == [97, 108, 110, 117, 109]) = true := by rw [ByteArray.toList_eq, t2]; rfl
    clear hC t2
    go_wp2_with fail
    go_region_with (first
     | ((with_reducible refine (span_int _ _ (by decide) (by decide) (by decide) (by decide) _).mono ?_); rintro e w1 ⟨rfl, hl1⟩; have hN := hN.later (w' := w1) (by repeat (first | exact Later.refl _ | (with_reducible assumption) | apply Later.alloc | apply Later.drew | (refine Later.trans ?_ (by with_reducible assumption)))); obtain ⟨e0, e1, e2, e3, a0, a1, a2, a3, b0, b1, b2, b3, c0, c1, c2, c3, d0, d1, d2, d3, f0, f1, f2, f3⟩ := hN.cells)
     | ((with_reducible refine (or_at _ _ _).mono ?_); rintro e w1 ⟨rfl, hl1⟩; have hN := hN.later (w' := w1) (by repeat (first | exact Later.refl _ | (with_reducible assumption) | apply Later.alloc | apply Later.drew | (refine Later.trans ?_ (by with_reducible assumption)))); obtain ⟨e0, e1, e2, e3, a0, a1, a2, a3, b0, b1, b2, b3, c0, c1, c2, c3, d0, d1, d2, d3, f0, f1, f2, f3⟩ := hN.cells)
     | ((refine (of_at _ _ _ ([0] : List UInt8) _ (RdB.lit (by simp) (by rfl) (by rfl)) (by omega)).mono ?_); rintro e w1 ⟨rfl, hl1⟩; have hN := hN.later (w' := w1) (by repeat (first | exact Later.refl _ | (with_reducible assumption) | apply Later.alloc | apply Later.drew | (refine Later.trans ?_ (by with_reducible assumption)))); obtain ⟨e0, e1, e2, e3, a0, a1, a2, a3, b0, b1, b2, b3, c0, c1, c2, c3, d0, d1, d2, d3, f0, f1, f2, f3⟩ := hN.cells))
    all_goals
     go_wp2_with fail
     exact bodyPost_ret (v := .tuple #[.agg #[.int .u64 (word (mOr (mOr (mSpan 65 90) (mSpan 97 122)) (mSpan 48 57)) 0 : Nat), .int .u64 (word (mOr (mOr (mSpan 65 90) (mSpan 97 122)) (mSpan 48 57)) 1 : Nat), .int .u64 (word (mOr (mOr (mSpan 65 90) (mSpan 97 122)) (mSpan 48 57)) 2 : Nat), .int .u64 (word (mOr (mOr (mSpan 65 90) (mSpan 97 122)) (mSpan 48 57)) 3 : Nat)], .bool true]) (by simp [results, Tryz.results152, go_sem, e0, e1, e2, e3]) rfl ⟨by rw [HC.out]; rfl, (by repeat (first | exact hl | (with_reducible assumption) | apply Later.alloc | apply Later.drew | apply Later.drewN | (refine Later.setCell ?_ hgb _) | (refine Later.trans ?_ (by with_reducible assumption))))⟩
   have q2 : (s.toList == [97, 108, 110, 117, 109]) = false := by rw [ByteArray.toList_eq]; exact beq_eq_false_iff_ne.2 t2
   by_cases t3 : s.data.toList = [117, 112, 112, 101, 114]
   ·have hC : classOf s.data.toList = some (mSpan 65 90) := by rw [t3]; rfl
    have HC := Lib.hid hC
    have q3 : (s.toList == [117, 112, 112, 101, 114]) = true := by rw [ByteArray.toList_eq, t3]; rfl
    clear hC t3
    go_wp2_with (first
     | ((with_reducible refine (span_int _ _ (by decide) (by decide) (by decide) (by decide) _).mono ?_); rintro e w1 ⟨rfl, hl1⟩; have hN := hN.later (w' := w1) (by repeat (first | exact Later.refl _ | (with_reducible assumption) | apply Later.alloc | apply Later.drew | (refine Later.trans ?_ (by with_reducible assumption)))); obtain ⟨e0, e1, e2, e3, a0, a1, a2, a3, b0, b1, b2, b3, c0, c1, c2, c3, d0, d1, d2, d3, f0, f1, f2, f3⟩ := hN.cells)
     | ((with_reducible refine (or_at _ _ _).mono ?_); rintro e w1 ⟨rfl, hl1⟩; have hN := hN.later (w' := w1) (by repeat (first | exact Later.refl _ | (with_reducible assumption) | apply Later.alloc | apply Later.drew | (refine Later.trans ?_ (by with_reducible assumption)))); obtain ⟨e0, e1, e2, e3, a0, a1, a2, a3, b0, b1, b2, b3, c0, c1, c2, c3, d0, d1, d2, d3, f0, f1, f2, f3⟩ := hN.cells)
     | ((refine (of_at _ _ _ ([0] : List UInt8) _ (RdB.lit (by simp) (by rfl) (by rfl)) (by omega)).mono ?_); rintro e w1 ⟨rfl, hl1⟩; have hN := hN.later (w' := w1) (by repeat (first | exact Later.refl _ | (with_reducible assumption) | apply Later.alloc | apply Later.drew | (refine Later.trans ?_ (by with_reducible assumption)))); obtain ⟨e0, e1, e2, e3, a0, a1, a2, a3, b0, b1, b2, b3, c0, c1, c2, c3, d0, d1, d2, d3, f0, f1, f2, f3⟩ := hN.cells))
    exact bodyPost_ret (v := .tuple #[.agg #[.int .u64 (word (mSpan 65 90) 0 : Nat), .int .u64 (word (mSpan 65 90) 1 : Nat), .int .u64 (word (mSpan 65 90) 2 : Nat), .int .u64 (word (mSpan 65 90) 3 : Nat)], .bool true]) (by simp [results, Tryz.results152, go_sem, e0, e1, e2, e3]) rfl ⟨(by rw [HC.out]; rfl), (by repeat (first | exact hl | (with_reducible assumption) | apply Later.alloc | apply Later.drew | apply Later.drewN | (refine Later.setCell ?_ hgb _) | (refine Later.trans ?_ (by with_reducible assumption))))⟩
   have q3 : (s.toList == [117, 112, 112, 101, 114]) = false := by rw [ByteArray.toList_eq]; exact beq_eq_false_iff_ne.2 t3
   by_cases t4 : s.data.toList = [108, 111, 119, 101, 114]
   ·have hC : classOf s.data.toList = some (mSpan 97 122) := by rw [t4]; rfl
    have HC := Lib.hid hC
    have q4 : (s.toList == [108, 111, 119, 101, 114]) = true := by rw [ByteArray.toList_eq, t4]; rfl
    clear hC t4
    go_wp2_with (first
     | ((with_reducible refine (span_int _ _ (by decide) (by decide) (by decide) (by decide) _).mono ?_); rintro e w1 ⟨rfl, hl1⟩; have hN := hN.later (w' := w1) (by repeat (first | exact Later.refl _ | (with_reducible assumption) | apply Later.alloc | apply Later.drew | (refine Later.trans ?_ (by with_reducible assumption)))); obtain ⟨e0, e1, e2, e3, a0, a1, a2, a3, b0, b1, b2, b3, c0, c1, c2, c3, d0, d1, d2, d3, f0, f1, f2, f3⟩ := hN.cells)
     | ((with_reducible refine (or_at _ _ _).mono ?_); rintro e w1 ⟨rfl, hl1⟩; have hN := hN.later (w' := w1) (by repeat (first | exact Later.refl _ | (with_reducible assumption) | apply Later.alloc | apply Later.drew | (refine Later.trans ?_ (by with_reducible assumption)))); obtain ⟨e0, e1, e2, e3, a0, a1, a2, a3, b0, b1, b2, b3, c0, c1, c2, c3, d0, d1, d2, d3, f0, f1, f2, f3⟩ := hN.cells)
     | ((refine (of_at _ _ _ ([0] : List UInt8) _ (RdB.lit (by simp) (by rfl) (by rfl)) (by omega)).mono ?_); rintro e w1 ⟨rfl, hl1⟩; have hN := hN.later (w' := w1) (by repeat (first | exact Later.refl _ | (with_reducible assumption) | apply Later.alloc | apply Later.drew | (refine Later.trans ?_ (by with_reducible assumption)))); obtain ⟨e0, e1, e2, e3, a0, a1, a2, a3, b0, b1, b2, b3, c0, c1, c2, c3, d0, d1, d2, d3, f0, f1, f2, f3⟩ := hN.cells))
    exact bodyPost_ret (v := .tuple #[.agg #[.int .u64 (word (mSpan 97 122) 0 : Nat), .int .u64 (word (mSpan 97 122) 1 : Nat), .int .u64 (word (mSpan 97 122) 2 : Nat), .int .u64 (word (mSpan 97 122) 3 : Nat)], .bool true]) (by simp [results, Tryz.results152, go_sem, e0, e1, e2, e3]) rfl ⟨(by rw [HC.out]; rfl), (by repeat (first | exact hl | (with_reducible assumption) | apply Later.alloc | apply Later.drew | apply Later.drewN | (refine Later.setCell ?_ hgb _) | (refine Later.trans ?_ (by with_reducible assumption))))⟩
   have q4 : (s.toList == [108, 111, 119, 101, 114]) = false := by rw [ByteArray.toList_eq]; exact beq_eq_false_iff_ne.2 t4
   by_cases t5 : s.data.toList = [115, 112, 97, 99, 101]
   ·have hC : classOf s.data.toList = some (mOr (mSpan 9 13) (mOf [32])) := by rw [t5]; rfl
    have HC := Lib.hid hC
    have q5 : (s.toList == [115, 112, 97, 99, 101]) = true := by rw [ByteArray.toList_eq, t5]; rfl
    clear hC t5
    go_wp2_with (first
     | ((with_reducible refine (span_int _ _ (by decide) (by decide) (by decide) (by decide) _).mono ?_); rintro e w1 ⟨rfl, hl1⟩; have hN := hN.later (w' := w1) (by repeat (first | exact Later.refl _ | (with_reducible assumption) | apply Later.alloc | apply Later.drew | (refine Later.trans ?_ (by with_reducible assumption)))); obtain ⟨e0, e1, e2, e3, a0, a1, a2, a3, b0, b1, b2, b3, c0, c1, c2, c3, d0, d1, d2, d3, f0, f1, f2, f3⟩ := hN.cells)
     | ((with_reducible refine (or_at _ _ _).mono ?_); rintro e w1 ⟨rfl, hl1⟩; have hN := hN.later (w' := w1) (by repeat (first | exact Later.refl _ | (with_reducible assumption) | apply Later.alloc | apply Later.drew | (refine Later.trans ?_ (by with_reducible assumption)))); obtain ⟨e0, e1, e2, e3, a0, a1, a2, a3, b0, b1, b2, b3, c0, c1, c2, c3, d0, d1, d2, d3, f0, f1, f2, f3⟩ := hN.cells)
     | ((refine (of_at _ _ _ ([32] : List UInt8) _ (RdB.lit (by simp) (by rfl) (by rfl)) (by omega)).mono ?_); rintro e w1 ⟨rfl, hl1⟩; have hN := hN.later (w' := w1) (by repeat (first | exact Later.refl _ | (with_reducible assumption) | apply Later.alloc | apply Later.drew | (refine Later.trans ?_ (by with_reducible assumption)))); obtain ⟨e0, e1, e2, e3, a0, a1, a2, a3, b0, b1, b2, b3, c0, c1, c2, c3, d0, d1, d2, d3, f0, f1, f2, f3⟩ := hN.cells))
    exact bodyPost_ret (v := .tuple #[.agg #[.int .u64 (word (mOr (mSpan 9 13) (mOf [32])) 0 : Nat), .int .u64 (word (mOr (mSpan 9 13) (mOf [32])) 1 : Nat), .int .u64 (word (mOr (mSpan 9 13) (mOf [32])) 2 : Nat), .int .u64 (word (mOr (mSpan 9 13) (mOf [32])) 3 : Nat)], .bool true]) (by simp [results, Tryz.results152, go_sem, e0, e1, e2, e3]) rfl ⟨(by rw [HC.out]; rfl), (by repeat (first | exact hl | (with_reducible assumption) | apply Later.alloc | apply Later.drew | apply Later.drewN | (refine Later.setCell ?_ hgb _) | (refine Later.trans ?_ (by with_reducible assumption))))⟩
   have q5 : (s.toList == [115, 112, 97, 99, 101]) = false := by rw [ByteArray.toList_eq]; exact beq_eq_false_iff_ne.2 t5
   by_cases t6 : s.data.toList = [98, 108, 97, 110, 107]
   ·have hC : classOf s.data.toList = some (mOf [9, 32]) := by rw [t6]; rfl
    have HC := Lib.hid hC
    have q6 : (s.toList == [98, 108, 97, 110, 107]) = true := by rw [ByteArray.toList_eq, t6]; rfl
    clear hC t6
    go_wp2_with (first
     | ((with_reducible refine (span_int _ _ (by decide) (by decide) (by decide) (by decide) _).mono ?_); rintro e w1 ⟨rfl, hl1⟩; have hN := hN.later (w' := w1) (by repeat (first | exact Later.refl _ | (with_reducible assumption) | apply Later.alloc | apply Later.drew | (refine Later.trans ?_ (by with_reducible assumption)))); obtain ⟨e0, e1, e2, e3, a0, a1, a2, a3, b0, b1, b2, b3, c0, c1, c2, c3, d0, d1, d2, d3, f0, f1, f2, f3⟩ := hN.cells)
     | ((with_reducible refine (or_at _ _ _).mono ?_); rintro e w1 ⟨rfl, hl1⟩; have hN := hN.later (w' := w1) (by repeat (first | exact Later.refl _ | (with_reducible assumption) | apply Later.alloc | apply Later.drew | (refine Later.trans ?_ (by with_reducible assumption)))); obtain ⟨e0, e1, e2, e3, a0, a1, a2, a3, b0, b1, b2, b3, c0, c1, c2, c3, d0, d1, d2, d3, f0, f1, f2, f3⟩ := hN.cells)
     | ((refine (of_at _ _ _ ([9, 32] : List UInt8) _ (RdB.lit (by simp) (by rfl) (by rfl)) (by omega)).mono ?_); rintro e w1 ⟨rfl, hl1⟩; have hN := hN.later (w' := w1) (by repeat (first | exact Later.refl _ | (with_reducible assumption) | apply Later.alloc | apply Later.drew | (refine Later.trans ?_ (by with_reducible assumption)))); obtain ⟨e0, e1, e2, e3, a0, a1, a2, a3, b0, b1, b2, b3, c0, c1, c2, c3, d0, d1, d2, d3, f0, f1, f2, f3⟩ := hN.cells))
    exact bodyPost_ret (v := .tuple #[.agg #[.int .u64 (word (mOf [9, 32]) 0 : Nat), .int .u64 (word (mOf [9, 32]) 1 : Nat), .int .u64 (word (mOf [9, 32]) 2 : Nat), .int .u64 (word (mOf [9, 32]) 3 : Nat)], .bool true]) (by simp [results, Tryz.results152, go_sem, e0, e1, e2, e3]) rfl ⟨(by rw [HC.out]; rfl), (by repeat (first | exact hl | (with_reducible assumption) | apply Later.alloc | apply Later.drew | apply Later.drewN | (refine Later.setCell ?_ hgb _) | (refine Later.trans ?_ (by with_reducible assumption))))⟩
   have q6 : (s.toList == [98, 108, 97, 110, 107]) = false := by rw [ByteArray.toList_eq]; exact beq_eq_false_iff_ne.2 t6
   by_cases t7 : s.data.toList = [112, 117, 110, 99, 116]
   ·have hC : classOf s.data.toList = some (mOr (mOr (mOr (mSpan 33 47) (mSpan 58 64)) (mSpan 91 96)) (mSpan 123 126)) := by rw [t7]; rfl
    have HC := Lib.hid hC
    have q7 : (s.toList == [112, 117, 110, 99, 116]) = true := by rw [ByteArray.toList_eq, t7]; rfl
    clear hC t7
    go_wp2_with (first
     | ((with_reducible refine (span_int _ _ (by decide) (by decide) (by decide) (by decide) _).mono ?_); rintro e w1 ⟨rfl, hl1⟩; have hN := hN.later (w' := w1) (by repeat (first | exact Later.refl _ | (with_reducible assumption) | apply Later.alloc | apply Later.drew | (refine Later.trans ?_ (by with_reducible assumption)))); obtain ⟨e0, e1, e2, e3, a0, a1, a2, a3, b0, b1, b2, b3, c0, c1, c2, c3, d0, d1, d2, d3, f0, f1, f2, f3⟩ := hN.cells)
     | ((with_reducible refine (or_at _ _ _).mono ?_); rintro e w1 ⟨rfl, hl1⟩; have hN := hN.later (w' := w1) (by repeat (first | exact Later.refl _ | (with_reducible assumption) | apply Later.alloc | apply Later.drew | (refine Later.trans ?_ (by with_reducible assumption)))); obtain ⟨e0, e1, e2, e3, a0, a1, a2, a3, b0, b1, b2, b3, c0, c1, c2, c3, d0, d1, d2, d3, f0, f1, f2, f3⟩ := hN.cells)
     | ((refine (of_at _ _ _ ([0] : List UInt8) _ (RdB.lit (by simp) (by rfl) (by rfl)) (by omega)).mono ?_); rintro e w1 ⟨rfl, hl1⟩; have hN := hN.later (w' := w1) (by repeat (first | exact Later.refl _ | (with_reducible assumption) | apply Later.alloc | apply Later.drew | (refine Later.trans ?_ (by with_reducible assumption)))); obtain ⟨e0, e1, e2, e3, a0, a1, a2, a3, b0, b1, b2, b3, c0, c1, c2, c3, d0, d1, d2, d3, f0, f1, f2, f3⟩ := hN.cells))
    exact bodyPost_ret (v := .tuple #[.agg #[.int .u64 (word (mOr (mOr (mOr (mSpan 33 47) (mSpan 58 64)) (mSpan 91 96)) (mSpan 123 126)) 0 : Nat), .int .u64 (word (mOr (mOr (mOr (mSpan 33 47) (mSpan 58 64)) (mSpan 91 96)) (mSpan 123 126)) 1 : Nat), .int .u64 (word (mOr (mOr (mOr (mSpan 33 47) (mSpan 58 64)) (mSpan 91 96)) (mSpan 123 126)) 2 : Nat), .int .u64 (word (mOr (mOr (mOr (mSpan 33 47) (mSpan 58 64)) (mSpan 91 96)) (mSpan 123 126)) 3 : Nat)], .bool true]) (by simp [results, Tryz.results152, go_sem, e0, e1, e2, e3]) rfl ⟨(by rw [HC.out]; rfl), (by repeat (first | exact hl | (with_reducible assumption) | apply Later.alloc | apply Later.drew | apply Later.drewN | (refine Later.setCell ?_ hgb _) | (refine Later.trans ?_ (by with_reducible assumption))))⟩
   have q7 : (s.toList == [112, 117, 110, 99, 116]) = false := by rw [ByteArray.toList_eq]; exact beq_eq_false_iff_ne.2 t7
   by_cases t8 : s.data.toList = [112, 114, 105, 110, 116]
   ·have hC : classOf s.data.toList = some (mSpan 32 126) := by rw [t8]; rfl
    have HC := Lib.hid hC
    have q8 : (s.toList == [112, 114, 105, 110, 116]) = true := by rw [ByteArray.toList_eq, t8]; rfl
    clear hC t8
    go_wp2_with (first
     | ((with_reducible refine (span_int _ _ (by decide) (by decide) (by decide) (by decide) _).mono ?_); rintro e w1 ⟨rfl, hl1⟩; have hN := hN.later (w' := w1) (by repeat (first | exact Later.refl _ | (with_reducible assumption) | apply Later.alloc | apply Later.drew | (refine Later.trans ?_ (by with_reducible assumption)))); obtain ⟨e0, e1, e2, e3, a0, a1, a2, a3, b0, b1, b2, b3, c0, c1, c2, c3, d0, d1, d2, d3, f0, f1, f2, f3⟩ := hN.cells)
     | ((with_reducible refine (or_at _ _ _).mono ?_); rintro e w1 ⟨rfl, hl1⟩; have hN := hN.later (w' := w1) (by repeat (first | exact Later.refl _ | (with_reducible assumption) | apply Later.alloc | apply Later.drew | (refine Later.trans ?_ (by with_reducible assumption)))); obtain ⟨e0, e1, e2, e3, a0, a1, a2, a3, b0, b1, b2, b3, c0, c1, c2, c3, d0, d1, d2, d3, f0, f1, f2, f3⟩ := hN.cells)
     | ((refine (of_at _ _ _ ([0] : List UInt8) _ (RdB.lit (by simp) (by rfl) (by rfl)) (by omega)).mono ?_); rintro e w1 ⟨rfl, hl1⟩; have hN := hN.later (w' := w1) (by repeat (first | exact Later.refl _ | (with_reducible assumption) | apply Later.alloc | apply Later.drew | (refine Later.trans ?_ (by with_reducible assumption)))); obtain ⟨e0, e1, e2, e3, a0, a1, a2, a3, b0, b1, b2, b3, c0, c1, c2, c3, d0, d1, d2, d3, f0, f1, f2, f3⟩ := hN.cells))
    exact bodyPost_ret (v := .tuple #[.agg #[.int .u64 (word (mSpan 32 126) 0 : Nat), .int .u64 (word (mSpan 32 126) 1 : Nat), .int .u64 (word (mSpan 32 126) 2 : Nat), .int .u64 (word (mSpan 32 126) 3 : Nat)], .bool true]) (by simp [results, Tryz.results152, go_sem, e0, e1, e2, e3]) rfl ⟨(by rw [HC.out]; rfl), (by repeat (first | exact hl | (with_reducible assumption) | apply Later.alloc | apply Later.drew | apply Later.drewN | (refine Later.setCell ?_ hgb _) | (refine Later.trans ?_ (by with_reducible assumption))))⟩
   have q8 : (s.toList == [112, 114, 105, 110, 116]) = false := by rw [ByteArray.toList_eq]; exact beq_eq_false_iff_ne.2 t8
   by_cases t9 : s.data.toList = [103, 114, 97, 112, 104]
   ·have hC : classOf s.data.toList = some (mSpan 33 126) := by rw [t9]; rfl
    have HC := Lib.hid hC
    have q9 : (s.toList == [103, 114, 97, 112, 104]) = true := by rw [ByteArray.toList_eq, t9]; rfl
    clear hC t9
    go_wp2_with (first
     | ((with_reducible refine (span_int _ _ (by decide) (by decide) (by decide) (by decide) _).mono ?_); rintro e w1 ⟨rfl, hl1⟩; have hN := hN.later (w' := w1) (by repeat (first | exact Later.refl _ | (with_reducible assumption) | apply Later.alloc | apply Later.drew | (refine Later.trans ?_ (by with_reducible assumption)))); obtain ⟨e0, e1, e2, e3, a0, a1, a2, a3, b0, b1, b2, b3, c0, c1, c2, c3, d0, d1, d2, d3, f0, f1, f2, f3⟩ := hN.cells)
     | ((with_reducible refine (or_at _ _ _).mono ?_); rintro e w1 ⟨rfl, hl1⟩; have hN := hN.later (w' := w1) (by repeat (first | exact Later.refl _ | (with_reducible assumption) | apply Later.alloc | apply Later.drew | (refine Later.trans ?_ (by with_reducible assumption)))); obtain ⟨e0, e1, e2, e3, a0, a1, a2, a3, b0, b1, b2, b3, c0, c1, c2, c3, d0, d1, d2, d3, f0, f1, f2, f3⟩ := hN.cells)
     | ((refine (of_at _ _ _ ([0] : List UInt8) _ (RdB.lit (by simp) (by rfl) (by rfl)) (by omega)).mono ?_); rintro e w1 ⟨rfl, hl1⟩; have hN := hN.later (w' := w1) (by repeat (first | exact Later.refl _ | (with_reducible assumption) | apply Later.alloc | apply Later.drew | (refine Later.trans ?_ (by with_reducible assumption)))); obtain ⟨e0, e1, e2, e3, a0, a1, a2, a3, b0, b1, b2, b3, c0, c1, c2, c3, d0, d1, d2, d3, f0, f1, f2, f3⟩ := hN.cells))
    exact bodyPost_ret (v := .tuple #[.agg #[.int .u64 (word (mSpan 33 126) 0 : Nat), .int .u64 (word (mSpan 33 126) 1 : Nat), .int .u64 (word (mSpan 33 126) 2 : Nat), .int .u64 (word (mSpan 33 126) 3 : Nat)], .bool true]) (by simp [results, Tryz.results152, go_sem, e0, e1, e2, e3]) rfl ⟨(by rw [HC.out]; rfl), (by repeat (first | exact hl | (with_reducible assumption) | apply Later.alloc | apply Later.drew | apply Later.drewN | (refine Later.setCell ?_ hgb _) | (refine Later.trans ?_ (by with_reducible assumption))))⟩
   have q9 : (s.toList == [103, 114, 97, 112, 104]) = false := by rw [ByteArray.toList_eq]; exact beq_eq_false_iff_ne.2 t9
   by_cases t10 : s.data.toList = [99, 110, 116, 114, 108]
   ·have hC : classOf s.data.toList = some (mOr (mSpan 0 31) (mOf [127])) := by rw [t10]; rfl
    have HC := Lib.hid hC
    have q10 : (s.toList == [99, 110, 116, 114, 108]) = true := by rw [ByteArray.toList_eq, t10]; rfl
    clear hC t10
    go_wp2_with (first
     | ((with_reducible refine (span_int _ _ (by decide) (by decide) (by decide) (by decide) _).mono ?_); rintro e w1 ⟨rfl, hl1⟩; have hN := hN.later (w' := w1) (by repeat (first | exact Later.refl _ | (with_reducible assumption) | apply Later.alloc | apply Later.drew | (refine Later.trans ?_ (by with_reducible assumption)))); obtain ⟨e0, e1, e2, e3, a0, a1, a2, a3, b0, b1, b2, b3, c0, c1, c2, c3, d0, d1, d2, d3, f0, f1, f2, f3⟩ := hN.cells)
     | ((with_reducible refine (or_at _ _ _).mono ?_); rintro e w1 ⟨rfl, hl1⟩; have hN := hN.later (w' := w1) (by repeat (first | exact Later.refl _ | (with_reducible assumption) | apply Later.alloc | apply Later.drew | (refine Later.trans ?_ (by with_reducible assumption)))); obtain ⟨e0, e1, e2, e3, a0, a1, a2, a3, b0, b1, b2, b3, c0, c1, c2, c3, d0, d1, d2, d3, f0, f1, f2, f3⟩ := hN.cells)
     | ((refine (of_at _ _ _ ([127] : List UInt8) _ (RdB.lit (by simp) (by rfl) (by rfl)) (by omega)).mono ?_); rintro e w1 ⟨rfl, hl1⟩; have hN := hN.later (w' := w1) (by repeat (first | exact Later.refl _ | (with_reducible assumption) | apply Later.alloc | apply Later.drew | (refine Later.trans ?_ (by with_reducible assumption)))); obtain ⟨e0, e1, e2, e3, a0, a1, a2, a3, b0, b1, b2, b3, c0, c1, c2, c3, d0, d1, d2, d3, f0, f1, f2, f3⟩ := hN.cells))
    exact bodyPost_ret (v := .tuple #[.agg #[.int .u64 (word (mOr (mSpan 0 31) (mOf [127])) 0 : Nat), .int .u64 (word (mOr (mSpan 0 31) (mOf [127])) 1 : Nat), .int .u64 (word (mOr (mSpan 0 31) (mOf [127])) 2 : Nat), .int .u64 (word (mOr (mSpan 0 31) (mOf [127])) 3 : Nat)], .bool true]) (by simp [results, Tryz.results152, go_sem, e0, e1, e2, e3]) rfl ⟨(by rw [HC.out]; rfl), (by repeat (first | exact hl | (with_reducible assumption) | apply Later.alloc | apply Later.drew | apply Later.drewN | (refine Later.setCell ?_ hgb _) | (refine Later.trans ?_ (by with_reducible assumption))))⟩
   have q10 : (s.toList == [99, 110, 116, 114, 108]) = false := by rw [ByteArray.toList_eq]; exact beq_eq_false_iff_ne.2 t10
   by_cases t11 : s.data.toList = [120, 100, 105, 103, 105, 116]
   ·have hC : classOf s.data.toList = some (mOr (mOr (mSpan 48 57) (mSpan 65 70)) (mSpan 97 102)) := by rw [t11]; rfl
    have HC := Lib.hid hC
    have q11 : (s.toList == [120, 100, 105, 103, 105, 116]) = true := by rw [ByteArray.toList_eq, t11]; rfl
    clear hC t11
    go_wp2_with fail
    go_region_with (first
     | ((with_reducible refine (span_int _ _ (by decide) (by decide) (by decide) (by decide) _).mono ?_); rintro e w1 ⟨rfl, hl1⟩; have hN := hN.later (w' := w1) (by repeat (first | exact Later.refl _ | (with_reducible assumption) | apply Later.alloc | apply Later.drew | (refine Later.trans ?_ (by with_reducible assumption)))); obtain ⟨e0, e1, e2, e3, a0, a1, a2, a3, b0, b1, b2, b3, c0, c1, c2, c3, d0, d1, d2, d3, f0, f1, f2, f3⟩ := hN.cells)
     | ((with_reducible refine (or_at _ _ _).mono ?_); rintro e w1 ⟨rfl, hl1⟩; have hN := hN.later (w' := w1) (by repeat (first | exact Later.refl _ | (with_reducible assumption) | apply Later.alloc | apply Later.drew | (refine Later.trans ?_ (by with_reducible assumption)))); obtain ⟨e0, e1, e2, e3, a0, a1, a2, a3, b0, b1, b2, b3, c0, c1, c2, c3, d0, d1, d2, d3, f0, f1, f2, f3⟩ := hN.cells)
     | ((refine (of_at _ _ _ ([0] : List UInt8) _ (RdB.lit (by simp) (by rfl) (by rfl)) (by omega)).mono ?_); rintro e w1 ⟨rfl, hl1⟩; have hN := hN.later (w' := w1) (by repeat (first | exact Later.refl _ | (with_reducible assumption) | apply Later.alloc | apply Later.drew | (refine Later.trans ?_ (by with_reducible assumption)))); obtain ⟨e0, e1, e2, e3, a0, a1, a2, a3, b0, b1, b2, b3, c0, c1, c2, c3, d0, d1, d2, d3, f0, f1, f2, f3⟩ := hN.cells))
    all_goals
     go_wp2_with fail
     exact bodyPost_ret (v := .tuple #[.agg #[.int .u64 (word (mOr (mOr (mSpan 48 57) (mSpan 65 70)) (mSpan 97 102)) 0 : Nat), .int .u64 (word (mOr (mOr (mSpan 48 57) (mSpan 65 70)) (mSpan 97 102)) 1 : Nat), .int .u64 (word (mOr (mOr (mSpan 48 57) (mSpan 65 70)) (mSpan 97 102)) 2 : Nat), .int .u64 (word (mOr (mOr (mSpan 48 57) (mSpan 65 70)) (mSpan 97 102)) 3 : Nat)], .bool true]) (by simp [results, Tryz.results152, go_sem, e0, e1, e2, e3]) rfl ⟨by rw [HC.out]; rfl, (by repeat (first | exact hl | (with_reducible assumption) | apply Later.alloc | apply Later.drew | apply Later.drewN | (refine Later.setCell ?_ hgb _) | (refine Later.trans ?_ (by with_reducible assumption))))⟩
   have q11 : (s.toList == [120, 100, 105, 103, 105, 116]) = false := by rw [ByteArray.toList_eq]; exact beq_eq_false_iff_ne.2 t11
   have hC : classOf s.data.toList = none := by unfold classOf; rw [if_neg t0, if_neg t1, if_neg t2, if_neg t3, if_neg t4, if_neg t5, if_neg t6, if_neg t7, if_neg t8, if_neg t9, if_neg t10, if_neg t11]
   have HC := Lib.hid hC
   clear hC t0 t1 t2 t3 t4 t5 t6 t7 t8 t9 t10 t11
   go_wp2_with (first
    | ((with_reducible refine (span_int _ _ (by decide) (by decide) (by decide) (by decide) _).mono ?_); rintro e w1 ⟨rfl, hl1⟩; have hN := hN.later (w' := w1) (by repeat (first | exact Later.refl _ | (with_reducible assumption) | apply Later.alloc | apply Later.drew | (refine Later.trans ?_ (by with_reducible assumption)))); obtain ⟨e0, e1, e2, e3, a0, a1, a2, a3, b0, b1, b2, b3, c0, c1, c2, c3, d0, d1, d2, d3, f0, f1, f2, f3⟩ := hN.cells)
    | ((with_reducible refine (or_at _ _ _).mono ?_); rintro e w1 ⟨rfl, hl1⟩; have hN := hN.later (w' := w1) (by repeat (first | exact Later.refl _ | (with_reducible assumption) | apply Later.alloc | apply Later.drew | (refine Later.trans ?_ (by with_reducible assumption)))); obtain ⟨e0, e1, e2, e3, a0, a1, a2, a3, b0, b1, b2, b3, c0, c1, c2, c3, d0, d1, d2, d3, f0, f1, f2, f3⟩ := hN.cells)
    | ((refine (of_at _ _ _ ([0] : List UInt8) _ (RdB.lit (by simp) (by rfl) (by rfl)) (by omega)).mono ?_); rintro e w1 ⟨rfl, hl1⟩; have hN := hN.later (w' := w1) (by repeat (first | exact Later.refl _ | (with_reducible assumption) | apply Later.alloc | apply Later.drew | (refine Later.trans ?_ (by with_reducible assumption)))); obtain ⟨e0, e1, e2, e3, a0, a1, a2, a3, b0, b1, b2, b3, c0, c1, c2, c3, d0, d1, d2, d3, f0, f1, f2, f3⟩ := hN.cells))
   exact bodyPost_ret (v := .tuple #[.agg #[.int .u64 0, .int .u64 0, .int .u64 0, .int .u64 0], .bool false]) (by simp [results, Tryz.results152, go_sem, e0, e1, e2, e3]) rfl ⟨(by rw [HC.out]; show _ = Ending.returned (.tuple #[.agg (setC mNone), .bool false]); rw [setC_none]), (by repeat (first | exact hl | (with_reducible assumption) | apply Later.alloc | apply Later.drew | apply Later.drewN | (refine Later.setCell ?_ hgb _) | (refine Later.trans ?_ (by with_reducible assumption))))⟩
end Go.Proofs.YtmkddhkpeiajhaaGreatDoor
