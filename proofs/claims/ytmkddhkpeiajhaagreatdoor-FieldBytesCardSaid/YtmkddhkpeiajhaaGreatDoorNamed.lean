import Derived.Test.YtmkddhkpeiajhaaGreatDoorSetAll
import Derived.Deep.CutBlock
import Derived.Deep.DeepCutAuto
import Derived.Deep.RegionHeldLaw
namespace Go.Proofs.YtmkddhkpeiajhaaGreatDoor
open Go.RowKit
theorem or_at (p q : Mem) (w : World) :
  Calls Tryz.prog 140 #[.agg #[.int .u64 (word p 0 : Nat), .int .u64 (word p 1 : Nat), .int .u64 (word p 2 : Nat), .int .u64 (word p 3 : Nat)], .agg #[.int .u64 (word q 0 : Nat), .int .u64 (word q 1 : Nat), .int .u64 (word q 2 : Nat), .int .u64 (word q 3 : Nat)]] w fun e w' => e = .returned (.agg #[.int .u64 (word (mOr p q) 0 : Nat), .int .u64 (word (mOr p q) 1 : Nat), .int .u64 (word (mOr p q) 2 : Nat), .int .u64 (word (mOr p q) 3 : Nat)]) ∧ Later w w' := or_any p q w
theorem of_at (A : Option Addr) (n c : Nat) (l : List UInt8) (w : World) (hr : RdB w w.heap.size A n l) (hn : n ≤ 9223372036854775807) :
  Calls Tryz.prog 129 #[.slice A n c] w fun e w' => e = .returned (.agg #[.int .u64 (word (mOf l) 0 : Nat), .int .u64 (word (mOf l) 1 : Nat), .int .u64 (word (mOf l) 2 : Nat), .int .u64 (word (mOf l) 3 : Nat)]) ∧ Later w w' := of_any A n c l w hr hn
def Nm (g2 g4 g5 g6 g7 : Nat) (wx : World) : Prop :=
 Blk wx g2 95 #[.int .u64 0, .int .u64 0, .int .u64 0, .int .u64 0] ∧ Blk wx g4 95 (setC (mSpan 65 90)) ∧ Blk wx g5 95 (setC (mSpan 97 122)) ∧ Blk wx g6 95 (setC (mSpan 48 57)) ∧ Blk wx g7 95 (setC (mOr (mOr (mOr (mSpan 33 47) (mSpan 58 64)) (mSpan 91 96)) (mSpan 123 126)))
theorem Nm.cells {g2 g4 g5 g6 g7 : Nat} {wx : World} (h : Nm g2 g4 g5 g6 g7 wx) : wx.cell? ⟨g2, 0, none⟩ = some (.int .u64 0) ∧ wx.cell? ⟨g2, 1, none⟩ = some (.int .u64 0) ∧ wx.cell? ⟨g2, 2, none⟩ = some (.int .u64 0) ∧ wx.cell? ⟨g2, 3, none⟩ = some (.int .u64 0) ∧ wx.cell? ⟨g4, 0, none⟩ = some (.int .u64 (word (mSpan 65 90) 0 : Nat)) ∧ wx.cell? ⟨g4, 1, none⟩ = some (.int .u64 (word (mSpan 65 90) 1 : Nat)) ∧ wx.cell? ⟨g4, 2, none⟩ = some (.int .u64 (word (mSpan 65 90) 2 : Nat)) ∧ wx.cell? ⟨g4, 3, none⟩ = some (.int .u64 (word (mSpan 65 90) 3 : Nat)) ∧ wx.cell? ⟨g5, 0, none⟩ = some (.int .u64 (word (mSpan 97 122) 0 : Nat)) ∧ wx.cell? ⟨g5, 1, none⟩ = some (.int .u64 (word (mSpan 97 122) 1 : Nat)) ∧ wx.cell? ⟨g5, 2, none⟩ = some (.int .u64 (word (mSpan 97 122) 2 : Nat)) ∧ wx.cell? ⟨g5, 3, none⟩ = some (.int .u64 (word (mSpan 97 122) 3 : Nat)) ∧ wx.cell? ⟨g6, 0, none⟩ = some (.int .u64 (word (mSpan 48 57) 0 : Nat)) ∧ wx.cell? ⟨g6, 1, none⟩ = some (.int .u64 (word (mSpan 48 57) 1 : Nat)) ∧ wx.cell? ⟨g6, 2, none⟩ = some (.int .u64 (word (mSpan 48 57) 2 : Nat)) ∧ wx.cell? ⟨g6, 3, none⟩ = some (.int .u64 (word (mSpan 48 57) 3 : Nat)) ∧ wx.cell? ⟨g7, 0, none⟩ = some (.int .u64 (word (mOr (mOr (mOr (mSpan 33 47) (mSpan 58 64)) (mSpan 91 96)) (mSpan 123 126)) 0 : Nat)) ∧ wx.cell? ⟨g7, 1, none⟩ = some (.int .u64 (word (mOr (mOr (mOr (mSpan 33 47) (mSpan 58 64)) (mSpan 91 96)) (mSpan 123 126)) 1 : Nat)) ∧ wx.cell? ⟨g7, 2, none⟩ = some (.int .u64 (word (mOr (mOr (mOr (mSpan 33 47) (mSpan 58 64)) (mSpan 91 96)) (mSpan 123 126)) 2 : Nat)) ∧ wx.cell? ⟨g7, 3, none⟩ = some (.int .u64 (word (mOr (mOr (mOr (mSpan 33 47) (mSpan 58 64)) (mSpan 91 96)) (mSpan 123 126)) 3 : Nat)) ∧ wx.frozen? ⟨g2, 0, none⟩ = false ∧ wx.frozen? ⟨g2, 1, none⟩ = false ∧ wx.frozen? ⟨g2, 2, none⟩ = false ∧ wx.frozen? ⟨g2, 3, none⟩ = false := by
 obtain ⟨h2, h4, h5, h6, h7⟩ := h
 exact ⟨h2.cell 0, h2.cell 1, h2.cell 2, h2.cell 3, h4.cell 0, h4.cell 1, h4.cell 2, h4.cell 3, h5.cell 0, h5.cell 1, h5.cell 2, h5.cell 3, h6.cell 0, h6.cell 1, h6.cell 2, h6.cell 3, h7.cell 0, h7.cell 1, h7.cell 2, h7.cell 3, h2.frozen 0, h2.frozen 1, h2.frozen 2, h2.frozen 3⟩
theorem RdB.lit {w : World} {xs : Array Value} {l : List UInt8} {n B : Nat} (hB : B = w.heap.size + 1) (hn : n = l.length) (hx : (bv l).toArray = xs) : RdB (w.alloc (.cells xs 5)) B (some ⟨w.heap.size, 0, none⟩) n l := by
 subst hB hx hn
 refine ⟨by rw [bv_length]; omega, fun _ => ⟨_, rfl, by simp, fun j u hu => ?_⟩⟩
 rw [Addr.add_lit, Nat.zero_add, (Blk.new w _ _).cell, List.getElem?_toArray]
 exact hu
end Go.Proofs.YtmkddhkpeiajhaaGreatDoor
