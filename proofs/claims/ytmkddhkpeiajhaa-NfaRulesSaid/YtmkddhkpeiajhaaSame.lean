/-
  The document's One and Same.
-/
import Derived.Test.YtmkddhkpeiajhaaTwin
import Derived.Test.YtmkddhkpeiajhaaBoolRow
namespace Go.Proofs.Ytmkddhkpeiajhaa
open Go.RowKit

/-- a tree that a function leaves -/
def RetT (w : World) (lo : Nat → Prop) (t : Tree) (e : Ending) (w' : World) : Prop :=
  ∃ (k a b c d : Int) (A : Option Addr) (n cp : Nat), e = .returned (.agg #[.int .i64 k, .int .u64 a, .int .u64 b, .int .u64 c, .int .u64 d, .slice A n cp]) ∧ ReC w' lo t ⟨k, a, b, c, d, A, n, cp⟩ ∧ Later w w'
/-- the tree of one byte -/
def tOne (b : Nat) : Tree := .node 1 (w4 (mOf [UInt8.ofNat b])) []

theorem boolC_one (b : Nat) (hb : b < 256) : (boolC mNone).setIfInBounds b (.bool true) = boolC (mOf [UInt8.ofNat b]) := by
  apply Array.ext_getElem?
  intro i
  rw [Array.getElem?_setIfInBounds]
  by_cases hi : i < 256
  · rw [boolC_get _ hi, boolC_get _ hi]
    by_cases e : b = i
    · subst e
      rw [if_pos rfl, if_pos (by rw [boolC_size]; exact hb)]
      unfold mOf
      simp [UInt8.toNat_ofNat']
      omega
    · rw [if_neg e]
      unfold mOf mNone
      simp [UInt8.toNat_ofNat']
      omega
  · rw [Array.getElem?_eq_none (xs := boolC (mOf _)) (by rw [boolC_size]; omega), if_neg (by omega), Array.getElem?_eq_none (by rw [boolC_size]; omega)]

set_option maxHeartbeats 2000000 in
theorem refOne_any (lo : Nat → Prop) (b : Nat) (hb : b < 256) (w : World) :
    Calls Try.prog 19 #[.int .u8 (b : Int)] w (RetT w lo (tOne b)) := by
  obtain ⟨hz, hsz⟩ := zero_set
  obtain ⟨m, hm⟩ : ∃ m, m = mOf [UInt8.ofNat b] := ⟨_, rfl⟩
  have hone := boolC_one b hb
  have HT : Hid (tOne b = .node 1 (w4 m) []) := by show _ = _; rw [hm]; rfl
  rw [← hm] at hone
  have HO := Lib.hid hone
  have hpk : ∀ wx : World, Calls Try.prog 20 #[.agg (boolC m)] wx fun e w' => e = .returned (.agg #[.int .u64 (word m 0 : Nat), .int .u64 (word m 1 : Nat), .int .u64 (word m 2 : Nat), .int .u64 (word m 3 : Nat)]) ∧ Later wx w' := fun wx => packed_any m wx
  have HPK := Lib.hid hpk
  have hbi : (b : Int) < 256 := by omega
  clear hone hm hpk
  go_enter Try.func19, Try.ntmps19
  go_upto_region 2 with fail
  obtain ⟨W1, hW1⟩ : ∃ W1, W1 = (w.alloc (.cells #[.int .i64 0, .int .u64 0, .int .u64 0, .int .u64 0, .int .u64 0, .slice none 0 0] 30)).alloc (.cells (boolC mNone) 58) := ⟨_, rfl⟩
  have B0 : Blk W1 w.heap.size 30 #[.int .i64 0, .int .u64 0, .int .u64 0, .int .u64 0, .int .u64 0, .slice none 0 0] := by rw [hW1]; exact (Blk.new w _ _).alloc _
  have B1 : Blk W1 (w.heap.size + 1) 58 (boolC mNone) := by rw [hW1]; exact blk_at (by simp)
  have hl1 : Later w W1 := by rw [hW1]; exact ((Later.refl w).alloc _).alloc _
  rw [← hW1]
  clear hW1
  have c1 : W1.cell? ⟨w.heap.size + 1, b, none⟩ = some (.bool (mNone b)) := by rw [B1.cell, boolC_get _ hb]
  have f1 := B1.frozen b
  go_upto_region 3 with fail
  obtain ⟨W2, hW2⟩ : ∃ W2, W2 = W1.setCell ⟨w.heap.size + 1, b, none⟩ (.bool true) := ⟨_, rfl⟩
  have D1 : Blk W2 (w.heap.size + 1) 58 (boolC m) := by rw [hW2, ← HO.out]; exact B1.set_ b _
  have D0 : Blk W2 w.heap.size 30 #[.int .i64 0, .int .u64 0, .int .u64 0, .int .u64 0, .int .u64 0, .slice none 0 0] := by rw [hW2]; exact B0.far (by simp) _
  have hl2 : Later w W2 := by rw [hW2]; exact Later.setCell hl1 (Nat.le_succ _) _
  rw [← hW2]
  clear hW2 c1 f1 B0 B1 hl1
  have R1 : Hid (W2.rangeAt (w.heap.size + 1) 0 (boolC m).toList) := rangeB D1
  go_wp2_with (refine wpList_load_mid (P := Try.prog) rfl 58 (.tmp 3) rfl (w.heap.size + 1) 0 rfl (boolC m).toList _ R1.out Try.underlying58 rfl (sizeB m) ?_)
  refine (HPK.out _).mono ?_
  rintro e w3 ⟨rfl, hl3⟩
  have E0 := blkL hl3 D0
  obtain ⟨z0, z1, z2, z3, z4, z5, y0, y1, y2, y3, y4, y5⟩ := cells6 E0
  go_wp2_with fail
  refine bodyPost_ret (v := .agg #[.int .i64 1, .int .u64 (word m 0 : Nat), .int .u64 (word m 1 : Nat), .int .u64 (word m 2 : Nat), .int .u64 (word m 3 : Nat), .slice none 0 0]) (by simp [results, Try.results19, go_sem, z0, z1, z2, z3, z4, z5]) rfl ?_
  rw [HT.out]
  exact ⟨1, _, _, _, _, none, 0, 0, rfl, ReC.leaf _ lo 1 (w4 m) none 0, (hl2.trans hl3).set6 (Nat.le_refl _)⟩

end Go.Proofs.Ytmkddhkpeiajhaa
