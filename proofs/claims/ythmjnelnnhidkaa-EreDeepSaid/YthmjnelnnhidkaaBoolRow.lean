/-
  A row of 256 bools in memory, read and written whole.
-/
import Derived.Test.YthmjnelnnhidkaaPacked
namespace Go.Proofs.Ythmjnelnnhidkaa
open Go.RowKit

theorem zero_set : (∀ w, (zeroValue 36).run Try.prog w = .ok (.agg (boolC mNone)) w) ∧ (Try.prog.info? 36).map (·.size) = some 256 :=
  zero_of_info (by kernel_rfl)

theorem sizeB (m : Mem) : (Try.prog.info? 36).map (·.size) = some (boolC m).toList.length := by rw [Array.length_toList, boolC_size]; exact zero_set.2
theorem sizeB' (m : Mem) : (Try.prog.info? 36).map (·.size) = some (boolC m).size := by rw [boolC_size]; exact zero_set.2
theorem oneB (m : Mem) : (boolC m).all (·.oneCell') = true := by
  rw [Array.all_eq_true_iff_forall_mem]
  intro v hv
  unfold boolC at hv
  rw [List.mem_toArray, List.mem_map] at hv
  obtain ⟨b, _, rfl⟩ := hv
  rfl
theorem rangeB {w : World} {g : Nat} {t : TypeId} {m : Mem} (h : Blk w g t (boolC m)) : Hid (w.rangeAt g 0 (boolC m).toList) := by
  show World.rangeAt _ _ _ _
  intro j v hv
  rw [Nat.zero_add, h.cell, ← Array.getElem?_toList]
  exact hv
theorem thereB {w : World} {g : Nat} {t : TypeId} {m p : Mem} (h : Blk w g t (boolC p)) : Hid (w.there g 0 (boolC m).size) := by
  show World.there _ _ _ _
  intro j hj
  rw [boolC_size] at hj
  rw [Nat.zero_add]
  exact ⟨by rw [h.cell, boolC_get p hj]; rfl, h.frozen j⟩
theorem laterCells {w : World} : ∀ {w1 : World} (_hl : Later w w1) (o : Nat) (l : List Value), Later w (w1.setCells w.heap.size o l)
  | _, hl, _, [] => hl
  | _, hl, o, v :: l => laterCells (Below.setCell (p := ⟨w.heap.size, o, none⟩) hl (Nat.le_refl _) v) (o + 1) l
theorem laterCellsG {w : World} {g : Nat} : ∀ {w1 : World} (_hl : Later w w1) (_hg : w.heap.size ≤ g) (o : Nat) (l : List Value), Later w (w1.setCells g o l)
  | _, hl, _, _, [] => hl
  | _, hl, hg, o, v :: l => laterCellsG (Below.setCell (p := ⟨g, o, none⟩) hl hg v) hg (o + 1) l
theorem boolC_step (m : Mem) (k : Nat) (hk : k < 256) : (boolC (mLow m k)).setIfInBounds k (.bool (m k)) = boolC (mLow m (k + 1)) := by
  apply Array.ext_getElem?
  intro i
  rw [Array.getElem?_setIfInBounds]
  by_cases hi : i < 256
  · by_cases e : k = i
    · subst e
      rw [if_pos rfl, if_pos (by rw [boolC_size]; exact hk), boolC_get _ hk]
      unfold mLow
      rw [decide_eq_true (by omega), Bool.true_and]
    · rw [if_neg e, boolC_get _ hi, boolC_get _ hi]
      unfold mLow
      by_cases h : i < k
      · rw [decide_eq_true h, decide_eq_true (by omega)]
      · rw [decide_eq_false h, decide_eq_false (by omega)]
  · rw [Array.getElem?_eq_none (xs := boolC (mLow m (k + 1))) (by rw [boolC_size]; omega), if_neg (by omega), Array.getElem?_eq_none (by rw [boolC_size]; omega)]
theorem boolC_ext (p q : Mem) (h : ∀ b, b < 256 → p b = q b) : boolC p = boolC q := by
  unfold boolC
  congr 1
  exact List.map_congr_left fun b hb => by rw [h b (List.mem_range.1 hb)]

end Go.Proofs.Ythmjnelnnhidkaa
