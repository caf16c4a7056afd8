import Derived.Test.YtmkddhkpeiajhaaPacked
/-
  A row of 256 bools in memory, read and written whole.
-/
namespace Go.Proofs.Ytmkddhkpeiajhaa
open Go.RowKit

theorem zero_set : (∀ w, (zeroValue 58).run Try.prog w = .ok (.agg (boolC mNone)) w) ∧ (Try.prog.info? 58).map (·.size) = some 256 :=
  zero_of_info (by kernel_rfl)

theorem sizeB (m : Mem) : (Try.prog.info? 58).map (·.size) = some (boolC m).toList.length := by rw [Array.length_toList, boolC_size]; exact zero_set.2
theorem sizeB' (m : Mem) : (Try.prog.info? 58).map (·.size) = some (boolC m).size := by rw [boolC_size]; exact zero_set.2
theorem oneB (m : Mem) : (boolC m).all (·.oneCell') = true := by
  rw [Array.all_eq_true_iff_forall_mem]
  intro v hv
  unfold boolC at hv
  rw [List.mem_toArray, List.mem_map] at hv
  obtain ⟨b, _, rfl⟩ := hv
  rfl
theorem rangeB {w : World} {g : Nat} {t : TypeId} {m : Mem} (h : Blk w g t (boolC m)) : Hid (w.rangeAt g 0 (boolC m).toList) := by
  show World.rangeAt _ _ _ _
  intro j v hv
  rw [Nat.zero_add, h.cell, ← Array.getElem?_toList]
  exact hv
theorem thereB {w : World} {g : Nat} {t : TypeId} {m p : Mem} (h : Blk w g t (boolC p)) : Hid (w.there g 0 (boolC m).size) := by
  show World.there _ _ _ _
  intro j hj
  rw [boolC_size] at hj
  rw [Nat.zero_add]
  exact ⟨by rw [h.cell, boolC_get p hj]; rfl, h.frozen j⟩
theorem laterCells {w : World} : ∀ {w1 : World} (_hl : Later w w1) (o : Nat) (l : List Value), Later w (w1.setCells w.heap.size o l)
  | _, hl, _, [] => hl
  | _, hl, o, v :: l => laterCells (Below.setCell (p := ⟨w.heap.size, o, none⟩) hl (Nat.le_refl _) v) (o + 1) l
theorem laterCellsG {w : World} {g : Nat} : ∀ {w1 : World} (_hl : Later w w1) (_hg : w.heap.size ≤ g) (o : Nat) (l : List Value), Later w (w1.setCells g o l)
  | _, hl, _, _, [] => hl
  | _, hl, hg, o, v :: l => laterCellsG (Below.setCell (p := ⟨g, o, none⟩) hl hg v) hg (o + 1) l
theorem boolC_step (m : Mem) (k : Nat) (hk : k < 256) : (boolC (mLow m k)).setIfInBounds k (.bool (m k)) = boolC (mLow m (k + 1)) := by
  apply Array.ext_getElem?
  intro i
  rw [Array.getElem?_setIfInBounds]
  by_cases hi : i < 256
  · by_cases e : k = i
    · subst e
      rw [if_pos rfl, if_pos (by rw [boolC_size]; exact hk), boolC_get _ hk]
      unfold mLow
      rw [decide_eq_true (by omega), Bool.true_and]
    · rw [if_neg e, boolC_get _ hi, boolC_get _ hi]
      unfold mLow
      by_cases h : i < k
      · rw [decide_eq_true h, decide_eq_true (by omega)]
      · rw [decide_eq_false h, decide_eq_false (by omega)]
  · rw [Array.getElem?_eq_none (xs := boolC (mLow m (k + 1))) (by rw [boolC_size]; omega), if_neg (by omega), Array.getElem?_eq_none (by rw [boolC_size]; omega)]
theorem boolC_ext (p q : Mem) (h : ∀ b, b < 256 → p b = q b) : boolC p = boolC q := by
  unfold boolC
  congr 1
  exact List.map_congr_left fun b hb => by rw [h b (List.mem_range.1 hb)]

end Go.Proofs.Ytmkddhkpeiajhaa

/-
  Rows of 256 bools: one cell set, all cells set.
-/
namespace Go.Proofs.Ytmkddhkpeiajhaa
open Go.RowKit

theorem boolC_with (m : Mem) (b : Nat) (hb : b < 256) : (boolC m).setIfInBounds b (.bool true) = boolC (mWith m b) := by
  apply Array.ext_getElem?
  intro i
  rw [Array.getElem?_setIfInBounds]
  by_cases hi : i < 256
  · by_cases e : b = i
    · subst e
      rw [if_pos rfl, if_pos (by rw [boolC_size]; exact hb), boolC_get _ hi]
      unfold mWith
      simp
    · rw [if_neg e, boolC_get _ hi, boolC_get _ hi]
      unfold mWith
      have : (i == b) = false := by rw [beq_eq_false_iff_ne]; omega
      rw [this, Bool.or_false]
  · rw [Array.getElem?_eq_none (xs := boolC (mWith m b)) (by rw [boolC_size]; omega), if_neg (by omega), Array.getElem?_eq_none (by rw [boolC_size]; omega)]

/-- cells from a place on, written anew -/
def over : Array Value → Nat → List Value → Array Value
  | cs, _, [] => cs
  | cs, o, v :: l => over (cs.setIfInBounds o v) (o + 1) l
theorem over_size : ∀ (l : List Value) (cs : Array Value) (o : Nat), (over cs o l).size = cs.size
  | [], _, _ => rfl
  | v :: l, cs, o => by rw [over, over_size l]; simp
theorem over_get : ∀ (l : List Value) (cs : Array Value) (o j : Nat), j < cs.size → (over cs o l)[j]? = if o ≤ j ∧ j < o + l.length then l[j - o]? else cs[j]?
  | [], cs, o, j, _ => by rw [over, if_neg (by simp only [List.length_nil]; omega)]
  | v :: l, cs, o, j, hj => by
    rw [over, over_get l _ (o + 1) j (by simpa using hj), Array.getElem?_setIfInBounds]
    by_cases h1 : j = o
    · subst h1
      rw [if_neg (by omega), if_pos rfl, if_pos hj, if_pos (by simp only [List.length_cons]; omega), Nat.sub_self]
      rfl
    · by_cases h2 : o + 1 ≤ j ∧ j < o + 1 + l.length
      · rw [if_pos h2, if_pos (by simp only [List.length_cons]; omega), show j - o = (j - (o + 1)) + 1 by omega, List.getElem?_cons_succ]
      · rw [if_neg h2, if_neg (Ne.symm h1), if_neg (by simp only [List.length_cons]; omega)]
theorem over_all (cs : Array Value) (l : List Value) (h : cs.size = l.length) : over cs 0 l = l.toArray := by
  apply Array.ext_getElem?
  intro j
  by_cases hj : j < cs.size
  · rw [over_get l cs 0 j hj, if_pos (by omega), Nat.sub_zero, List.getElem?_toArray]
  · rw [Array.getElem?_eq_none (by rw [over_size]; omega), Array.getElem?_eq_none (by rw [List.size_toArray]; omega)]
theorem Blk.setCells {g : Nat} {t : TypeId} : ∀ (l : List Value) {w : World} {cs : Array Value} (_h : Blk w g t cs) (o : Nat), Blk (w.setCells g o l) g t (over cs o l)
  | [], _, _, h, _ => h
  | v :: l, _, _, h, o => Blk.setCells l (h.set_ o v) (o + 1)
theorem Blk.farCells {g g' : Nat} {t : TypeId} : ∀ (l : List Value) {w : World} {cs : Array Value} (_h : Blk w g t cs) (_hne : g ≠ g') (o : Nat), Blk (w.setCells g' o l) g t cs
  | [], _, _, h, _, _ => h
  | v :: l, _, _, h, hne, o => Blk.farCells l (h.far (p := ⟨g', o, none⟩) hne v) hne (o + 1)
theorem Blk.setBools {w : World} {g : Nat} {t : TypeId} {m p : Mem} (h : Blk w g t (boolC m)) : Blk (w.setCells g 0 (boolC p).toList) g t (boolC p) := by
  have := Blk.setCells (boolC p).toList h 0
  rwa [over_all _ _ (by rw [boolC_size, Array.length_toList, boolC_size]), Array.toArray_toList] at this
theorem sizeCellsL : ∀ (l : List Value) (w : World) (g o : Nat), w.heap.size ≤ (w.setCells g o l).heap.size
  | [], _, _, _ => Nat.le_refl _
  | v :: l, w, g, o => Nat.le_trans (by simp) (sizeCellsL l (w.setCell ⟨g, o, none⟩ v) g (o + 1))

end Go.Proofs.Ytmkddhkpeiajhaa
