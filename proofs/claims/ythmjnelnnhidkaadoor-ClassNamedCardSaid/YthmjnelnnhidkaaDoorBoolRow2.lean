/-
  Rows of 256 bools: one cell set, all cells set.
-/
import Derived.Test.YthmjnelnnhidkaaDoorBoolRow
namespace Go.Proofs.YthmjnelnnhidkaaDoor
open Go.RowKit

theorem boolC_with (m : Mem) (b : Nat) (hb : b < 256) : (boolC m).setIfInBounds b (.bool true) = boolC (mWith m b) := by
  apply Array.ext_getElem?
  intro i
  rw [Array.getElem?_setIfInBounds]
  by_cases hi : i < 256
  · by_cases e : b = i
    · subst e
      rw [if_pos rfl, if_pos (by rw [boolC_size]; exact hb), boolC_get _ hi]
      unfold mWith
      simp
    · rw [if_neg e, boolC_get _ hi, boolC_get _ hi]
      unfold mWith
      have : (i == b) = false := by rw [beq_eq_false_iff_ne]; omega
      rw [this, Bool.or_false]
  · rw [Array.getElem?_eq_none (xs := boolC (mWith m b)) (by rw [boolC_size]; omega), if_neg (by omega), Array.getElem?_eq_none (by rw [boolC_size]; omega)]

/-- cells from a place on, written anew -/
def over : Array Value → Nat → List Value → Array Value
  | cs, _, [] => cs
  | cs, o, v :: l => over (cs.setIfInBounds o v) (o + 1) l
theorem over_size : ∀ (l : List Value) (cs : Array Value) (o : Nat), (over cs o l).size = cs.size
  | [], _, _ => rfl
  | v :: l, cs, o => by rw [over, over_size l]; simp
theorem over_get : ∀ (l : List Value) (cs : Array Value) (o j : Nat), j < cs.size → (over cs o l)[j]? = if o ≤ j ∧ j < o + l.length then l[j - o]? else cs[j]?
  | [], cs, o, j, _ => by rw [over, if_neg (by simp only [List.length_nil]; omega)]
  | v :: l, cs, o, j, hj => by
    rw [over, over_get l _ (o + 1) j (by simpa using hj), Array.getElem?_setIfInBounds]
    by_cases h1 : j = o
    · subst h1
      rw [if_neg (by omega), if_pos rfl, if_pos hj, if_pos (by simp only [List.length_cons]; omega), Nat.sub_self]
      rfl
    · by_cases h2 : o + 1 ≤ j ∧ j < o + 1 + l.length
      · rw [if_pos h2, if_pos (by simp only [List.length_cons]; omega), show j - o = (j - (o + 1)) + 1 by omega, List.getElem?_cons_succ]
      · rw [if_neg h2, if_neg (Ne.symm h1), if_neg (by simp only [List.length_cons]; omega)]
theorem over_all (cs : Array Value) (l : List Value) (h : cs.size = l.length) : over cs 0 l = l.toArray := by
  apply Array.ext_getElem?
  intro j
  by_cases hj : j < cs.size
  · rw [over_get l cs 0 j hj, if_pos (by omega), Nat.sub_zero, List.getElem?_toArray]
  · rw [Array.getElem?_eq_none (by rw [over_size]; omega), Array.getElem?_eq_none (by rw [List.size_toArray]; omega)]
theorem Blk.setCells {g : Nat} {t : TypeId} : ∀ (l : List Value) {w : World} {cs : Array Value} (_h : Blk w g t cs) (o : Nat), Blk (w.setCells g o l) g t (over cs o l)
  | [], _, _, h, _ => h
  | v :: l, _, _, h, o => Blk.setCells l (h.set_ o v) (o + 1)
theorem Blk.farCells {g g' : Nat} {t : TypeId} : ∀ (l : List Value) {w : World} {cs : Array Value} (_h : Blk w g t cs) (_hne : g ≠ g') (o : Nat), Blk (w.setCells g' o l) g t cs
  | [], _, _, h, _, _ => h
  | v :: l, _, _, h, hne, o => Blk.farCells l (h.far (p := ⟨g', o, none⟩) hne v) hne (o + 1)
theorem Blk.setBools {w : World} {g : Nat} {t : TypeId} {m p : Mem} (h : Blk w g t (boolC m)) : Blk (w.setCells g 0 (boolC p).toList) g t (boolC p) := by
  have := Blk.setCells (boolC p).toList h 0
  rwa [over_all _ _ (by rw [boolC_size, Array.length_toList, boolC_size]), Array.toArray_toList] at this
theorem sizeCellsL : ∀ (l : List Value) (w : World) (g o : Nat), w.heap.size ≤ (w.setCells g o l).heap.size
  | [], _, _, _ => Nat.le_refl _
  | v :: l, w, g, o => Nat.le_trans (by simp) (sizeCellsL l (w.setCell ⟨g, o, none⟩ v) g (o + 1))

end Go.Proofs.YthmjnelnnhidkaaDoor
