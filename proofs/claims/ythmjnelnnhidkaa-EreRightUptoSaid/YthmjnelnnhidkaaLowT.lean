/-
  Trees of small height: plain.
-/
import Derived.Test.YthmjnelnnhidkaaRightLaw
import Derived.Test.YthmjnelnnhidkaaHRe
namespace Go.Proofs.Ythmjnelnnhidkaa

/-- of so many storeys at most -/
def lowT : Nat → Tree → Prop
  | 0, _ => False
  | D + 1, t => ∀ u ∈ t.kids, lowT D u
theorem low_leaf (D : Nat) (k : Int) (s : W4) : lowT (D + 1) (.node k s []) := fun _ h => by cases h
theorem low_sets : ∀ (D : Nat) (t : Tree), lowT D t → shapedR t = true → setsR t ≤ 2 ^ D
  | 0, _, h, _ => h.elim
  | D + 1, .node k s ks, h, hs => by
    unfold shapedR at hs
    simp only [Bool.and_eq_true, decide_eq_true_eq] at hs
    have hlen := kids_two hs.1.1
    have hp : 0 < 2 ^ D := Nat.pow_pos (by omega)
    rw [Nat.pow_succ]
    match ks, hlen with
    | [], _ => rw [setsR]; simp; omega
    | [a], _ =>
      have ha := low_sets D a (h a (by show a ∈ [a]; simp)) (by have := hs.2; rw [shapedRL, shapedRL, Bool.and_true] at this; exact this)
      rw [setsR, if_neg (by simp), setsRL, setsRL]; omega
    | [a, b], _ =>
      have h2 := hs.2
      rw [shapedRL, shapedRL, shapedRL, Bool.and_true, Bool.and_eq_true] at h2
      have ha := low_sets D a (h a (by show a ∈ [a, b]; simp)) h2.1
      have hb := low_sets D b (h b (by show b ∈ [a, b]; simp)) h2.2
      rw [setsR, if_neg (by simp), setsRL, setsRL, setsRL]; omega
theorem low_twist : ∀ (D : Nat) (t : HTree), lowT (D + 1) (twistF D t)
  | 0, t => by unfold twistF; exact low_leaf 0 _ _
  | D + 1, t => by
    unfold twistF
    intro u hu
    obtain ⟨v, _, rfl⟩ := List.mem_map.1 (show u ∈ t.kids.map (twistF D) from hu)
    exact low_twist D v
theorem low_kid (f : HTree → Tree) (D : Nat) (hf : ∀ u, lowT (D + 1) (f u)) (t : HTree) (i : Nat) : lowT (D + 1) (reKid f (D + 1) t i) := by
  unfold reKid
  cases t.kids[i]? with
  | none => exact low_leaf D _ _
  | some u => show lowT _ (if _ then _ else _); rw [if_pos (by omega)]; exact hf u
theorem low_sw (f : HTree → Tree) (D : Nat) (hf : ∀ u, lowT (D + 1) (f u)) (t : HTree) (k : Nat) : lowT (D + 2) (reSw f (D + 1) t k) := by
  have hk := low_kid f D hf t
  unfold reSw
  have two : ∀ c, lowT (D + 2) (.node c z4 [reKid f (D + 1) t 0, reKid f (D + 1) t 1]) := fun c u hu => by
    have hu : u ∈ [reKid f (D + 1) t 0, reKid f (D + 1) t 1] := hu
    simp only [List.mem_cons, List.not_mem_nil, or_false] at hu
    rcases hu with rfl | rfl <;> exact hk _
  have one : ∀ c, lowT (D + 2) (.node c z4 [reKid f (D + 1) t 0]) := fun c u hu => by
    have hu : u ∈ [reKid f (D + 1) t 0] := hu
    simp only [List.mem_cons, List.not_mem_nil, or_false] at hu
    subst hu; exact hk _
  repeat' split
  all_goals first | exact two _ | exact one _ | exact low_leaf _ _ _
theorem low_sw0 (f : HTree → Tree) (t : HTree) (k : Nat) (hk : k ≤ 4) : lowT 1 (reSw f 0 t k) := by
  unfold reSw
  rw [if_neg (by omega), if_neg (by omega), if_neg (by omega), if_neg (by omega), if_neg (by omega)]
  repeat' split
  all_goals exact low_leaf _ _ _
theorem low_re : ∀ (D : Nat) (t : HTree), lowT (D + 1) (reF D t)
  | 0, t => by
    unfold reF reStep
    exact low_sw0 _ _ _ (by split <;> omega)
  | D + 1, t => by
    unfold reF reStep
    exact low_sw _ D (low_re D) t _

end Go.Proofs.Ythmjnelnnhidkaa
