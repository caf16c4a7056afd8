/-
  The trees that the arguments give hold words: plain.
-/
import Derived.Test.YtmkddhkpeiajhaaReAll
import Derived.Test.YtmkddhkpeiajhaaEText
namespace Go.Proofs.Ytmkddhkpeiajhaa

theorem okW_w4 (p : Mem) : okW (w4 p) := ⟨word_lt p 0, word_lt p 1, word_lt p 2, word_lt p 3⟩
theorem okW_z : okW z4 := by unfold okW z4; decide
theorem wT_leaf {k : Int} {s : W4} (h : okW s) : wT (.node k s []) := by unfold wT wL; exact ⟨h, trivial⟩
theorem wL_all : ∀ {ts : List Tree}, (∀ t ∈ ts, wT t) → wL ts
  | [], _ => by unfold wL; trivial
  | t :: ts, h => by unfold wL; exact ⟨h t (by simp), wL_all fun u hu => h u (by simp [hu])⟩
theorem wT_node {k : Int} {s : W4} {ks : List Tree} (h : okW s) (hk : ∀ t ∈ ks, wT t) : wT (.node k s ks) := by unfold wT; exact ⟨h, wL_all hk⟩
theorem okW_tw (n : Int) : okW (twSet n) := by
  have hw : wrapN n < 18446744073709551616 := by unfold wrapN; omega
  unfold twSet okW
  repeat' split
  all_goals (simp only [z4]; omega)
theorem wT_twist : ∀ (D : Nat) (t : HTree), wT (twistF D t)
  | 0, t => by unfold twistF; exact wT_leaf (okW_tw _)
  | D + 1, t => by
    unfold twistF
    exact wT_node (okW_tw _) fun u hu => by
      obtain ⟨v, _, rfl⟩ := List.mem_map.1 hu
      exact wT_twist D v
theorem wT_one (b : Nat) : wT (tOne b) := by unfold tOne; exact wT_leaf (okW_w4 _)
theorem wT_kid (f : HTree → Tree) (D : Nat) (hf : ∀ u, wT (f u)) (t : HTree) (i : Nat) : wT (reKid f D t i) := by
  unfold reKid
  cases t.kids[i]? with
  | none => unfold abOf; exact wT_one _
  | some u =>
    show wT (if _ then _ else _)
    split
    · exact hf u
    · exact wT_one _
theorem wT_sw (f : HTree → Tree) (D : Nat) (hf : ∀ u, wT (f u)) (t : HTree) (k : Nat) : wT (reSw f D t k) := by
  have hk := wT_kid f D hf t
  have two : ∀ c, wT (.node c z4 [reKid f D t 0, reKid f D t 1]) := fun c => wT_node okW_z fun u hu => by
    simp only [List.mem_cons, List.not_mem_nil, or_false] at hu
    rcases hu with rfl | rfl <;> exact hk _
  have one : ∀ c, wT (.node c z4 [reKid f D t 0]) := fun c => wT_node okW_z fun u hu => by
    simp only [List.mem_cons, List.not_mem_nil, or_false] at hu
    subst hu; exact hk _
  unfold reSw
  by_cases h1 : k = 5 ∨ k = 6
  · rw [if_pos h1]; exact two 2
  · rw [if_neg h1]
    by_cases h2 : k = 7 ∨ k = 8
    · rw [if_pos h2]; exact two 3
    · rw [if_neg h2]
      by_cases h3 : k = 9
      · rw [if_pos h3]; exact one 4
      · rw [if_neg h3]
        by_cases h4 : k = 10
        · rw [if_pos h4]; exact one 5
        · rw [if_neg h4]
          by_cases h5 : k = 11
          · rw [if_pos h5]; exact one 6
          · rw [if_neg h5]
            by_cases h6 : k = 0 ∨ k = 1
            · rw [if_pos h6]; exact wT_one _
            · rw [if_neg h6]
              by_cases h7 : k = 2
              · rw [if_pos h7]; exact wT_leaf (okW_w4 _)
              · rw [if_neg h7]
                by_cases h8 : k = 3
                · rw [if_pos h8]; exact wT_leaf okW_z
                · rw [if_neg h8]; exact wT_one _
theorem wT_re : ∀ (D : Nat) (t : HTree), wT (reF D t)
  | 0, t => by
    unfold reF reStep
    exact wT_sw _ _ (fun _ => wT_leaf okW_z) _ _
  | D + 1, t => by
    unfold reF reStep
    exact wT_sw _ _ (wT_re D) _ _

end Go.Proofs.Ytmkddhkpeiajhaa
