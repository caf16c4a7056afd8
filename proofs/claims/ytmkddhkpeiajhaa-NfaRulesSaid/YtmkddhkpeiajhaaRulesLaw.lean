/-
  What a raw tree is turned to is a right tree; what NfaRules holds against one another: plain.
-/
import Derived.Test.YtmkddhkpeiajhaaWordsT
import Derived.Test.YtmkddhkpeiajhaaPrintAll
import Derived.Test.YtmkddhkpeiajhaaNfaPlain
import Derived.Test.YtmkddhkpeiajhaaRunAll
namespace Go.Proofs.Ytmkddhkpeiajhaa

theorem shaped0 {k : Int} {s : W4} {d : Int} (hk : kidsOf k = 0) (hs : k = 1 ∨ s = z4) (hd : 1 ≤ d) : shapedT (.node k s []) d = some 1 := by
  rw [shapedT, if_neg]
  · simp only [List.length_nil, if_true]
    rw [shapedL]
  · intro h
    rcases h with h | h | ⟨h1, h2⟩
    · omega
    · exact h (by rw [hk]; rfl)
    · rcases hs with hs | hs
      · exact h1 hs
      · exact h2 hs
theorem shaped1 {k : Int} {a : Tree} {d : Int} {n : Nat} (hk : kidsOf k = 1) (h : shapedT a (d - 1) = some n) (hn : n ≤ 400) (hd : 1 ≤ d) : shapedT (.node k z4 [a]) d = some n := by
  rw [shapedT, if_neg]
  · simp only [List.length_cons, List.length_nil]
    rw [if_neg (by omega), shapedL, show d - 1 + ((0 : Nat) : Int) = d - 1 by omega, h]
    simp only
    rw [if_neg (by omega), shapedL, Nat.zero_add]
  · intro h
    rcases h with h | h | ⟨_, h2⟩
    · omega
    · exact h (by rw [hk]; rfl)
    · exact h2 rfl
theorem shaped2 {k : Int} {a b : Tree} {d : Int} {n m : Nat} (hk : kidsOf k = 2) (h1 : shapedT a (d - 1) = some n) (h2 : shapedT b d = some m) (hn : n + m ≤ 400) (hd : 1 ≤ d) : shapedT (.node k z4 [a, b]) d = some (n + m) := by
  rw [shapedT, if_neg]
  · simp only [List.length_cons, List.length_nil]
    rw [if_neg (by omega), shapedL, show d - 1 + ((0 : Nat) : Int) = d - 1 by omega, h1]
    simp only
    rw [if_neg (by omega), shapedL, show d - 1 + ((0 + 1 : Nat) : Int) = d by omega, h2]
    simp only
    rw [if_neg (by omega), shapedL, Nat.zero_add]
  · intro h
    rcases h with h | h | ⟨_, h2⟩
    · omega
    · exact h (by rw [hk]; rfl)
    · exact h2 rfl
theorem shaped_of_fit : ∀ (r : Rx) (d : Int), (dpR r : Int) ≤ d → lvR r ≤ 400 → shapedT (rxT r) d = some (lvR r)
  | .eps, d, h, _ => by unfold dpR at h; unfold lvR; exact shaped0 rfl (.inr rfl) (by omega)
  | .set s, d, h, _ => by unfold dpR at h; unfold lvR; exact shaped0 rfl (.inl rfl) (by omega)
  | .first, d, h, _ => by unfold dpR at h; unfold lvR; exact shaped0 rfl (.inr rfl) (by omega)
  | .last, d, h, _ => by unfold dpR at h; unfold lvR; exact shaped0 rfl (.inr rfl) (by omega)
  | .cat a b, d, h, h2 => by
    unfold dpR at h
    unfold lvR at h2 ⊢
    exact shaped2 rfl (shaped_of_fit a _ (by omega) (by omega)) (shaped_of_fit b _ (by omega) (by omega)) h2 (by omega)
  | .alt a b, d, h, h2 => by
    unfold dpR at h
    unfold lvR at h2 ⊢
    exact shaped2 rfl (shaped_of_fit a _ (by omega) (by omega)) (shaped_of_fit b _ (by omega) (by omega)) h2 (by omega)
  | .star a, d, h, h2 => by
    unfold dpR at h
    unfold lvR at h2 ⊢
    exact shaped1 rfl (shaped_of_fit a _ (by omega) h2) h2 (by omega)
  | .plus a, d, h, h2 => by
    unfold dpR at h
    unfold lvR at h2 ⊢
    exact shaped1 rfl (shaped_of_fit a _ (by omega) h2) h2 (by omega)
  | .opt a, d, h, h2 => by
    unfold dpR at h
    unfold lvR at h2 ⊢
    exact shaped1 rfl (shaped_of_fit a _ (by omega) h2) h2 (by omega)
theorem right_fit {r : Rx} (h1 : dpR r ≤ 40) (h2 : lvR r ≤ 400) : rightT (rxT r) = true := by
  unfold rightT
  rw [shaped_of_fit r 40 (by omega) h2]
  rfl

/-- a right tree of at most so many signs in one another and so many leaves -/
def GoodT (m n : Nat) (t : Tree) : Prop := ∃ r, t = rxT r ∧ okR r ∧ dpR r ≤ m ∧ lvR r ≤ n
theorem good_one {m n : Nat} (hm : 1 ≤ m) (hn : 1 ≤ n) (b : Nat) : GoodT m n (tOne b) := ⟨.set (w4 (mOf [UInt8.ofNat b])), rfl, okW_w4 _, by unfold dpR; omega, by unfold lvR; omega⟩
theorem good_odd {m n : Nat} (hm : 1 ≤ m) (hn : 1 ≤ n) (x : Int) : GoodT m n (.node (if x % 3 = 0 then 0 else if x % 3 = 1 then 7 else 8) z4 []) := by
  split
  · exact ⟨.eps, rfl, trivial, by unfold dpR; omega, by unfold lvR; omega⟩
  · split
    · exact ⟨.first, rfl, trivial, by unfold dpR; omega, by unfold lvR; omega⟩
    · exact ⟨.last, rfl, trivial, by unfold dpR; omega, by unfold lvR; omega⟩
theorem good_kid {m n : Nat} (hm : 1 ≤ m) (hn : 1 ≤ n) (f : HTree → Tree) (D : Nat) (hf : ∀ u, GoodT m n (f u)) (t : HTree) (i : Nat) : GoodT m n (reKid f D t i) := by
  unfold reKid
  cases t.kids[i]? with
  | none => exact good_one hm hn _
  | some u =>
    show GoodT m n (if _ then _ else _)
    split
    · exact hf u
    · exact good_one hm hn _
theorem good_low {m n : Nat} (hm : 1 ≤ m) (hn : 1 ≤ n) (f : HTree → Tree) (D : Nat) (t : HTree) (k : Nat) (hk : ¬ (k = 5 ∨ k = 6 ∨ k = 7 ∨ k = 8 ∨ k = 9 ∨ k = 10 ∨ k = 11)) : GoodT m n (reSw f D t k) := by
  unfold reSw
  rw [if_neg (by omega), if_neg (by omega), if_neg (by omega), if_neg (by omega), if_neg (by omega)]
  split
  · exact good_one hm hn _
  · split
    · exact ⟨.set (w4 (hSet t.num)), rfl, okW_w4 _, by unfold dpR; omega, by unfold lvR; omega⟩
    · split
      · exact good_odd hm hn _
      · exact good_one hm hn _
theorem good_sw {m n : Nat} (hm : 1 ≤ m) (hn : 1 ≤ n) (f : HTree → Tree) (D : Nat) (hf : ∀ u, GoodT m n (f u)) (t : HTree) (k : Nat) : GoodT (m + 1) (n + n) (reSw f D t k) := by
  obtain ⟨r0, e0, k0, d0, l0⟩ := good_kid hm hn f D hf t 0
  obtain ⟨r1, e1, k1, d1, l1⟩ := good_kid hm hn f D hf t 1
  by_cases hk : k = 5 ∨ k = 6 ∨ k = 7 ∨ k = 8 ∨ k = 9 ∨ k = 10 ∨ k = 11
  · unfold reSw
    by_cases h1 : k = 5 ∨ k = 6
    · rw [if_pos h1, e0, e1]
      exact ⟨.cat r0 r1, rfl, ⟨k0, k1⟩, by unfold dpR; omega, by unfold lvR; omega⟩
    · rw [if_neg h1]
      by_cases h2 : k = 7 ∨ k = 8
      · rw [if_pos h2, e0, e1]
        exact ⟨.alt r0 r1, rfl, ⟨k0, k1⟩, by unfold dpR; omega, by unfold lvR; omega⟩
      · rw [if_neg h2]
        by_cases h3 : k = 9
        · rw [if_pos h3, e0]
          exact ⟨.star r0, rfl, k0, by unfold dpR; omega, by unfold lvR; omega⟩
        · rw [if_neg h3]
          by_cases h4 : k = 10
          · rw [if_pos h4, e0]
            exact ⟨.plus r0, rfl, k0, by unfold dpR; omega, by unfold lvR; omega⟩
          · rw [if_neg h4, if_pos (by omega), e0]
            exact ⟨.opt r0, rfl, k0, by unfold dpR; omega, by unfold lvR; omega⟩
  · exact good_low (by omega) (by omega) f D t k hk
theorem good_re : ∀ (D : Nat) (t : HTree), GoodT (D + 1) (2 ^ D) (reF D t)
  | 0, t => by
    unfold reF reStep
    refine good_low (Nat.le_refl _) (Nat.le_refl _) _ _ t _ ?_
    split <;> omega
  | D + 1, t => by
    unfold reF reStep
    rw [Nat.pow_succ, Nat.mul_two]
    exact good_sw (by omega) (Nat.one_le_two_pow) _ _ (good_re D) t _

theorem enN_endO (R : Option (Nat × Nat)) : enN R = endO R := by cases R <;> rfl
/-- the six answers -/
theorem rules_six (x : List UInt8) (a b : Rx) (f : Nat) (hf : f ≤ x.length) :
    ∃ (A B L S P Q : Option (Nat × Nat)), findF (machF a) x f f = A ∧ findF (machF b) x f f = B ∧ findF (machF (.alt a b)) x f f = L ∧ findF (machF (.star a)) x f f = S ∧ findF (machF (.plus a)) x f f = P ∧ findF (machF (.opt a)) x f f = Q ∧
      L.isSome = (A.isSome || B.isSome) ∧ S.isSome = true ∧ Q.isSome = true ∧ P.isSome = A.isSome ∧
      (A.isSome = true → B.isSome = true → enN L = max (enN A) (enN B)) ∧ (A.isSome = true → B.isSome = false → enN L = enN A) ∧ (A.isSome = false → B.isSome = true → enN L = enN B) ∧
      f ≤ enN S ∧ (A.isSome = true → enN A ≤ enN S ∧ enN P = enN S ∧ enN Q = max f (enN A)) ∧ (A.isSome = false → enN S = f ∧ enN Q = f) := by
  refine ⟨_, _, _, _, _, _, rfl, rfl, rfl, rfl, rfl, rfl, ?_⟩
  simp only [enN_endO]
  exact rules_law x a b f hf (fun r => findF (machF r) x f f) (fun r => find_law r x f f hf hf)

end Go.Proofs.Ytmkddhkpeiajhaa
