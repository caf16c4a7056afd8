/-
  What package ere prints of a tree: plain.
-/
import Derived.Test.YtmkddhkpeiajhaaDoorQuote
namespace Go.Proofs.YtmkddhkpeiajhaaDoor
open Go.RowKit

/-! ### plain -/
def okW (s : W4) : Prop := s.1 < 18446744073709551616 ∧ s.2.1 < 18446744073709551616 ∧ s.2.2.1 < 18446744073709551616 ∧ s.2.2.2 < 18446744073709551616
/-- a set's words as a set -/
def memW (s : W4) : Mem := fun b => if b < 64 then s.1.testBit b else if b < 128 then s.2.1.testBit (b - 64) else if b < 192 then s.2.2.1.testBit (b - 128) else if b < 256 then s.2.2.2.testBit (b - 192) else false
theorem word_of (p : Mem) (i x : Nat) (hx : x < 2 ^ 64) (h : ∀ j, j < 64 → p (64 * i + j) = x.testBit j) : word p i = x := by
  apply Nat.eq_of_testBit_eq
  intro j
  show (nbits _ 64).testBit j = _
  rw [nbits_bit]
  by_cases hj : j < 64
  · rw [decide_eq_true hj, Bool.true_and, ← h j hj]
  · rw [decide_eq_false hj, Bool.false_and]
    exact (Nat.testBit_lt_two_pow (Nat.lt_of_lt_of_le hx (Nat.pow_le_pow_right (by omega) (by omega)))).symm
theorem w4_mem {s : W4} (h : okW s) : w4 (memW s) = s := by
  obtain ⟨s0, s1, s2, s3⟩ := s
  obtain ⟨h0, h1, h2, h3⟩ := h
  have e0 : word (memW (s0, s1, s2, s3)) 0 = s0 := word_of _ 0 s0 h0 fun j hj => by unfold memW; rw [if_pos (by omega)]; rw [show 64 * 0 + j = j by omega]
  have e1 : word (memW (s0, s1, s2, s3)) 1 = s1 := word_of _ 1 s1 h1 fun j hj => by unfold memW; rw [if_neg (by omega), if_pos (by omega)]; rw [show 64 * 1 + j - 64 = j by omega]
  have e2 : word (memW (s0, s1, s2, s3)) 2 = s2 := word_of _ 2 s2 h2 fun j hj => by unfold memW; rw [if_neg (by omega), if_neg (by omega), if_pos (by omega)]; rw [show 64 * 2 + j - 128 = j by omega]
  have e3 : word (memW (s0, s1, s2, s3)) 3 = s3 := word_of _ 3 s3 h3 fun j hj => by unfold memW; rw [if_neg (by omega), if_neg (by omega), if_neg (by omega), if_pos (by omega)]; rw [show 64 * 3 + j - 192 = j by omega]
  unfold w4
  rw [e0, e1, e2, e3]

/-- the bytes of a set, up to one of them -/
def setUp (m : Mem) (j : Nat) : List UInt8 := (List.range j).flatMap fun b => if m b then octD b else []
def setL (m : Mem) : List UInt8 := if cntN m 256 = 256 then [46] else if cntN m 256 = 0 then [91, 94, 92, 48, 48, 48, 45, 92, 51, 55, 55, 93] else 91 :: (setUp m 256 ++ [93])
theorem setUp_succ (m : Mem) (j : Nat) : setUp m (j + 1) = setUp m j ++ (if m j then octD j else []) := by
  unfold setUp
  rw [List.range_succ, List.flatMap_append]
  simp
theorem setUp_len (m : Mem) : ∀ j, (setUp m j).length ≤ 4 * j
  | 0 => by simp [setUp]
  | j + 1 => by
    have := setUp_len m j
    rw [setUp_succ, List.length_append]
    split
    · rw [octD_len]; omega
    · simp; omega
theorem setL_len (m : Mem) : (setL m).length ≤ 1026 := by
  have := setUp_len m 256
  unfold setL
  split
  · simp
  · split
    · simp
    · simp only [List.length_cons, List.length_append, List.length_nil]; omega

mutual
/-- all sets' words are words -/
def wT : Tree → Prop
  | .node _ s ks => okW s ∧ wL ks
def wL : List Tree → Prop
  | [] => True
  | t :: ts => wT t ∧ wL ts
end
theorem wL_get : ∀ {ts : List Tree} (_h : wL ts) {t : Tree}, t ∈ ts → wT t
  | [], _, _, ht => by cases ht
  | u :: us, h, t, ht => by
    unfold wL at h
    rcases List.mem_cons.1 ht with rfl | ht
    · exact h.1
    · exact wL_get h.2 ht

/-- a tree's text -/
def textT : Tree → List UInt8
  | .node k s [] => if k = 0 then [40, 46, 63, 41, 123, 48, 125] else if k = 1 then setL (memW s) else if k = 7 then [94] else [36]
  | .node k _ [a] => if k = 4 then [40] ++ textT a ++ [41, 42] else if k = 5 then [40] ++ textT a ++ [41, 43] else [40] ++ textT a ++ [41, 63]
  | .node k _ [a, b] => if k = 2 then [40] ++ textT a ++ [41, 40] ++ textT b ++ [41] else [40, 40] ++ textT a ++ [41, 124, 40] ++ textT b ++ [41, 41]
  | _ => []
def printT (t : Tree) : List UInt8 := if rightT t then textT t else []

/-- what a right tree is -/
theorem shaped_cases {k : Int} {s : W4} {ks : List Tree} {D : Int} {n : Nat} (h : shapedT (.node k s ks) D = some n) :
    1 ≤ D ∧ n ≤ 400 ∧ ((ks = [] ∧ n = 1 ∧ (k = 0 ∨ k = 1 ∨ k = 7 ∨ k = 8)) ∨ (∃ a, ks = [a] ∧ shapedT a (D - 1) = some n ∧ (k = 4 ∨ k = 5 ∨ k = 6)) ∨ (∃ a b n1 n2, ks = [a, b] ∧ shapedT a (D - 1) = some n1 ∧ shapedT b D = some n2 ∧ n = n1 + n2 ∧ (k = 2 ∨ k = 3))) ∧ (k ≠ 1 → s = z4) := by
  have hle := shapedT_le _ _ _ h
  unfold shapedT at h
  by_cases hc : D < 1 ∨ kidsOf k ≠ (ks.length : Int) ∨ (k ≠ 1 ∧ s ≠ z4)
  · rw [if_pos hc] at h; cases h
  · rw [if_neg hc] at h
    simp only [not_or, not_and, Decidable.not_not] at hc
    obtain ⟨h1, h2, h3⟩ := hc
    refine ⟨by omega, hle, ?_, h3⟩
    have hk : (k = 0 ∨ k = 1 ∨ k = 7 ∨ k = 8) ∧ kidsOf k = 0 ∨ (k = 2 ∨ k = 3) ∧ kidsOf k = 2 ∨ (k = 4 ∨ k = 5 ∨ k = 6) ∧ kidsOf k = 1 ∨ kidsOf k = -1 := by
      unfold kidsOf
      by_cases q1 : k = 0 ∨ k = 1 ∨ k = 7 ∨ k = 8
      · rw [if_pos q1]; exact .inl ⟨q1, rfl⟩
      · rw [if_neg q1]
        by_cases q2 : k = 2 ∨ k = 3
        · rw [if_pos q2]; exact .inr (.inl ⟨q2, rfl⟩)
        · rw [if_neg q2]
          by_cases q3 : k = 4 ∨ k = 5 ∨ k = 6
          · rw [if_pos q3]; exact .inr (.inr (.inl ⟨q3, rfl⟩))
          · rw [if_neg q3]; exact .inr (.inr (.inr rfl))
    rcases hk with ⟨hk, e⟩ | ⟨hk, e⟩ | ⟨hk, e⟩ | e
    · rw [e] at h2
      obtain rfl : ks = [] := List.eq_nil_of_length_eq_zero (by omega)
      left
      rw [shapedL_nil] at h
      injection h with h
      exact ⟨rfl, h.symm, hk⟩
    · rw [e] at h2
      have hl : ks.length = 2 := by omega
      match ks, hl with
      | [a, b], _ =>
        right; right
        rw [shapedL_cons] at h
        cases h5 : shapedT a (D - 1 + ((0 : Nat) : Int)) with
        | none => rw [h5] at h; cases h
        | some n1 =>
          rw [h5] at h
          simp only at h
          by_cases h6 : 400 < (if [a, b].length = 0 then 1 else 0) + n1
          · rw [if_pos h6] at h; cases h
          · rw [if_neg h6, shapedL_cons] at h
            cases h7 : shapedT b (D - 1 + ((0 + 1 : Nat) : Int)) with
            | none => rw [h7] at h; cases h
            | some n2 =>
              rw [h7] at h
              simp only at h
              by_cases h8 : 400 < (if [a, b].length = 0 then 1 else 0) + n1 + n2
              · rw [if_pos h8] at h; cases h
              · rw [if_neg h8, shapedL_nil] at h
                injection h with h
                refine ⟨a, b, n1, n2, rfl, ?_, ?_, ?_, hk⟩
                · rw [← h5]; congr 1; omega
                · rw [← h7]; congr 1; omega
                · rw [← h]; simp
    · rw [e] at h2
      have hl : ks.length = 1 := by omega
      match ks, hl with
      | [a], _ =>
        right; left
        rw [shapedL_cons] at h
        cases h5 : shapedT a (D - 1 + ((0 : Nat) : Int)) with
        | none => rw [h5] at h; cases h
        | some n1 =>
          rw [h5] at h
          simp only at h
          by_cases h6 : 400 < (if [a].length = 0 then 1 else 0) + n1
          · rw [if_pos h6] at h; cases h
          · rw [if_neg h6, shapedL_nil] at h
            injection h with h
            refine ⟨a, rfl, ?_, hk⟩
            rw [show D - 1 = D - 1 + ((0 : Nat) : Int) by omega, h5, ← h]
            simp
    · omega

/-- how long a text is -/
theorem text_len : ∀ (fuel : Nat) (t : Tree) (D : Nat) (n : Nat), SizeOf.sizeOf t ≤ fuel → shapedT t (D : Int) = some n → 1 ≤ n ∧ (textT t).length + 9 ≤ n * (1035 + 9 * D)
  | 0, t, _, _, hf, _ => by cases t; simp at hf
  | fuel + 1, .node k s ks, D, n, hf, h => by
    obtain ⟨hD, _, hc, _⟩ := shaped_cases h
    rcases hc with ⟨rfl, rfl, hk⟩ | ⟨a, rfl, ha, hk⟩ | ⟨a, b, n1, n2, rfl, ha, hb, rfl, hk⟩
    · refine ⟨Nat.le_refl _, ?_⟩
      have := setL_len (memW s)
      rw [textT]
      split
      · simp; omega
      · split
        · omega
        · split <;> simp <;> omega
    · obtain ⟨D', rfl⟩ : ∃ D', D = D' + 1 := ⟨D - 1, by omega⟩
      have ih := text_len fuel a D' n (by simp at hf; omega) (by rw [← ha]; congr 1; omega)
      refine ⟨ih.1, ?_⟩
      have e : n * (1035 + 9 * (D' + 1)) = n * (1035 + 9 * D') + 9 * n := by rw [show 1035 + 9 * (D' + 1) = (1035 + 9 * D') + 9 by omega, Nat.mul_add]; omega
      rw [e, textT]
      split
      · simp; omega
      · split <;> simp <;> omega
    · obtain ⟨D', rfl⟩ : ∃ D', D = D' + 1 := ⟨D - 1, by omega⟩
      have i1 := text_len fuel a D' n1 (by simp at hf; omega) (by rw [← ha]; congr 1; omega)
      have i2 := text_len fuel b (D' + 1) n2 (by simp at hf; omega) hb
      refine ⟨by omega, ?_⟩
      have e : (n1 + n2) * (1035 + 9 * (D' + 1)) = n1 * (1035 + 9 * D') + 9 * n1 + n2 * (1035 + 9 * (D' + 1)) := by rw [Nat.add_mul, show 1035 + 9 * (D' + 1) = (1035 + 9 * D') + 9 by omega, Nat.mul_add, Nat.mul_add]; omega
      rw [e, textT]
      split <;> simp <;> omega
theorem text_max {t : Tree} {D n : Nat} (hD : D ≤ 40) (h : shapedT t (D : Int) = some n) : (textT t).length ≤ 600000 := by
  have h1 := text_len _ t D n (Nat.le_refl _) h
  have h2 := shapedT_le t _ n h
  have : n * (1035 + 9 * D) ≤ 400 * 1395 := Nat.mul_le_mul h2 (by omega)
  omega

end Go.Proofs.YtmkddhkpeiajhaaDoor
