/-
  Which trees are right, as the document says it: plain; and that it is what package ere says.
-/
import Derived.Test.YtmkddhkpeiajhaaDoorEText
namespace Go.Proofs.YtmkddhkpeiajhaaDoor

mutual
def shapedR : Tree → Bool
  | .node k s ks => decide (kidsOf k = (ks.length : Int)) && (decide (k = 1) || decide (s = z4)) && shapedRL ks
def shapedRL : List Tree → Bool
  | [] => true
  | t :: ts => shapedR t && shapedRL ts
end
mutual
def deepR : Tree → Nat → Bool
  | .node k _ ks, n => decide (n ≠ 0) && deepRL ks k n 0
def deepRL : List Tree → Int → Nat → Nat → Bool
  | [], _, _, _ => true
  | t :: ts, k, n, i => deepR t (if i = 1 ∧ (k = 2 ∨ k = 3) then n else n - 1) && deepRL ts k n (i + 1)
end
mutual
def setsR : Tree → Nat
  | .node _ _ ks => if ks.length = 0 then 1 else setsRL ks
def setsRL : List Tree → Nat
  | [] => 0
  | t :: ts => setsR t + setsRL ts
end
def rightR (t : Tree) : Bool := shapedR t && deepR t 40 && decide (setsR t ≤ 400)

theorem shapedR_thin : ∀ (fuel : Nat) (t : Tree), SizeOf.sizeOf t ≤ fuel → shapedR t = true → thinT t
  | 0, t, hf, _ => by cases t; simp at hf
  | fuel + 1, .node k s ks, hf, h => by
    unfold shapedR at h
    simp only [Bool.and_eq_true, decide_eq_true_eq] at h
    unfold thinT
    refine ⟨kids_two h.1.1, ?_⟩
    have hall : ∀ (l : List Tree), SizeOf.sizeOf l ≤ fuel → shapedRL l = true → thinL l := by
      intro l
      induction l with
      | nil => intro _ _; unfold thinL; trivial
      | cons t ts ih =>
        intro hl h
        unfold shapedRL at h
        rw [Bool.and_eq_true] at h
        unfold thinL
        simp at hl
        exact ⟨shapedR_thin fuel t (by omega) h.1, ih (by omega) h.2⟩
    exact hall ks (by simp at hf; omega) h.2

/-- package ere's answer is the document's -/
theorem shaped_iff : ∀ (fuel : Nat) (t : Tree) (D n : Nat), SizeOf.sizeOf t ≤ fuel → (shapedT t (D : Int) = some n ↔ shapedR t = true ∧ deepR t D = true ∧ setsR t = n ∧ n ≤ 400)
  | 0, t, _, _, hf => by cases t; simp at hf
  | fuel + 1, .node k s ks, D, n, hf => by
    constructor
    · intro h
      obtain ⟨hD, hn, hc, hs⟩ := shaped_cases h
      have hsk : (decide (k = 1) || decide (s = z4)) = true := by
        by_cases e : k = 1
        · simp [e]
        · simp [hs e]
      rcases hc with ⟨rfl, rfl, hk⟩ | ⟨a, rfl, ha, hk⟩ | ⟨a, b, n1, n2, rfl, ha, hb, rfl, hk⟩
      · refine ⟨?_, ?_, ?_, hn⟩
        · rw [shapedR, shapedRL, hsk]
          rcases hk with rfl | rfl | rfl | rfl <;> rfl
        · rw [deepR, deepRL]
          simp; omega
        · rw [setsR]; rfl
      · have i1 := (shaped_iff fuel a (D - 1) n (by simp at hf; omega)).1 (by rw [← ha]; congr 1; omega)
        refine ⟨?_, ?_, ?_, hn⟩
        · rw [shapedR, shapedRL, shapedRL, hsk, i1.1]
          rcases hk with rfl | rfl | rfl <;> rfl
        · rw [deepR, deepRL, deepRL, if_neg (by omega), i1.2.1]
          simp; omega
        · rw [setsR, if_neg (by simp), setsRL, setsRL, i1.2.2.1]; rfl
      · have i1 := (shaped_iff fuel a (D - 1) n1 (by simp at hf; omega)).1 (by rw [← ha]; congr 1; omega)
        have i2 := (shaped_iff fuel b D n2 (by simp at hf; omega)).1 hb
        refine ⟨?_, ?_, ?_, hn⟩
        · rw [shapedR, shapedRL, shapedRL, shapedRL, hsk, i1.1, i2.1]
          rcases hk with rfl | rfl <;> rfl
        · rw [deepR, deepRL, deepRL, deepRL, if_neg (by omega), if_pos ⟨rfl, hk⟩, i1.2.1, i2.2.1]
          simp; omega
        · rw [setsR, if_neg (by simp), setsRL, setsRL, setsRL, i1.2.2.1, i2.2.2.1]
          omega
    · rintro ⟨h1, h2, h3, h4⟩
      unfold shapedR at h1
      simp only [Bool.and_eq_true, decide_eq_true_eq, Bool.or_eq_true] at h1
      obtain ⟨⟨hk, hs⟩, hkids⟩ := h1
      unfold deepR at h2
      simp only [Bool.and_eq_true, decide_eq_true_eq] at h2
      obtain ⟨hD, hdk⟩ := h2
      have hcond : ¬ ((D : Int) < 1 ∨ kidsOf k ≠ (ks.length : Int) ∨ (k ≠ 1 ∧ s ≠ z4)) := by
        rintro (h | h | ⟨h, h5⟩)
        · omega
        · exact h hk
        · rcases hs with e | e
          · exact h e
          · exact h5 e
      have hlen := kids_two hk
      unfold shapedT
      rw [if_neg hcond]
      match ks, hlen with
      | [], _ =>
        rw [shapedL_nil]
        unfold setsR at h3
        rw [← h3]
        rfl
      | [a], _ =>
        rw [shapedRL, shapedRL, Bool.and_true] at hkids
        rw [deepRL, deepRL, Bool.and_true, if_neg (by omega)] at hdk
        rw [setsR, if_neg (by simp), setsRL, setsRL] at h3
        have i1 := (shaped_iff fuel a (D - 1) n (by simp at hf; omega)).2 ⟨hkids, hdk, by omega, h4⟩
        have e1 : shapedT a ((D : Int) - 1 + ((0 : Nat) : Int)) = some n := by rw [← i1]; congr 1; omega
        rw [shapedL_cons, e1]
        simp only
        rw [if_neg (by simp; omega), shapedL_nil]
        simp
      | [a, b], _ =>
        rw [shapedRL, shapedRL, shapedRL, Bool.and_true, Bool.and_eq_true] at hkids
        have hk23 : k = 2 ∨ k = 3 := by
          unfold kidsOf at hk
          split at hk
          · simp at hk
          · split at hk
            · assumption
            · split at hk <;> simp at hk
        rw [deepRL, deepRL, deepRL, Bool.and_true, if_neg (by omega), if_pos ⟨rfl, hk23⟩, Bool.and_eq_true] at hdk
        rw [setsR, if_neg (by simp), setsRL, setsRL, setsRL] at h3
        have i1 := (shaped_iff fuel a (D - 1) (setsR a) (by simp at hf; omega)).2 ⟨hkids.1, hdk.1, rfl, by omega⟩
        have i2 := (shaped_iff fuel b D (setsR b) (by simp at hf; omega)).2 ⟨hkids.2, hdk.2, rfl, by omega⟩
        have e1 : shapedT a ((D : Int) - 1 + ((0 : Nat) : Int)) = some (setsR a) := by rw [← i1]; congr 1; omega
        have e2 : shapedT b ((D : Int) - 1 + ((0 + 1 : Nat) : Int)) = some (setsR b) := by rw [← i2]; congr 1; omega
        rw [shapedL_cons, e1]
        simp only
        rw [if_neg (by simp; omega), shapedL_cons, e2]
        simp only
        rw [if_neg (by simp; omega), shapedL_nil]
        simp
        omega

theorem right_same (t : Tree) : rightT t = rightR t := by
  rw [Bool.eq_iff_iff]
  unfold rightT rightR
  rw [Option.isSome_iff_exists]
  simp only [Bool.and_eq_true, decide_eq_true_eq]
  constructor
  · rintro ⟨n, h⟩
    obtain ⟨h1, h2, h3, h4⟩ := (shaped_iff _ t 40 n (Nat.le_refl _)).1 h
    exact ⟨⟨h1, h2⟩, by omega⟩
  · rintro ⟨⟨h1, h2⟩, h3⟩
    exact ⟨_, (shaped_iff _ t 40 (setsR t) (Nat.le_refl _)).2 ⟨h1, h2, rfl, h3⟩⟩
theorem sets_same (t : Tree) : (shapedT t 40).getD 0 = if rightR t = true then setsR t else 0 := by
  by_cases h : rightR t = true
  · rw [if_pos h]
    rw [← right_same] at h
    unfold rightT at h
    obtain ⟨n, hn⟩ := Option.isSome_iff_exists.1 h
    have := (shaped_iff _ t 40 n (Nat.le_refl _)).1 hn
    rw [hn, this.2.2.1]
    rfl
  · rw [if_neg h]
    rw [← right_same] at h
    unfold rightT at h
    cases hq : shapedT t 40 with
    | none => rfl
    | some n => rw [hq] at h; exact absurd rfl h

end Go.Proofs.YtmkddhkpeiajhaaDoor
