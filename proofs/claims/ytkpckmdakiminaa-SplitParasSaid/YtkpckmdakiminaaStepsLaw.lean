/-
  The plain law behind PackSteps: a byte's step of the sum hangs on the sum alone, and two sums that differ differ behind the same byte. No program in sight.
-/
import Derived.Test.YtkpckmdakiminaaSum
namespace Go.Proofs.Ytkpckmdakiminaa

theorem diff_of {x y z : Int} (h : x % 16777199 = y % 16777199) (hz : z = x - y) : ∃ k, z = 16777199 * k := by
  obtain ⟨k, hk⟩ := Int.dvd_of_emod_eq_zero (Int.emod_eq_emod_iff_emod_sub_eq_zero.1 h)
  exact ⟨k, by rw [hz, hk]⟩
/-- 66058 = 257 * 257 + 3 * 3 has an inverse -/
theorem inv_of (x k : Int) (h : 66058 * x = 16777199 * k) (h0 : -16777199 < x) (h1 : x < 16777199) : x = 0 := by
  have e : x = 16777199 * (4224396 * k - 16633 * x) := by
    have : 4224396 * (66058 * x) = 4224396 * (16777199 * k) := by rw [h]
    omega
  generalize 4224396 * k - 16633 * x = m at e
  omega
theorem lin1 {x y k1 k2 : Int} (h1 : 257 * x - 3 * y = 16777199 * k1) (h2 : 3 * x + 257 * y = 16777199 * k2) : 66058 * x = 16777199 * (257 * k1 + 3 * k2) := by
  have e : 66058 * x = 257 * (257 * x - 3 * y) + 3 * (3 * x + 257 * y) := by clear h1 h2; omega
  rw [h1, h2] at e
  rw [e]; clear e h1 h2; omega
theorem lin2 {x y k1 k2 : Int} (h1 : 257 * x - 3 * y = 16777199 * k1) (h2 : 3 * x + 257 * y = 16777199 * k2) : 66058 * y = 16777199 * (257 * k2 - 3 * k1) := by
  have e : 66058 * y = 257 * (3 * x + 257 * y) - 3 * (257 * x - 3 * y) := by clear h1 h2; omega
  rw [h1, h2] at e
  rw [e]; clear e h1 h2; omega
/-- two sums that are the same behind one byte were the same ahead of it -/
theorem smStep_inj {s t : Int × Int} {x : UInt8} (hs : 0 ≤ s.1 ∧ s.1 < 16777199 ∧ 0 ≤ s.2 ∧ s.2 < 16777199) (ht : 0 ≤ t.1 ∧ t.1 < 16777199 ∧ 0 ≤ t.2 ∧ t.2 < 16777199) (h : smStep s x = smStep t x) : s = t := by
  obtain ⟨a, b⟩ := s
  obtain ⟨c, d⟩ := t
  unfold smStep md at h
  injection h with h1 h2
  simp only at h1 h2 hs ht
  have g1 : (a * 257 - b * 3 + ((x.toNat : Int) + 1)) % 16777199 = (c * 257 - d * 3 + ((x.toNat : Int) + 1)) % 16777199 := h1
  have g2 : (a * 3 + b * 257) % 16777199 = (c * 3 + d * 257) % 16777199 := h2
  clear h1 h2
  have i1 : 257 * (a - c) - 3 * (b - d) = (a * 257 - b * 3 + ((x.toNat : Int) + 1)) - (c * 257 - d * 3 + ((x.toNat : Int) + 1)) := by clear g1 g2 hs ht; omega
  have i2 : 3 * (a - c) + 257 * (b - d) = (a * 3 + b * 257) - (c * 3 + d * 257) := by clear g1 g2 hs ht; omega
  obtain ⟨k1, hk1⟩ : ∃ k, 257 * (a - c) - 3 * (b - d) = 16777199 * k := diff_of g1 i1
  obtain ⟨k2, hk2⟩ : ∃ k, 3 * (a - c) + 257 * (b - d) = 16777199 * k := diff_of g2 i2
  clear g1 g2 i1 i2
  have hx0 : -16777199 < a - c ∧ a - c < 16777199 := by clear hk1 hk2; omega
  have hy0 : -16777199 < b - d ∧ b - d < 16777199 := by clear hk1 hk2; omega
  have f1 : a - c = 0 := inv_of (a - c) (257 * k1 + 3 * k2) (lin1 hk1 hk2) hx0.1 hx0.2
  have f2 : b - d = 0 := inv_of (b - d) (257 * k2 - 3 * k1) (lin2 hk1 hk2) hy0.1 hy0.2
  clear hk1 hk2
  rw [show a = c from by omega, show b = d from by omega]

theorem steps_want (l : List UInt8) (x : UInt8) :
    ((((sm l).1 * 257 - (sm l).2 * 3 + (x.toNat : Int) + 1).tmod 16777199 + 16777199) % 16777199, (((sm l).1 * 3 + (sm l).2 * 257).tmod 16777199 + 16777199) % 16777199) = sm (l ++ [x]) := by
  rw [sm_snoc]
  unfold smStep
  have e : ∀ n : Int, (n.tmod 16777199 + 16777199) % 16777199 = md n := by
    intro n
    have h := Int.mul_tdiv_add_tmod n 16777199
    have b := tmod_bd n
    unfold md
    omega
  rw [e, e, Int.add_assoc]

end Go.Proofs.Ytkpckmdakiminaa
