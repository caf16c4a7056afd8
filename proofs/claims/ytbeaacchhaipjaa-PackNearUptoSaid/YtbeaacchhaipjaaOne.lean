/-
  The contract of the laws' 'one': two floats that are the same, or both no numbers.
-/
import Derived.Test.YtbeaacchhaipjaaBackLaw
namespace Go.Proofs.Ytbeaacchhaipjaa
open Go.RowKit

theorem bstr_data (t : ByteArray) : bstr t.data.toList = t := by
  obtain ⟨d⟩ := t; rfl

/-- are two floats the same, or both no numbers? -/
def oneB (a b : Nat) : Bool := (FloatKind.f64.format.order a b == some Ordering.eq) || (nanB a && nanB b)

set_option maxRecDepth 100000 in
set_option maxHeartbeats 1000000 in
theorem one_any (a b : Nat) (w : World) : Calls Try.prog 32 #[.float .f64 a, .float .f64 b] w fun e w' => e = .returned (.bool (oneB a b)) ∧ w = w' := by
  by_cases hab : FloatKind.f64.format.order a b = some Ordering.eq
  · have e : oneB a b = true := by unfold oneB; rw [hab]; rfl
    rw [e]
    clear e
    go_enter Try.func32, Try.ntmps32
    go_wp2_with fail
    go_ret
    exact ⟨rfl, rfl⟩
  · have hab' : (FloatKind.f64.format.order a b == some Ordering.eq) = false := beq_eq_false_iff_ne.2 hab
    by_cases haa : FloatKind.f64.format.order a a = some Ordering.eq
    · have e : oneB a b = false := by unfold oneB nanB; rw [hab', haa]; rfl
      rw [e]
      clear e
      have haa' : (FloatKind.f64.format.order a a != some Ordering.eq) = false := by rw [haa]; rfl
      go_enter Try.func32, Try.ntmps32
      go_wp2_with fail
      go_ret
      exact ⟨rfl, rfl⟩
    · have haa' : (FloatKind.f64.format.order a a != some Ordering.eq) = true := bne_iff_ne.2 haa
      have haa2 : (FloatKind.f64.format.order a a == some Ordering.eq) = false := beq_eq_false_iff_ne.2 haa
      by_cases hbb : FloatKind.f64.format.order b b = some Ordering.eq
      · have e : oneB a b = false := by unfold oneB nanB; rw [hab', haa2, hbb]; rfl
        rw [e]
        clear e
        have hbb' : (FloatKind.f64.format.order b b != some Ordering.eq) = false := by rw [hbb]; rfl
        go_enter Try.func32, Try.ntmps32
        go_wp2_with fail
        go_ret
        exact ⟨rfl, rfl⟩
      · have hbb' : (FloatKind.f64.format.order b b != some Ordering.eq) = true := bne_iff_ne.2 hbb
        have hbb2 : (FloatKind.f64.format.order b b == some Ordering.eq) = false := beq_eq_false_iff_ne.2 hbb
        have e : oneB a b = true := by unfold oneB nanB; rw [hab', haa2, hbb2]; rfl
        rw [e]
        clear e
        go_enter Try.func32, Try.ntmps32
        go_wp2_with fail
        go_ret
        exact ⟨rfl, rfl⟩

theorem one_bits (x : Nat) : oneB (bitsOf x) x = true := by
  unfold oneB bitsOf
  by_cases h : nanB x = true
  · rw [if_pos h, nan_const, h]; simp
  · rw [if_neg h]
    have : (FloatKind.f64.format.order x x == some Ordering.eq) = true := by
      unfold nanB at h; simpa using h
    rw [this]; rfl
theorem one_self (x : Nat) : oneB x x = true := by
  unfold oneB nanB
  cases (FloatKind.f64.format.order x x == some Ordering.eq) <;> rfl
theorem one_at (a b : Nat) (w : World) (h : oneB a b = true) : Calls Try.prog 32 #[.float .f64 a, .float .f64 b] w fun e w' => e = .returned (.bool true) ∧ w = w' := by
  have := one_any a b w
  rw [h] at this
  exact this

end Go.Proofs.Ytbeaacchhaipjaa
