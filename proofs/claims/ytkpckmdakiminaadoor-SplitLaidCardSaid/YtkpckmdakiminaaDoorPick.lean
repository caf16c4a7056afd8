/-
  The contract of tailracehand.Pick: n's remainder by m, not below nought.
-/
import Derived.Test.YtkpckmdakiminaaDoorProg
import Derived.Test.YtkpckmdakiminaaDoorKit
namespace Go.Proofs.YtkpckmdakiminaaDoor
open Go.RowKit

theorem tmod_bds {n m : Int} (hm : 0 < m) : -m < n.tmod m ∧ n.tmod m < m :=
  ⟨Int.lt_tmod_of_pos n hm, Int.tmod_lt_of_pos n hm⟩
theorem tmod_emod {n m : Int} (hm : 0 < m) : n % m = if n.tmod m < 0 then n.tmod m + m else n.tmod m := by
  have h := Int.mul_tdiv_add_tmod n m
  have b := tmod_bds (n := n) hm
  have e : n % m = n.tmod m % m := by
    conv => lhs; rw [← h]
    rw [Int.add_comm, Int.add_mul_emod_self_left]
  rw [e]
  split
  · rw [← Int.add_emod_right, Int.emod_eq_of_lt (by omega) (by omega)]
  · rw [Int.emod_eq_of_lt (by omega) (by omega)]
theorem ret_i64 {a b : Int} (h : a = b) : Ending.returned (.int .i64 a) = .returned (.int .i64 b) := by rw [h]

set_option maxRecDepth 100000 in
set_option maxHeartbeats 400000 in
theorem pick_at (n m : Int) (k : Int) (w : World) (hm : 0 < m) (hm2 : m ≤ 9223372036854775807) (hk : Hid (n % m = k)) :
    Calls Tryd.prog 6 #[.int .i64 n, .int .i64 m] w fun e w' => e = .returned (.int .i64 k) ∧ w = w' := by
  have b1 := (tmod_bds (n := n) hm).1
  have b2 := (tmod_bds (n := n) hm).2
  have hne : (m == 0) = false := by rw [beq_eq_false_iff_ne]; omega
  go_enter Tryd.func6, Tryd.ntmps6
  go_wp2
  · have hlt : n.tmod m < 0 := by assumption
    go_ret
    exact ⟨ret_i64 (by rw [← hk.out, tmod_emod hm, if_pos hlt]), rfl⟩
  · have hlt : 0 ≤ n.tmod m := by assumption
    go_ret
    exact ⟨ret_i64 (by rw [← hk.out, tmod_emod hm, if_neg (by omega)]), rfl⟩

/-- a number picked below m -/
theorem pick_nat (n m : Int) (hm : 0 < m) : ∃ k : Nat, Hid (n % m = (k : Int)) ∧ (k : Int) < m := by
  have h0 := Int.emod_nonneg n (b := m) (by omega)
  have h1 := Int.emod_lt_of_pos n hm
  exact ⟨(n % m).toNat, by show _ = _; omega, by omega⟩

theorem pick4 (n : Int) : ∃ p : Int, Hid (n % 4 = p) ∧ (p = 0 ∨ p = 1 ∨ p = 2 ∨ p = 3) := ⟨n % 4, rfl, by omega⟩

end Go.Proofs.YtkpckmdakiminaaDoor
