/-
  The contract of pack.number: a number's digits read, and the place behind them.
-/
import Derived.Test.YtkpckmdakiminaaDoorBytes
import Derived.Laws.BitsAllLaws
import Derived.Deep.QuietTactic
import Derived.BigQuiet
namespace Go.Proofs.YtkpckmdakiminaaDoor
open Go.RowKit

/-- the number that stands at a place: itself, an error's number, the place behind it -/
def numG (l : List UInt8) (at_ : Nat) : Nat → Nat → Nat → Nat × Int × Nat
  | 0, _, _ => (0, 11, 0)
  | f + 1, i, acc => match l[at_ + i]? with
    | none => (0, 10, 0)
    | some x =>
      if i = 9 ∧ 1 < x.toNat then (0, 11, 0)
      else if 128 ≤ x.toNat then numG l at_ f (i + 1) (acc + x.toNat % 128 * 128 ^ i)
      else if x.toNat = 0 ∧ 0 < i then (0, 11, 0)
      else (acc + x.toNat % 128 * 128 ^ i, 0, at_ + i + 1)
def numAt (l : List UInt8) (at_ : Nat) : Nat × Int × Nat := numG l at_ 10 0 0

theorem pow_le_9 {i : Nat} (h : i ≤ 9) : 128 ^ i ≤ 128 ^ 9 := Nat.pow_le_pow_right (by decide) h

theorem digit_fits {acc i x : Nat} (ha : acc < 128 ^ i) (hi : i ≤ 9) (h9 : i = 9 → x ≤ 1) : acc + x % 128 * 128 ^ i < 18446744073709551616 := by
  have hx : x % 128 < 128 := Nat.mod_lt _ (by decide)
  by_cases e : i = 9
  · subst e
    have := h9 rfl
    have h1 : x % 128 * 128 ^ 9 ≤ 1 * 128 ^ 9 := Nat.mul_le_mul_right _ (by omega)
    omega
  · have h8 : 128 ^ i ≤ 128 ^ 8 := Nat.pow_le_pow_right (by decide) (by omega)
    have h1 : x % 128 * 128 ^ i ≤ 127 * 128 ^ 8 := Nat.mul_le_mul (by omega) h8
    omega

/-- a digit joined to the lower ones -/
theorem or_digit {acc i x : Nat} (ha : acc < 128 ^ i) (hi : i ≤ 9) (h9 : i = 9 → x ≤ 1) :
    bits .or .u64 (acc : Int) (IntKind.u64.wrap ((x : Int) % 128 * 2 ^ (7 * i))) = ((acc + x % 128 * 128 ^ i : Nat) : Int) := by
  have hf := digit_fits ha hi h9
  rw [show (x : Int) % 128 = ((x % 128 : Nat) : Int) from by omega]
  have e2 : ((x % 128 : Nat) : Int) * 2 ^ (7 * i) = ((x % 128 * 128 ^ i : Nat) : Int) := by
    rw [Int.natCast_mul, Int.natCast_pow, show (7 * i) = i * 7 from Nat.mul_comm _ _]
    congr 1
    rw [show ((128 : Nat) : Int) = 2 ^ 7 from rfl, ← Int.pow_mul, Nat.mul_comm]
  rw [e2]
  have hw : IntKind.u64.wrap ((x % 128 * 128 ^ i : Nat) : Int) = ((x % 128 * 128 ^ i : Nat) : Int) := by
    simp only [IntKind.wrap, IntKind.bits, IntKind.signed]
    have : ((x % 128 * 128 ^ i : Nat) : Int) < 18446744073709551616 := by omega
    have h0 : (0 : Int) ≤ ((x % 128 * 128 ^ i : Nat) : Int) := by omega
    generalize ((x % 128 * 128 ^ i : Nat) : Int) = z at *
    simp
    omega
  rw [hw, u64_or_nat _ _ (by omega) (by omega)]
  congr 1
  have hp : (128 : Nat) ^ i = 2 ^ (7 * i) := by rw [show 128 = 2 ^ 7 from rfl, ← Nat.pow_mul]
  rw [Nat.or_comm, nat_join (7 * i) (x % 128 * 128 ^ i) acc (by rw [hp]; exact Nat.mul_mod_left _ _) (by rw [← hp]; exact ha), Nat.add_comm]

theorem or_digit9 {acc i x : Nat} (ha : acc < 128 ^ i) (hi : i = 9) (hx : x ≤ 1) : bits .or .u64 (acc : Int) ((x : Int) % 128 * 9223372036854775808) = ((acc + x % 128 * 128 ^ i : Nat) : Int) := by
  subst hi
  rw [← or_digit ha (by omega) (fun _ => hx)]
  congr 1
  have e : (x : Int) % 128 = (x : Int) := by omega
  rw [e]
  have h : (x : Int) * 2 ^ (7 * 9) = (x : Int) * 9223372036854775808 := rfl
  rw [h]
  simp only [IntKind.wrap, IntKind.bits, IntKind.signed]
  simp
  omega
theorem or_digit0 {acc i x : Nat} (ha : acc < 128 ^ i) (hi : i = 0) (hx : x = 0) : bits .or .u64 (acc : Int) (IntKind.u64.wrap 0) = ((acc + x % 128 * 128 ^ i : Nat) : Int) := by
  subst hi; subst hx
  obtain rfl : acc = 0 := by simpa using ha
  decide +kernel
theorem numG_none {l : List UInt8} {at_ f i acc : Nat} (h : l.length ≤ at_ + i) : numG l at_ (f + 1) i acc = (0, 10, 0) := by
  unfold numG; rw [List.getElem?_eq_none h]
theorem numG_some {l : List UInt8} {at_ f i acc : Nat} (h : at_ + i < l.length) : numG l at_ (f + 1) i acc =
    (if i = 9 ∧ 1 < (l[at_ + i]?.getD 0).toNat then (0, 11, 0)
      else if 128 ≤ (l[at_ + i]?.getD 0).toNat then numG l at_ f (i + 1) (acc + (l[at_ + i]?.getD 0).toNat % 128 * 128 ^ i)
      else if (l[at_ + i]?.getD 0).toNat = 0 ∧ 0 < i then (0, 11, 0)
      else (acc + (l[at_ + i]?.getD 0).toNat % 128 * 128 ^ i, 0, at_ + i + 1)) := by
  conv => lhs; unfold numG
  rw [List.getElem?_eq_getElem h]; rfl

/-- what number returns -/
def Num3 (r : Nat × Int × Nat) : Value := .tuple #[.int .u64 (r.1 : Int), .int .i64 r.2.1, .int .i64 (r.2.2 : Int)]

theorem and127 {x : Nat} (h : x < 256) : bits .and .u8 (x : Int) 127 = (x : Int) % 128 := by
  have e1 := u8_and_nat x 127 h (by omega)
  rw [nat_mask7] at e1
  rw [show (127 : Int) = ((127 : Nat) : Int) from rfl, e1]
  omega
theorem num_step {l : List UInt8} {n at_ i acc : Nat} (hl : l.length = n) (hlt : at_ + i < n) (hi : i ≤ 9) (h : Hid (numAt l at_ = numG l at_ (10 - i) i acc)) :
    Hid (numAt l at_ = (if i = 9 ∧ 1 < (l[at_ + i]?.getD 0).toNat then (0, 11, 0)
      else if 128 ≤ (l[at_ + i]?.getD 0).toNat then numG l at_ (9 - i) (i + 1) (acc + (l[at_ + i]?.getD 0).toNat % 128 * 128 ^ i)
      else if (l[at_ + i]?.getD 0).toNat = 0 ∧ 0 < i then (0, 11, 0)
      else (acc + (l[at_ + i]?.getD 0).toNat % 128 * 128 ^ i, 0, at_ + i + 1))) := by
  show _ = _
  rw [h.out, show 10 - i = (9 - i) + 1 from by omega, numG_some (by omega)]
theorem num_ret {l : List UInt8} {at_ : Nat} {r : Nat × Int × Nat} {a b c : Int} (h : numAt l at_ = r) (ha : a = (r.1 : Int)) (hb : b = r.2.1) (hc : c = (r.2.2 : Int)) :
    Ending.returned (.tuple #[.int .u64 a, .int .i64 b, .int .i64 c]) = .returned (Num3 (numAt l at_)) := by
  rw [h, ha, hb, hc]; rfl
theorem num_val {a : Int} {b : Nat} (h : a = (b : Int)) : Value.int .u64 a = .int .u64 (b : Int) := by rw [h]
theorem num_next {l : List UInt8} {at_ i acc : Nat} (h : numAt l at_ = numG l at_ (9 - i) (i + 1) acc) (hi : i < 9) : Hid (numAt l at_ = numG l at_ (10 - (i + 1)) (i + 1) acc) := by
  show _ = _
  rw [h, show 9 - i = 10 - (i + 1) from by omega]
theorem digit_pow {acc i x : Nat} (h : Hid (acc < 128 ^ i)) : Hid (acc + x % 128 * 128 ^ i < 128 ^ (i + 1)) := by
  have h := h.out
  show _ < _
  have hx : x % 128 < 128 := Nat.mod_lt _ (by decide)
  have h1 : x % 128 * 128 ^ i ≤ 127 * 128 ^ i := Nat.mul_le_mul_right _ (by omega)
  rw [Nat.pow_succ]
  omega

set_option maxRecDepth 100000 in
set_option maxHeartbeats 2000000 in
theorem number_any (A : Option Addr) (n c : Nat) (l : List UInt8) (at_ : Nat) (B : Nat) (w : World) (hr : RdB w B A n l) (hn : n ≤ 140737488355328) (ha : at_ ≤ n) :
    Calls Tryd.prog 46 #[.slice A n c, .int .i64 (at_ : Int)] w fun e w' => e = .returned (Num3 (numAt l at_)) ∧ w = w' := by
  have HL : Hid (l.length = n) := hr.len
  go_enter Tryd.func46, Tryd.ntmps46
  go_wp2
  go_loop [7, 8] (fun v s => ∃ (i acc : Nat), i ≤ 9 ∧ s = .int .i64 (i : Int) ∧ v = .int .u64 (acc : Int) ∧ acc < 18446744073709551616 ∧ Hid (acc < 128 ^ i) ∧ Hid (numAt l at_ = numG l at_ (10 - i) i acc)) (fun _ s => 10 - (intOf s).toNat)
  case atStart => exact ⟨0, 0, by omega, rfl, rfl, by omega, (by show (0 : Nat) < 128 ^ 0; decide), rfl⟩
  case round =>
    obtain ⟨i, acc, hi, rfl, rfl, hacc, hap, hnum⟩ := hrel
    by_cases hlt : at_ + i < n
    · obtain ⟨g, off, rfl, _, hc⟩ := hr.at_ hlt
      have hx1 : ((l[at_ + i]?.getD 0).toNat : Int) < 256 := by have := (l[at_ + i]?.getD 0).toNat_lt; omega
      have hand := and127 ((l[at_ + i]?.getD 0).toNat_lt)
      have hN := num_step HL.out hlt hi hnum
      have hO := or_digit (x := (l[at_ + i]?.getD 0).toNat) hap.out hi
      have HO := Lib.hid hO
      clear hO
      go_wp2
      · have h1 : (i : Int) = 9 := by assumption
        have h2 : (1 : Int) < ((l[at_ + i]?.getD 0).toNat : Int) := by assumption
        go_ret3
        exact ⟨num_ret (hN.out.trans (if_pos ⟨by omega, by omega⟩)) rfl rfl rfl, rfl⟩
      · have h1 : (i : Int) = 9 := by assumption
        have h2 : (l[at_ + i]?.getD 0).toNat = 0 := by assumption
        go_ret3
        exact ⟨num_ret (hN.out.trans ((if_neg (by omega)).trans ((if_neg (by omega)).trans (if_pos ⟨h2, by omega⟩)))) rfl rfl rfl, rfl⟩
      · have h1 : (i : Int) = 9 := by assumption
        have h2 : ¬ (l[at_ + i]?.getD 0).toNat = 0 := by assumption
        have h3 : ((l[at_ + i]?.getD 0).toNat : Int) ≤ 1 := by assumption
        go_ret3
        exact ⟨num_ret (hN.out.trans ((if_neg (by omega)).trans ((if_neg (by omega)).trans (if_neg (by omega))))) (or_digit9 hap.out (by omega) (by omega)) rfl (by show _ = ((at_ + i + 1 : Nat) : Int); omega), rfl⟩
      · have h1 : ¬ (i : Int) = 9 := by assumption
        have h2 : (128 : Int) ≤ ((l[at_ + i]?.getD 0).toNat : Int) := by assumption
        go_round
        case rel => exact ⟨i + 1, _, by omega, by go_num, num_val (HO.out (by omega)), digit_fits hap.out hi (by omega), digit_pow hap, num_next (hN.out.trans ((if_neg (by omega)).trans (if_pos (by omega)))) (by omega)⟩
        case measure => simp [intOf]; omega
      · have h1 : ¬ (i : Int) = 9 := by assumption
        have h2 : (l[at_ + i]?.getD 0).toNat = 0 := by assumption
        have h3 : 0 < i := by assumption
        go_ret3
        exact ⟨num_ret (hN.out.trans ((if_neg (by omega)).trans ((if_neg (by omega)).trans (if_pos ⟨h2, h3⟩)))) rfl rfl rfl, rfl⟩
      · have h1 : ¬ (i : Int) = 9 := by assumption
        have h2 : (l[at_ + i]?.getD 0).toNat = 0 := by assumption
        have h3 : ¬ 0 < i := by assumption
        go_ret3
        exact ⟨num_ret (hN.out.trans ((if_neg (by omega)).trans ((if_neg (by omega)).trans (if_neg (by omega))))) (or_digit0 hap.out (by omega) h2) rfl (by show _ = ((at_ + i + 1 : Nat) : Int); omega), rfl⟩
      · have h1 : ¬ (i : Int) = 9 := by assumption
        have h2 : ¬ (l[at_ + i]?.getD 0).toNat = 0 := by assumption
        have h3 : ((l[at_ + i]?.getD 0).toNat : Int) < 128 := by assumption
        go_ret3
        exact ⟨num_ret (hN.out.trans ((if_neg (by omega)).trans ((if_neg (by omega)).trans (if_neg (by omega))))) (HO.out (by omega)) rfl (by show _ = ((at_ + i + 1 : Nat) : Int); omega), rfl⟩
    · go_wp2
      go_ret3
      have e : numAt l at_ = (0, 10, 0) := by
        rw [hnum.out, show 10 - i = (9 - i) + 1 from by omega]
        exact numG_none (by rw [HL.out]; omega)
      exact ⟨num_ret e rfl rfl rfl, rfl⟩

end Go.Proofs.YtkpckmdakiminaaDoor
