/-
  NfaLong: regular expressions that take ages where one backs up end at once, over long texts.
-/
import Derived.Test.YtmkddhkpeiajhaaRunAll
import Derived.Test.YtmkddhkpeiajhaaPick
namespace Go.Proofs.Ytmkddhkpeiajhaa
open Go.RowKit

theorem nl0 : parseF [40, 97, 42, 41, 42, 98] = (rxT (longRx 0), 0, 0) := by kernel_rfl
theorem nlr0 : rightT (rxT (longRx 0)) = true := by kernel_rfl
theorem nl1 : parseF [40, 97, 124, 97, 124, 97, 97, 41, 42, 99] = (rxT (longRx 1), 0, 0) := by kernel_rfl
theorem nlr1 : rightT (rxT (longRx 1)) = true := by kernel_rfl
theorem nl2 : parseF [40, 97, 63, 41, 123, 50, 48, 125, 97, 123, 50, 48, 125, 100] = (rxT (longRx 2), 0, 0) := by kernel_rfl
theorem nlr2 : rightT (rxT (longRx 2)) = true := by kernel_rfl
theorem nl3 : parseF [40, 40, 97, 43, 41, 43, 41, 43, 98] = (rxT (longRx 3), 0, 0) := by kernel_rfl
theorem nlr3 : rightT (rxT (longRx 3)) = true := by kernel_rfl
theorem ok_rep (r : Rx) (h : okR r) : ∀ n, okR (repRx r n)
  | 0 => h
  | n + 1 => ⟨h, ok_rep r h n⟩
theorem nlk0 : okR (longRx 0) := ⟨ok_byte 97, ok_byte 98⟩
theorem nlk1 : okR (longRx 1) := ⟨⟨ok_byte 97, ok_byte 97, ok_byte 97, ok_byte 97⟩, ok_byte 99⟩
theorem nlk2 : okR (longRx 2) := ⟨ok_rep (.opt aRx) (ok_byte 97) 19, ok_rep aRx (ok_byte 97) 19, ok_byte 100⟩
theorem nlk3 : okR (longRx 3) := ⟨ok_byte 97, ok_byte 98⟩
def asL (n : Nat) : List UInt8 := List.replicate n 97
theorem as_succ (n : Nat) : bstr (asL n) ++ (⟨#[97]⟩ : ByteArray) = bstr (asL (n + 1)) := by
  rw [show (⟨#[97]⟩ : ByteArray) = bstr [97] from rfl, bstr_app]
  unfold asL
  rw [List.replicate_succ']
theorem as_len (n : Nat) : (asL n).length = n := List.length_replicate ..
theorem as_size (n : Nat) : (bstr (asL n)).size = n := by rw [bstr_size, as_len]
theorem as_last (n : Nat) (c : UInt8) (S : ByteArray) (h : S = ⟨#[c]⟩) : bstr (asL n) ++ S = bstr (asL n ++ [c]) := by rw [h, show (⟨#[c]⟩ : ByteArray) = bstr [c] from rfl, bstr_app]
theorem bstr_list (l : List UInt8) : (bstr l).data.toList = l := rfl
theorem long_find1 (q N : Nat) (hq : q < 4) : findF (machF (longRx q)) (bstr (asL N)).data.toList 0 (bstr (asL N)).size = none := by
  rw [bstr_list, as_size]
  exact long_no N q hq
theorem long_find2 (q N : Nat) (hq : q < 4) (c : UInt8) (hc : c = longLast q) : ∃ R, findF (machF (longRx q)) (bstr (asL N ++ [c])).data.toList 0 (bstr (asL N ++ [c])).size = R ∧ R.isSome = decide (longLeast q ≤ N) ∧ (R.isSome = true → enN R = N + 1) := by
  refine ⟨_, rfl, ?_⟩
  subst hc
  rw [bstr_list, bstr_size, List.length_append, as_len]
  have h := long_yes N q hq
  refine ⟨h.1, fun hs => ?_⟩
  have h2 := h.2 hs
  unfold asL at hs ⊢
  generalize findF (machF (longRx q)) (List.replicate N 97 ++ [longLast q]) 0 (N + [longLast q].length) = R at h2 hs
  cases R with
  | none => cases hs
  | some u => exact h2

theorem long_first (q N : Nat) (hq : q < 4) (hN : (N : Int) < 900) (mb g : Nat) (wx : World) (hM : RunsM wx mb g (machF (longRx q)).1 (machF (longRx q)).2) :
    Calls Try.prog 14 #[.pointer (some ⟨g, 0, none⟩), .string (bstr (asL N)), .int .i64 0] wx fun e w' => e = .returned (.tuple #[.int .i64 0, .int .i64 0, .bool false]) ∧ Later wx w' :=
  find3_at (bstr (asL N)) 0 wx mb g (longRx q) hM (Nat.zero_le _) (by rw [as_size]; omega) none (long_find1 q N hq)
theorem long_end (q N : Nat) (hq : q < 4) (hN : (N : Int) < 900) (c : UInt8) (hc : c = longLast q) (mb g : Nat) (wx : World) (hM : RunsM wx mb g (machF (longRx q)).1 (machF (longRx q)).2) :
    Calls Try.prog 14 #[.pointer (some ⟨g, 0, none⟩), .string (bstr (asL N) ++ ⟨#[c]⟩), .int .i64 0] wx fun e w' => ((longLeast q ≤ N ∧ ∃ s : Int, e = .returned (.tuple #[.int .i64 s, .int .i64 ((N : Int) + 1), .bool true])) ∨ (N < longLeast q ∧ ∃ s t : Int, e = .returned (.tuple #[.int .i64 s, .int .i64 t, .bool false]))) ∧ Later wx w' := by
  rw [as_last N c _ rfl]
  obtain ⟨R, hR, h1, h2⟩ := long_find2 q N hq c hc
  refine (find3_at _ 0 wx mb g (longRx q) hM (Nat.zero_le _) (by rw [bstr_size, List.length_append, as_len]; show N + 1 ≤ 1000000; omega) R hR).mono ?_
  rintro e w' ⟨rfl, hl⟩
  refine ⟨?_, hl⟩
  by_cases hle : longLeast q ≤ N
  · left
    have hs : R.isSome = true := by rw [h1]; exact decide_eq_true hle
    exact ⟨hle, _, by rw [hs, h2 hs]; rfl⟩
  · right
    have hs : R.isSome = false := by rw [h1]; exact decide_eq_false hle
    exact ⟨by omega, _, _, by rw [hs]⟩

set_option maxRecDepth 100000 in
set_option maxHeartbeats 8000000 in
theorem nfaLong_0 (n k : Int) (N : Nat) (hN : Hid (n % 900 = (N : Int))) (hN1 : (N : Int) < 900) (hq : Hid (k % 4 = 0)) (w : World) : Calls Try.prog 4 #[.int .i64 n, .int .i64 k] w fun e w' => e = .returned (.bool true) ∧ Later w w' := by
  go_enter Try.func4, Try.ntmps4
  go_wp2_with fail
  refine (pick_at n 900 N _ (by omega) (by omega) hN).mono ?_
  rintro e w1 ⟨rfl, rfl⟩
  go_wp2_with fail
  go_loopw [5, 6] (fun s5 s6 wr => ∃ j : Nat, j ≤ N ∧ s5 = .string (bstr (asL j)) ∧ s6 = .int .i64 (j : Int) ∧ Later w wr) (fun _ s6 _ => N - (intOf s6).toNat)
  case atStart => exact ⟨0, Nat.zero_le _, rfl, rfl, Later.refl _⟩
  case round =>
    obtain ⟨j, hj, rfl, rfl, hlr⟩ := hrel
    by_cases hlt : j < N
    · have hlti : (j : Int) < (N : Int) := by omega
      have hz : ¬ 9223372036854775807 < (bstr (asL j)).size + (⟨#[97]⟩ : ByteArray).size := by rw [as_size]; show ¬ _ < j + 1; omega
      go_wp2_with fail
      go_roundw
      case rel => exact ⟨j + 1, by omega, by rw [as_succ], by go_num, hlr⟩
      case measure => simp [intOf]; omega
    · obtain rfl : N = j := by omega
      have hz : ¬ 9223372036854775807 < (bstr (asL N)).size + (⟨#[98]⟩ : ByteArray).size := by rw [as_size]; show ¬ _ < N + 1; omega
      have hix : ∀ wx : World, (Instr.index 40 (.agg #[.string ⟨#[40, 97, 42, 41, 42, 98]⟩, .string ⟨#[40, 97, 124, 97, 124, 97, 97, 41, 42, 99]⟩, .string ⟨#[40, 97, 63, 41, 123, 50, 48, 125, 97, 123, 50, 48, 125, 100]⟩, .string ⟨#[40, 40, 97, 43, 41, 43, 41, 43, 98]⟩]) (.int .i64 0)).run Try.prog wx = .ok (.string ⟨#[40, 97, 42, 41, 42, 98]⟩) wx := fun wx => by rfl
      go_wp2_with (first | (go_at_call 9; refine (pick_at k 4 0 _ (by omega) (by omega) hq).mono ?_; rintro e wp ⟨rfl, rfl⟩))
      refine (new_at ⟨#[40, 97, 42, 41, 42, 98]⟩ (longRx 0) _ (by decide) nl0 nlr0 nlk0).mono ?_
      rintro e w2 ⟨g, rfl, hM, hl2⟩
      go_wp2_with fail
      refine (nfaKnown_any _).mono ?_
      rintro e w3 ⟨rfl, hl3⟩
      have hM3 := hM.later hl3
      clear hM
      go_wp2_with fail
      refine (long_first 0 N (by decide) hN1 _ g _ hM3).mono ?_
      rintro e w4 ⟨rfl, hl4⟩
      have hM4 := hM3.later hl4
      clear hM3
      go_wp2_with (first | (go_at_call 9; refine (pick_at k 4 0 _ (by omega) (by omega) hq).mono ?_; rintro e wp ⟨rfl, rfl⟩))
      refine (long_end 0 N (by decide) hN1 98 rfl _ g _ hM4).mono ?_
      rintro e w5 ⟨⟨hle, s, rfl⟩ | ⟨hle, s, t, rfl⟩, hl5⟩
      · have hge : (0 : Int) ≤ (N : Int) := by have h : 0 ≤ N := hle; omega
        have hlw : Hid (Later w w5) := hlr.trans (hl2.trans (hl3.trans (hl4.trans hl5)))
        clear hM4 hle hlr hl2 hl3 hl4 hl5
        go_wp2_with (first | (go_at_call 9; refine (pick_at k 4 0 _ (by omega) (by omega) hq).mono ?_; rintro e wp ⟨rfl, rfl⟩))
        go_ret
        exact ⟨rfl, hlw.out⟩
      · have hge : ¬ (0 : Int) ≤ (N : Int) := by have h : N < 0 := hle; omega
        have hlw : Hid (Later w w5) := hlr.trans (hl2.trans (hl3.trans (hl4.trans hl5)))
        clear hM4 hle hlr hl2 hl3 hl4 hl5
        exact absurd (by omega) hge

set_option maxRecDepth 100000 in
set_option maxHeartbeats 8000000 in
theorem nfaLong_1 (n k : Int) (N : Nat) (hN : Hid (n % 900 = (N : Int))) (hN1 : (N : Int) < 900) (hq : Hid (k % 4 = 1)) (w : World) : Calls Try.prog 4 #[.int .i64 n, .int .i64 k] w fun e w' => e = .returned (.bool true) ∧ Later w w' := by
  go_enter Try.func4, Try.ntmps4
  go_wp2_with fail
  refine (pick_at n 900 N _ (by omega) (by omega) hN).mono ?_
  rintro e w1 ⟨rfl, rfl⟩
  go_wp2_with fail
  go_loopw [5, 6] (fun s5 s6 wr => ∃ j : Nat, j ≤ N ∧ s5 = .string (bstr (asL j)) ∧ s6 = .int .i64 (j : Int) ∧ Later w wr) (fun _ s6 _ => N - (intOf s6).toNat)
  case atStart => exact ⟨0, Nat.zero_le _, rfl, rfl, Later.refl _⟩
  case round =>
    obtain ⟨j, hj, rfl, rfl, hlr⟩ := hrel
    by_cases hlt : j < N
    · have hlti : (j : Int) < (N : Int) := by omega
      have hz : ¬ 9223372036854775807 < (bstr (asL j)).size + (⟨#[97]⟩ : ByteArray).size := by rw [as_size]; show ¬ _ < j + 1; omega
      go_wp2_with fail
      go_roundw
      case rel => exact ⟨j + 1, by omega, by rw [as_succ], by go_num, hlr⟩
      case measure => simp [intOf]; omega
    · obtain rfl : N = j := by omega
      have hz : ¬ 9223372036854775807 < (bstr (asL N)).size + (⟨#[99]⟩ : ByteArray).size := by rw [as_size]; show ¬ _ < N + 1; omega
      have hix : ∀ wx : World, (Instr.index 40 (.agg #[.string ⟨#[40, 97, 42, 41, 42, 98]⟩, .string ⟨#[40, 97, 124, 97, 124, 97, 97, 41, 42, 99]⟩, .string ⟨#[40, 97, 63, 41, 123, 50, 48, 125, 97, 123, 50, 48, 125, 100]⟩, .string ⟨#[40, 40, 97, 43, 41, 43, 41, 43, 98]⟩]) (.int .i64 1)).run Try.prog wx = .ok (.string ⟨#[40, 97, 124, 97, 124, 97, 97, 41, 42, 99]⟩) wx := fun wx => by rfl
      go_wp2_with (first | (go_at_call 9; refine (pick_at k 4 1 _ (by omega) (by omega) hq).mono ?_; rintro e wp ⟨rfl, rfl⟩))
      refine (new_at ⟨#[40, 97, 124, 97, 124, 97, 97, 41, 42, 99]⟩ (longRx 1) _ (by decide) nl1 nlr1 nlk1).mono ?_
      rintro e w2 ⟨g, rfl, hM, hl2⟩
      go_wp2_with fail
      refine (nfaKnown_any _).mono ?_
      rintro e w3 ⟨rfl, hl3⟩
      have hM3 := hM.later hl3
      clear hM
      go_wp2_with fail
      refine (long_first 1 N (by decide) hN1 _ g _ hM3).mono ?_
      rintro e w4 ⟨rfl, hl4⟩
      have hM4 := hM3.later hl4
      clear hM3
      go_wp2_with (first | (go_at_call 9; refine (pick_at k 4 1 _ (by omega) (by omega) hq).mono ?_; rintro e wp ⟨rfl, rfl⟩))
      refine (long_end 1 N (by decide) hN1 99 rfl _ g _ hM4).mono ?_
      rintro e w5 ⟨⟨hle, s, rfl⟩ | ⟨hle, s, t, rfl⟩, hl5⟩
      · have hge : (0 : Int) ≤ (N : Int) := by have h : 0 ≤ N := hle; omega
        have hlw : Hid (Later w w5) := hlr.trans (hl2.trans (hl3.trans (hl4.trans hl5)))
        clear hM4 hle hlr hl2 hl3 hl4 hl5
        go_wp2_with (first | (go_at_call 9; refine (pick_at k 4 1 _ (by omega) (by omega) hq).mono ?_; rintro e wp ⟨rfl, rfl⟩))
        go_ret
        exact ⟨rfl, hlw.out⟩
      · have hge : ¬ (0 : Int) ≤ (N : Int) := by have h : N < 0 := hle; omega
        have hlw : Hid (Later w w5) := hlr.trans (hl2.trans (hl3.trans (hl4.trans hl5)))
        clear hM4 hle hlr hl2 hl3 hl4 hl5
        exact absurd (by omega) hge

set_option maxRecDepth 100000 in
set_option maxHeartbeats 8000000 in
theorem nfaLong_2 (n k : Int) (N : Nat) (hN : Hid (n % 900 = (N : Int))) (hN1 : (N : Int) < 900) (hq : Hid (k % 4 = 2)) (w : World) : Calls Try.prog 4 #[.int .i64 n, .int .i64 k] w fun e w' => e = .returned (.bool true) ∧ Later w w' := by
  go_enter Try.func4, Try.ntmps4
  go_wp2_with fail
  refine (pick_at n 900 N _ (by omega) (by omega) hN).mono ?_
  rintro e w1 ⟨rfl, rfl⟩
  go_wp2_with fail
  go_loopw [5, 6] (fun s5 s6 wr => ∃ j : Nat, j ≤ N ∧ s5 = .string (bstr (asL j)) ∧ s6 = .int .i64 (j : Int) ∧ Later w wr) (fun _ s6 _ => N - (intOf s6).toNat)
  case atStart => exact ⟨0, Nat.zero_le _, rfl, rfl, Later.refl _⟩
  case round =>
    obtain ⟨j, hj, rfl, rfl, hlr⟩ := hrel
    by_cases hlt : j < N
    · have hlti : (j : Int) < (N : Int) := by omega
      have hz : ¬ 9223372036854775807 < (bstr (asL j)).size + (⟨#[97]⟩ : ByteArray).size := by rw [as_size]; show ¬ _ < j + 1; omega
      go_wp2_with fail
      go_roundw
      case rel => exact ⟨j + 1, by omega, by rw [as_succ], by go_num, hlr⟩
      case measure => simp [intOf]; omega
    · obtain rfl : N = j := by omega
      have hz : ¬ 9223372036854775807 < (bstr (asL N)).size + (⟨#[100]⟩ : ByteArray).size := by rw [as_size]; show ¬ _ < N + 1; omega
      have hix : ∀ wx : World, (Instr.index 40 (.agg #[.string ⟨#[40, 97, 42, 41, 42, 98]⟩, .string ⟨#[40, 97, 124, 97, 124, 97, 97, 41, 42, 99]⟩, .string ⟨#[40, 97, 63, 41, 123, 50, 48, 125, 97, 123, 50, 48, 125, 100]⟩, .string ⟨#[40, 40, 97, 43, 41, 43, 41, 43, 98]⟩]) (.int .i64 2)).run Try.prog wx = .ok (.string ⟨#[40, 97, 63, 41, 123, 50, 48, 125, 97, 123, 50, 48, 125, 100]⟩) wx := fun wx => by rfl
      go_wp2_with (first | (go_at_call 9; refine (pick_at k 4 2 _ (by omega) (by omega) hq).mono ?_; rintro e wp ⟨rfl, rfl⟩))
      refine (new_at ⟨#[40, 97, 63, 41, 123, 50, 48, 125, 97, 123, 50, 48, 125, 100]⟩ (longRx 2) _ (by decide) nl2 nlr2 nlk2).mono ?_
      rintro e w2 ⟨g, rfl, hM, hl2⟩
      go_wp2_with fail
      refine (nfaKnown_any _).mono ?_
      rintro e w3 ⟨rfl, hl3⟩
      have hM3 := hM.later hl3
      clear hM
      go_wp2_with fail
      refine (long_first 2 N (by decide) hN1 _ g _ hM3).mono ?_
      rintro e w4 ⟨rfl, hl4⟩
      have hM4 := hM3.later hl4
      clear hM3
      go_wp2_with (first | (go_at_call 9; refine (pick_at k 4 2 _ (by omega) (by omega) hq).mono ?_; rintro e wp ⟨rfl, rfl⟩))
      refine (long_end 2 N (by decide) hN1 100 rfl _ g _ hM4).mono ?_
      rintro e w5 ⟨⟨hle, s, rfl⟩ | ⟨hle, s, t, rfl⟩, hl5⟩
      · have hge : (20 : Int) ≤ (N : Int) := by have h : 20 ≤ N := hle; omega
        have hlw : Hid (Later w w5) := hlr.trans (hl2.trans (hl3.trans (hl4.trans hl5)))
        clear hM4 hle hlr hl2 hl3 hl4 hl5
        go_wp2_with (first | (go_at_call 9; refine (pick_at k 4 2 _ (by omega) (by omega) hq).mono ?_; rintro e wp ⟨rfl, rfl⟩))
        go_ret
        exact ⟨rfl, hlw.out⟩
      · have hge : ¬ (20 : Int) ≤ (N : Int) := by have h : N < 20 := hle; omega
        have hlw : Hid (Later w w5) := hlr.trans (hl2.trans (hl3.trans (hl4.trans hl5)))
        clear hM4 hle hlr hl2 hl3 hl4 hl5
        go_wp2_with (first | (go_at_call 9; refine (pick_at k 4 2 _ (by omega) (by omega) hq).mono ?_; rintro e wp ⟨rfl, rfl⟩))
        go_ret
        exact ⟨congrArg (fun b => Ending.returned (.bool b)) (by rw [decide_eq_false (by omega)]; rfl), hlw.out⟩

set_option maxRecDepth 100000 in
set_option maxHeartbeats 8000000 in
theorem nfaLong_3 (n k : Int) (N : Nat) (hN : Hid (n % 900 = (N : Int))) (hN1 : (N : Int) < 900) (hq : Hid (k % 4 = 3)) (w : World) : Calls Try.prog 4 #[.int .i64 n, .int .i64 k] w fun e w' => e = .returned (.bool true) ∧ Later w w' := by
  go_enter Try.func4, Try.ntmps4
  go_wp2_with fail
  refine (pick_at n 900 N _ (by omega) (by omega) hN).mono ?_
  rintro e w1 ⟨rfl, rfl⟩
  go_wp2_with fail
  go_loopw [5, 6] (fun s5 s6 wr => ∃ j : Nat, j ≤ N ∧ s5 = .string (bstr (asL j)) ∧ s6 = .int .i64 (j : Int) ∧ Later w wr) (fun _ s6 _ => N - (intOf s6).toNat)
  case atStart => exact ⟨0, Nat.zero_le _, rfl, rfl, Later.refl _⟩
  case round =>
    obtain ⟨j, hj, rfl, rfl, hlr⟩ := hrel
    by_cases hlt : j < N
    · have hlti : (j : Int) < (N : Int) := by omega
      have hz : ¬ 9223372036854775807 < (bstr (asL j)).size + (⟨#[97]⟩ : ByteArray).size := by rw [as_size]; show ¬ _ < j + 1; omega
      go_wp2_with fail
      go_roundw
      case rel => exact ⟨j + 1, by omega, by rw [as_succ], by go_num, hlr⟩
      case measure => simp [intOf]; omega
    · obtain rfl : N = j := by omega
      have hz : ¬ 9223372036854775807 < (bstr (asL N)).size + (⟨#[98]⟩ : ByteArray).size := by rw [as_size]; show ¬ _ < N + 1; omega
      have hix : ∀ wx : World, (Instr.index 40 (.agg #[.string ⟨#[40, 97, 42, 41, 42, 98]⟩, .string ⟨#[40, 97, 124, 97, 124, 97, 97, 41, 42, 99]⟩, .string ⟨#[40, 97, 63, 41, 123, 50, 48, 125, 97, 123, 50, 48, 125, 100]⟩, .string ⟨#[40, 40, 97, 43, 41, 43, 41, 43, 98]⟩]) (.int .i64 3)).run Try.prog wx = .ok (.string ⟨#[40, 40, 97, 43, 41, 43, 41, 43, 98]⟩) wx := fun wx => by rfl
      go_wp2_with (first | (go_at_call 9; refine (pick_at k 4 3 _ (by omega) (by omega) hq).mono ?_; rintro e wp ⟨rfl, rfl⟩))
      refine (new_at ⟨#[40, 40, 97, 43, 41, 43, 41, 43, 98]⟩ (longRx 3) _ (by decide) nl3 nlr3 nlk3).mono ?_
      rintro e w2 ⟨g, rfl, hM, hl2⟩
      go_wp2_with fail
      refine (nfaKnown_any _).mono ?_
      rintro e w3 ⟨rfl, hl3⟩
      have hM3 := hM.later hl3
      clear hM
      go_wp2_with fail
      refine (long_first 3 N (by decide) hN1 _ g _ hM3).mono ?_
      rintro e w4 ⟨rfl, hl4⟩
      have hM4 := hM3.later hl4
      clear hM3
      go_wp2_with (first | (go_at_call 9; refine (pick_at k 4 3 _ (by omega) (by omega) hq).mono ?_; rintro e wp ⟨rfl, rfl⟩))
      refine (long_end 3 N (by decide) hN1 98 rfl _ g _ hM4).mono ?_
      rintro e w5 ⟨⟨hle, s, rfl⟩ | ⟨hle, s, t, rfl⟩, hl5⟩
      · have hge : (1 : Int) ≤ (N : Int) := by have h : 1 ≤ N := hle; omega
        have hlw : Hid (Later w w5) := hlr.trans (hl2.trans (hl3.trans (hl4.trans hl5)))
        clear hM4 hle hlr hl2 hl3 hl4 hl5
        go_wp2_with (first | (go_at_call 9; refine (pick_at k 4 3 _ (by omega) (by omega) hq).mono ?_; rintro e wp ⟨rfl, rfl⟩))
        go_ret
        exact ⟨rfl, hlw.out⟩
      · have hge : ¬ (1 : Int) ≤ (N : Int) := by have h : N < 1 := hle; omega
        have hlw : Hid (Later w w5) := hlr.trans (hl2.trans (hl3.trans (hl4.trans hl5)))
        clear hM4 hle hlr hl2 hl3 hl4 hl5
        go_wp2_with (first | (go_at_call 9; refine (pick_at k 4 3 _ (by omega) (by omega) hq).mono ?_; rintro e wp ⟨rfl, rfl⟩))
        go_ret
        exact ⟨congrArg (fun b => Ending.returned (.bool b)) (by rw [decide_eq_false (by omega)]; rfl), hlw.out⟩

theorem nfaLong_any (n k : Int) (w : World) : Calls Try.prog 4 #[.int .i64 n, .int .i64 k] w fun e w' => e = .returned (.bool true) ∧ Later w w' := by
  obtain ⟨N, hN, hN1⟩ := pick_nat n 900 (by omega)
  obtain ⟨q, hq, hq1⟩ := pick_nat k 4 (by omega)
  have h4 : q = 0 ∨ q = 1 ∨ q = 2 ∨ q = 3 := by omega
  rcases h4 with rfl | rfl | rfl | rfl
  · exact nfaLong_0 n k N hN hN1 hq w
  · exact nfaLong_1 n k N hN hN1 hq w
  · exact nfaLong_2 n k N hN hN1 hq w
  · exact nfaLong_3 n k N hN hN1 hq w

end Go.Proofs.Ytmkddhkpeiajhaa
