/-
  The contract of tailracehand.Letters: a text of few letters.
-/
import Derived.Test.YtmkddhkpeiajhaaDoorLaterQ
import Derived.Test.YtmkddhkpeiajhaaDoorBrk
namespace Go.Proofs.YtmkddhkpeiajhaaDoor
open Go.RowKit

def letterOf (x : UInt8) : UInt8 := ([97, 97, 98, 98, 99, 49, 10, 65] : List UInt8).getD (x.toNat % 8) 0
def lettersF (l : List UInt8) (most : Nat) : List UInt8 := (l.take most).map letterOf
theorem letters_len (l : List UInt8) (most : Nat) : (lettersF l most).length ≤ most := by unfold lettersF; rw [List.length_map, List.length_take]; omega
theorem letters_succ (l : List UInt8) (j : Nat) (c : UInt8) (h : l[j]? = some c) : lettersF l (j + 1) = lettersF l j ++ [letterOf c] := by
  unfold lettersF
  rw [List.take_add_one, h]
  simp
theorem bstr_app1 (a : List UInt8) (c : UInt8) (S : ByteArray) (h : S = ⟨#[c]⟩) : bstr a ++ S = bstr (a ++ [c]) := by
  subst h
  apply ByteArray.ext
  simp [bstr]

set_option maxRecDepth 100000 in
set_option maxHeartbeats 8000000 in
theorem letters_any (A : Option Addr) (n c most : Nat) (l : List UInt8) (w : World) (hr : RdB w w.heap.size A n l) (hm : most ≤ 1000000) (_hn : n ≤ 9223372036854775807) :
    Calls Tryd.prog 8 #[.slice A n c, .int .i64 (most : Int)] w fun e w' => e = .returned (.string (bstr (lettersF l most))) ∧ Later w w' := by
  have hlen : l.length = n := hr.len
  have HL := Lib.hid hlen
  clear hlen
  go_enter Tryd.func8, Tryd.ntmps8
  go_wp2_with fail
  go_loopw [5, 6] (fun s5 s6 wr => ∃ j : Nat, j ≤ n ∧ j ≤ most ∧ s5 = .string (bstr (lettersF l j)) ∧ s6 = .int .i64 (j : Int) ∧ Later w wr) (fun _ s6 _ => n - (intOf s6).toNat)
  case atStart => exact ⟨0, Nat.zero_le _, Nat.zero_le _, rfl, rfl, Later.refl _⟩
  case round =>
    obtain ⟨j, hj, hjm, rfl, rfl, hlr⟩ := hrel
    by_cases hlt : j < n
    · have hlti : (j : Int) < (n : Int) := by omega
      by_cases hlm : j < most
      · have hlmi : (j : Int) < (most : Int) := by omega
        obtain ⟨x, hx⟩ : ∃ x, l[j]? = some x := ⟨_, List.getElem?_eq_getElem (by rw [HL.out]; exact hlt)⟩
        obtain ⟨b0, off, rfl, hb0, hc⟩ := (hr.later' (Nat.le_refl _) hlr).at_ hlt
        rw [hx] at hc
        simp only [Option.getD_some] at hc
        have hls := letters_succ l j x hx
        have hll := letters_len l j
        obtain ⟨T, hT⟩ : ∃ T, T = lettersF l j := ⟨_, rfl⟩
        rw [← hT] at hls hll ⊢
        have k0 : ∀ y : LW wr, y.val.cell? ⟨b0, off + j, none⟩ = some (.int .u8 (x.toNat : Int)) := LW.cell_ hc
        have hx8 := Nat.mod_lt x.toNat (show 0 < 8 by decide)
        have hsz : (bstr T).size = T.length := rfl
        have HT := Lib.hid hT
        clear hT hx hc
        rcases (show x.toNat % 8 = 0 ∨ x.toNat % 8 = 1 ∨ x.toNat % 8 = 2 ∨ x.toNat % 8 = 3 ∨ x.toNat % 8 = 4 ∨ x.toNat % 8 = 5 ∨ x.toNat % 8 = 6 ∨ x.toNat % 8 = 7 by omega) with h | h | h | h | h | h | h | h
        · have hri : (x.toNat : Int) % 8 = 0 := by omega
          have hle : letterOf x = 97 := by unfold letterOf; rw [h]; rfl
          rw [hle] at hls
          have HLS := Lib.hid hls
          have hz : ¬ 9223372036854775807 < (bstr T).size + (⟨#[97]⟩ : ByteArray).size := by rw [hsz]; show ¬ _ < T.length + 1; omega
          clear h hle hls hx8
          go_wp2_with fail
          refine wp_region_laterq (by kernel_rfl) (by kernel_rfl) ?_
          repeat (go_big_quiet_step (fail))
          refine wpQuiet_nil ?_
          intro _ hwq
          obtain ⟨xz, rfl⟩ := hwq
          go_wp2_with fail
          go_roundw
          case rel => exact ⟨j + 1, by omega, by omega, by rw [HLS.out, ← bstr_app1 T 97 _ rfl]; try rfl, by go_num, hlr.trans xz.later⟩
          case measure => simp [intOf]; omega
        · have hri : (x.toNat : Int) % 8 = 1 := by omega
          have hle : letterOf x = 97 := by unfold letterOf; rw [h]; rfl
          rw [hle] at hls
          have HLS := Lib.hid hls
          have hz : ¬ 9223372036854775807 < (bstr T).size + (⟨#[97]⟩ : ByteArray).size := by rw [hsz]; show ¬ _ < T.length + 1; omega
          clear h hle hls hx8
          go_wp2_with fail
          refine wp_region_laterq (by kernel_rfl) (by kernel_rfl) ?_
          repeat (go_big_quiet_step (fail))
          refine wpQuiet_nil ?_
          intro _ hwq
          obtain ⟨xz, rfl⟩ := hwq
          go_wp2_with fail
          go_roundw
          case rel => exact ⟨j + 1, by omega, by omega, by rw [HLS.out, ← bstr_app1 T 97 _ rfl]; try rfl, by go_num, hlr.trans xz.later⟩
          case measure => simp [intOf]; omega
        · have hri : (x.toNat : Int) % 8 = 2 := by omega
          have hle : letterOf x = 98 := by unfold letterOf; rw [h]; rfl
          rw [hle] at hls
          have HLS := Lib.hid hls
          have hz : ¬ 9223372036854775807 < (bstr T).size + (⟨#[98]⟩ : ByteArray).size := by rw [hsz]; show ¬ _ < T.length + 1; omega
          clear h hle hls hx8
          go_wp2_with fail
          refine wp_region_laterq (by kernel_rfl) (by kernel_rfl) ?_
          repeat (go_big_quiet_step (fail))
          refine wpQuiet_nil ?_
          intro _ hwq
          obtain ⟨xz, rfl⟩ := hwq
          go_wp2_with fail
          go_roundw
          case rel => exact ⟨j + 1, by omega, by omega, by rw [HLS.out, ← bstr_app1 T 98 _ rfl]; try rfl, by go_num, hlr.trans xz.later⟩
          case measure => simp [intOf]; omega
        · have hri : (x.toNat : Int) % 8 = 3 := by omega
          have hle : letterOf x = 98 := by unfold letterOf; rw [h]; rfl
          rw [hle] at hls
          have HLS := Lib.hid hls
          have hz : ¬ 9223372036854775807 < (bstr T).size + (⟨#[98]⟩ : ByteArray).size := by rw [hsz]; show ¬ _ < T.length + 1; omega
          clear h hle hls hx8
          go_wp2_with fail
          refine wp_region_laterq (by kernel_rfl) (by kernel_rfl) ?_
          repeat (go_big_quiet_step (fail))
          refine wpQuiet_nil ?_
          intro _ hwq
          obtain ⟨xz, rfl⟩ := hwq
          go_wp2_with fail
          go_roundw
          case rel => exact ⟨j + 1, by omega, by omega, by rw [HLS.out, ← bstr_app1 T 98 _ rfl]; try rfl, by go_num, hlr.trans xz.later⟩
          case measure => simp [intOf]; omega
        · have hri : (x.toNat : Int) % 8 = 4 := by omega
          have hle : letterOf x = 99 := by unfold letterOf; rw [h]; rfl
          rw [hle] at hls
          have HLS := Lib.hid hls
          have hz : ¬ 9223372036854775807 < (bstr T).size + (⟨#[99]⟩ : ByteArray).size := by rw [hsz]; show ¬ _ < T.length + 1; omega
          clear h hle hls hx8
          go_wp2_with fail
          refine wp_region_laterq (by kernel_rfl) (by kernel_rfl) ?_
          repeat (go_big_quiet_step (fail))
          refine wpQuiet_nil ?_
          intro _ hwq
          obtain ⟨xz, rfl⟩ := hwq
          go_wp2_with fail
          go_roundw
          case rel => exact ⟨j + 1, by omega, by omega, by rw [HLS.out, ← bstr_app1 T 99 _ rfl]; try rfl, by go_num, hlr.trans xz.later⟩
          case measure => simp [intOf]; omega
        · have hri : (x.toNat : Int) % 8 = 5 := by omega
          have hle : letterOf x = 49 := by unfold letterOf; rw [h]; rfl
          rw [hle] at hls
          have HLS := Lib.hid hls
          have hz : ¬ 9223372036854775807 < (bstr T).size + (⟨#[49]⟩ : ByteArray).size := by rw [hsz]; show ¬ _ < T.length + 1; omega
          clear h hle hls hx8
          go_wp2_with fail
          refine wp_region_laterq (by kernel_rfl) (by kernel_rfl) ?_
          repeat (go_big_quiet_step (fail))
          refine wpQuiet_nil ?_
          intro _ hwq
          obtain ⟨xz, rfl⟩ := hwq
          go_wp2_with fail
          go_roundw
          case rel => exact ⟨j + 1, by omega, by omega, by rw [HLS.out, ← bstr_app1 T 49 _ rfl]; try rfl, by go_num, hlr.trans xz.later⟩
          case measure => simp [intOf]; omega
        · have hri : (x.toNat : Int) % 8 = 6 := by omega
          have hle : letterOf x = 10 := by unfold letterOf; rw [h]; rfl
          rw [hle] at hls
          have HLS := Lib.hid hls
          have hz : ¬ 9223372036854775807 < (bstr T).size + (⟨#[10]⟩ : ByteArray).size := by rw [hsz]; show ¬ _ < T.length + 1; omega
          clear h hle hls hx8
          go_wp2_with fail
          refine wp_region_laterq (by kernel_rfl) (by kernel_rfl) ?_
          repeat (go_big_quiet_step (fail))
          refine wpQuiet_nil ?_
          intro _ hwq
          obtain ⟨xz, rfl⟩ := hwq
          go_wp2_with fail
          go_roundw
          case rel => exact ⟨j + 1, by omega, by omega, by rw [HLS.out, ← bstr_app1 T 10 _ rfl]; try rfl, by go_num, hlr.trans xz.later⟩
          case measure => simp [intOf]; omega
        · have hri : (x.toNat : Int) % 8 = 7 := by omega
          have hle : letterOf x = 65 := by unfold letterOf; rw [h]; rfl
          rw [hle] at hls
          have HLS := Lib.hid hls
          have hz : ¬ 9223372036854775807 < (bstr T).size + (⟨#[65]⟩ : ByteArray).size := by rw [hsz]; show ¬ _ < T.length + 1; omega
          clear h hle hls hx8
          go_wp2_with fail
          refine wp_region_laterq (by kernel_rfl) (by kernel_rfl) ?_
          repeat (go_big_quiet_step (fail))
          refine wpQuiet_nil ?_
          intro _ hwq
          obtain ⟨xz, rfl⟩ := hwq
          go_wp2_with fail
          go_roundw
          case rel => exact ⟨j + 1, by omega, by omega, by rw [HLS.out, ← bstr_app1 T 65 _ rfl]; try rfl, by go_num, hlr.trans xz.later⟩
          case measure => simp [intOf]; omega
      · obtain rfl : j = most := by omega
        have hlmi : decide ((j : Int) < (j : Int)) = false := decide_eq_false (by omega)
        go_wp2_with fail
        go_ret
        exact ⟨rfl, hlr⟩
    · obtain rfl : n = j := by omega
      have hT : lettersF l most = lettersF l n := by
        unfold lettersF
        rw [List.take_of_length_le (by rw [HL.out]; omega), List.take_of_length_le (by rw [HL.out]; exact Nat.le_refl _)]
      have HT := Lib.hid hT
      clear hT
      go_wp2_with fail
      go_ret
      exact ⟨by rw [HT.out]; rfl, hlr⟩

end Go.Proofs.YtmkddhkpeiajhaaDoor
