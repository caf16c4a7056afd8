/-
  NfaKnown: chapter 10's examples.
-/
import Derived.Test.YtmkddhkpeiajhaaMatchAll
namespace Go.Proofs.Ytmkddhkpeiajhaa
open Go.RowKit

def rK3 : Rx := .star (byteRx 98)
def rK4 : Rx := .cat .first (byteRx 97)
theorem nk3 : parseF [98, 42] = (rxT rK3, 0, 0) := by kernel_rfl
theorem nk4 : parseF [94, 97] = (rxT rK4, 0, 0) := by kernel_rfl
theorem nk5 : parseF [97, 40] = (tEmpty, 2, 24) := by kernel_rfl
theorem nr3 : rightT (rxT rK3) = true := by kernel_rfl
theorem nr4 : rightT (rxT rK4) = true := by kernel_rfl
theorem nr5 : rightT (.node 9 z4 []) = false := by kernel_rfl
theorem nf5 : findF (machF rK3) [97, 98] 0 0 = some (0, 0) := by kernel_rfl
theorem nf6 : findF (machF rK4) [97, 97] 1 2 = none := by kernel_rfl

set_option maxRecDepth 100000 in
set_option maxHeartbeats 8000000 in
theorem nfaKnownAll_any (w : World) : Calls Try.prog 5 #[] w fun e w' => e = .returned (.bool true) ∧ Later w w' := by
  have kk3 : okR rK3 := ok_byte 98
  have kk4 : okR rK4 := ⟨trivial, ok_byte 97⟩
  have HK3 := Lib.hid kk3
  have HK4 := Lib.hid kk4
  clear kk3 kk4
  go_enter Try.func5, Try.ntmps5
  go_wp2_with fail
  refine (new_at ⟨#[98, 42]⟩ rK3 _ (by decide) nk3 nr3 HK3.out).mono ?_
  rintro e w1 ⟨g1, rfl, hM1, hl1⟩
  go_wp2_with fail
  refine (new_at ⟨#[94, 97]⟩ rK4 _ (by decide) nk4 nr4 HK4.out).mono ?_
  rintro e w2 ⟨g2, rfl, hM2, hl2⟩
  have hM12 := hM1.later hl2
  clear hM1
  go_wp2_with fail
  have hnew := new_any ⟨#[97, 40]⟩ w2 (by decide)
  rw [show parseF (⟨#[97, 40]⟩ : ByteArray).data.toList = (tEmpty, 2, 24) from nk5] at hnew
  refine hnew.mono ?_
  clear hnew
  rintro e w3 h3
  have h3 : e = .returned (.tuple #[.pointer none, .int .i64 2, .int .i64 24]) ∧ Later w2 w3 := by
    rcases h3 with ⟨_, h1, h2⟩ | ⟨_, _, h1, _⟩
    · exact ⟨h1, h2⟩
    · exact absurd (show (2 : Nat) = 0 from congrArg (fun x => x.2.1) h1) (by decide)
  obtain ⟨rfl, hl3⟩ := h3
  have hM13 := hM12.later hl3
  have hM23 := hM2.later hl3
  clear hM12 hM2
  go_wp2_with fail
  refine (compile_no (.node 9 z4 []) (fun _ => True) 9 0 0 0 0 none 0 0 _ (ReC.leaf _ _ 9 z4 none 0) nr5).mono ?_
  rintro e w4 ⟨rfl, hl4⟩
  have hM14 := hM13.later hl4
  have hM24 := hM23.later hl4
  clear hM13 hM23
  go_wp2_with fail
  refine (nfaKnown_any _).mono ?_
  rintro e w5 ⟨rfl, hl5⟩
  have hM15 := hM14.later hl5
  have hM25 := hM24.later hl5
  clear hM14 hM24
  go_wp2_with fail
  refine (at_at ⟨#[97, 98]⟩ 0 _ _ _ rK3 hM15 (by decide) (by decide) _ nf5).mono ?_
  rintro e w6 ⟨rfl, hl6⟩
  have hM26 := hM25.later hl6
  clear hM25 hM15
  simp only [stN, enN, Option.isSome]
  go_wp2_with fail
  refine (find3_at ⟨#[97, 97]⟩ 1 _ _ _ rK4 hM26 (by decide) (by decide) _ nf6).mono ?_
  rintro e w7 ⟨rfl, hl7⟩
  clear hM26
  simp only [stN, enN, Option.isSome]
  go_wp2_with fail
  refine (at_no ⟨#[97, 98]⟩ 3 _ _ (.inr (by decide))).mono ?_
  rintro e w8 ⟨rfl, hl8⟩
  go_wp2_with fail
  go_ret
  exact ⟨rfl, hl1.trans (hl2.trans (hl3.trans (hl4.trans (hl5.trans (hl6.trans (hl7.trans hl8))))))⟩

end Go.Proofs.Ytmkddhkpeiajhaa
