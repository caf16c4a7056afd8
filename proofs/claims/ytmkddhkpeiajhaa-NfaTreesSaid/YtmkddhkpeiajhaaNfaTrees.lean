/-
  NfaTrees: a machine is made of just the trees that are right.
-/
import Derived.Test.YtmkddhkpeiajhaaRunAll
import Derived.Test.YtmkddhkpeiajhaaReAll
import Derived.Test.YtmkddhkpeiajhaaRefShaped
namespace Go.Proofs.Ytmkddhkpeiajhaa
open Go.RowKit

theorem nfaKn_l {W : World} (x : LW W) : Calls Try.prog 12 #[] x.val fun e w' => e = .returned (.bool true) ∧ Later x.val w' := nfaKnown_any x.val
/-- another kind -/
theorem ReC.kind {w : World} {lo : Nat → Prop} {k k2 : Int} {s : W4} {ks : List Tree} {x a b c d : Int} {A : Option Addr} {n cp : Nat} (h : ReC w lo (.node k s ks) ⟨x, a, b, c, d, A, n, cp⟩) : ReC w lo (.node k2 s ks) ⟨k2, a, b, c, d, A, n, cp⟩ := by
  unfold ReC at h ⊢
  exact ⟨rfl, h.2.1, h.2.2.1, h.2.2.2.1, h.2.2.2.2⟩

set_option maxRecDepth 100000 in
set_option maxHeartbeats 8000000 in
theorem nfaTrees_any (t : HTree) (M : Nat) (k n : Int) (A : Option Addr) (m cp : Nat) (kind : Int) (w : World) (hC : HdC w M t ⟨k, n, A, m, cp⟩) :
    Calls Try.prog 3 #[.agg #[.int .i64 k, .int .i64 n, .slice A m cp], .int .i64 kind] w fun e w' => e = .returned (.bool true) ∧ Later w w' := by
  have HRE : Hid (∀ wx, Later w wx → Calls Try.prog 8 #[.agg #[.int .i64 k, .int .i64 n, .slice A m cp], .int .i64 3] wx (RetT wx (fun g => wx.heap.size ≤ g) (reF 3 t))) := fun wx hwx => hre_any 3 M (by omega) t k n A m cp wx (HdC.later hwx t hC)
  have hlow := low_re 3 t
  obtain ⟨k0, s0, ks0, hT⟩ : ∃ a b c, reF 3 t = .node a b c := by cases reF 3 t with | node a b c => exact ⟨a, b, c, rfl⟩
  rw [hT] at HRE hlow
  obtain ⟨q, hq, hq1⟩ := pick_nat kind 11 (by omega)
  have hlow2 : lowT 4 (.node ((q : Int) - 1) s0 ks0) := hlow
  have hsets : shapedR (.node ((q : Int) - 1) s0 ks0) = true → setsR (.node ((q : Int) - 1) s0 ks0) ≤ 1000000000 := fun h => by have := low_sets 4 _ hlow2 h; omega
  have HSETS := Lib.hid hsets
  clear hC hlow hlow2 hsets hT
  go_enter Try.func3, Try.ntmps3
  go_wp2_with fail
  refine (HRE.out _ ((Later.refl w).alloc _)).mono ?_
  rintro e w0 ⟨k1, a0, b0, c0, d0, A0, n0, cp0, rfl, hC0, hl0⟩
  have hlw := ((Later.refl w).alloc (.cells #[.int .i64 k, .int .i64 n, .slice A m cp] 24)).trans hl0
  go_wp2_with fail
  refine (pick_at kind 11 q _ (by omega) (by omega) hq).mono ?_
  rintro e w1 ⟨rfl, rfl⟩
  go_upto_region 3 with fail
  obtain ⟨b5, hb⟩ : ∃ b5, b5 = w0.heap.size := ⟨_, rfl⟩
  have hwb : w.heap.size ≤ b5 := by rw [hb]; exact hlw.size
  rw [← hb]
  obtain ⟨W2, hW2⟩ : ∃ W2, W2 = w0.alloc (.cells #[.int .i64 ((q : Int) - 1), .int .u64 a0, .int .u64 b0, .int .u64 c0, .int .u64 d0, .slice A0 n0 cp0] 30) := ⟨_, rfl⟩
  have hl1 : Later w0 W2 := by rw [hW2]; exact (Later.refl w0).alloc _
  have D5 : Blk W2 b5 30 #[.int .i64 ((q : Int) - 1), .int .u64 a0, .int .u64 b0, .int .u64 c0, .int .u64 d0, .slice A0 n0 cp0] := by rw [hW2, hb]; exact Blk.new w0 _ _
  have hC2 : ReC W2 (fun g => g ≠ b5) (.node ((q : Int) - 1) s0 ks0) ⟨(q : Int) - 1, a0, b0, c0, d0, A0, n0, cp0⟩ := ReC.kind ((ReC.weaken (fun g hg _ => by omega) _ hC0).later hl1)
  have HLW : Hid (Later w W2) := hlw.trans hl1
  rw [← hW2]
  clear hb hW2 hC0 hl0 hlw hl1 hq
  obtain ⟨v, hv⟩ : ∃ v, v = rightT (.node ((q : Int) - 1) s0 ks0) := ⟨_, rfl⟩
  have hrr : ∀ wx, Later W2 wx → Calls Try.prog 11 #[.agg #[.int .i64 ((q : Int) - 1), .int .u64 a0, .int .u64 b0, .int .u64 c0, .int .u64 d0, .slice A0 n0 cp0]] wx fun e w' => e = .returned (.bool v) ∧ Later wx w' := fun wx hl => by rw [hv, right_same]; exact refRight_any _ _ _ _ _ _ _ _ _ _ wx HSETS.out (hC2.later hl)
  have HRR := Lib.hid hrr
  clear hrr HSETS
  have HD5 := Lib.hid D5
  obtain ⟨z0, z1, z2, z3, z4, z5, -⟩ := cells6 D5
  cases v with
  | false =>
    have HCO : Hid (Calls Try.prog 10 #[.agg #[.int .i64 ((q : Int) - 1), .int .u64 a0, .int .u64 b0, .int .u64 c0, .int .u64 d0, .slice A0 n0 cp0]] W2 fun e w' => e = .returned (.tuple #[.pointer none, .int .i64 1]) ∧ Later W2 w') := compile_no _ _ _ _ _ _ _ _ _ _ W2 hC2 hv.symm
    clear hv hC2 D5
    go_wp2_with fail
    refine HCO.out.mono ?_
    rintro e w3 ⟨rfl, hl3⟩
    have D3 := blkL hl3 HD5.out
    have HL3 := Lib.hid hl3
    clear z0 z1 z2 z3 z4 z5 hl3
    obtain ⟨z0, z1, z2, z3, z4, z5, -⟩ := cells6 D3
    go_wp2_with fail
    refine (HRR.out _ HL3.out).mono ?_
    rintro e w4 ⟨rfl, hl4⟩
    have HL4 := Lib.hid hl4
    clear z0 z1 z2 z3 z4 z5 hl4 D3
    go_wp2_with fail
    refine (nfaKnown_any _).mono ?_
    rintro e w5 ⟨rfl, hl5⟩
    go_wp2_with fail
    go_ret
    exact ⟨rfl, HLW.out.trans (HL3.out.trans (HL4.out.trans hl5))⟩
  | true =>
    obtain ⟨r, hr⟩ := rx_of_right hv.symm
    have hrt : rightT (rxT r) = true := by rw [← hr]; exact hv.symm
    have HCO : Hid (Calls Try.prog 10 #[.agg #[.int .i64 ((q : Int) - 1), .int .u64 a0, .int .u64 b0, .int .u64 c0, .int .u64 d0, .slice A0 n0 cp0]] W2 fun e w' => ∃ g, e = .returned (.tuple #[.pointer (some ⟨g, 0, none⟩), .int .i64 0]) ∧ Later W2 w') := (compile_yes r _ _ _ _ _ _ _ _ _ W2 (by rw [← hr]; exact hC2) hrt).mono fun e w' ⟨g, h1, h2⟩ => ⟨g, h1, h2.2.2⟩
    clear hv hC2 D5 hr hrt
    go_wp2_with fail
    refine HCO.out.mono ?_
    rintro e w3 ⟨g, rfl, hl3⟩
    have D3 := blkL hl3 HD5.out
    have HL3 := Lib.hid hl3
    clear z0 z1 z2 z3 z4 z5 hl3
    obtain ⟨z0, z1, z2, z3, z4, z5, -⟩ := cells6 D3
    go_wp2_with fail
    refine (HRR.out _ HL3.out).mono ?_
    rintro e w4 ⟨rfl, hl4⟩
    have HL4 := Lib.hid hl4
    clear z0 z1 z2 z3 z4 z5 hl4 D3
    go_wp2_with fail
    refine (nfaKnown_any _).mono ?_
    rintro e w5 ⟨rfl, hl5⟩
    go_wp2_with fail
    go_ret
    exact ⟨rfl, HLW.out.trans (HL3.out.trans (HL4.out.trans hl5))⟩

end Go.Proofs.Ytmkddhkpeiajhaa
