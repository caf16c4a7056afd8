/-
  EreRight: which trees are right.
-/
import Derived.Test.YthmjnelnnhidkaaLowT
import Derived.Test.YthmjnelnnhidkaaHRe2
import Derived.Test.YthmjnelnnhidkaaRefRight
import Derived.Test.YthmjnelnnhidkaaEreKn
import Derived.Test.YthmjnelnnhidkaaAsB
namespace Go.Proofs.Ythmjnelnnhidkaa
open Go.RowKit

/-- the tree at hand, in its variable -/
def RgT (w : World) (b5 : Nat) (wr : World) : Prop :=
  ∃ (t : Tree) (k a b c d : Int) (A : Option Addr) (n cp : Nat), Blk wr b5 49 #[.int .i64 k, .int .u64 a, .int .u64 b, .int .u64 c, .int .u64 d, .slice A n cp] ∧ ReC wr (fun g => g ≠ b5) t ⟨k, a, b, c, d, A, n, cp⟩ ∧ lowT 5 t ∧ Later w wr
/-- the last comparison: package ere says what the document says -/
structure EndC (t : Tree) (k a b c d : Int) (A : Option Addr) (n cp : Nat) (v : Bool) (m : Nat) (W : World) : Prop where
  r1 : ∀ wx, Later W wx → Calls Try.prog 34 #[.agg #[.int .i64 k, .int .u64 a, .int .u64 b, .int .u64 c, .int .u64 d, .slice A n cp]] wx fun e w' => e = .returned (.bool v) ∧ Later wx w'
  r2 : ∀ wx, Later W wx → Calls Try.prog 35 #[.agg #[.int .i64 k, .int .u64 a, .int .u64 b, .int .u64 c, .int .u64 d, .slice A n cp]] wx fun e w' => e = .returned (.bool v) ∧ Later wx w'
  s1 : ∀ wx, Later W wx → Calls Try.prog 36 #[.agg #[.int .i64 k, .int .u64 a, .int .u64 b, .int .u64 c, .int .u64 d, .slice A n cp]] wx fun e w' => e = .returned (.int .i64 (m : Int)) ∧ Later wx w'
  s2 : ∀ wx, Later W wx → Calls Try.prog 37 #[.agg #[.int .i64 k, .int .u64 a, .int .u64 b, .int .u64 c, .int .u64 d, .slice A n cp]] wx fun e w' => e = .returned (.int .i64 (m : Int)) ∧ Later wx w'
theorem endC {t : Tree} {lo : Nat → Prop} {k a b c d : Int} {A : Option Addr} {n cp : Nat} {W : World} (h : ReC W lo t ⟨k, a, b, c, d, A, n, cp⟩) (hs : shapedR t = true → setsR t ≤ 1000000000) : EndC t k a b c d A n cp (rightR t) (if rightR t = true then setsR t else 0) W :=
  ⟨fun wx hl => by rw [← right_same]; exact right_any t lo k a b c d A n cp wx (h.later hl),
   fun wx hl => refRight_any t lo k a b c d A n cp wx hs (h.later hl),
   fun wx hl => by rw [← sets_same]; exact setsT_any t lo k a b c d A n cp wx (h.later hl),
   fun wx hl => refSetsT_any t lo k a b c d A n cp wx hs (h.later hl)⟩
theorem known_l {W : World} (x : LW W) : Calls Try.prog 30 #[] x.val fun e w' => e = .returned (.bool true) ∧ Later x.val w' := ereKnown_any x.val

set_option maxRecDepth 100000 in
set_option maxHeartbeats 16000000 in
theorem ereRight_any (t : HTree) (M : Nat) (k n : Int) (A : Option Addr) (m cp : Nat) (is : Bool) (w : World) (hM : M ≤ 100000000) (hC : HdC w M t ⟨k, n, A, m, cp⟩) :
    Calls Try.prog 9 #[.agg #[.int .i64 k, .int .i64 n, .slice A m cp], .bool is] w fun e w' => e = .returned (.bool true) ∧ Later w w' := by
  have HTW : Hid (∀ wx, Later w wx → Calls Try.prog 32 #[.agg #[.int .i64 k, .int .i64 n, .slice A m cp], .int .i64 4] wx (RetT wx (fun g => wx.heap.size ≤ g) (twistF 4 t))) := fun wx hwx => twisted_any 4 t M k n A m cp wx (by omega) hM (HdC.later hwx t hC)
  have HRE : Hid (∀ wx, Later w wx → Calls Try.prog 33 #[.agg #[.int .i64 k, .int .i64 n, .slice A m cp], .int .i64 4] wx (RetT wx (fun g => wx.heap.size ≤ g) (reF 4 t))) := fun wx hwx => hre_any 4 M (by omega) t k n A m cp wx (HdC.later hwx t hC)
  clear hC
  go_enter Try.func9, Try.ntmps9
  go_wp2_with fail
  refine (HTW.out _ ((Later.refl w).alloc _)).mono ?_
  rintro e w0 ⟨k0, a0, b0, c0, d0, A0, n0, cp0, rfl, hC0, hl0⟩
  have B2 := blkL hl0 (Blk.new w 59 #[.int .i64 k, .int .i64 n, .slice A m cp])
  have hlw := ((Later.refl w).alloc (.cells #[.int .i64 k, .int .i64 n, .slice A m cp] 59)).trans hl0
  go_upto_region 2 with fail
  obtain ⟨b5, hb⟩ : ∃ b5, b5 = w0.heap.size := ⟨_, rfl⟩
  obtain ⟨W1, hW1⟩ : ∃ W1, W1 = w0.alloc (.cells #[.int .i64 k0, .int .u64 a0, .int .u64 b0, .int .u64 c0, .int .u64 d0, .slice A0 n0 cp0] 49) := ⟨_, rfl⟩
  have B5 : Blk W1 b5 49 #[.int .i64 k0, .int .u64 a0, .int .u64 b0, .int .u64 c0, .int .u64 d0, .slice A0 n0 cp0] := by rw [hW1, hb]; exact Blk.new w0 _ _
  have hl1 : Later w0 W1 := by rw [hW1]; exact (Later.refl w0).alloc _
  have hl2 := hlw.trans hl1
  have B3 := blkL hl1 B2
  have hC1 : ReC W1 (fun g => g ≠ b5) (twistF 4 t) ⟨k0, a0, b0, c0, d0, A0, n0, cp0⟩ := (ReC.weaken (fun g hg _ => by omega) _ hC0).later hl1
  have hb5 : w.heap.size < b5 := by rw [hb]; have := B2.lt; omega
  rw [← hW1, ← hb]
  clear hW1 hb hl0 hl1 hlw hC0 B2
  obtain ⟨d0', d1', d2'⟩ : W1.cell? ⟨w.heap.size, 0, none⟩ = some (.int .i64 k) ∧ W1.cell? ⟨w.heap.size, 1, none⟩ = some (.int .i64 n) ∧ W1.cell? ⟨w.heap.size, 2, none⟩ = some (.slice A m cp) := ⟨B3.cell 0, B3.cell 1, B3.cell 2⟩
  go_upto_if 8 with (fail)
  go_cut [] (fun wx => RgT w b5 wx)
  case first =>
    cases is with
    | false =>
      go_wp2_with fail
      go_meet
      exact ⟨twistF 4 t, k0, a0, b0, c0, d0, A0, n0, cp0, B5, hC1, low_twist 4 t, hl2⟩
    | true =>
      clear hC1
      go_wp2_with fail
      refine (HRE.out _ hl2).mono ?_
      rintro e w4 ⟨k1, a1, b1, c1, d1, A1, n1, cp1, rfl, hC4, hl4⟩
      have D5 := blkL hl4 B5
      have hl5 := hl2.trans hl4
      have hC5 : ReC w4 (fun g => g ≠ b5) (reF 4 t) ⟨k1, a1, b1, c1, d1, A1, n1, cp1⟩ := ReC.weaken (fun g hg h => by have := B5.lt; omega) _ hC4
      obtain ⟨z0, z1, z2, z3, z4, z5, y0, y1, y2, y3, y4, y5⟩ := cells6 D5
      have hlc : w.heap.size ≤ b5 := by omega
      clear B5 hl4 hC4 hl2 B3
      go_wp2_with fail
      go_meet
      exact ⟨reF 4 t, k1, a1, b1, c1, d1, A1, n1, cp1, D5.set6, ReC.fr (Fr.set6 b5 _ _ _ _ _ _) (spares_not _ (fun hh => hh rfl)) _ hC5, low_re 4 t, hl5.set6 hlc⟩
  case rest =>
  clear B5 hC1 hl2 B3 HTW HRE d0' d1' d2'
  obtain ⟨u, k, a, b, c, d, A, n, cp, B5, hT, hlow, hlw⟩ := hcut
  have hE := endC hT (fun h => by have := low_sets 5 u hlow h; omega)
  obtain ⟨v, hv⟩ : ∃ v, v = rightR u := ⟨_, rfl⟩
  obtain ⟨M2, hM2⟩ : ∃ M, M = (if rightR u = true then setsR u else 0) := ⟨_, rfl⟩
  rw [← hM2, ← hv] at hE
  have HE := Lib.hid hE
  have hvv : (v == v) = true := beq_self_eq_true _
  have hMM : ((M2 : Int) == (M2 : Int)) = true := beq_self_eq_true _
  clear hE hv hM2 hlow
  have q0 : ∀ x : LW wc, x.val.cell? ⟨b5, 0, none⟩ = some (.int .i64 k) := LW.cell_ (B5.cell 0)
  have q1 : ∀ x : LW wc, x.val.cell? ⟨b5, 1, none⟩ = some (.int .u64 a) := LW.cell_ (B5.cell 1)
  have q2 : ∀ x : LW wc, x.val.cell? ⟨b5, 2, none⟩ = some (.int .u64 b) := LW.cell_ (B5.cell 2)
  have q3 : ∀ x : LW wc, x.val.cell? ⟨b5, 3, none⟩ = some (.int .u64 c) := LW.cell_ (B5.cell 3)
  have q4 : ∀ x : LW wc, x.val.cell? ⟨b5, 4, none⟩ = some (.int .u64 d) := LW.cell_ (B5.cell 4)
  have q5 : ∀ x : LW wc, x.val.cell? ⟨b5, 5, none⟩ = some (.slice A n cp) := LW.cell_ (B5.cell 5)
  go_wp2_with fail
  refine wp_region_laterq (by kernel_rfl) (by kernel_rfl) ?_
  repeat (go_big_quiet_step (((first
    | (go_at_call 30; (with_reducible refine Calls.laterq (known_l _)))
    | (go_at_call 34; (with_reducible refine Calls.laterq (HE.out.r1 _ (LW.later _))))
    | (go_at_call 35; (with_reducible refine Calls.laterq (HE.out.r2 _ (LW.later _))))
    | (go_at_call 36; (with_reducible refine Calls.laterq (HE.out.s1 _ (LW.later _))))
    | (go_at_call 37; (with_reducible refine Calls.laterq (HE.out.s2 _ (LW.later _))))))))
  refine wpQuiet_nil ?_
  intro _ hwq
  obtain ⟨xz, rfl⟩ := hwq
  go_wp2_with fail
  go_ret
  exact ⟨rfl, hlw.trans xz.later⟩

end Go.Proofs.Ythmjnelnnhidkaa
