/-
  Chapter 9's examples in 'known', by the contracts.
-/
import Derived.Test.YthmjnelnnhidkaaParser
import Derived.Test.YthmjnelnnhidkaaSame
namespace Go.Proofs.Ythmjnelnnhidkaa
open Go.RowKit

def loT : Nat → Prop := fun _ => True
theorem upT (w : World) : Up w loT := fun _ _ => trivial
theorem parse_at (S : ByteArray) (R : Tree × Nat × Nat) (h : parseF S.data.toList = R) (hs : S.size ≤ 999999990) (w : World) : Calls Try.prog 28 #[.string S] w (RetParse w loT R) := by
  subst h
  exact parse_any S loT w hs (upT w)
theorem refOne_at (b : Nat) (x : Int) (hx : x = (b : Int)) (hb : b < 256) (w : World) : Calls Try.prog 38 #[.int .u8 x] w (RetT w loT (tOne b)) := by
  subst hx
  exact refOne_any loT b hb w
theorem thin_one (b : Nat) : thinT (tOne b) := thin0 _ _

/-- ab* -/
def tAB : Tree := .node 2 z4 [tOne 97, .node 4 z4 [tOne 98]]
/-- a|b -/
def tA_B : Tree := .node 3 z4 [tOne 97, tOne 98]
theorem pf1 : parseF [97, 98, 42] = (tAB, 0, 0) := by kernel_rfl
theorem pf2 : parseF [97, 124, 98] = (tA_B, 0, 0) := by kernel_rfl
theorem pf3 : parseF [97, 124, 124, 98] = (tEmpty, 2, 24) := by kernel_rfl

set_option maxRecDepth 100000 in
set_option maxHeartbeats 8000000 in
theorem ereKnown_any (w : World) : Calls Try.prog 30 #[] w fun e w' => e = .returned (.bool true) ∧ Later w w' := by
  go_enter Try.func30, Try.ntmps30
  go_wp2_with fail
  refine (parse_at ⟨#[97, 98, 42]⟩ _ pf1 (by decide) w).mono ?_
  rintro e w1 ⟨k1, a1, b1, c1, d1, A1, n1, p1, rfl, hC1, hl1⟩
  go_wp2_with fail
  refine (parse_at ⟨#[97, 124, 98]⟩ _ pf2 (by decide) _).mono ?_
  rintro e w2 ⟨k2, a2, b2, c2, d2, A2, n2, p2, rfl, hC2, hl2⟩
  go_wp2_with fail
  refine (parse_at ⟨#[97, 124, 124, 98]⟩ _ pf3 (by decide) _).mono ?_
  rintro e w3 ⟨k3, a3, b3, c3, d3, A3, n3, p3, rfl, hC3, hl3⟩
  go_wp2_with fail
  refine (refOne_at 97 97 rfl (by decide) _).mono ?_
  rintro e w4 ⟨k4, a4, b4, c4, d4, A4, n4, p4, rfl, hC4, hl4⟩
  go_wp2_with fail
  refine (refOne_at 98 98 rfl (by decide) _).mono ?_
  rintro e w5 ⟨k5, a5, b5, c5, d5, A5, n5, p5, rfl, hC5, hl5⟩
  go_upto_region 6 with fail
  obtain ⟨W6, hW6⟩ : ∃ W6, W6 = w5.alloc (.cells #[.int .i64 k5, .int .u64 a5, .int .u64 b5, .int .u64 c5, .int .u64 d5, .slice A5 n5 p5] 49) := ⟨_, rfl⟩
  have q5 : Later w5 W6 := by rw [hW6]; exact (Later.refl w5).alloc _
  have B5 : Blk W6 w5.heap.size 49 #[.int .i64 k5, .int .u64 a5, .int .u64 b5, .int .u64 c5, .int .u64 d5, .slice A5 n5 p5] := by rw [hW6]; exact Blk.new w5 _ _
  have q4 : Later (w4.alloc (.cells #[.int .i64 k4, .int .u64 a4, .int .u64 b4, .int .u64 c4, .int .u64 d4, .slice A4 n4 p4] 49)) W6 := hl5.trans q5
  have B4 : Blk W6 w4.heap.size 49 #[.int .i64 k4, .int .u64 a4, .int .u64 b4, .int .u64 c4, .int .u64 d4, .slice A4 n4 p4] := blkL q4 (Blk.new w4 _ _)
  have q3 : Later (w3.alloc (.cells #[.int .i64 k3, .int .u64 a3, .int .u64 b3, .int .u64 c3, .int .u64 d3, .slice A3 n3 p3] 49)) W6 := hl4.trans (((Later.refl w4).alloc _).trans q4)
  have q2 : Later (w2.alloc (.cells #[.int .i64 k2, .int .u64 a2, .int .u64 b2, .int .u64 c2, .int .u64 d2, .slice A2 n2 p2] 49)) W6 := hl3.trans (((Later.refl w3).alloc _).trans q3)
  have B2 : Blk W6 w2.heap.size 49 #[.int .i64 k2, .int .u64 a2, .int .u64 b2, .int .u64 c2, .int .u64 d2, .slice A2 n2 p2] := blkL q2 (Blk.new w2 _ _)
  have q1 : Later (w1.alloc (.cells #[.int .i64 k1, .int .u64 a1, .int .u64 b1, .int .u64 c1, .int .u64 d1, .slice A1 n1 p1] 49)) W6 := hl2.trans (((Later.refl w2).alloc _).trans q2)
  have B1 : Blk W6 w1.heap.size 49 #[.int .i64 k1, .int .u64 a1, .int .u64 b1, .int .u64 c1, .int .u64 d1, .slice A1 n1 p1] := blkL q1 (Blk.new w1 _ _)
  have hl : Later w W6 := hl1.trans (((Later.refl w1).alloc _).trans q1)
  have T1 : ReC W6 loT tAB ⟨k1, a1, b1, c1, d1, A1, n1, p1⟩ := hC1.later (((Later.refl w1).alloc _).trans q1)
  have T2 : ReC W6 loT tA_B ⟨k2, a2, b2, c2, d2, A2, n2, p2⟩ := hC2.later (((Later.refl w2).alloc _).trans q2)
  have T4 : ReC W6 loT (tOne 97) ⟨k4, a4, b4, c4, d4, A4, n4, p4⟩ := hC4.later (((Later.refl w4).alloc _).trans q4)
  have T5 : ReC W6 loT (tOne 98) ⟨k5, a5, b5, c5, d5, A5, n5, p5⟩ := hC5.later q5
  rw [← hW6]
  clear hW6 q1 q2 q3 q4 q5 hl1 hl2 hl3 hl4 hl5 hC1 hC2 hC3 hC4 hC5
  obtain ⟨e0, e1, e2, e3, e4, e5, -⟩ := cells6 B1
  obtain ⟨g0, g1, g2, g3, g4, g5, -⟩ := cells6 B4
  obtain ⟨i0, i1, i2, i3, i4, i5, -⟩ := cells6 B5
  have K : ReC _ loT tAB _ := ReC.two 2 (T4.later ((Later.refl _).alloc _)) (ReC.one 4 T5 (upT W6)) (upT _)
  have T1a := T1.later (((Later.refl _).alloc (.cells #[.int .i64 k5, .int .u64 a5, .int .u64 b5, .int .u64 c5, .int .u64 d5, .slice A5 n5 p5] 49)).alloc (.cells #[.int .i64 k4, .int .u64 a4, .int .u64 b4, .int .u64 c4, .int .u64 d4, .slice A4 n4 p4, .int .i64 4, .int .u64 0, .int .u64 0, .int .u64 0, .int .u64 0, .slice (some ⟨W6.heap.size, 0, none⟩) 1 1] 49))
  go_wp2_with fail
  refine (same_any _ tAB loT loT k1 a1 b1 c1 d1 A1 n1 p1 _ _ _ _ _ _ _ _ _ (Nat.le_refl _) (thin2 _ _ (thin_one _) (thin1 _ _ (thin_one _))) T1a (by simpa using K)).mono ?_
  rintro e w7 ⟨rfl, hl7⟩
  have hl8 : Later W6 w7 := (((Later.refl _).alloc _).alloc _).trans hl7
  clear K T1a e0 e1 e2 e3 e4 e5 g0 g1 g2 g3 g4 g5 i0 i1 i2 i3 i4 i5 hl7
  obtain ⟨e0, e1, e2, e3, e4, e5, -⟩ := cells6 (blkL hl8 B2)
  obtain ⟨g0, g1, g2, g3, g4, g5, -⟩ := cells6 (blkL hl8 B4)
  obtain ⟨i0, i1, i2, i3, i4, i5, -⟩ := cells6 (blkL hl8 B5)
  have K : ReC _ loT tA_B _ := ReC.two 3 (T4.later hl8) (T5.later hl8) (upT _)
  have T2a := (T2.later hl8).later ((Later.refl _).alloc (.cells #[.int .i64 k4, .int .u64 a4, .int .u64 b4, .int .u64 c4, .int .u64 d4, .slice A4 n4 p4, .int .i64 k5, .int .u64 a5, .int .u64 b5, .int .u64 c5, .int .u64 d5, .slice A5 n5 p5] 49))
  go_wp2_with fail
  refine (same_any _ tA_B loT loT k2 a2 b2 c2 d2 A2 n2 p2 _ _ _ _ _ _ _ _ _ (Nat.le_refl _) (thin2 _ _ (thin_one _) (thin_one _)) T2a (by simpa using K)).mono ?_
  rintro e w9 ⟨rfl, hl9⟩
  go_wp2_with fail
  go_ret
  exact ⟨rfl, (hl.trans hl8).trans (((Later.refl _).alloc _).trans hl9)⟩

end Go.Proofs.Ythmjnelnnhidkaa
