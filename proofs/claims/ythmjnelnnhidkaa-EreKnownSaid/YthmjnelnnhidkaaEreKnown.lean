/-
  Chapter 9's examples, and its numbers, by the contracts.
-/
import Derived.Test.YthmjnelnnhidkaaETextW
namespace Go.Proofs.Ythmjnelnnhidkaa
open Go.RowKit

/-- aa -/
def tAA : Tree := .node 2 z4 [tOne 97, tOne 97]
theorem pk1 : parseF [42, 97] = (tEmpty, 0, 24) := by kernel_rfl
theorem pk2 : parseF [40, 97] = (tEmpty, 2, 24) := by kernel_rfl
theorem pk3 : parseF [91, 122, 45, 97, 93] = (tEmpty, 0, 24) := by kernel_rfl
theorem pk4 : parseF [97, 123, 51, 44, 50, 125] = (tEmpty, 1, 24) := by kernel_rfl
theorem pk5 : parseF [97, 123, 48, 125] = (tEmpty, 0, 0) := by kernel_rfl
theorem pk6 : parseF [97, 123, 50, 125] = (tAA, 0, 0) := by kernel_rfl
theorem pq1 : quoteL [97] = [92, 49, 52, 49] := by decide
theorem pq2 : printT (.node 7 z4 []) = [94] := by unfold printT; rw [if_pos (by decide)]; rw [textT]; rfl
theorem wT_leaf (k : Int) : wT (.node k z4 []) := by unfold wT wL; exact ⟨⟨by decide, by decide, by decide, by decide⟩, trivial⟩

set_option maxRecDepth 100000 in
set_option maxHeartbeats 8000000 in
theorem ereKnownAll_any (w : World) : Calls Try.prog 13 #[] w fun e w' => e = .returned (.bool true) ∧ Later w w' := by
  have HQ : Hid (quoteL [97] = [92, 49, 52, 49]) := pq1
  have s1 : ((bstr [92, 49, 52, 49]).toList == [92, 49, 52, 49]) = true := by rw [bstr_toList]; exact beq_self_eq_true _
  have s2 : ((bstr [94]).toList == [94]) = true := by rw [bstr_toList]; exact beq_self_eq_true _
  have HQC : Hid (∀ wx : World, Calls Try.prog 39 #[.string ⟨#[97]⟩] wx fun e w' => e = .returned (.string (bstr [92, 49, 52, 49])) ∧ Later wx w') := fun wx => by
    have := quote_any [97] (by decide) wx
    rw [pq1] at this
    exact this
  have HPC : Hid (∀ wx : World, Calls Try.prog 40 #[.agg #[.int .i64 7, .int .u64 0, .int .u64 0, .int .u64 0, .int .u64 0, .slice none 0 0]] wx fun e w' => e = .returned (.string (bstr [94])) ∧ Later wx w') := fun wx => by
    have := print_any (.node 7 z4 []) loT 7 0 0 0 0 none 0 0 wx (wT_leaf 7) (ReC.leaf wx loT 7 z4 none 0)
    rw [pq2] at this
    exact this
  go_enter Try.func13, Try.ntmps13
  go_wp2_with fail
  refine (parse_at ⟨#[42, 97]⟩ _ pk1 (by decide) _).mono ?_
  rintro e w1 ⟨k1, a1, b1, c1, d1, A1, n1, p1, rfl, hC1, hl1⟩
  clear hC1
  go_wp2_with fail
  refine (parse_at ⟨#[40, 97]⟩ _ pk2 (by decide) _).mono ?_
  rintro e w2 ⟨k2, a2, b2, c2, d2, A2, n2, p2, rfl, hC2, hl2⟩
  clear hC2
  go_wp2_with fail
  refine (parse_at ⟨#[91, 122, 45, 97, 93]⟩ _ pk3 (by decide) _).mono ?_
  rintro e w3 ⟨k3, a3, b3, c3, d3, A3, n3, p3, rfl, hC3, hl3⟩
  clear hC3
  go_wp2_with fail
  refine (parse_at ⟨#[97, 123, 51, 44, 50, 125]⟩ _ pk4 (by decide) _).mono ?_
  rintro e w4 ⟨k4, a4, b4, c4, d4, A4, n4, p4, rfl, hC4, hl4⟩
  clear hC4
  go_wp2_with fail
  refine (parse_at ⟨#[97, 123, 48, 125]⟩ _ pk5 (by decide) _).mono ?_
  rintro e w5 ⟨k5, a5, b5, c5, d5, A5, n5, p5, rfl, hC5, hl5⟩
  go_wp2_with fail
  refine (parse_at ⟨#[97, 123, 50, 125]⟩ _ pk6 (by decide) _).mono ?_
  rintro e w6 ⟨k6, a6, b6, c6, d6, A6, n6, p6, rfl, hC6, hl6⟩
  go_wp2_with fail
  refine (refOne_at 97 97 rfl (by decide) _).mono ?_
  rintro e w7 ⟨k7, a7, b7, c7, d7, A7, n7, p7, rfl, hC7, hl7⟩
  go_wp2_with fail
  refine (ereKnown_any _).mono ?_
  rintro e w8 ⟨rfl, hl8⟩
  have q7 : Later (w7.alloc (.cells #[.int .i64 k7, .int .u64 a7, .int .u64 b7, .int .u64 c7, .int .u64 d7, .slice A7 n7 p7] 49)) w8 := hl8
  have B7 : Blk w8 w7.heap.size 49 #[.int .i64 k7, .int .u64 a7, .int .u64 b7, .int .u64 c7, .int .u64 d7, .slice A7 n7 p7] := blkL q7 (Blk.new w7 _ _)
  have q6 : Later (w6.alloc (.cells #[.int .i64 k6, .int .u64 a6, .int .u64 b6, .int .u64 c6, .int .u64 d6, .slice A6 n6 p6] 49)) w8 := hl7.trans (((Later.refl w7).alloc _).trans q7)
  have B6 : Blk w8 w6.heap.size 49 #[.int .i64 k6, .int .u64 a6, .int .u64 b6, .int .u64 c6, .int .u64 d6, .slice A6 n6 p6] := blkL q6 (Blk.new w6 _ _)
  have q5 : Later (w5.alloc (.cells #[.int .i64 k5, .int .u64 a5, .int .u64 b5, .int .u64 c5, .int .u64 d5, .slice A5 n5 p5] 49)) w8 := hl6.trans (((Later.refl w6).alloc _).trans q6)
  have B5 : Blk w8 w5.heap.size 49 #[.int .i64 k5, .int .u64 a5, .int .u64 b5, .int .u64 c5, .int .u64 d5, .slice A5 n5 p5] := blkL q5 (Blk.new w5 _ _)
  have q4 : Later (w4.alloc (.cells #[.int .i64 k4, .int .u64 a4, .int .u64 b4, .int .u64 c4, .int .u64 d4, .slice A4 n4 p4] 49)) w8 := hl5.trans (((Later.refl w5).alloc _).trans q5)
  have q3 : Later (w3.alloc (.cells #[.int .i64 k3, .int .u64 a3, .int .u64 b3, .int .u64 c3, .int .u64 d3, .slice A3 n3 p3] 49)) w8 := hl4.trans (((Later.refl w4).alloc _).trans q4)
  have q2 : Later (w2.alloc (.cells #[.int .i64 k2, .int .u64 a2, .int .u64 b2, .int .u64 c2, .int .u64 d2, .slice A2 n2 p2] 49)) w8 := hl3.trans (((Later.refl w3).alloc _).trans q3)
  have q1 : Later (w1.alloc (.cells #[.int .i64 k1, .int .u64 a1, .int .u64 b1, .int .u64 c1, .int .u64 d1, .slice A1 n1 p1] 49)) w8 := hl2.trans (((Later.refl w2).alloc _).trans q2)
  have hl : Later w w8 := hl1.trans (((Later.refl w1).alloc _).trans q1)
  have T6 : ReC w8 loT tAA ⟨k6, a6, b6, c6, d6, A6, n6, p6⟩ := hC6.later (((Later.refl w6).alloc _).trans q6)
  have T7 : ReC w8 loT (tOne 97) ⟨k7, a7, b7, c7, d7, A7, n7, p7⟩ := hC7.later (((Later.refl w7).alloc _).trans q7)
  have hk5 : k5 = 0 := by
    have := hC5
    unfold ReC tEmpty at this
    exact this.1
  subst hk5
  clear q1 q2 q3 q4 q5 q6 q7 hl1 hl2 hl3 hl4 hl5 hl6 hl7 hl8 hC5 hC6 hC7
  have e0 : w8.cell? ⟨w5.heap.size, 0, none⟩ = some (.int .i64 0) := B5.cell 0
  obtain ⟨g0, g1, g2, g3, g4, g5, -⟩ := cells6 B6
  obtain ⟨i0, i1, i2, i3, i4, i5, -⟩ := cells6 B7
  have K : ReC _ loT tAA _ := ReC.two 2 T7 T7 (upT w8)
  have T6a := T6.later ((Later.refl _).alloc (.cells #[.int .i64 k7, .int .u64 a7, .int .u64 b7, .int .u64 c7, .int .u64 d7, .slice A7 n7 p7, .int .i64 k7, .int .u64 a7, .int .u64 b7, .int .u64 c7, .int .u64 d7, .slice A7 n7 p7] 49))
  go_wp2_with fail
  refine (same_any _ tAA loT loT k6 a6 b6 c6 d6 A6 n6 p6 _ _ _ _ _ _ _ _ _ (Nat.le_refl _) (thin2 _ _ (thin_one _) (thin_one _)) T6a (by simpa using K)).mono ?_
  rintro e w9 ⟨rfl, hl9⟩
  have hl9 : Later w w9 := hl.trans (((Later.refl _).alloc _).trans hl9)
  clear K T6a T6 T7 B5 B6 B7 e0 g0 g1 g2 g3 g4 g5 i0 i1 i2 i3 i4 i5 hl
  go_wp2_with fail
  refine (HQC.out _).mono ?_
  rintro e wa ⟨rfl, hla⟩
  go_wp2_with fail
  refine (HPC.out _).mono ?_
  rintro e wb ⟨rfl, hlb⟩
  go_wp2_with fail
  go_ret
  exact ⟨by first | rfl | (show Ending.returned (.bool ((bstr [94]).toList == [94])) = _; rw [bstr_toList]; rfl), (hl9.trans hla).trans hlb⟩

end Go.Proofs.Ythmjnelnnhidkaa
