/-
  Chapter 7's examples, by the contracts.
-/
import Derived.Test.YtkpckmdakiminaaCalls
import Derived.Test.YtkpckmdakiminaaFrKnown
namespace Go.Proofs.Ytkpckmdakiminaa
open Go.RowKit

theorem sp_feed_mark {B : Nat} {w0 w : World} {g : Nat} {s : Sp} (h : Sps B w0 w g s) (l : List UInt8) (n : Nat) (hn : l.length = n) (cs : Array Value) (m : Nat × Nat) (hcs : cs = (bv l).toArray) (hl : s.rest.length + n ≤ 140737488355328) :
    Calls Try.prog 24 #[.pointer (some ⟨g, 0, none⟩), .slice (some ⟨w.heap.size, 0, none⟩) n n] (w.alloc (.cells cs 5 m)) fun e w' => e = .returned (.tuple #[]) ∧ Sps B w0 w' g (s.feed l) :=
  sp_feed (h.below ((Below.refl _ _).alloc (Nat.le_refl _) _)) _ n n l _ (rd_mark w l n hn cs m hcs) hl

set_option maxRecDepth 100000 in
set_option maxHeartbeats 1000000 in
theorem spk_any (w : World) : Calls Try.prog 20 #[] w fun e w' => e = .returned (.bool true) ∧ Below w.heap.size w w' := by
  have kc := fun (w : World) (C : Array Value) (n c : Nat) => Lib.run_convert_bytes_const (P := Try.prog) w 23 5 C n c Try.underlying23 Try.underlying5
  have e0 : (bstr [97, 98, 99]).toList = [97, 98, 99] := by decide +kernel
  have e1 : (bstr [100]).toList = [100] := by decide +kernel
  go_enter Try.func20, Try.ntmps20
  go_wp2_with fail
  refine (new_any 4 (by decide) (by decide) w).mono ?_
  rintro e w1 ⟨g, rfl, hs1, hb1⟩
  have H1 : Sps w.heap.size w w1 g (Sp.init 4) := ⟨hb1.size, hb1, _, _, hs1⟩
  clear hs1 hb1
  go_wp2_with fail
  refine (sp_feed_mark H1 [97, 98] 2 rfl _ _ rfl (by decide)).mono ?_
  rintro e w2 ⟨rfl, H2⟩
  clear H1
  go_wp2_with fail
  refine (sp_none H2 (by decide) [10] ⟨4, [97, 98], false, false, []⟩ rfl).mono ?_
  rintro e w3 ⟨rfl, H3⟩
  clear H2
  go_wp2_with fail
  refine (sp_feed_mark H3 [99, 10, 100] 3 rfl _ _ rfl (by decide)).mono ?_
  rintro e w4 ⟨rfl, H4⟩
  clear H3
  go_wp2_with fail
  refine (sp_some H4 (by decide) [10] [97, 98, 99] ⟨4, [], false, false, [100]⟩ rfl).mono ?_
  rintro e w5 ⟨rfl, H5⟩
  clear H4
  go_wp2_with fail
  refine (sp_none H5 (by decide) [10] ⟨4, [100], false, false, []⟩ rfl).mono ?_
  rintro e w6 ⟨rfl, H6⟩
  clear H5
  go_wp2_with fail
  refine (sp_last_some H6 (by decide) [10] [100] ⟨4, [], false, false, []⟩ rfl).mono ?_
  rintro e w7 ⟨rfl, H7⟩
  clear H6
  go_wp2_with fail
  refine (sp_last_none H7 (by decide) [10] ⟨4, [], false, false, []⟩ rfl).mono ?_
  rintro e w8 ⟨rfl, H8⟩
  clear H7
  go_wp2_with fail
  go_ret
  exact ⟨rfl, H8.2.1⟩

set_option maxRecDepth 100000 in
set_option maxHeartbeats 1000000 in
theorem spKnown_any (w : World) : Calls Try.prog 10 #[] w fun e w' => e = .returned (.bool true) ∧ Below w.heap.size w w' := by
  have kc := fun (w : World) (C : Array Value) (n c : Nat) => Lib.run_convert_bytes_const (P := Try.prog) w 23 5 C n c Try.underlying23 Try.underlying5
  have e0 : (bstr [97, 98, 99, 100]).toList = [97, 98, 99, 100] := by decide +kernel
  have e1 : (bstr [120]).toList = [120] := by decide +kernel
  have e2 : (bstr [97, 10, 98]).toList = [97, 10, 98] := by decide +kernel
  have e3 : (bstr [99]).toList = [99] := by decide +kernel
  go_enter Try.func10, Try.ntmps10
  go_wp2_with fail
  refine (new_bad w 0 (by decide) (by decide) (by decide)).mono ?_
  rintro e wa ⟨rfl, rfl⟩
  go_wp2_with fail
  refine (new_bad wa 201 (by decide) (by decide) (by decide)).mono ?_
  rintro e wb ⟨rfl, rfl⟩
  go_wp2_with fail
  refine (new_any 4 (by decide) (by decide) wb).mono ?_
  rintro e w1 ⟨g, rfl, hs1, hb1⟩
  have H1 : Sps wb.heap.size wb w1 g (Sp.init 4) := ⟨hb1.size, hb1, _, _, hs1⟩
  clear hs1 hb1
  go_wp2_with fail
  refine (spk_any w1).mono ?_
  rintro e w2 ⟨rfl, hb2⟩
  have H2 := H1.below hb2
  clear H1 hb2
  go_wp2_with fail
  refine (sp_feed_mark H2 [97, 98, 99, 100, 101, 102, 59, 120] 8 rfl _ _ rfl (by decide)).mono ?_
  rintro e w3 ⟨rfl, H3⟩
  clear H2
  go_wp2_with fail
  refine (sp_some H3 (by decide) [59] [97, 98, 99, 100] ⟨4, [], false, false, [120]⟩ rfl).mono ?_
  rintro e w4 ⟨rfl, H4⟩
  clear H3
  go_wp2_with fail
  have Hh := H4.2.2
  obtain ⟨R1, R2, hs⟩ := Hh
  refine (held_any w4 _ g R1 R2 _ hs).mono ?_
  rintro e wh ⟨rfl, rfl⟩
  clear hs
  go_wp2_with fail
  refine (sp_last_some H4 (by decide) [59] [120] ⟨4, [], false, false, []⟩ rfl).mono ?_
  rintro e w5 ⟨rfl, H5⟩
  clear H4
  go_wp2_with fail
  refine (new_any 4 (by decide) (by decide) w5).mono ?_
  rintro e w6 ⟨g2, rfl, hs6, hb6⟩
  have H6 : Sps w5.heap.size w5 w6 g2 (Sp.init 4) := ⟨hb6.size, hb6, _, _, hs6⟩
  have hB5 := H5.1
  have hb5 := H5.2.1
  clear hs6 hb6 H5
  go_wp2_with fail
  refine (sp_feed_mark H6 [10, 10, 97, 10, 98, 10, 10, 10, 99, 10] 10 rfl _ _ rfl (by decide)).mono ?_
  rintro e w7 ⟨rfl, H7⟩
  clear H6
  go_wp2_with fail
  refine (sp_some H7 (by decide) [] [97, 10, 98] ⟨4, [], false, false, [10, 99, 10]⟩ rfl).mono ?_
  rintro e w8 ⟨rfl, H8⟩
  clear H7
  go_wp2_with fail
  refine (sp_none H8 (by decide) [] ⟨4, [99], false, true, []⟩ rfl).mono ?_
  rintro e w9 ⟨rfl, H9⟩
  clear H8
  go_wp2_with fail
  refine (sp_last_some H9 (by decide) [] [99] ⟨4, [], false, false, []⟩ rfl).mono ?_
  rintro e w10 ⟨rfl, H10⟩
  clear H9
  go_wp2_with fail
  go_ret
  exact ⟨rfl, hb5.trans (H10.2.1.mono hB5)⟩

end Go.Proofs.Ytkpckmdakiminaa
