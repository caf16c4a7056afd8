/-
  Law 7's known, by the contracts.
-/
import Derived.Test.YtkpckmdakiminaaDoorCalls
import Derived.Test.YtkpckmdakiminaaDoorSlices
import Derived.Lib.SlBytesConst
namespace Go.Proofs.YtkpckmdakiminaaDoor
open Go.RowKit

theorem sp_feed_mark {B : Nat} {w0 w : World} {g : Nat} {s : Sp} (h : Sps B w0 w g s) (l : List UInt8) (n : Nat) (hn : l.length = n) (cs : Array Value) (m : Nat × Nat) (hcs : cs = (bv l).toArray) (hl : s.rest.length + n ≤ 140737488355328) :
    Calls Tryd.prog 12 #[.pointer (some ⟨g, 0, none⟩), .slice (some ⟨w.heap.size, 0, none⟩) n n] (w.alloc (.cells cs 5 m)) fun e w' => e = .returned (.tuple #[]) ∧ Sps B w0 w' g (s.feed l) :=
  sp_feed (h.below ((Below.refl _ _).alloc (Nat.le_refl _) _)) _ n n l _ (rd_mark w l n hn cs m hcs) hl

set_option maxRecDepth 100000 in
set_option maxHeartbeats 1000000 in
theorem spk_any (w : World) : Calls Tryd.prog 9 #[] w fun e w' => e = .returned (.bool true) ∧ Below w.heap.size w w' := by
  have kc := fun (w : World) (C : Array Value) (n c : Nat) => Lib.run_convert_bytes_const (P := Tryd.prog) w 22 5 C n c Tryd.underlying22 Tryd.underlying5
  have e0 : (bstr [97, 98, 99]).toList = [97, 98, 99] := by decide +kernel
  have e1 : (bstr [100]).toList = [100] := by decide +kernel
  go_enter Tryd.func9, Tryd.ntmps9
  go_wp2_with fail
  refine (new_any 4 (by decide) (by decide) w).mono ?_
  rintro e w1 ⟨g, rfl, hs1, hb1⟩
  have H1 : Sps w.heap.size w w1 g (Sp.init 4) := ⟨hb1.size, hb1, _, _, hs1⟩
  clear hs1 hb1
  go_wp2_with fail
  refine (sp_feed_mark H1 [97, 98] 2 rfl _ _ rfl (by decide)).mono ?_
  rintro e w2 ⟨rfl, H2⟩
  clear H1
  go_wp2_with fail
  refine (sp_none H2 (by decide) [10] ⟨4, [97, 98], false, false, []⟩ rfl).mono ?_
  rintro e w3 ⟨rfl, H3⟩
  clear H2
  go_wp2_with fail
  refine (sp_feed_mark H3 [99, 10, 100] 3 rfl _ _ rfl (by decide)).mono ?_
  rintro e w4 ⟨rfl, H4⟩
  clear H3
  go_wp2_with fail
  refine (sp_some H4 (by decide) [10] [97, 98, 99] ⟨4, [], false, false, [100]⟩ rfl).mono ?_
  rintro e w5 ⟨rfl, H5⟩
  clear H4
  go_wp2_with fail
  refine (sp_none H5 (by decide) [10] ⟨4, [100], false, false, []⟩ rfl).mono ?_
  rintro e w6 ⟨rfl, H6⟩
  clear H5
  go_wp2_with fail
  refine (sp_last_some H6 (by decide) [10] [100] ⟨4, [], false, false, []⟩ rfl).mono ?_
  rintro e w7 ⟨rfl, H7⟩
  clear H6
  go_wp2_with fail
  refine (sp_last_none H7 (by decide) [10] ⟨4, [], false, false, []⟩ rfl).mono ?_
  rintro e w8 ⟨rfl, H8⟩
  clear H7
  go_wp2_with fail
  go_ret
  exact ⟨rfl, H8.2.1⟩

end Go.Proofs.YtkpckmdakiminaaDoor
