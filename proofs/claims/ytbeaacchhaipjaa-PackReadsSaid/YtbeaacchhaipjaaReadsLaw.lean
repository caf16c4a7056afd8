/-
  The walk of PackReads.
-/
import Derived.Test.YtbeaacchhaipjaaReads
namespace Go.Proofs.Ytbeaacchhaipjaa
open Go.RowKit

set_option maxRecDepth 100000 in
set_option maxHeartbeats 1000000 in
theorem packReads_any (A : Option Addr) (n c : Nat) (l : List UInt8) (A2 : Option Addr) (n2 c2 : Nat) (ls : List AskV) (w : World) (hr : RdB w w.heap.size A n l) (hc : n ≤ c) (ha : RdA w w.heap.size A2 n2 ls) (hok : ∀ y ∈ ls, AskOk y)
    (hn : n ≤ 140737488351232) (hn2 : n2 ≤ 140737488351232) :
    Calls Try.prog 9 #[.slice A n c, .slice A2 n2 c2] w fun e w' => e = .returned (.bool true) ∧ Below w.heap.size w w' := by
  go_enter Try.func9, Try.ntmps9
  go_wp2_with fail
  refine (known_any w).mono ?_
  rintro e w1 ⟨rfl, hb1⟩
  have hs1 := hb1.size
  go_wp2_with fail
  refine (reads_any A n c l A2 n2 c2 ls w1 ((hr.below hb1).more hs1) hc ((ha.below hb1).more hs1) hok (by omega) (by omega)).mono ?_
  rintro e w2 ⟨rfl, hb2⟩
  go_wp2_with fail
  go_ret
  exact ⟨rfl, hb1.trans (hb2.mono hs1)⟩

end Go.Proofs.Ytbeaacchhaipjaa
