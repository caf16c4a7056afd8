/-
  Chapter 9's examples in 'known', by the contracts.
-/
import Derived.Test.YtmkddhkpeiajhaaDoorParser
import Derived.Test.YtmkddhkpeiajhaaDoorSame
namespace Go.Proofs.YtmkddhkpeiajhaaDoor
open Go.RowKit

def loT : Nat → Prop := fun _ => True
theorem upT (w : World) : Up w loT := fun _ _ => trivial
theorem parse_at (S : ByteArray) (R : Tree × Nat × Nat) (h : parseF S.data.toList = R) (hs : S.size ≤ 999999990) (w : World) : Calls Tryd.prog 26 #[.string S] w (RetParse w loT R) := by
  subst h
  exact parse_any S loT w hs (upT w)
theorem thin_one (b : Nat) : thinT (tOne b) := thin0 _ _

/-- ab* -/
def tAB : Tree := .node 2 z4 [tOne 97, .node 4 z4 [tOne 98]]
/-- a|b -/
def tA_B : Tree := .node 3 z4 [tOne 97, tOne 98]
theorem pf1 : parseF [97, 98, 42] = (tAB, 0, 0) := by kernel_rfl
theorem pf2 : parseF [97, 124, 98] = (tA_B, 0, 0) := by kernel_rfl
theorem pf3 : parseF [97, 124, 124, 98] = (tEmpty, 2, 24) := by kernel_rfl

end Go.Proofs.YtmkddhkpeiajhaaDoor
