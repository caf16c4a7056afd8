/-
  The document's One and Same.
-/
import Derived.Test.YtmkddhkpeiajhaaDoorTwin
namespace Go.Proofs.YtmkddhkpeiajhaaDoor
open Go.RowKit

/-- a tree that a function leaves -/
def RetT (w : World) (lo : Nat → Prop) (t : Tree) (e : Ending) (w' : World) : Prop :=
  ∃ (k a b c d : Int) (A : Option Addr) (n cp : Nat), e = .returned (.agg #[.int .i64 k, .int .u64 a, .int .u64 b, .int .u64 c, .int .u64 d, .slice A n cp]) ∧ ReC w' lo t ⟨k, a, b, c, d, A, n, cp⟩ ∧ Later w w'
/-- the tree of one byte -/
def tOne (b : Nat) : Tree := .node 1 (w4 (mOf [UInt8.ofNat b])) []

end Go.Proofs.YtmkddhkpeiajhaaDoor
