/-
  What comes later turns nothing below.
-/
import Derived.Test.YtmkddhkpeiajhaaDoorLater
namespace Go.Proofs.YtmkddhkpeiajhaaDoor
open Go.RowKit
theorem asB {P : Program} {f : Nat} {args : Array Value} {w : World} {v : Ending} (h : Calls P f args w fun e w' => e = v ∧ Later w w') : Calls P f args w fun e w' => e = v ∧ Below w.heap.size w w' := h
end Go.Proofs.YtmkddhkpeiajhaaDoor
