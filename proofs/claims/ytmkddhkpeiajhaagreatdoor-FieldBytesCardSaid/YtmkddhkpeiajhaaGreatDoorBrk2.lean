import Derived.Test.YtmkddhkpeiajhaaGreatDoorBrk
import Derived.Test.YtmkddhkpeiajhaaGreatDoorNamed
import Derived.Lib.Strings
import Derived.Deep.CutBlock
import Derived.Deep.DeepCutAuto
namespace Go.Proofs.YtmkddhkpeiajhaaGreatDoor
open Go.RowKit
def Setted (w : World) (g : Nat) (s : ByteArray) (r : Option (Mem × Nat)) (e : Ending) (w' : World) : Prop :=
 Fr w w' (fun k => k = g) ∧ match r with
 | some (m, p) => e = .returned (.tuple #[setV m, .bool true]) ∧ BrOk w' g s p
 | none => (∃ m, e = .returned (.tuple #[setV m, .bool false])) ∧ ∃ p, BrOk w' g s p
theorem blkLater {w w' : World} {g : Nat} {t : TypeId} {cs : Array Value} (hl : Later w w') (h : Blk w g t cs) : Blk w' g t cs := h.below hl h.lt
theorem brFar {w : World} {g p g2 : Nat} {s : ByteArray} (h : BrOk w g s p) (hne : g ≠ g2) (i : Nat) (v : Value) : BrOk (w.setCell ⟨g2, i, none⟩ v) g s p := Blk.far h hne v
theorem frNew {w w1 : World} {p : Nat → Prop} (h : Fr w w1 p) (i : Nat) (v : Value) : Fr w (w1.setCell ⟨w.heap.size, i, none⟩ v) p := Fr.set (a := ⟨w.heap.size, i, none⟩) h (fun h => absurd h (Nat.lt_irrefl _)) v
end Go.Proofs.YtmkddhkpeiajhaaGreatDoor
