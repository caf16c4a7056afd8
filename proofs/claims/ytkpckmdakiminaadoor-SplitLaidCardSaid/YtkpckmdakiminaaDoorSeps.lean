/-
  Law 7's separators, as the row lists them.
-/
import Derived.Test.YtkpckmdakiminaaDoorStrTab
namespace Go.Proofs.YtkpckmdakiminaaDoor
open Go.RowKit

def seps : List (List UInt8) := [[10], [], [59], [10], [59, 120]]
def SepsAt (W : World) : Prop := ∀ (i : Nat) (s : List UInt8), seps[i]? = some s → W.cell? ⟨0, i, none⟩ = some (.string (bstr s))
theorem SepsAt.below {w w' : World} {B : Nat} (h : SepsAt w) (hb : Below B w w') (hB : 0 < B) : SepsAt w' := fun i s hs => (hb.cell (p := ⟨_, i, none⟩) hB).trans (h i s hs)
theorem SepsAt.at_ {w : World} (h : SepsAt w) {k : Nat} (hk : k < 5) : ∃ s, Hid (seps[k]? = some s) ∧ w.cell? ⟨0, k, none⟩ = some (.string (bstr s)) :=
  ⟨seps[k]'hk, List.getElem?_eq_getElem hk, h k _ (List.getElem?_eq_getElem hk)⟩
theorem SepsAt.lt {w : World} (h : SepsAt w) : 0 < w.heap.size := by
  have := h 0 [10] rfl
  exact World.block_lt_of_cell? w _ this

theorem seps_laid2 {W : World} (h : laidMetH Tryd.prog Rows.splitPlaysUptoRow.laid W) : SepsAt W :=
  strs_of_head (t := 26) (e := 9) (n := 5) (rest := []) (by kernel_rfl) (by kernel_rfl) Tryd.underlying26 Tryd.underlying9 (by kernel_rfl) (by kernel_rfl) h
theorem seps_laid {W : World} (h : laidMetH Tryd.prog Rows.splitPiecesRow.laid W) : SepsAt W :=
  strs_of_head (t := 26) (e := 9) (n := 5) (rest := []) (by kernel_rfl) (by kernel_rfl) Tryd.underlying26 Tryd.underlying9 (by kernel_rfl) (by kernel_rfl) h

end Go.Proofs.YtkpckmdakiminaaDoor
