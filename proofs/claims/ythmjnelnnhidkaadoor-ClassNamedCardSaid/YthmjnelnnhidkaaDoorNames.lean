/-
  Law 8's names, as the row lists them.
-/
import Derived.Test.YthmjnelnnhidkaaDoorStrTab
namespace Go.Proofs.YthmjnelnnhidkaaDoor
open Go.RowKit

def clsNames : List (List UInt8) := [[97, 108, 112, 104, 97], [100, 105, 103, 105, 116], [97, 108, 110, 117, 109], [117, 112, 112, 101, 114], [108, 111, 119, 101, 114], [115, 112, 97, 99, 101], [98, 108, 97, 110, 107], [112, 117, 110, 99, 116], [112, 114, 105, 110, 116], [103, 114, 97, 112, 104], [99, 110, 116, 114, 108], [120, 100, 105, 103, 105, 116], [119, 111, 114, 100]]
def NamesAt (W : World) : Prop := ∀ (i : Nat) (s : List UInt8), clsNames[i]? = some s → W.cell? ⟨0, i, none⟩ = some (.string (bstr s))
theorem NamesAt.at_ {w : World} (h : NamesAt w) {k : Nat} (hk : k < 13) : ∃ s, s.length ≤ 100 ∧ w.cell? ⟨0, k, none⟩ = some (.string (bstr s)) :=
  ⟨clsNames[k]'hk, (by decide : ∀ s ∈ clsNames, s.length ≤ 100) _ (List.getElem_mem hk), h k _ (List.getElem?_eq_getElem hk)⟩
theorem names_laid {W : World} (h : laidMetH Tryd.prog Rows.classNamedRow.laid W) : NamesAt W :=
  strs_of_head (t := 22) (e := 9) (n := 13) (rest := []) (by kernel_rfl) (by kernel_rfl) Tryd.underlying22 Tryd.underlying9 (by kernel_rfl) (by kernel_rfl) h

end Go.Proofs.YthmjnelnnhidkaaDoor
