/-
  '[]byte(s)' of a text: a slice of bytes of the call's own.
-/
import Derived.Test.YtkpckmdakiminaaDoorMid
import Derived.Laws.IdiomStrings
namespace Go.Proofs.YtkpckmdakiminaaDoor
open Go.RowKit

theorem run_bytes_m (w : World) (x : List UInt8) (_hx : x.length ≤ 140737488355328) : ∃ c w', (convert 9 22 (.string (bstr x))).run Tryd.prog w = .ok (.slice (some ⟨w.heap.size, 0, none⟩) x.length c) w' ∧
    OwnM w' w.heap.size (some ⟨w.heap.size, 0, none⟩) x.length c x ∧ Below w.heap.size w w' := by
  have hr := run_bytes_of_string (P := Tryd.prog) w 9 22 5 (bstr x) Tryd.underlying9 Tryd.underlying22 Tryd.underlying5
  have hz : (bstr x).size = x.length := by show x.toArray.size = _; simp
  rw [hz] at hr
  obtain ⟨cap, hcap⟩ : ∃ cap, grownCap w x.length 0 5 = cap := ⟨_, rfl⟩
  have h1 := grownCap_ge w x.length 0 5
  have h2 := grownCap_le_maxLen w x.length 0 5 (by unfold maxLen; omega)
  rw [hcap] at hr h1 h2
  have hsz : (bytesRow (bstr x) cap).size = cap := by
    have e : (bstr x).data.size = x.length := hz
    unfold bytesRow
    rw [hz]
    simp only [Array.size_append, Array.size_map, Array.size_replicate]
    omega
  refine ⟨cap, _, hr, ⟨rfl, .inr ⟨w.heap.size, 0, _, rfl, Nat.le_refl _, ⟨_, heap_alloc_new w.drew _, .inr (Nat.le_refl _)⟩, h1, h2, by rw [hsz]; omega, fun j u hu => ?_⟩⟩, ?_⟩
  · have hj : j < x.length := by
      rcases Nat.lt_or_ge j x.length with h | h
      · exact h
      · rw [List.getElem?_eq_none (by rw [bv_length]; exact h)] at hu; cases hu
    rw [bv_get x j hj] at hu
    rw [← hu, Nat.zero_add]
    unfold bytesRow
    have hjs : j < ((bstr x).data.map fun b => Value.int .u8 b.toNat).size := by rw [Array.size_map]; exact hj
    rw [Array.getElem?_append_left hjs, Array.getElem?_map]
    have : (bstr x).data[j]? = some x[j] := by
      show x.toArray[j]? = _
      rw [List.getElem?_toArray, List.getElem?_eq_getElem hj]
    rw [this]; rfl
  · exact Below.alloc (⟨rfl, rfl, rfl, Nat.le_refl _, fun _ _ => rfl⟩ : Below w.heap.size w w.drew) (Nat.le_refl _) _

end Go.Proofs.YtkpckmdakiminaaDoor
