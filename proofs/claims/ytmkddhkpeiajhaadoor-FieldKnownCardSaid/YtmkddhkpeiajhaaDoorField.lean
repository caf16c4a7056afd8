/-
  Package field's Plain and Split at a byte.
-/
import Derived.Test.YtmkddhkpeiajhaaDoorStrs
import Derived.Test.YtmkddhkpeiajhaaDoorShelf
import Derived.Test.YtmkddhkpeiajhaaDoorLater
import Derived.Test.YtmkddhkpeiajhaaDoorFieldLaw
namespace Go.Proofs.YtmkddhkpeiajhaaDoor
open Go.RowKit

/-- the library's variable is there -/
def MaxL (w : World) : Prop := ∃ m : Int, w.cell? ⟨0, 0, none⟩ = some (.int .i64 m)
theorem MaxL.later {w w' : World} (h : MaxL w) (hl : Later w w') : MaxL w' := by
  obtain ⟨m, hm⟩ := h
  exact ⟨m, by rw [Later.cell hl (World.block_lt_of_cell? _ _ hm), hm]⟩
theorem reads_cells (w : World) (ss : List (List UInt8)) (t : TypeId) : RdZ (w.alloc (.cells (ss.map strCell).toArray t)) (w.heap.size + 1) (some ⟨w.heap.size, 0, none⟩) ss.length ss := by
  refine ⟨by rw [List.length_map, Nat.mul_one], fun _ => ⟨_, rfl, Nat.lt_succ_self _, fun j u hu => ?_⟩⟩
  rw [Addr.add_lit, Nat.zero_add, cell_of_row _ _ _ _ _ _ (heap_alloc_new w _)]
  simpa using hu
theorem split_cells (c : UInt8) (L : List UInt8) : ((Lib.splitB (bstr [c]) 0 (Lib.countB (bstr L) (bstr [c])) (bstr L)).map Value.string) = (piecesC c L).map strCell := by
  have h := Lib.splitB_data (bstr [c]) 0 (Lib.countB (bstr L) (bstr [c])) (bstr L)
  have h2 : piecesC c L = (Lib.splitB (bstr [c]) 0 (Lib.countB (bstr L) (bstr [c])) (bstr L)).map (·.data.toList) := h.symm
  rw [h2, List.map_map]
  apply List.map_congr_left
  intro b _
  rfl
theorem count_cells (c : UInt8) (L : List UInt8) : Lib.countB (bstr L) (bstr [c]) + 1 = (piecesC c L).length := by
  rw [pieces_len]
  show Lib.count L [c] + 1 = _
  rw [pieces_count]
/-- strings that a function leaves -/
def RetSs (w : World) (ss : List (List UInt8)) (v : Value) (w' : World) : Prop :=
  ∃ A n c, v = .slice A n c ∧ RdZ w' w'.heap.size A n ss ∧ Later w w'
theorem split_at (c : UInt8) (L : List UInt8) (w : World) (hm : MaxL w) (hL : L.length ≤ 1000000) :
    Calls Tryd.prog 25 #[.string (bstr L), .string (bstr [c])] w fun e w' => ∃ v, e = .returned v ∧ RetSs w (piecesC c L) v w' := by
  obtain ⟨m, hm⟩ := hm
  refine (Tryd.strings_Split (bstr L) (bstr [c]) m w (by show L.length < _; omega) hm (Nat.le_refl 1)).mono ?_
  rintro e w' ⟨rfl, rfl⟩
  refine ⟨_, rfl, _, _, _, rfl, ?_, (Later.refl w).alloc _⟩
  rw [split_cells, count_cells]
  have h := reads_cells w (piecesC c L) 9
  have hz : (w.alloc (.cells ((piecesC c L).map strCell).toArray 9)).heap.size = w.heap.size + 1 := by simp
  rw [← hz] at h
  exact h

set_option maxRecDepth 100000 in
set_option maxHeartbeats 4000000 in
theorem plain_at (c : UInt8) (L : List UInt8) (w : World) (hm : MaxL w) (hL : L.length ≤ 1000000) (hn : L ≠ []) (h32 : c ≠ 32) (h92 : c ≠ 92) :
    Calls Tryd.prog 18 #[.string (bstr L), .string (bstr [c])] w fun e w' => ∃ v, e = .returned (.tuple #[v, .bool true]) ∧ RetSs w (piecesC c L) v w' := by
  have hsp := fun (wx : World) (hl : Later w wx) => split_at c L wx (hm.later hl) hL
  have e1 : (bstr L).toList.isEmpty = false := by rw [bstr_toList]; cases L with | nil => exact absurd rfl hn | cons _ _ => rfl
  have e2 : ((bstr [c]).toList == [32]) = false := by rw [bstr_toList]; simpa using h32
  have e3 : (bstr [c]).toList.isEmpty = false := by rw [bstr_toList]; rfl
  have e4 : ((bstr [c]).toList == [92]) = false := by rw [bstr_toList]; simpa using h92
  have e5 : (bstr [c]).size = 1 := rfl
  obtain ⟨S, hS⟩ : ∃ S, S = bstr L := ⟨_, rfl⟩
  obtain ⟨T, hT⟩ : ∃ T, T = bstr [c] := ⟨_, rfl⟩
  rw [← hS, ← hT] at hsp ⊢
  rw [← hS] at e1
  rw [← hT] at e2 e3 e4 e5
  have HSP := Lib.hid hsp
  clear hS hT hsp hn h32 h92 hm
  go_enter Tryd.func18, Tryd.ntmps18
  go_wp2_with fail
  refine (HSP.out _ (Later.refl _)).mono ?_
  rintro e w1 ⟨v, rfl, hv⟩
  have HV := Lib.hid hv
  clear hv
  go_wp2_with fail
  go_ret2
  exact ⟨v, rfl, HV.out⟩

end Go.Proofs.YtmkddhkpeiajhaaDoor
