/-
  How PackOne's arguments are opened.
-/
import Derived.Test.YtbeaacchhaipjaaLayOpen
import Derived.Test.YtbeaacchhaipjaaOneWalk
namespace Go.Proofs.Ytbeaacchhaipjaa
open Go.ChangeShapes Go.WideShapes Go.ChangeAt Go.RowKit

theorem cellsInt : Try.prog.cellsOf 3 = 1 := by kernel_rfl

theorem bulk_pos {H : Type} (d : DataW H) : 1 ≤ Rows.uptoBulk d := by
  cases d with
  | lit l => cases l <;> simp only [Rows.uptoBulk] <;> omega
  | _ => simp only [Rows.uptoBulk] <;> omega
theorem bulk_all_len {H : Type} : ∀ l : List (DataW H), l.length ≤ Rows.uptoBulkAll l
  | [] => Nat.zero_le _
  | d :: r => by
    have h1 := bulk_pos d
    have h2 := bulk_all_len r
    simp only [Rows.uptoBulkAll, List.length_cons]
    omega
theorem bulk_sl {H : Type} {d : DataW H} {n : Nat} (h : SlD d n) {m : Nat} (hb : Rows.uptoBulk d ≤ m) : n ≤ m := by
  rcases h with ⟨_, rfl⟩ | ⟨es, sp, rfl, rfl⟩
  · omega
  · have := bulk_all_len es
    simp only [Rows.uptoBulk] at hb
    omega

theorem open_is {H : Type} {enc : TypeId × Value → H} {W : World} {base : Nat} {v : Value} {d : DataW H} {p : List MemPlace}
    (hval : Value.okWide Try.prog W .any base 70 v) (h : DataW.Trod enc Try.prog W 0 (fun _ => true) true 70 v d p) :
    ∃ A n c ks, v = .slice A n c ∧ RdI W W.heap.size A n ks ∧ SlD d n ∧ n ≤ c := by
  obtain ⟨a0, len0, cap0, rfl⟩ := okWide_slice Try.underlying70 hval
  obtain ⟨fuel, hf⟩ := h
  rcases open_ints Try.underlying70 Try.underlying3 cellsInt hf with ⟨hcs, hx⟩ | ⟨x, l, c, zs, hcs, _, hl, hm, hz, hx, hcell, hwz⟩
  · simp [Value.cells] at hcs
    obtain ⟨rfl, rfl, rfl⟩ := hcs
    simp only [Prod.mk.injEq] at hx
    exact ⟨none, 0, 0, [], rfl, ⟨rfl, fun h => absurd h (by omega)⟩, .inl ⟨hx.1, rfl⟩, Nat.le_refl _⟩
  · simp [Value.cells] at hcs
    obtain ⟨rfl, rfl, rfl⟩ := hcs
    simp only [Prod.mk.injEq] at hx
    rw [if_pos rfl] at hz
    have hlen : (zs.take len0).length = len0 := by rw [List.length_take]; omega
    refine ⟨some x, len0, cap0, zs.take len0, rfl, ⟨by rw [List.length_map, hlen]; omega, fun hn => ⟨x, rfl, ?_, fun j u hu => ?_⟩⟩, .inr ⟨_, _, hx.1, by simp [lits]; omega⟩, hl⟩
    · have := World.block_lt_of_cell? W _ (hcell 0 (by omega))
      rw [block_of_add] at this
      exact this
    · have hj : j < len0 := by
        rcases Nat.lt_or_ge j len0 with h | h
        · exact h
        · rw [List.getElem?_eq_none (by rw [List.length_map, hlen]; exact h)] at hu; cases hu
      rw [hcell j (by omega)]
      rw [List.getElem?_map, List.getElem?_take, if_pos hj, List.getElem?_eq_getElem (by omega)] at hu
      rw [← hu, getD_get zs j (by omega)]
      rfl

end Go.Proofs.Ytbeaacchhaipjaa
