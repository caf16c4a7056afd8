/-
  A slice of ints that came in.
-/
import Derived.Test.YtkpckmdakiminaaDoorOpen
import Derived.Test.YtkpckmdakiminaaDoorInts
namespace Go.Proofs.YtkpckmdakiminaaDoor
open Go.ChangeShapes Go.WideShapes Go.ChangeAt Go.RowKit

theorem cellsInt : Tryd.prog.cellsOf 3 = 1 := by kernel_rfl
theorem bytesInt : Tryd.prog.bytesOf 3 = 8 := by kernel_rfl
theorem open_i {H : Type} {enc : TypeId × Value → H} {W : World} {base : Nat} {v : Value} {d : DataW H} {p : List MemPlace}
    (hval : Value.okWide Tryd.prog W .any base 23 v) (h : DataW.Trod enc Tryd.prog W 0 (fun _ => true) true 23 v d p) :
    ∃ A n c l, v = .slice A n c ∧ RdI W W.heap.size A n l ∧ SlD d n ∧ n ≤ c := by
  obtain ⟨a0, len0, cap0, rfl⟩ := okWide_slice Tryd.underlying23 hval
  obtain ⟨fuel, hf⟩ := h
  rcases open_ints Tryd.underlying23 Tryd.underlying3 cellsInt hf with ⟨hcs, hx⟩ | ⟨x, l, c, zs, hcs, _, hl, hm, hz, hx, hcell, hwz⟩
  · simp [Value.cells] at hcs
    obtain ⟨rfl, rfl, rfl⟩ := hcs
    simp only [Prod.mk.injEq] at hx
    exact ⟨none, 0, 0, [], rfl, RdI.nil, .inl ⟨hx.1, rfl⟩, Nat.le_refl _⟩
  · simp [Value.cells] at hcs
    obtain ⟨rfl, rfl, rfl⟩ := hcs
    simp only [Prod.mk.injEq] at hx
    rw [if_pos rfl] at hz
    have hlen : (zs.take len0).length = len0 := by rw [List.length_take]; omega
    refine ⟨some x, len0, cap0, zs.take len0, rfl, ⟨by rw [List.length_map, hlen, Nat.mul_one], fun hn => ⟨x, rfl, ?_, fun j u hu => ?_⟩⟩, .inr ⟨_, _, hx.1, by simp [lits]; omega⟩, hl⟩
    · have := World.block_lt_of_cell? W _ (hcell 0 (by omega))
      rw [block_of_add] at this
      exact this
    · have hj : j < len0 := by
        rcases Nat.lt_or_ge j len0 with h | h
        · exact h
        · rw [List.getElem?_eq_none (by rw [List.length_map, hlen]; exact h)] at hu; cases hu
      rw [hcell j (by omega)]
      rw [List.getElem?_map, List.getElem?_take, if_pos hj, List.getElem?_eq_getElem (by omega)] at hu
      rw [← hu, getD_get zs j (by omega)]
      rfl
theorem size_i {H : Type} {ts : List TypeId} {ds : List (DataW H)} (h : (DataW.weightsEach Tryd.prog ts ds).all (· ≤ reachBytes) = true) (j : Nat) {d : DataW H} {n : Nat} (hs : SlD d n)
    (ht : ts[j]? = some 23) (hd : ds[j]? = some d) : n ≤ 17592186044416 := by
  rcases hs with ⟨_, rfl⟩ | ⟨es, sp, rfl, rfl⟩
  · omega
  · have := sized_slice h ht hd Tryd.underlying23
    rw [bytesInt] at this
    have e : reachBytes = 140737488351232 := by decide
    omega

end Go.Proofs.YtkpckmdakiminaaDoor
