/-
  How an argument that is a slice of slices of bytes is opened.
-/
import Derived.Test.YtkpckmdakiminaaOpen
import Derived.Test.YtkpckmdakiminaaRowsB
import Derived.Deep.Matrix
namespace Go.Proofs.Ytkpckmdakiminaa
open Go.ChangeShapes Go.WideShapes Go.ChangeAt Go.RowKit

theorem cellsRow : Try.prog.cellsOf 23 = 1 := by kernel_rfl

theorem open_rowsM {H : Type} {enc : TypeId × Value → H} {W : World} {base : Nat} {v : Value} {d : DataW H} {p : List MemPlace}
    (hval : Value.okWide Try.prog W .any base 25 v) (h : DataW.Trod enc Try.prog W 0 (fun _ => true) true 25 v d p) :
    ∃ A n c rs, v = .slice A n c ∧ RdR W W.heap.size A n rs ∧ (SlD d n ∧ ∀ r ∈ rs, r.n ≤ 9223372036854775807) ∧ n ≤ c := by
  obtain ⟨a0, len0, cap0, rfl⟩ := okWide_slice Try.underlying25 hval
  obtain ⟨fuel, hf⟩ := h
  rcases Go.Deep.open_int_rows Try.underlying25 Try.underlying23 Try.underlying5 cellsRow cellsU8 hf with ⟨hcs, hx⟩ | ⟨x, l, c, RA, RL, RC, RZ, hcs, _, hl, hm, hx, hrow⟩
  · simp [Value.cells] at hcs
    obtain ⟨rfl, rfl, rfl⟩ := hcs
    simp only [Prod.mk.injEq] at hx
    exact ⟨none, 0, 0, [], rfl, RdR.nil, ⟨.inl ⟨hx.1, rfl⟩, fun r h => by cases h⟩, Nat.le_refl _⟩
  · simp [Value.cells] at hcs
    obtain ⟨rfl, rfl, rfl⟩ := hcs
    simp only [Prod.mk.injEq] at hx
    refine ⟨some x, len0, cap0, (List.range len0).map fun r => ⟨RA r, RL r, RC r, ((RZ r).take (RL r)).map byt⟩, rfl, ⟨⟨by simp, fun hn => ⟨x, rfl, ?_, fun j u hu => ?_⟩⟩, ?_⟩, ⟨.inr ⟨_, _, hx.1, by simp⟩, fun r hr => ?_⟩, hl⟩
    · have := World.block_lt_of_cell? W _ (hrow 0 (by omega)).1
      rw [block_of_add] at this
      exact this
    · have hj : j < len0 := by
        rcases Nat.lt_or_ge j len0 with h | h
        · exact h
        · rw [List.getElem?_eq_none (by simpa using h)] at hu; cases hu
      rw [(hrow j (by omega)).1]
      rw [List.getElem?_map, List.getElem?_map, List.getElem?_range hj] at hu
      exact hu
    · intro r hr
      obtain ⟨i, hi, rfl⟩ := List.mem_map.1 hr
      have hi := List.mem_range.1 hi
      obtain ⟨_, h1, h2, h3, h4, h5, h6⟩ := hrow i (by omega)
      have hlen : (((RZ i).take (RL i)).map byt).length = RL i := by rw [List.length_map, List.length_take]; omega
      refine ⟨⟨by show (bv _).length = RL i * 1; rw [bv_length, hlen]; omega, fun hn => ?_⟩, h1⟩
      have hn : 0 < RL i := hn
      cases ha : RA i with
      | none => have := h5 ha; omega
      | some a' =>
        obtain ⟨_, hcell⟩ := h6 a' ha
        refine ⟨a', rfl, ?_, fun j u hu => ?_⟩
        · have := World.block_lt_of_cell? W _ (hcell 0 (by omega))
          rw [block_of_add] at this
          exact this
        · have hu : (bv (((RZ i).take (RL i)).map byt))[j]? = some u := hu
          have hj : j < RL i := by
            rcases Nat.lt_or_ge j (RL i) with h | h
            · exact h
            · rw [List.getElem?_eq_none (by rw [bv_length, hlen]; exact h)] at hu; cases hu
          rw [hcell j (by omega)]
          rw [bv_get _ j (by rw [hlen]; exact hj)] at hu
          rw [← hu]
          congr 2
          have hb := u8_bd (h4 ((RZ i).getD j 0) (by rw [getD_get (RZ i) j (by omega)]; exact List.getElem_mem _))
          rw [List.getElem_map, List.getElem_take, ← getD_get (RZ i) j (by omega), byt_toNat hb.1 hb.2]
    · obtain ⟨i, hi, rfl⟩ := List.mem_map.1 hr
      have hi := List.mem_range.1 hi
      obtain ⟨_, h1, h2, _⟩ := hrow i (by omega)
      unfold maxLen at h2
      exact Nat.le_trans h1 h2

theorem open_rows {H : Type} {enc : TypeId × Value → H} {W : World} {base : Nat} {v : Value} {d : DataW H} {p : List MemPlace}
    (hval : Value.okWide Try.prog W .any base 25 v) (h : DataW.Trod enc Try.prog W 0 (fun _ => true) true 25 v d p) :
    ∃ A n c rs, v = .slice A n c ∧ RdR W W.heap.size A n rs ∧ SlD d n ∧ n ≤ c := by
  obtain ⟨A, n, c, rs, h1, h2, h3, h4⟩ := open_rowsM hval h
  exact ⟨A, n, c, rs, h1, h2, h3.1, h4⟩

end Go.Proofs.Ytkpckmdakiminaa
