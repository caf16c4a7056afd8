/-
  The laws' small example of chapter 1 holds: 'known' returns true.
-/
import Derived.Test.YtbeaacchhaipjaaProg
import Derived.Test.YtbeaacchhaipjaaBytes
import Derived.Test.YtbeaacchhaipjaaSum
import Derived.Test.YtbeaacchhaipjaaWriter
namespace Go.Proofs.Ytbeaacchhaipjaa
open Go.RowKit

theorem known_bytes : [] ++ [byt 7] ++ nm 300 ++ nm (ByteArray.size ⟨#[97, 98]⟩) ++ (ByteArray.mk #[97, 98]).data.toList = [7, 172, 2, 2, 97, 98] := by decide +kernel
theorem known_sum : sm [0] = (258, 3) := by decide +kernel
theorem fl_258 : (4643246400191070208 : Nat) = fl 258 := by decide +kernel

set_option maxRecDepth 100000 in
set_option maxHeartbeats 1000000 in
theorem known_any (w : World) : Calls Try.prog 15 #[] w fun e w' => e = .returned (.bool true) ∧ Below w.heap.size w w' := by
  go_enter Try.func15, Try.ntmps15
  go_wp2_with fail
  refine (newWriter_any w).mono ?_
  rintro e w1 ⟨rfl, rfl⟩
  have hw := WrOk.new w w.heap.size (Nat.le_refl _)
  go_wp2_with fail
  refine (writer_byte 7 (by omega) (by omega) _ w.heap.size w.heap.size none [] hw (by simp) (by simp)).mono ?_
  rintro e w1 ⟨rfl, R1, hw1, hf1, hR1⟩
  go_wp2_with fail
  refine (writer_num 300 (by omega) _ w.heap.size w.heap.size R1 _ hw1 (by simp) (by have := hf1.size; simp at this; omega)).mono ?_
  rintro e w2 ⟨rfl, R2, hw2, hf2, hR2⟩
  go_wp2_with fail
  have hs1 := hf1.size
  have hs2 := hf2.size
  simp only [World.size_alloc] at hs1
  have hl2 : ([] ++ [byt 7] ++ nm 300 : List UInt8).length ≤ 100 := by decide +kernel
  refine (writer_text ⟨#[97, 98]⟩ _ w.heap.size w.heap.size R2 _ hw2 (by have : (ByteArray.mk #[97, 98]).size = 2 := rfl; omega) (by omega)).mono ?_
  rintro e w3 ⟨rfl, R3, hw3, hf3, hR3⟩
  rw [known_bytes] at hw3
  go_wp2_with fail
  refine (writer_bytes _ w.heap.size w.heap.size R3 _ hw3 (by decide)).mono ?_
  rintro e w4 ⟨A, n, c, rfl, hown4, hb4⟩
  have hs3 := hf3.size
  have hs4 := hb4.size
  have hstr := run_str (c := c) hown4.rd
  have heq : (bstr [7, 172, 2, 2, 97, 98]).toList = [7, 172, 2, 2, 97, 98] := by decide +kernel
  go_wp2_with fail
  have hrd : RdB (w4.alloc (.cells #[.int .u8 0] 5)) (w4.heap.size + 1) (some ⟨w4.heap.size, 0, none⟩) 1 [0] := rd_byt w4 (x := 0) (by omega) (by omega)
  refine (sum_any _ 1 1 [0] _ _ hrd (by omega)).mono ?_
  rintro e w5 ⟨rfl, rfl⟩
  have hcmp : ∀ w, (binOp .eql 23 (.complex .f64 (fl (sm [0]).1) (fl (sm [0]).2)) (.complex .f64 4643246400191070208 4613937818241073152)).run Try.prog w = .ok (.bool true) w := by
    intro w
    rw [known_sum, fl_258, fl_3, run_eql_complex, fl_eq _ _ (by decide) (by decide), fl_eq _ _ (by decide) (by decide)]
    rfl
  go_wp2_with fail
  go_ret
  refine ⟨rfl, ?_⟩
  have hf := ((((Fr.refl w (fun _ => False)).alloc (.cells #[.slice none 0 0] 78)).trans hf1 ?_).trans hf2 ?_).trans hf3 ?_
  · exact (hf.none_ (fun _ _ h => h)).trans ((hb4.mono (by omega)).trans (((Below.refl _ _).alloc (by omega) _)))
  · rintro k hk (e | e)
    · omega
    · cases e
  · rintro k hk (e | e)
    · omega
    · rcases hR1 with rfl | ⟨j, rfl, hj⟩
      · cases e
      · injection e with e; simp at hj; omega
  · rintro k hk (e | e)
    · omega
    · have h3 : ∀ j, R2 = some j → w.heap.size ≤ j := fun j hj => (hw2.lt j (.inr hj)).1
      have := h3 k e
      omega

end Go.Proofs.Ytbeaacchhaipjaa
