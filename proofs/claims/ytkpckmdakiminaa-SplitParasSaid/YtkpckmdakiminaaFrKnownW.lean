/-
  The walk of FrameKnown.
-/
import Derived.Test.YtkpckmdakiminaaFrKnown
namespace Go.Proofs.Ytkpckmdakiminaa
open Go.RowKit

/-- bytes that were made -/
theorem made_bytes (n : Nat) (hn : n ≤ 140737488355328) : ∃ (Z : Array Value) (l : List UInt8), Hid (l.length = n) ∧
    (∀ w : World, (Instr.makeSlice 23 (.int .i64 (n : Int)) (.int .i64 (n : Int))).run Try.prog w = .ok (.slice (some ⟨w.heap.size, 0, none⟩) n n) (w.alloc (.cells Z 5))) ∧
    ∀ w : World, RdB (w.alloc (.cells Z 5)) (w.heap.size + 1) (some ⟨w.heap.size, 0, none⟩) n l := by
  obtain ⟨i0, hi, hz0, hz1, hz2⟩ := info_parts u8_info
  have hz : madeCells (Value.int .u8 0).cells n = (bv (List.replicate n 0)).toArray := by
    apply Array.ext'
    simp [madeCells, Value.cells, bv]
    refine List.ext_getElem (by simp) fun i h1 h2 => ?_
    simp [Nat.mod_one]
  refine ⟨madeCells (Value.int .u8 0).cells n, List.replicate n 0, List.length_replicate .., fun w => ?_, fun w => rd_new w _ n (List.length_replicate ..) _ hz⟩
  have hr := run_make (P := Try.prog) w 23 5 i0 (.int .u8 0) Try.underlying23 hi hz0 .i64 .i64 n n (by omega) (Int.le_refl _) (by rw [hz2]; omega) (by omega)
  rw [hz1] at hr
  simpa using hr

set_option maxRecDepth 100000 in
set_option maxHeartbeats 1000000 in
theorem frKnown_any (w : World) : Calls Try.prog 3 #[] w fun e w' => e = .returned (.bool true) ∧ Below w.heap.size w w' := by
  obtain ⟨Z1, l1, hl1, hm1, hr1⟩ := made_bytes 4194305 (by decide)
  obtain ⟨Z2, l2, hl2, hm2, hr2⟩ := made_bytes 70000 (by decide)
  have hm1 : ∀ w : World, (Instr.makeSlice 23 (.int .i64 4194305) (.int .i64 4194305)).run Try.prog w = .ok (.slice (some ⟨w.heap.size, 0, none⟩) 4194305 4194305) (w.alloc (.cells Z1 5)) := hm1
  have hm2 : ∀ w : World, (Instr.makeSlice 23 (.int .i64 70000) (.int .i64 70000)).run Try.prog w = .ok (.slice (some ⟨w.heap.size, 0, none⟩) 70000 70000) (w.alloc (.cells Z2 5)) := hm2
  have e1 : frameB l1 = [] := by unfold frameB; rw [if_pos (by rw [hl1.out]; decide)]
  have e2 : (frameB l2).length = 70010 := by rw [frameB_len (by rw [hl2.out]; decide), hl2.out]
  have H1 := Lib.hid fun (W : World) h => frame_any (some ⟨W.heap.size, 0, none⟩) 4194305 4194305 l1 (W.alloc (.cells Z1 5)) h (by decide)
  have H2 := Lib.hid fun (W : World) h => frame_any (some ⟨W.heap.size, 0, none⟩) 70000 70000 l2 (W.alloc (.cells Z2 5)) h (by decide)
  simp only [e1] at H1
  have HR1 := Lib.hid hr1
  have HR2 := Lib.hid hr2
  have E2 := Lib.hid e2
  clear e1 e2 hr1 hr2
  go_enter Try.func3, Try.ntmps3
  go_wp2_with fail
  refine (known_any w).mono ?_
  rintro e w1 ⟨rfl, hb1⟩
  have hz1 := hb1.size
  go_wp2_with fail
  refine (H1.out w1 ((HR1.out w1).more (by simp))).mono ?_
  rintro e w2 ⟨A2, n2, c2, rfl, hown2, hb2⟩
  have hn2 : n2 = 0 := by rw [← hown2.len]; rfl
  subst hn2
  have hz2 := hb2.size
  simp only [World.size_alloc] at hz2
  go_wp2_with fail
  refine (H2.out w2 ((HR2.out w2).more (by simp))).mono ?_
  rintro e w3 ⟨A3, n3, c3, rfl, hown3, hb3⟩
  have hn3 : n3 = 70010 := by rw [← hown3.len]; exact E2.out
  subst hn3
  go_wp2_with fail
  go_ret
  have hA : Below w1.heap.size w1 w2 := ((Below.refl w1.heap.size w1).alloc (Nat.le_refl _) _).trans (hb2.mono (by simp))
  have hB : Below w2.heap.size w2 w3 := ((Below.refl w2.heap.size w2).alloc (Nat.le_refl _) _).trans (hb3.mono (by simp))
  exact ⟨rfl, (hb1.trans (hA.mono hz1)).trans (hB.mono (by omega))⟩

end Go.Proofs.Ytkpckmdakiminaa
