/-
  The walk of PackKnown: chapter 1's examples.
-/
import Derived.Test.YtbeaacchhaipjaaText
import Derived.Test.YtbeaacchhaipjaaSeal
import Derived.Test.YtbeaacchhaipjaaKnown
import Derived.Lib.SlBytesConst
namespace Go.Proofs.Ytbeaacchhaipjaa
open Go.RowKit

theorem rd_mark (w : World) (l : List UInt8) (n : Nat) (hn : l.length = n) (cs : Array Value) (m : Nat × Nat) (hcs : cs = (bv l).toArray) : RdB (w.alloc (.cells cs 5 m)) (w.heap.size + 1) (some ⟨w.heap.size, 0, none⟩) n l := by
  subst hcs
  refine ⟨by rw [bv_length]; omega, fun _ => ⟨_, rfl, Nat.lt_succ_self _, fun j u hu => ?_⟩⟩
  rw [Addr.add_lit, Nat.zero_add, cell_of_row _ _ _ _ _ _ (heap_alloc_new w _)]
  rw [List.getElem?_toArray]; exact hu

theorem Red.below {base g : Nat} {l : List UInt8} {w w' : World} {v : Value} {s : Nat × Int} {e : Ending} (h : Red base g l w v s e w') {B : Nat} (hB : B ≤ w.heap.size) (hg : B ≤ g) : Below B w w' :=
  h.2.2.below hB (fun k hk e => by omega)

set_option maxRecDepth 100000 in
set_option maxHeartbeats 4000000 in
theorem knownLaw_any (w : World) : Calls Try.prog 8 #[] w fun e w' => e = .returned (.bool true) ∧ Below w.heap.size w w' := by
  have kc := fun (w : World) (C : Array Value) (n c : Nat) => Lib.run_convert_bytes_const (P := Try.prog) w 22 5 C n c Try.underlying22 Try.underlying5
  have s1 : rByte [7, 172, 2, 2, 97, 98] (0, 0) 9 = (7, 1, 0) := by decide +kernel
  have s2 : rNum [7, 172, 2, 2, 97, 98] (1, 0) 300 = (300, 3, 0) := by decide +kernel
  have s3 : rText [7, 172, 2, 2, 97, 98] (3, 0) 5 = ([97, 98], 6, 0) := by decide +kernel
  have s4 : rEnd [7, 172, 2, 2, 97, 98] (6, 0) = 0 := by decide +kernel
  have heq : (bstr [97, 98]).toList = [97, 98] := by decide +kernel
  have c1 := fun W base g h => Lib.hid (reader_byte 9 (by decide) (by decide) W base g [7, 172, 2, 2, 97, 98] 0 0 h (by decide))
  have c2 := fun W base g h => Lib.hid (reader_num 300 (by decide) W base g [7, 172, 2, 2, 97, 98] 1 0 h (by decide))
  have c3 := fun W base g h => Lib.hid (reader_text 5 (by decide) (by decide) W base g [7, 172, 2, 2, 97, 98] 3 0 h (by decide))
  have c4 := fun W base g h => Lib.hid (reader_end W base g [7, 172, 2, 2, 97, 98] 6 0 h (by decide))
  rw [s1] at c1
  rw [s2] at c2
  rw [s3] at c3
  rw [s4] at c4
  clear s1 s2 s3 s4
  go_enter Try.func8, Try.ntmps8
  go_wp2_with fail
  have r0 := rd_mark w [7, 172, 2, 2, 97, 98] 6 rfl _ (6, 7) rfl
  refine (newReader_any _ 6 6 _ _ (r0.more (by simp)) (by omega)).mono ?_
  rintro e w1 ⟨g1, rfl, hg1, hr1, hb1⟩
  have hz1 := hb1.size
  simp only [World.size_alloc] at hz1 hg1
  go_wp2_with fail
  refine (c1 _ _ g1 hr1).out.mono ?_
  rintro e w2 ⟨rfl, hr2, hf2⟩
  go_wp2_with fail
  refine (c2 _ _ g1 hr2).out.mono ?_
  rintro e w3 ⟨rfl, hr3, hf3⟩
  go_wp2_with fail
  refine (c3 _ _ g1 hr3).out.mono ?_
  rintro e w4 ⟨rfl, hr4, hf4⟩
  go_wp2_with fail
  refine (c4 _ _ g1 hr4).out.mono ?_
  rintro e w5 ⟨rfl, hr5, hf5⟩
  go_wp2_with fail
  have hz2 := hf2.size
  have hz3 := hf3.size
  have hz4 := hf4.size
  have hz5 := hf5.size
  have hB5 : Below w.heap.size w w5 := ((((((Below.refl _ _).alloc (Nat.le_refl _) _).trans (hb1.mono (by simp))).trans (hf2.below (by omega) (by omega))).trans (hf3.below (by omega) (by omega))).trans (hf4.below (by omega) (by omega))).trans (hf5.below (by omega) (by omega))
  clear c1 c2 c3 c4 hr1 hr2 hr3 hr4 hr5 hf2 hf3 hf4 hf5
  have t1 : rNum [128, 0] (0, 0) 9 = (0, 0, 11) := by decide +kernel
  have t2 : rEnd [128, 0] (0, 11) = 11 := by decide +kernel
  have t3 : rNum [172, 2] (0, 0) 299 = (0, 0, 12) := by decide +kernel
  have t4 : rEnd [172, 2] (0, 12) = 12 := by decide +kernel
  have c1 := fun W base g h => Lib.hid (reader_num 9 (by decide) W base g [128, 0] 0 0 h (by decide))
  have c2 := fun W base g h => Lib.hid (reader_end W base g [128, 0] 0 11 h (by decide))
  have c3 := fun W base g h => Lib.hid (reader_num 299 (by decide) W base g [172, 2] 0 0 h (by decide))
  have c4 := fun W base g h => Lib.hid (reader_end W base g [172, 2] 0 12 h (by decide))
  rw [t1] at c1
  rw [t2] at c2
  rw [t3] at c3
  rw [t4] at c4
  clear t1 t2 t3 t4
  have r1 := rd_mark w5 [128, 0] 2 rfl _ (0, 0) rfl
  refine (newReader_any _ 2 2 _ _ (r1.more (by simp)) (by omega)).mono ?_
  rintro e w6 ⟨g2, rfl, hg2, hr6, hb6⟩
  have hz6 := hb6.size
  simp only [World.size_alloc] at hz6 hg2
  go_wp2_with fail
  have r2 := rd_mark w6 [172, 2] 2 rfl _ (0, 0) rfl
  refine (newReader_any _ 2 2 _ _ (r2.more (by simp)) (by omega)).mono ?_
  rintro e w7 ⟨g3, rfl, hg3, hr7, hb7⟩
  have hz7 := hb7.size
  simp only [World.size_alloc] at hz7 hg3
  have hl2 := hr6.lt
  have hr6' := (hr6.keepB ((Below.refl _ _).alloc (Nat.le_refl _) _)).keepB hb7
  go_wp2_with fail
  refine (c1 _ _ g2 hr6').out.mono ?_
  rintro e w8 ⟨rfl, hr8, hf8⟩
  have hr8b := hr7.other hf8 (by simp; omega)
  go_wp2_with fail
  refine (c2 _ _ g2 hr8).out.mono ?_
  rintro e w9 ⟨rfl, hr9, hf9⟩
  have hr9b := hr8b.other hf9 (by simp; omega)
  go_wp2_with fail
  refine (c3 _ _ g3 hr9b).out.mono ?_
  rintro e w10 ⟨rfl, hr10, hf10⟩
  go_wp2_with fail
  refine (c4 _ _ g3 hr10).out.mono ?_
  rintro e w11 ⟨rfl, hr11, hf11⟩
  have hz8 := hf8.size
  have hz9 := hf9.size
  have hz10 := hf10.size
  have hz11 := hf11.size
  have hB7 : Below w.heap.size w w7 := (hB5.alloc (by omega) _).trans ((hb6.mono (by simp; omega)).trans (((Below.refl _ _).alloc (by omega) _).trans (hb7.mono (by simp; omega))))
  have hB11 : Below w.heap.size w w11 := (((hB7.trans (hf8.below (by omega) (by omega))).trans (hf9.below (by omega) (by omega))).trans (hf10.below (by omega) (by omega))).trans (hf11.below (by omega) (by omega))
  clear c1 c2 c3 c4 hr6 hr6' hr7 hr8 hr9 hr8b hr9b hr10 hr11 hf8 hf9 hf10 hf11 hB5 hB7
  go_wp2_with fail
  have r3 := rd_mark w11 [97] 1 rfl _ (1, 2) rfl
  refine (seal_any _ 1 1 _ _ (r3.more (by simp)) (by omega)).mono ?_
  rintro e w12 ⟨A12, n12, c12, rfl, hown12, hb12⟩
  have hz12 := hb12.size
  simp only [World.size_alloc] at hz12
  have hn12 : n12 = 7 := by have := hown12.len; rw [sealB_len] at this; simp at this; omega
  subst hn12
  go_wp2_with fail
  refine (unseal_any A12 7 c12 _ w12 hown12.rd (by omega) hown12.cap).mono ?_
  rintro e w13 ⟨A13, n13, c13, rfl, hown13, hb13⟩
  have hu1 : unsealB (sealB [97]) = ([97], 0) := by decide +kernel
  rw [hu1] at hown13
  rw [hu1]
  have hz13 := hb13.size
  go_wp2_with fail
  have r4 := rd_mark w13 [97, 98, 99] 3 rfl _ (3, 4) rfl
  refine (unseal_any _ 3 3 _ _ (r4.more (by simp)) (by omega) (by omega)).mono ?_
  rintro e w14 ⟨A14, n14, c14, rfl, hown14, hb14⟩
  have hu2 : unsealB [97, 98, 99] = ([], 10) := by decide +kernel
  rw [hu2] at hown14
  rw [hu2]
  have hz14 := hb14.size
  simp only [World.size_alloc] at hz14
  have hr13 := (hown13.rd.alloc (Nat.le_refl _) _).below (hb14.mono (by simp))
  have hB14 : Below w.heap.size w w14 := (((hB11.alloc (by omega) _).trans (hb12.mono (by simp; omega))).trans (hb13.mono (by omega))).trans (((Below.refl _ _).alloc (by omega) _).trans (hb14.mono (by simp; omega)))
  go_wp2_with fail
  refine (known_any _).mono ?_
  rintro e w15 ⟨rfl, hb15⟩
  have hz15 := hb15.size
  have hB15 := hB14.trans (hb15.mono (by omega))
  have hstr := run_str (c := c13) (hr13.below (hb15.mono (by omega)))
  have heq1 : (bstr [97]).toList = [97] := by decide +kernel
  have hsm : sm [] = (1, 0) := rfl
  have hcmp : ∀ w, (binOp .eql 23 (.complex .f64 (fl 1) (fl 0)) (.complex .f64 4607182418800017408 0)).run Try.prog w = .ok (.bool true) w := by
    intro w
    rw [fl_1]
    have h0 : (0 : Nat) = fl 0 := fl_0
    conv => lhs; rw [h0]
    rw [run_eql_complex, fl_eq _ _ (by decide) (by decide), fl_eq _ _ (by decide) (by decide)]
    rfl
  go_wp2_with fail
  refine (sum_at (p := 1) (q := 0) none 0 0 [] w15.heap.size w15 RdB.nil (by omega) (by show _ = _; rw [hsm])).mono ?_
  rintro e w16 ⟨rfl, rfl⟩
  go_wp2_with fail
  go_ret
  exact ⟨rfl, hB15⟩

end Go.Proofs.Ytbeaacchhaipjaa
