/-
  The contract of chapter 3's known: its example, by the contracts.
-/
import Derived.Test.YtkpckmdakiminaaList
import Derived.Test.YtkpckmdakiminaaShort
import Derived.Lib.SlBytesConst
namespace Go.Proofs.Ytkpckmdakiminaa
open Go.RowKit

theorem frame_a_len : (frameB [97]).length = 11 := by decide +kernel
theorem frame_bc_len : (frameB [98, 99]).length = 12 := by decide +kernel
theorem known_frames : listB (frameB [97] ++ frameB [98, 99] ++ [7]) = ([[97], [98, 99]], 23) := by
  have h := listB_frames [7] (whole_short (by decide)) [[97], [98, 99]] (by intro p hp; simp at hp; rcases hp with rfl | rfl <;> decide)
  have e : ([[97], [98, 99]] : List (List UInt8)).flatMap frameB = frameB [97] ++ frameB [98, 99] := by simp
  rw [e] at h
  rw [h, List.length_append, frame_a_len, frame_bc_len]
theorem two_rows {rs : List RowV} {a b : List UInt8} (h : bytesOf rs = [a, b]) : ∃ r0 r1, rs = [r0, r1] ∧ r0.l = a ∧ r1.l = b := by
  match rs, h with
  | [r0, r1], h =>
    simp [bytesOf] at h
    exact ⟨r0, r1, rfl, h.1, h.2⟩
theorem frame_nil : frameB [] = [0, 0, 0, 0, 1, 0, 0, 0, 0, 0] := by decide +kernel

theorem rd_mark (w : World) (l : List UInt8) (n : Nat) (hn : l.length = n) (cs : Array Value) (m : Nat × Nat) (hcs : cs = (bv l).toArray) : RdB (w.alloc (.cells cs 5 m)) (w.heap.size + 1) (some ⟨w.heap.size, 0, none⟩) n l := by
  subst hcs
  refine ⟨by rw [bv_length]; omega, fun _ => ⟨_, rfl, Nat.lt_succ_self _, fun j u hu => ?_⟩⟩
  rw [Addr.add_lit, Nat.zero_add, cell_of_row _ _ _ _ _ _ (heap_alloc_new w _)]
  rw [List.getElem?_toArray]; exact hu

set_option maxRecDepth 100000 in
set_option maxHeartbeats 1000000 in
theorem known_any (w : World) : Calls Try.prog 11 #[] w fun e w' => e = .returned (.bool true) ∧ Below w.heap.size w w' := by
  have kc := fun (w : World) (C : Array Value) (n c : Nat) => Lib.run_convert_bytes_const (P := Try.prog) w 23 5 C n c Try.underlying23 Try.underlying5
  go_enter Try.func11, Try.ntmps11
  go_wp2_with fail
  have r0 := rd_mark w [97] 1 rfl _ (1, 2) rfl
  refine (frame_any _ 1 1 [97] _ (r0.more (by simp)) (by omega)).mono ?_
  rintro e w1 ⟨A1, n1, c1, rfl, hown1, hb1⟩
  have hz1 : w.heap.size + 1 ≤ w1.heap.size := by have := hb1.size; simp at this; omega
  have hown1 : OwnB w1 w.heap.size A1 n1 c1 (frameB [97]) := hown1.base_le (fun k _ hk => by simp at hk; omega)
  have hb1 : Below w.heap.size w w1 := ((Below.refl _ _).alloc (Nat.le_refl _) _).trans (hb1.mono (by simp))
  have hn1 : n1 = 11 := by rw [← hown1.len]; exact frame_a_len
  subst hn1
  go_wp2_with fail
  have r1 := rd_mark w1 [98, 99] 2 rfl _ (2, 3) rfl
  refine (frame_any _ 2 2 [98, 99] _ (r1.more (by simp)) (by omega)).mono ?_
  rintro e w2 ⟨A2, n2, c2, rfl, hown2, hb2⟩
  have hz2 : w1.heap.size + 1 ≤ w2.heap.size := by have := hb2.size; simp at this; omega
  have hb2 : Below w1.heap.size w1 w2 := ((Below.refl _ _).alloc (Nat.le_refl _) _).trans (hb2.mono (by simp))
  have hn2 : n2 = 12 := by rw [← hown2.len]; exact frame_bc_len
  subst hn2
  have hown1 := hown1.below hb2 (fun k hk => (hown1.lt k hk).2)
  go_wp2_with ((at_builtin; first
    | (refine wpList_append_b _ rfl (.tmp 6) (.tmp 9) rfl w.heap.size A1 11 c1 _ rfl hown1 _ A2 12 c2 _ rfl hown2.rd (by omega) (by omega) ?_; intro A3 n3 c3 w3 hown3 hg3 hob3; have hz3 := hg3.size)
    | (refine wpList_append_b _ rfl (.tmp 10) (.tmp 11) rfl w.heap.size A3 n3 c3 _ rfl (hown3.alloc _) _ _ 1 1 [7] rfl (rd_new w3 [7] 1 rfl _ rfl) (by have := hown3.len; rw [List.length_append, frame_a_len, frame_bc_len] at this; omega) (by simp; omega) ?_; intro A4 n4 c4 w4 hown4 hg4 hob4)))
  have hn4 : n4 = 24 := by rw [← hown4.len, List.length_append, List.length_append, frame_a_len, frame_bc_len]; rfl
  subst hn4
  have hz4 := hg4.size
  have hb3 : Below w.heap.size w w3 := (hb1.trans (hb2.mono (by omega))).grown hg3 (by omega) (fun k hk => (hown1.lt k hk).1)
  have hb4 : Below w.heap.size w w4 := (hb3.alloc (by omega) _).grown hg4 (by simp; omega) (fun k hk => (hown3.lt k hk).1)
  have H5 := Lib.hid (list_any A4 24 c4 _ w4 hown4.rd (by omega) hown4.cap)
  rw [known_frames] at H5
  unfold Listed at H5
  simp only [World.size_alloc] at hz4
  refine H5.out.mono ?_
  rintro e w5 ⟨A5, n5, c5, rs, rfl, hown5, hbs, hb5⟩
  have hz5 := hb5.size
  obtain ⟨r0, r1, rfl, hr0, hr1⟩ := two_rows hbs
  have hn5 : n5 = 2 := by rw [← hown5.len]; rfl
  subst hn5
  obtain ⟨g, o, q0, rfl, _, hq0, x0, y0, _⟩ := hown5.rd.at_ (k := 0) (by omega)
  obtain ⟨g', o', q1, hA, _, hq1, x1, y1, _⟩ := hown5.rd.at_ (k := 1) (by omega)
  injection hA with hA
  injection hA with hA1 hA2
  subst hA1; subst hA2
  obtain rfl : r0 = q0 := by simpa using hq0
  obtain rfl : r1 = q1 := by simpa using hq1
  rw [hr0] at y0
  rw [hr1] at y1
  have k0 := run_str (c := r0.c) y0
  have k1 := run_str (c := r1.c) y1
  have e0 : (bstr [97]).toList = [97] := by decide +kernel
  have e1 : (bstr [98, 99]).toList = [98, 99] := by decide +kernel
  have e2 : (bstr [0, 0, 0, 0, 1, 0, 0, 0, 0, 0]).toList = [0, 0, 0, 0, 1, 0, 0, 0, 0, 0] := by decide +kernel
  have H6 := Lib.hid (frame_any none 0 0 [] w5 RdB.nil (by omega))
  rw [frame_nil] at H6
  rw [Nat.add_zero] at x0
  clear hbs hr0 hr1 hq0 hq1 y0 y1
  go_wp2_with fail
  refine H6.out.mono ?_
  rintro e w6 ⟨A6, n6, c6, rfl, hown6, hb6⟩
  have k2 := run_str (c := c6) hown6.rd
  go_wp2_with fail
  go_ret
  exact ⟨rfl, (hb4.trans (hb5.mono (by omega))).trans (hb6.mono (by omega))⟩

end Go.Proofs.Ytkpckmdakiminaa
