/-
  The walk of PackWrites: it returns true and writes nothing that was there.
-/
import Derived.Test.YtbeaacchhaipjaaLaid
import Derived.Test.YtbeaacchhaipjaaKnown
import Derived.Deep.RegionHeldLaw
namespace Go.Proofs.Ytbeaacchhaipjaa
open Go.RowKit

set_option maxRecDepth 100000 in
set_option maxHeartbeats 4000000 in
theorem writes_any (A : Option Addr) (n c : Nat) (ls : List LayV) (w : World) (hr : RdL w w.heap.size A n ls) (hok : LaysOk ls) (hn : n ≤ 140737488355328) :
    Calls Try.prog 6 #[.slice A n c] w fun e w' => e = .returned (.bool true) ∧ Below w.heap.size w w' := by
  have HL : Hid (ls.length = n) := hr.len
  go_enter Try.func6, Try.ntmps6
  go_wp2_with fail
  refine (newWriter_any w).mono ?_
  rintro e w1 ⟨rfl, rfl⟩
  have hw0 := WrOk.new w w.heap.size (Nat.le_refl _)
  go_wp2_with fail
  refine (known_any _).mono ?_
  rintro e w1 ⟨rfl, hb1⟩
  have hb1' : Below w.heap.size w w1 := ((Below.refl _ _).alloc (Nat.le_refl _) _).trans (hb1.mono (by simp))
  have hw1 := hw0.fr (Fr.of_below hb1) (fun k hk => by have := (hw0.lt k hk).2; omega)
  go_wp2_with fail
  go_loopw [3, 5] (fun s i wr => ∃ (k nw cw : Nat) (Aw : Option Addr) (R : Option Nat), k ≤ n ∧ i = .int .i64 k ∧ s = .slice Aw nw cw ∧ OwnB wr w.heap.size Aw nw cw (laidB (ls.take k)) ∧
      WrOk wr w.heap.size w.heap.size R (laidB (ls.take k)) ∧ Apart Aw w.heap.size R ∧ Below w.heap.size w wr)
    (fun _ i _ => n - (intOf i).toNat)
  case atStart => exact ⟨0, 0, 0, none, none, by omega, rfl, rfl, OwnB.nil, hw1, (fun _ h => by cases h), hb1'⟩
  case round =>
    obtain ⟨k, nw, cw, Aw, R, hk, rfl, rfl, hown, hw, hd, hbw⟩ := hrel
    have hsz := hbw.size
    by_cases hlt : k < n
    · obtain ⟨b, off, y, rfl, hbB, hy, c0, c1, c2, c3, c4⟩ := (hr.below hbw).at_ hlt
      obtain ⟨⟨hyn, hyx⟩, hroom⟩ := lay_room hok hy
      obtain ⟨p, hp, hpc⟩ := pick4 y.what
      have HW : Hid ((laidB (ls.take k)).length = nw) := hown.len
      have hlk : (laidB (ls.take k)).length + 20 ≤ 140737488355328 := by omega
      have hnw : nw + 20 ≤ 140737488355328 := by have := HW.out; omega
      have hnw2 : nw + (layB y).length + 20 ≤ 140737488355328 := by have := HW.out; omega
      rcases hpc with rfl | rfl | rfl | rfl
      · have hb0 : (0 : Int) ≤ (y.b.toNat : Int) := by omega
        have hb1 : (y.b.toNat : Int) < 256 := by have := y.b.toNat_lt; omega
        go_wp2_with fail
        refine (pick_at y.what 4 0 _ (by omega) (by omega) hp).mono ?_
        rintro e w' ⟨rfl, rfl⟩
        go_wp2_with fail
        refine (writer_byte (y.b.toNat : Int) hb0 hb1 _ w.heap.size w.heap.size R _ hw (by omega) hsz).mono ?_
        rintro e w2 ⟨rfl, R2, hw2, hf2, hR2⟩
        obtain ⟨hown2, hd2⟩ := want_laid hown hd hf2 hR2
        have hb2 := hbw.trans (hf2.below (B := w.heap.size) hsz (fun j hj hin => by have := (hw.lt j hin).1; omega))
        have hs2 := hb2.size
        have d0 := (hr.below hb2).cells_at hy
        obtain ⟨c0, c1, c2, c3, c4⟩ := d0
        go_wp2_with (at_builtin; refine wpList_append_b _ rfl (.tmp 52) (.tmp 58) rfl w.heap.size Aw nw cw _ rfl (hown2.alloc _) _ _ 1 1 [_] rfl (rd_byt w2 hb0 hb1) (by omega) (by simp; omega) ?_; intro A' n' c' w3 hown3 hg3 hob3)
        have hf3 : Fr w2 w3 (fun k => ob Aw = some k) := ((Fr.refl w2 _).alloc _).grown hg3 (fun k _ hk => hk)
        have hob3' : ob A' = ob Aw ∨ ∃ k, ob A' = some k ∧ w2.heap.size ≤ k := hob3.imp id fun h => ⟨_, h, by simp⟩
        obtain ⟨hw3, hd3⟩ := laid_want hw2 hd2 hf3 hob3'
        have hb4 := hb2.trans (hf3.below (B := w.heap.size) hs2 (fun j hj hin => by have := (hown2.lt j hin).1; omega))
        go_roundw
        case rel =>
          have hlen : n' + 20 ≤ 140737488355328 := by have := hown3.len; rw [List.length_append, HW.out, ← layB0 hp] at this; omega
          exact ⟨k + 1, n', c', A', R2, by omega, by go_num, rfl, by rw [laid_take hy, layB0 hp]; exact hown3, by rw [laid_take hy, layB0 hp]; exact hw3, hd3, hb4⟩
        case measure => simp [intOf]; omega
      · go_wp2_with fail
        refine (pick_at y.what 4 1 _ (by omega) (by omega) hp).mono ?_
        rintro e w' ⟨rfl, rfl⟩
        go_wp2_with fail
        refine (writer_num y.n hyn _ w.heap.size w.heap.size R _ hw (by omega) hsz).mono ?_
        rintro e w2 ⟨rfl, R2, hw2, hf2, hR2⟩
        obtain ⟨hown2, hd2⟩ := want_laid hown hd hf2 hR2
        have hb2 := hbw.trans (hf2.below (B := w.heap.size) hsz (fun j hj hin => by have := (hw.lt j hin).1; omega))
        have hs2 := hb2.size
        have d0 := (hr.below hb2).cells_at hy
        obtain ⟨c0, c1, c2, c3, c4⟩ := d0
        go_wp2_with fail
        refine (refNum_any y.n hyn _).mono ?_
        rintro e w3 ⟨A3, n3, c3, rfl, hown3, hb3⟩
        have hs3 := hb3.size
        have hl3 : n3 ≤ (layB y).length := by have := hown3.len; rw [layB1 hp]; omega
        go_wp2_with (at_builtin; refine wpList_append_b _ rfl (.tmp 69) (.tmp 75) rfl w.heap.size Aw nw cw _ rfl (hown2.below hb3 (fun k hk => (hown2.lt k hk).2)) _ A3 n3 c3 _ rfl hown3.rd (by omega) (by omega) ?_; intro A' n' c' w4 hown4 hg4 hob4)
        have hf4 : Fr w2 w4 (fun k => ob Aw = some k) := ((Fr.of_below hb3).mono (fun k hk h => by omega)).grown hg4 (fun k _ hk => hk)
        have hob4' : ob A' = ob Aw ∨ ∃ k, ob A' = some k ∧ w2.heap.size ≤ k := hob4.imp id fun h => ⟨_, h, hs3⟩
        obtain ⟨hw3, hd3⟩ := laid_want hw2 hd2 hf4 hob4'
        have hown3 := hown4
        have hf3 := hf4
        have hb4 := hb2.trans (hf3.below (B := w.heap.size) hs2 (fun j hj hin => by have := (hown2.lt j hin).1; omega))
        go_roundw
        case rel =>
          have hlen : n' + 20 ≤ 140737488355328 := by have := hown3.len; rw [List.length_append, HW.out, ← layB1 hp] at this; omega
          exact ⟨k + 1, n', c', A', R2, by omega, by go_num, rfl, by rw [laid_take hy, layB1 hp]; exact hown3, by rw [laid_take hy, layB1 hp]; exact hw3, hd3, hb4⟩
        case measure => simp [intOf]; omega
      · go_wp2_with fail
        refine (pick_at y.what 4 2 _ (by omega) (by omega) hp).mono ?_
        rintro e w' ⟨rfl, rfl⟩
        go_wp2_with fail
        refine (writer_text y.t _ w.heap.size w.heap.size R _ hw (by rw [layB2 hp, List.length_append, data_len] at hroom; omega) hsz).mono ?_
        rintro e w2 ⟨rfl, R2, hw2, hf2, hR2⟩
        obtain ⟨hown2, hd2⟩ := want_laid hown hd hf2 hR2
        have hb2 := hbw.trans (hf2.below (B := w.heap.size) hsz (fun j hj hin => by have := (hw.lt j hin).1; omega))
        have hs2 := hb2.size
        have d0 := (hr.below hb2).cells_at hy
        obtain ⟨c0, c1, c2, c3, c4⟩ := d0
        go_wp2_with fail
        refine (refText_any y.t (by rw [layB2 hp, List.length_append, data_len] at hroom; omega) _).mono ?_
        rintro e w3 ⟨A3, n3, c3, rfl, hown3, hb3⟩
        have hs3 := hb3.size
        have hl3 : n3 ≤ (layB y).length := by have := hown3.len; rw [layB2 hp]; omega
        go_wp2_with (at_builtin; refine wpList_append_b _ rfl (.tmp 35) (.tmp 41) rfl w.heap.size Aw nw cw _ rfl (hown2.below hb3 (fun k hk => (hown2.lt k hk).2)) _ A3 n3 c3 _ rfl hown3.rd (by omega) (by omega) ?_; intro A' n' c' w4 hown4 hg4 hob4)
        have hf4 : Fr w2 w4 (fun k => ob Aw = some k) := ((Fr.of_below hb3).mono (fun k hk h => by omega)).grown hg4 (fun k _ hk => hk)
        have hob4' : ob A' = ob Aw ∨ ∃ k, ob A' = some k ∧ w2.heap.size ≤ k := hob4.imp id fun h => ⟨_, h, hs3⟩
        obtain ⟨hw3, hd3⟩ := laid_want hw2 hd2 hf4 hob4'
        have hown3 := hown4
        have hf3 := hf4
        have hb4 := hb2.trans (hf3.below (B := w.heap.size) hs2 (fun j hj hin => by have := (hown2.lt j hin).1; omega))
        go_roundw
        case rel =>
          have hlen : n' + 20 ≤ 140737488355328 := by have := hown3.len; rw [List.length_append, HW.out, ← layB2 hp] at this; omega
          exact ⟨k + 1, n', c', A', R2, by omega, by go_num, rfl, by rw [laid_take hy, layB2 hp]; exact hown3, by rw [laid_take hy, layB2 hp]; rw [← List.append_assoc]; exact hw3, hd3, hb4⟩
        case measure => simp [intOf]; omega
      · go_wp2_with fail
        refine (pick_at y.what 4 3 _ (by omega) (by omega) hp).mono ?_
        rintro e w' ⟨rfl, rfl⟩
        go_wp2_with fail
        refine (writer_float y.x hyx _ w.heap.size w.heap.size R _ hw (by omega) hsz).mono ?_
        rintro e w2 ⟨rfl, R2, hw2, hf2, hR2⟩
        obtain ⟨hown2, hd2⟩ := want_laid hown hd hf2 hR2
        have hb2 := hbw.trans (hf2.below (B := w.heap.size) hsz (fun j hj hin => by have := (hw.lt j hin).1; omega))
        have hs2 := hb2.size
        have d0 := (hr.below hb2).cells_at hy
        obtain ⟨c0, c1, c2, c3, c4⟩ := d0
        go_wp2_with fail
        refine (refFloat_any y.x hyx _).mono ?_
        rintro e w3 ⟨A3, n3, c3, rfl, hown3, hb3⟩
        have hs3 := hb3.size
        have hl3 : n3 ≤ (layB y).length := by have := hown3.len; rw [layB3 hp]; omega
        go_wp2_with (at_builtin; refine wpList_append_b _ rfl (.tmp 86) (.tmp 92) rfl w.heap.size Aw nw cw _ rfl (hown2.below hb3 (fun k hk => (hown2.lt k hk).2)) _ A3 n3 c3 _ rfl hown3.rd (by omega) (by omega) ?_; intro A' n' c' w4 hown4 hg4 hob4)
        have hf4 : Fr w2 w4 (fun k => ob Aw = some k) := ((Fr.of_below hb3).mono (fun k hk h => by omega)).grown hg4 (fun k _ hk => hk)
        have hob4' : ob A' = ob Aw ∨ ∃ k, ob A' = some k ∧ w2.heap.size ≤ k := hob4.imp id fun h => ⟨_, h, hs3⟩
        obtain ⟨hw3, hd3⟩ := laid_want hw2 hd2 hf4 hob4'
        have hown3 := hown4
        have hf3 := hf4
        have hb4 := hb2.trans (hf3.below (B := w.heap.size) hs2 (fun j hj hin => by have := (hown2.lt j hin).1; omega))
        go_roundw
        case rel =>
          have hlen : n' + 20 ≤ 140737488355328 := by have := hown3.len; rw [List.length_append, HW.out, ← layB3 hp] at this; omega
          exact ⟨k + 1, n', c', A', R2, by omega, by go_num, rfl, by rw [laid_take hy, layB3 hp]; exact hown3, by rw [laid_take hy, layB3 hp]; exact hw3, hd3, hb4⟩
        case measure => simp [intOf]; omega
    · obtain rfl : k = n := by omega
      have e : ls.take k = ls := List.take_of_length_le (by rw [HL.out]; omega)
      rw [e] at hw hown
      go_wp2_with fail
      refine (writer_bytes _ w.heap.size w.heap.size R _ hw (by have := hok.2; omega)).mono ?_
      rintro e w4 ⟨A4, n4, c4, rfl, hown4, hb4⟩
      obtain ⟨wo, rfl⟩ : ∃ wo : World, wo = wr := ⟨_, rfl⟩
      have hz4 := hb4.size
      have hwant4 := hown.below hb4 (fun k hk => (hown.lt k hk).2)
      have hw4 := hw.fr (Fr.of_below hb4) (fun k hk => by have := (hw.lt k hk).2; omega)
      have hs1 := run_str (c := c4) hown4.rd
      have hs2 := run_str (c := cw) hwant4.rd
      have hst0 := seq_true (x := laidB ls) rfl
      have hn4 : n4 ≤ 140737488355328 := by have := hown4.len; have := hok.2; omega
      go_wp2_with fail
      clear hs1 hs2
      go_loopw [8] (fun i w5 => ∃ (j : Nat) (la : List UInt8), j ≤ n4 ∧ i = .int .i64 j ∧ OwnB w5 wo.heap.size A4 n4 c4 la ∧ Fr w4 w5 (fun k => ob A4 = some k)) (fun i _ => n4 - (intOf i).toNat)
      case atStart => exact ⟨0, _, by omega, rfl, hown4, Fr.refl _ _⟩
      case round =>
        obtain ⟨j, la, hj, rfl, hla, hf5⟩ := hrel
        by_cases hj2 : j < n4
        · obtain ⟨g, rfl, hg0, hg1, hcell, hfz, hst⟩ := hla.store hj2
          obtain ⟨hla2, hg2⟩ := hst 238 (by omega) (by omega)
          go_wp2_with fail
          go_roundw
          case rel => exact ⟨j + 1, _, by omega, by go_num, hla2, hf5.grown hg2 (fun _ _ h => h)⟩
          case measure => simp [intOf]; omega
        · obtain rfl : j = n4 := by omega
          have hn4b : ∀ k, ob A4 = some k → wo.heap.size ≤ k := fun k hk => (hown4.lt k hk).1
          have hw5 := hw4.fr hf5 (fun k hk h => by have := (hw.lt k hk).2; have := hn4b k h; omega)
          have hwant5 := hwant4.fr hf5 (fun k hk h => by have := (hown.lt k hk).2; have := hn4b k h; omega)
          have hz5 := hf5.size
          have hb5 : Below w.heap.size w wr := (hbw.trans (hb4.mono hsz)).trans (hf5.below (by omega) (fun k hk h => by have := hn4b k h; omega))
          have hcon : (convert 22 9 (.slice Aw nw cw)).run Try.prog wr.drew = .ok (.string (bstr (laidB ls))) wr.drew := run_str hwant5.rd.drew
          go_wp2_with fail
          go_region_held_law (fun w' => (convert 22 9 (.slice Aw nw cw)).run Try.prog w' = .ok (.string (bstr (laidB ls))) w') (with_reducible assumption)
            (first | (go_at_call 30; refine (writer_bytes _ w.heap.size w.heap.size R _ (hw5.fr (Fr.of_below (B := wr.heap.size) (below_drewN (Below.refl _ _) 1)) (fun k hk => by have := (hw5.lt k hk).2; omega)) (by have := hok.2; omega)).mono ?_; rintro e w6 ⟨A6, n6, c6, rfl, hown6, hb6⟩; have hcon1 := run_str (c := cw) (hwant5.rd.drew.below hb6); have hcon2 := run_str (c := c6) hown6.rd))
          go_wp2_with fail
          go_ret
          have hb7 : Below wr.heap.size wr w6 := below_of_drewN (n := 1) hb6
          exact ⟨rfl, hb5.trans (hb7.mono (by omega))⟩

end Go.Proofs.Ytbeaacchhaipjaa
