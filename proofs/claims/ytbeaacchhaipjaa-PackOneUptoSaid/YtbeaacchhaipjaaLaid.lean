/-
  The contract of the laws' 'laid': what is laid, as bytes.
-/
import Derived.Test.YtbeaacchhaipjaaLay
namespace Go.Proofs.Ytbeaacchhaipjaa
open Go.RowKit

/-- below the laws' bound -/
def LaysOk (ls : List LayV) : Prop := (∀ y ∈ ls, LayOk y) ∧ (laidB ls).length + 20 ≤ 140737488355328

theorem lay_room {ls : List LayV} {k : Nat} {y : LayV} (h : LaysOk ls) (hy : ls[k]? = some y) : LayOk y ∧ (laidB (ls.take k)).length + (layB y).length + 20 ≤ 140737488355328 := by
  refine ⟨h.1 y (List.mem_of_getElem? hy), ?_⟩
  have h1 := laid_take hy
  have h2 := laid_le ls (k + 1)
  rw [h1, List.length_append] at h2
  have := h.2
  omega

set_option maxRecDepth 100000 in
set_option maxHeartbeats 2000000 in
theorem laid_any (A : Option Addr) (n c : Nat) (ls : List LayV) (w : World) (hr : RdL w w.heap.size A n ls) (hok : LaysOk ls) (hn : n ≤ 140737488355328) :
    Calls Try.prog 41 #[.slice A n c] w (Made w (laidB ls)) := by
  have HL : Hid (ls.length = n) := hr.len
  go_enter Try.func41, Try.ntmps41
  go_wp2_with fail
  refine (newWriter_any w).mono ?_
  rintro e w1 ⟨rfl, rfl⟩
  have hw0 := WrOk.new w w.heap.size (Nat.le_refl _)
  go_wp2_with fail
  go_loopw [4] (fun i wr => ∃ (k : Nat) (R : Option Nat), k ≤ n ∧ i = .int .i64 k ∧ WrOk wr w.heap.size w.heap.size R (laidB (ls.take k)) ∧ Below w.heap.size w wr)
    (fun i _ => n - (intOf i).toNat)
  case atStart => exact ⟨0, none, by omega, rfl, hw0, (Below.refl _ _).alloc (Nat.le_refl _) _⟩
  case round =>
    obtain ⟨k, R, hk, rfl, hw, hbw⟩ := hrel
    have hsz := hbw.size
    by_cases hlt : k < n
    · obtain ⟨b, off, y, rfl, hbB, hy, c0, c1, c2, c3, c4⟩ := (hr.below hbw).at_ hlt
      obtain ⟨⟨hyn, hyx⟩, hroom⟩ := lay_room hok hy
      obtain ⟨p, hp, hpc⟩ := pick4 y.what
      have hlk : (laidB (ls.take k)).length + 20 ≤ 140737488355328 := by omega
      rcases hpc with rfl | rfl | rfl | rfl
      · have hb0 : (0 : Int) ≤ (y.b.toNat : Int) := by omega
        have hb1 : (y.b.toNat : Int) < 256 := by have := y.b.toNat_lt; omega
        go_wp2_with fail
        refine (pick_at y.what 4 0 _ (by omega) (by omega) hp).mono ?_
        rintro e w' ⟨rfl, rfl⟩
        go_wp2_with fail
        refine (writer_byte (y.b.toNat : Int) hb0 hb1 _ w.heap.size w.heap.size R _ hw (by omega) hsz).mono ?_
        rintro e w2 ⟨rfl, R2, hw2, hf2, hR2⟩
        have hb2 := hbw.trans (hf2.below (B := w.heap.size) hsz (fun j hj hin => by have := (hw.lt j hin).1; omega))
        go_wp2_with fail
        go_roundw
        case rel => exact ⟨k + 1, R2, by omega, by go_num, by rw [laid_take hy, layB0 hp]; exact hw2, hb2⟩
        case measure => simp [intOf]; omega
      · go_wp2_with fail
        refine (pick_at y.what 4 1 _ (by omega) (by omega) hp).mono ?_
        rintro e w' ⟨rfl, rfl⟩
        go_wp2_with fail
        refine (writer_num y.n hyn _ w.heap.size w.heap.size R _ hw (by omega) hsz).mono ?_
        rintro e w2 ⟨rfl, R2, hw2, hf2, hR2⟩
        have hb2 := hbw.trans (hf2.below (B := w.heap.size) hsz (fun j hj hin => by have := (hw.lt j hin).1; omega))
        go_wp2_with fail
        go_roundw
        case rel => exact ⟨k + 1, R2, by omega, by go_num, by rw [laid_take hy, layB1 hp]; exact hw2, hb2⟩
        case measure => simp [intOf]; omega
      · go_wp2_with fail
        refine (pick_at y.what 4 2 _ (by omega) (by omega) hp).mono ?_
        rintro e w' ⟨rfl, rfl⟩
        go_wp2_with fail
        refine (writer_text y.t _ w.heap.size w.heap.size R _ hw (by rw [layB2 hp, List.length_append, data_len] at hroom; omega) hsz).mono ?_
        rintro e w2 ⟨rfl, R2, hw2, hf2, hR2⟩
        have hb2 := hbw.trans (hf2.below (B := w.heap.size) hsz (fun j hj hin => by have := (hw.lt j hin).1; omega))
        go_wp2_with fail
        go_roundw
        case rel => exact ⟨k + 1, R2, by omega, by go_num, by rw [laid_take hy, layB2 hp]; rw [← List.append_assoc]; exact hw2, hb2⟩
        case measure => simp [intOf]; omega
      · go_wp2_with fail
        refine (pick_at y.what 4 3 _ (by omega) (by omega) hp).mono ?_
        rintro e w' ⟨rfl, rfl⟩
        go_wp2_with fail
        refine (writer_float y.x hyx _ w.heap.size w.heap.size R _ hw (by omega) hsz).mono ?_
        rintro e w2 ⟨rfl, R2, hw2, hf2, hR2⟩
        have hb2 := hbw.trans (hf2.below (B := w.heap.size) hsz (fun j hj hin => by have := (hw.lt j hin).1; omega))
        go_wp2_with fail
        go_roundw
        case rel => exact ⟨k + 1, R2, by omega, by go_num, by rw [laid_take hy, layB3 hp]; exact hw2, hb2⟩
        case measure => simp [intOf]; omega
    · obtain rfl : k = n := by omega
      have e : ls.take k = ls := List.take_of_length_le (by rw [HL.out]; omega)
      rw [e] at hw
      go_wp2_with fail
      refine (writer_bytes _ w.heap.size w.heap.size R _ hw (by have := hok.2; omega)).mono ?_
      rintro e w4 ⟨A4, n4, c4, rfl, hown4, hb4⟩
      go_wp2_with fail
      go_ret
      exact ⟨_, _, _, rfl, hown4.base_le (fun _ _ h => Nat.le_trans hsz h), hbw.trans (hb4.mono hsz)⟩

end Go.Proofs.Ytbeaacchhaipjaa
