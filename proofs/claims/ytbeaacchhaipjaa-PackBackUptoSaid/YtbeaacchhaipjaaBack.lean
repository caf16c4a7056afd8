/-
  The walk of PackBack: it returns true and writes nothing that was there.
-/
import Derived.Test.YtbeaacchhaipjaaOne
import Derived.Test.YtbeaacchhaipjaaLaid
import Derived.Test.YtbeaacchhaipjaaKnown
import Derived.Deep.RegionHeldLaw
namespace Go.Proofs.Ytbeaacchhaipjaa
open Go.RowKit

theorem RrOk.drew {w : World} {base g : Nat} {l : List UInt8} {s : Nat × Int} (h : RrOk w base g l s) : RrOk w.drew base g l s := h
theorem back_pos {ls : List LayV} {k p q : Nat} {y : LayV} (hy : ls[k]? = some y) (hq : q = p + (layB y).length) (hp : Hid (p = (laidB (ls.take k)).length)) : Hid (q = (laidB (ls.take (k + 1))).length) := by
  show _ = _
  rw [laid_take hy, List.length_append, hq, hp.out]

set_option maxRecDepth 100000 in
set_option maxHeartbeats 4000000 in
theorem back_any (A : Option Addr) (n c : Nat) (ls : List LayV) (w : World) (hr : RdL w w.heap.size A n ls) (hok : LaysOk ls) (hn : n ≤ 140737488355328) :
    Calls Try.prog 11 #[.slice A n c] w fun e w' => e = .returned (.bool true) ∧ Below w.heap.size w w' := by
  have HL : Hid (ls.length = n) := hr.len
  go_enter Try.func11, Try.ntmps11
  go_wp2_with fail
  refine (laid_any A n c ls w hr hok hn).mono ?_
  rintro e w1 ⟨A0, n0, c0, rfl, hown0, hb0⟩
  have hz0 := hb0.size
  have HN : Hid ((laidB ls).length = n0) := hown0.len
  have hn0 : n0 + 20 ≤ 140737488355328 := by have := hok.2; have := HN.out; omega
  go_wp2_with fail
  refine (newReader_any A0 n0 c0 _ w1 hown0.rd (by omega)).mono ?_
  rintro e w2 ⟨g, rfl, hg, hr2, hb2⟩
  have hz2 := hb2.size
  go_wp2_with fail
  refine (known_any _).mono ?_
  rintro e w3 ⟨rfl, hb3⟩
  have hr3 := hr2.keepB hb3
  have hbw3 := (hb0.trans (hb2.mono hz0)).trans (hb3.mono (by omega))
  clear hb0 hb2 hb3 hr2
  go_wp2_with fail
  go_loopw [4] (fun i wr => ∃ (k p : Nat), k ≤ n ∧ i = .int .i64 k ∧ RrOk wr w1.heap.size g (laidB ls) (p, 0) ∧ Hid (p = (laidB (ls.take k)).length) ∧ Below w.heap.size w wr)
    (fun i _ => n - (intOf i).toNat)
  case atStart => exact ⟨0, 0, by omega, rfl, hr3, rfl, hbw3⟩
  case round =>
    obtain ⟨k, p, hk, rfl, hrd, hpos, hbw⟩ := hrel
    have hsz := hbw.size
    by_cases hlt : k < n
    · obtain ⟨b, off, y, rfl, hbB, hy, d0, c1, c2, c3, c4⟩ := (hr.below hbw).at_ hlt
      have hroom := lay_room hok hy
      obtain ⟨hyn, hyx⟩ := hroom.1
      obtain ⟨q, hp, hpc⟩ := pick4 y.what
      have hd := laid_drop hy
      rw [← hpos.out] at hd
      rcases hpc with rfl | rfl | rfl | rfl
      · have hl := layB0 hp
        rw [byt_of] at hl
        rw [hl] at hd
        have HC := Lib.hid (reader_byte (y.b.toNat : Int) (by omega) (by have := y.b.toNat_lt; omega) wr.drew w1.heap.size g _ p 0 hrd.drew (by decide))
        rw [back_byte hd (Int.le_refl _)] at HC
        have k0 : wr.drew.cell? ⟨b, off + k * 5 + 1, none⟩ = some (.int .u8 (y.b.toNat : Int)) := c1
        go_wp2_with fail
        refine (pick_at y.what 4 0 _ (by omega) (by omega) hp).mono ?_
        rintro e w' ⟨rfl, rfl⟩
        go_wp2_with fail
        go_region_held_law (fun w' => w'.cell? ⟨b, off + k * 5 + 1, none⟩ = some (.int .u8 (y.b.toNat : Int))) (with_reducible assumption)
          (first
            | (go_at_call 37; refine HC.out.mono ?_; rintro e w2 ⟨rfl, hr2, hf2⟩; have hb2 := hf2.below (B := w.heap.size) hsz (fun j hj e => by have := hrd.1; omega); have k1 : w2.cell? ⟨b, off + k * 5 + 1, none⟩ = some (.int .u8 (y.b.toNat : Int)) := (hb2.cell (p := ⟨b, _, none⟩) hbB).trans k0)
            )
        go_wp2_with fail
        go_roundw
        case rel => exact ⟨k + 1, _, by omega, by go_num, hr2, back_pos hy (by rw [hl]; rfl) hpos, hbw.trans (below_of_drew hb2)⟩
        case measure => simp [intOf]; omega
      · have hl := layB1 hp
        rw [hl] at hd
        have HC := Lib.hid (reader_num y.n hyn wr.drew w1.heap.size g _ p 0 hrd.drew (by decide))
        rw [back_num hyn (Nat.le_refl _) hd] at HC
        have k0 : wr.drew.cell? ⟨b, off + k * 5 + 2, none⟩ = some (.int .u64 (y.n : Int)) := c2
        go_wp2_with fail
        refine (pick_at y.what 4 1 _ (by omega) (by omega) hp).mono ?_
        rintro e w' ⟨rfl, rfl⟩
        go_wp2_with fail
        go_region_held_law (fun w' => w'.cell? ⟨b, off + k * 5 + 2, none⟩ = some (.int .u64 (y.n : Int))) (with_reducible assumption)
          (first
            | (go_at_call 38; refine HC.out.mono ?_; rintro e w2 ⟨rfl, hr2, hf2⟩; have hb2 := hf2.below (B := w.heap.size) hsz (fun j hj e => by have := hrd.1; omega); have k1 : w2.cell? ⟨b, off + k * 5 + 2, none⟩ = some (.int .u64 (y.n : Int)) := (hb2.cell (p := ⟨b, _, none⟩) hbB).trans k0)
            )
        go_wp2_with fail
        go_roundw
        case rel => exact ⟨k + 1, _, by omega, by go_num, hr2, back_pos hy (by rw [hl]) hpos, hbw.trans (below_of_drew hb2)⟩
        case measure => simp [intOf]; omega
      · have hl := layB2 hp
        have hts : y.t.size ≤ 140737488355328 := by have h := hroom.2; rw [hl, List.length_append, data_len] at h; omega
        rw [hl] at hd
        have HC := Lib.hid (reader_text (y.t.size : Int) (by omega) (by omega) wr.drew w1.heap.size g _ p 0 hrd.drew (by decide))
        rw [back_text (by omega) (Int.le_refl _) hd, bstr_data] at HC
        have k0 : wr.drew.cell? ⟨b, off + k * 5 + 4, none⟩ = some (.string y.t) := c4
        go_wp2_with fail
        refine (pick_at y.what 4 2 _ (by omega) (by omega) hp).mono ?_
        rintro e w' ⟨rfl, rfl⟩
        go_wp2_with fail
        go_region_held_law (fun w' => w'.cell? ⟨b, off + k * 5 + 4, none⟩ = some (.string y.t)) (with_reducible assumption)
          (first
            | (go_at_call 39; refine HC.out.mono ?_; rintro e w2 ⟨rfl, hr2, hf2⟩; have hb2 := hf2.below (B := w.heap.size) hsz (fun j hj e => by have := hrd.1; omega); have k1 : w2.cell? ⟨b, off + k * 5 + 4, none⟩ = some (.string y.t) := (hb2.cell (p := ⟨b, _, none⟩) hbB).trans k0)
            )
        go_wp2_with fail
        go_roundw
        case rel => exact ⟨k + 1, _, by omega, by go_num, hr2, back_pos hy (by rw [hl]) hpos, hbw.trans (below_of_drew hb2)⟩
        case measure => simp [intOf]; omega
      · have hl := layB3 hp
        rw [hl] at hd
        have HC := Lib.hid (reader_float wr.drew w1.heap.size g _ p 0 hrd.drew (by decide))
        rw [back_float hyx hd] at HC
        have k0 : wr.drew.cell? ⟨b, off + k * 5 + 3, none⟩ = some (.float .f64 y.x) := c3
        go_wp2_with fail
        refine (pick_at y.what 4 3 _ (by omega) (by omega) hp).mono ?_
        rintro e w' ⟨rfl, rfl⟩
        go_wp2_with fail
        go_region_held_law (fun w' => w'.cell? ⟨b, off + k * 5 + 3, none⟩ = some (.float .f64 y.x)) (with_reducible assumption)
          (first
            | (go_at_call 33; refine HC.out.mono ?_; rintro e w2 ⟨rfl, hr2, hf2⟩; have hb2 := hf2.below (B := w.heap.size) hsz (fun j hj e => by have := hrd.1; omega); have k1 : w2.cell? ⟨b, off + k * 5 + 3, none⟩ = some (.float .f64 y.x) := (hb2.cell (p := ⟨b, _, none⟩) hbB).trans k0)
            | (go_at_call 32; refine (one_at _ _ _ (one_bits y.x)).mono ?_; rintro e w3 ⟨rfl, rfl⟩))
        go_wp2_with fail
        go_roundw
        case rel => exact ⟨k + 1, _, by omega, by go_num, hr2, back_pos hy (by rw [hl, leB_len]) hpos, hbw.trans (below_of_drew hb2)⟩
        case measure => simp [intOf]; omega
    · obtain rfl : k = n := by omega
      have hE := Lib.hid (reader_end wr w1.heap.size g _ p 0 hrd (by decide))
      have he : rEnd (laidB ls) (p, 0) = 0 := by
        unfold rEnd
        rw [if_neg (by have h := hpos.out; rw [List.take_of_length_le (by rw [HL.out]; omega)] at h; simp only; omega)]
      rw [he] at hE
      clear he
      go_wp2_with fail
      refine hE.out.mono ?_
      rintro e w4 ⟨rfl, hr4, hf4⟩
      have hb4 := hbw.trans (hf4.below (B := w.heap.size) hsz (fun j hj e => by have := hrd.1; omega))
      go_wp2_with fail
      go_ret
      exact ⟨rfl, hb4⟩

end Go.Proofs.Ytbeaacchhaipjaa
