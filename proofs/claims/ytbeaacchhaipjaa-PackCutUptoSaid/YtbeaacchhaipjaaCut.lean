/-
  The walk of PackCut: it returns true and writes nothing that was there.
-/
import Derived.Test.YtbeaacchhaipjaaBackLaw
import Derived.Test.YtbeaacchhaipjaaLaid
import Derived.Test.YtbeaacchhaipjaaKnown
namespace Go.Proofs.Ytbeaacchhaipjaa
open Go.RowKit

theorem cutInv_bad {ls : List LayV} {c k p : Nat} {bad : Int} (h : CutInv ls c k p bad) : -100 < bad ∧ bad < 100 := by
  rcases h with rfl | ⟨rfl, _⟩ <;> decide
theorem cut_end {ls : List LayV} {c p : Nat} {bad : Int} (hc : c < (laidB ls).length) (h : CutInv ls c ls.length p bad) : bad = 10 := by
  rcases h with rfl | ⟨_, hp, hpc⟩
  · rfl
  · rw [List.take_length] at hp; omega

set_option maxRecDepth 100000 in
set_option maxHeartbeats 4000000 in
theorem cut_any (A : Option Addr) (n c : Nat) (ls : List LayV) (cut : Int) (w : World) (hr : RdL w w.heap.size A n ls) (hok : LaysOk ls) (hn : n ≤ 140737488355328) :
    Calls Try.prog 12 #[.slice A n c, .int .i64 cut] w fun e w' => e = .returned (.bool true) ∧ Below w.heap.size w w' := by
  have HL : Hid (ls.length = n) := hr.len
  go_enter Try.func12, Try.ntmps12
  go_wp2_with fail
  refine (laid_any A n c ls w hr hok hn).mono ?_
  rintro e w0 ⟨A0, n0, c0, rfl, hown0, hb0⟩
  have hz0 := hb0.size
  have HN : Hid ((laidB ls).length = n0) := hown0.len
  have hn0 : n0 + 20 ≤ 140737488355328 := by have := hok.2; have := HN.out; omega
  have hcap := hown0.cap
  go_wp2_with fail
  refine (known_any _).mono ?_
  rintro e w1 ⟨rfl, hb1⟩
  have hz1 := hb1.size
  have hown1 := hown0.below hb1 (fun k hk => (hown0.lt k hk).2)
  by_cases hn00 : n0 = 0
  · subst hn00
    go_wp2_with fail
    go_ret
    exact ⟨rfl, hb0.trans (hb1.mono hz0)⟩
  · obtain ⟨cc, hcc, hccl⟩ := pick_nat cut (n0 : Int) (by omega)
    have hne : ((n0 : Int) == 0) = false := beq_eq_false_iff_ne.2 (by omega)
    go_wp2_with fail
    refine (pick_at cut (n0 : Int) cc _ (by omega) (by omega) hcc).mono ?_
    rintro e w' ⟨rfl, rfl⟩
    have hsl := hown1.rd.upto (k := cc) (by omega)
    have hci : (cc : Int) ≤ (c0 : Int) := by omega
    go_wp2_with fail
    refine (newReader_any A0 cc c0 _ w1 hsl (by omega)).mono ?_
    rintro e w2 ⟨g, rfl, hg, hr2, hb2⟩
    have hz2 := hb2.size
    have hbw2 := (hb0.trans (hb1.mono hz0)).trans (hb2.mono (by omega))
    go_wp2_with fail
    go_loopw [7] (fun i wr => ∃ (k p : Nat) (bad : Int), k ≤ n ∧ i = .int .i64 k ∧ RrOk wr w1.heap.size g ((laidB ls).take cc) (p, bad) ∧ Hid (CutInv ls cc k p bad) ∧ Below w.heap.size w wr)
      (fun i _ => n - (intOf i).toNat)
    case atStart => exact ⟨0, 0, 0, by omega, rfl, hr2, (.inr ⟨rfl, rfl, Nat.zero_le _⟩), hbw2⟩
    case round =>
      obtain ⟨k, p, bad, hk, rfl, hrd, hinv, hbw⟩ := hrel
      have hsz := hbw.size
      have hbad := cutInv_bad hinv.out
      by_cases hlt : k < n
      · obtain ⟨b, off, y, rfl, hbB, hy, d0, d1, d2, d3, d4⟩ := (hr.below hbw).at_ hlt
        have hroom := lay_room hok hy
        obtain ⟨hyn, hyx⟩ := hroom.1
        obtain ⟨q, hp, hpc⟩ := pick4 y.what
        rcases hpc with rfl | rfl | rfl | rfl
        · go_wp2_with fail
          refine (pick_at y.what 4 0 _ (by omega) (by omega) hp).mono ?_
          rintro e w' ⟨rfl, rfl⟩
          go_wp2_with fail
          refine (reader_byte 255 (by decide) (by decide) _ w1.heap.size g _ p bad hrd hbad).mono ?_
          rintro e w2 ⟨rfl, hr2, hf2⟩
          have hb2 := hbw.trans (hf2.below (B := w.heap.size) hsz (fun j hj e => by have := hrd.1; omega))
          go_wp2_with fail
          go_roundw
          case rel => exact ⟨k + 1, (rByte ((laidB ls).take cc) (p, bad) 255).2.1, (rByte ((laidB ls).take cc) (p, bad) 255).2.2, by omega, by go_num, hr2, cut_step0 hy hp hrd.2.1 hinv.out, hb2⟩
          case measure => simp [intOf]; omega
        · go_wp2_with fail
          refine (pick_at y.what 4 1 _ (by omega) (by omega) hp).mono ?_
          rintro e w' ⟨rfl, rfl⟩
          go_wp2_with fail
          refine (reader_num 18446744073709551615 (by decide) _ w1.heap.size g _ p bad hrd hbad).mono ?_
          rintro e w2 ⟨rfl, hr2, hf2⟩
          have hb2 := hbw.trans (hf2.below (B := w.heap.size) hsz (fun j hj e => by have := hrd.1; omega))
          go_wp2_with fail
          go_roundw
          case rel => exact ⟨k + 1, (rNum ((laidB ls).take cc) (p, bad) 18446744073709551615).2.1, (rNum ((laidB ls).take cc) (p, bad) 18446744073709551615).2.2, by omega, by go_num, hr2, cut_step1 hy hyn hp hinv.out, hb2⟩
          case measure => simp [intOf]; omega
        · have hts : y.t.size ≤ 140737488355328 := by have h := hroom.2; rw [layB2 hp, List.length_append, data_len] at h; omega
          go_wp2_with fail
          refine (pick_at y.what 4 2 _ (by omega) (by omega) hp).mono ?_
          rintro e w' ⟨rfl, rfl⟩
          go_wp2_with fail
          refine (reader_text (y.t.size : Int) (by omega) (by omega) _ w1.heap.size g _ p bad hrd hbad).mono ?_
          rintro e w2 ⟨rfl, hr2, hf2⟩
          have hb2 := hbw.trans (hf2.below (B := w.heap.size) hsz (fun j hj e => by have := hrd.1; omega))
          go_wp2_with fail
          go_roundw
          case rel => exact ⟨k + 1, (rText ((laidB ls).take cc) (p, bad) (y.t.size : Int)).2.1, (rText ((laidB ls).take cc) (p, bad) (y.t.size : Int)).2.2, by omega, by go_num, hr2, cut_step2 hy (by omega) hp hrd.2.1 hinv.out, hb2⟩
          case measure => simp [intOf]; omega
        · go_wp2_with fail
          refine (pick_at y.what 4 3 _ (by omega) (by omega) hp).mono ?_
          rintro e w' ⟨rfl, rfl⟩
          go_wp2_with fail
          refine (reader_float _ w1.heap.size g _ p bad hrd hbad).mono ?_
          rintro e w2 ⟨rfl, hr2, hf2⟩
          have hb2 := hbw.trans (hf2.below (B := w.heap.size) hsz (fun j hj e => by have := hrd.1; omega))
          go_wp2_with fail
          go_roundw
          case rel => exact ⟨k + 1, (rFloat ((laidB ls).take cc) (p, bad)).2.1, (rFloat ((laidB ls).take cc) (p, bad)).2.2, by omega, by go_num, hr2, cut_step3 hy hyx hp hrd.2.1 hinv.out, hb2⟩
          case measure => simp [intOf]; omega
      · obtain rfl : k = n := by omega
        have hb10 : bad = 10 := by
          have h := hinv.out
          rw [← HL.out] at h
          exact cut_end (by rw [HN.out]; omega) h
        subst hb10
        have hE := Lib.hid (reader_end wr w1.heap.size g _ p 10 hrd (by decide))
        have he : rEnd ((laidB ls).take cc) (p, 10) = 10 := by unfold rEnd; rw [if_neg (by simp)]
        rw [he] at hE
        clear he
        go_wp2_with fail
        refine hE.out.mono ?_
        rintro e w3 ⟨rfl, hr3, hf3⟩
        have hb3 := hbw.trans (hf3.below (B := w.heap.size) hsz (fun j hj e => by have := hrd.1; omega))
        go_wp2_with fail
        go_ret
        exact ⟨rfl, hb3⟩

end Go.Proofs.Ytbeaacchhaipjaa
