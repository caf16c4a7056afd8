/-
  The walk of PackFloats.
-/
import Derived.Test.YtbeaacchhaipjaaKnown
import Derived.Test.YtbeaacchhaipjaaRefFloat
import Derived.Test.YtbeaacchhaipjaaOne
import Derived.Test.YtbeaacchhaipjaaBackLaw
import Derived.Deep.RegionHeldLaw
namespace Go.Proofs.Ytbeaacchhaipjaa
open Go.RowKit

theorem RrOk.past {w w' : World} {base base' g g' : Nat} {l l' : List UInt8} {s s' : Nat × Int} (h : RrOk w base g l s) (h' : RfOk w base' g' l' s') (hne : g ≠ g') (hf : Fr w w' (fun k => k = g')) : RrOk w' base g l s := by
  obtain ⟨_, _, _, A, n, c, hblk, _⟩ := h'
  exact h.fr hf hne (fun A n c hown k hk e => by subst e; exact hown.ne_blk hblk (by decide) hk)

set_option maxRecDepth 100000 in
set_option maxHeartbeats 4000000 in
theorem floats_any (x b : Nat) (hx : x < 18446744073709551616) (_hb : b < 18446744073709551616) (w : World) :
    Calls Try.prog 7 #[.float .f64 x, .int .u64 (b : Int)] w fun e w' => e = .returned (.bool true) ∧ Below w.heap.size w w' := by
  have hbx := bitsOf_lt hx
  have hback : Hid (rFloat (leB 8 (bitsOf x)) (0, 0) = (bitsOf x, 8, 0)) := back_float (post := []) hx (by simp)
  have hend : Hid (rEnd (leB 8 (bitsOf x)) (8, 0) = 0) := by
    show _ = _
    unfold rEnd; rw [leB_len]; rfl
  have hlen : Hid ((leB 8 (bitsOf x)).length = 8) := leB_len 8 _
  obtain ⟨L, hL⟩ : ∃ L, Hid (leB 8 (bitsOf x) = L) := ⟨_, rfl⟩
  have hseq : ((bstr L).toList == (bstr L).toList) = true := seq_true rfl
  have one1 := Lib.hid (fun W => one_at (bitsOf x) x W (one_bits x))
  go_enter Try.func7, Try.ntmps7
  go_wp2_with fail
  refine (newWriter_any w).mono ?_
  rintro e w1 ⟨rfl, rfl⟩
  have hw := WrOk.new w w.heap.size (Nat.le_refl _)
  go_wp2_with fail
  refine (known_any _).mono ?_
  rintro e w2 ⟨rfl, hb2⟩
  have hs2 := hb2.size
  simp only [World.size_alloc] at hs2
  have hw2 := hw.fr (Fr.of_below hb2) (fun k hk => by have := (hw.lt k hk).2; omega)
  go_wp2_with fail
  refine (writer_float x hx _ w.heap.size w.heap.size none [] hw2 (by simp) (by omega)).mono ?_
  rintro e w3 ⟨rfl, R3, hw3, hf3, hR3⟩
  rw [List.nil_append, hL.out] at hw3
  rw [hL.out] at hlen hback hend
  have hs3 := hf3.size
  have hb3 : Below w.heap.size w w3 := (((Below.refl _ _).alloc (Nat.le_refl _) _).trans (hb2.mono (by simp))).trans (hf3.below (by omega) (fun k hk e => by have := (hw2.lt k e).1; omega))
  clear hw hw2 hf3 hb2 hR3
  go_wp2_with fail
  refine (writer_bytes _ w.heap.size w.heap.size R3 _ hw3 (by rw [hlen.out]; omega)).mono ?_
  rintro e w4 ⟨A4, n4, c4, rfl, hown4, hb4⟩
  have hs4 := hb4.size
  have hn4 : n4 = 8 := by rw [← hown4.len]; exact hlen.out
  subst hn4
  have hB4 : Below w.heap.size w w4 := hb3.trans (hb4.mono (by omega))
  clear hw3 hb3
  go_wp2_with fail
  refine (newReader_any A4 8 c4 L w4 hown4.rd (by omega)).mono ?_
  rintro e w5 ⟨g, rfl, hg, hr5, hb5⟩
  have hs5 := hb5.size
  have hrd5 := hown4.rd.below hb5
  have hB5 : Below w.heap.size w w5 := hB4.trans (hb5.mono (by omega))
  clear hown4 hb4 hB4
  have hcon := run_str (c := c4) hrd5.drew
  have hEB := Lib.hid fun W (h : RrOk W w4.heap.size g L (0, 0)) => reader_float W w4.heap.size g L 0 0 h (by decide)
  have hEE := Lib.hid fun W (h : RrOk W w4.heap.size g L (8, 0)) => reader_end W w4.heap.size g L 8 0 h (by decide)
  rw [hback.out] at hEB
  rw [hend.out] at hEE
  go_wp2_with fail
  go_region_held_law (fun w' => (convert 22 9 (.slice A4 8 c4)).run Try.prog w' = .ok (.string (bstr L)) w') (with_reducible assumption)
    (first
      | (go_at_call 27; refine (refFloat_any x hx _).mono ?_; rintro e w6 ⟨A6, n6, c6, rfl, hown6, hb6⟩; rw [hL.out] at hown6; have hr6 := RrOk.keepB (w := w5.drew) hr5 hb6; have hb6' : Below w5.heap.size w5 w6 := below_of_drew hb6; have hs6 := hb6'.size; have hB6 : Below w.heap.size w w6 := hB5.trans (hb6'.mono (by omega)); have hcon1 := run_str (c := c4) (hrd5.below (hb6'.mono (by omega))); have hcon2 := run_str (c := c6) hown6.rd)
      | (go_at_call 33; refine (hEB.out _ hr6).mono ?_; rintro e w7 ⟨rfl, hr7, hf7⟩; have hs7 := hf7.size; have hrd7 := (hrd5.below (hb6'.mono (by omega))).fr hf7 (by omega) (fun k hk e => by omega); have hcon3 := run_str (c := c4) hrd7; have hB7 : Below w.heap.size w w7 := hB6.trans (hf7.below (B := w.heap.size) hB6.size (fun k hk e => by omega)))
      | (go_at_call 32; refine (one1.out _).mono ?_; rintro e w8 ⟨rfl, rfl⟩)
      | (go_at_call 34; refine (hEE.out _ hr7).mono ?_; rintro e w9 ⟨rfl, hr9, hf9⟩; have hs9 := hf9.size; have hcon4 := run_str (c := c4) (hrd7.fr hf9 (by omega) (fun k hk e => by omega)); have hB9 : Below w.heap.size w w9 := hB7.trans (hf9.below (B := w.heap.size) hB7.size (fun k hk e => by omega))))
  go_wp2_with fail
  clear hEB hEE hcon hcon1 hcon2 hcon3 hcon4 hr5 hr6 hr7 hr9 hrd5 hrd7 hf7 hf9 hB5 hB6 hB7 hb6 hb6' hb5 hown6 hback hend hlen hseq one1 hbx
  go_loopw [8, 9] (fun s i wr => ∃ (k : Nat) (cur : List UInt8) (A : Option Addr) (n c : Nat), k ≤ 8 ∧ i = .int .i64 (k : Int) ∧ s = .slice A n c ∧ n = k ∧ OwnB wr w9.heap.size A n c cur ∧ Below w9.heap.size w9 wr) (fun _ i _ => 8 - (intOf i).toNat)
  case atStart => exact ⟨0, [], none, 0, 0, by omega, rfl, rfl, rfl, OwnB.nil, Below.refl _ _⟩
  case round =>
    obtain ⟨k, cur, A, n, c, hk, rfl, rfl, rfl, hown, hbw⟩ := hrel
    have hsz := hbw.size
    have HL : Hid (cur.length = n) := hown.len
    by_cases hlt : n < 8
    · have hlti : (n : Int) < 8 := by omega
      have hk1 : IntKind.i64.wrap (8 * (n : Int)) = 8 * (n : Int) := IntWalk.i64_in _ (by omega)
      have hk2 : IntKind.u64.wrap (8 * (n : Int)) = 8 * (n : Int) := IntWalk.u64_in _ (by omega)
      go_wp2_with (at_builtin; refine wpList_append_b _ rfl (.tmp 52) (.tmp 59) rfl w9.heap.size A n c cur rfl (hown.alloc _) _ _ 1 1 [_] rfl (rd_byt wr (by omega) (by omega)) (by omega) (by simp; omega) ?_; intro A' n' c' w1 hown1 hg1 hob)
      go_roundw
      case rel =>
        have hl1 : n' = n + 1 := by have := hown1.len; rw [List.length_append, HL.out] at this; simp only [List.length_singleton] at this; omega
        exact ⟨n + 1, _, A', n', c', by omega, by go_num, rfl, hl1, hown1, below_grown hbw hg1 hsz (fun k hk => (hown.lt k hk).1)⟩
      case measure => simp [intOf]; omega
    · obtain rfl : n = 8 := by omega
      obtain ⟨v, p2, b2, hv⟩ : ∃ v p2 b2, Hid (rFloat cur (0, 0) = (v, p2, b2)) := ⟨_, _, _, rfl⟩
      have hb2 : -100 < b2 ∧ b2 < 100 := by
        have h := hv.out
        unfold rFloat at h
        split at h
        · injection h with _ h; injection h with _ h; omega
        · split at h
          · injection h with _ h; injection h with _ h; omega
          · split at h
            · injection h with _ h; injection h with _ h; omega
            · injection h with _ h; injection h with _ h; omega
      have hE1 := Lib.hid fun W base g h => reader_float W base g cur 0 0 h (by decide)
      have hE2 := Lib.hid fun W base g h => refReader_float W base g cur 0 0 h
      have hE3 := Lib.hid fun W base g h => reader_end W base g cur p2 b2 h hb2
      have hE4 := Lib.hid fun W base g h => refReader_end W base g cur p2 b2 h
      have one2 := Lib.hid (fun W => one_at v v W (one_self v))
      rw [hv.out] at hE1 hE2
      go_wp2_with fail
      refine (newReader_any A 8 c cur wr hown.rd (by omega)).mono ?_
      rintro e w10 ⟨g2, rfl, hg2, hr10, hb10⟩
      have hs10 := hb10.size
      have hB10 : Below w.heap.size w w10 := hB9.trans ((hbw.trans (hb10.mono hsz)).mono hB9.size)
      have hlt10 := hr10.lt
      have hrf : RfOk (w10.alloc (.cells #[.slice A 8 c, .int .i64 0, .int .i64 0] 58)) wr.heap.size w10.heap.size cur (0, 0) :=
        ⟨hs10, Nat.zero_le _, by rw [HL.out]; omega, A, 8, c, Blk.new _ _ _, (hown.rd.below hb10).alloc hs10 _, hown.cap⟩
      have hr11 := hr10.keepB ((Below.refl w10.heap.size w10).alloc (Nat.le_refl _) (.cells #[.slice A 8 c, .int .i64 0, .int .i64 0] 58))
      have hB11 : Below w.heap.size w (w10.alloc (.cells #[.slice A 8 c, .int .i64 0, .int .i64 0] 58)) := hB10.alloc hB10.size _
      clear hown hr10 hb10 hbw hv
      go_wp2_with fail
      refine (hE1.out _ _ g2 hr11).mono ?_
      rintro e w12 ⟨rfl, hr12, hf12⟩
      have hs12 := hf12.size
      simp only [World.size_alloc] at hs12
      have hrf12 := hrf.fr hf12 (by omega) (fun k hk e => by omega)
      have hB12 : Below w.heap.size w w12 := hB11.trans (hf12.below (B := w.heap.size) hB11.size (fun k hk e => by have := hB9.size; omega))
      go_wp2_with fail
      refine (hE2.out _ _ _ hrf12).mono ?_
      rintro e w13 ⟨rfl, hrf13, hf13⟩
      have hs13 := hf13.size
      have hr13 := hr12.past hrf12 (by omega) hf13
      have hB13 : Below w.heap.size w w13 := hB12.trans (hf13.below (B := w.heap.size) hB12.size (fun k hk e => by have := hB10.size; omega))
      go_wp2_with fail
      refine (one2.out _).mono ?_
      rintro e w14 ⟨rfl, rfl⟩
      go_wp2_with fail
      refine (hE3.out _ _ g2 hr13).mono ?_
      rintro e w15 ⟨rfl, hr15, hf15⟩
      have hs15 := hf15.size
      have hrf15 := hrf13.fr hf15 (by omega) (fun k hk e => by omega)
      have hB15 : Below w.heap.size w w15 := hB13.trans (hf15.below (B := w.heap.size) hB13.size (fun k hk e => by have := hB9.size; omega))
      go_wp2_with fail
      refine (hE4.out _ _ _ hrf15).mono ?_
      rintro e w16 ⟨rfl, hrf16, hf16⟩
      have hB16 : Below w.heap.size w w16 := hB15.trans (hf16.below (B := w.heap.size) hB15.size (fun k hk e => by have := hB10.size; omega))
      go_wp2_with fail
      go_ret
      exact ⟨by simp, hB16⟩

theorem floats_all (x : Nat) (b : Int) (hx : x < 18446744073709551616) (hb : 0 ≤ b ∧ b < 18446744073709551616) (w : World) :
    Calls Try.prog 7 #[.float .f64 x, .int .u64 b] w fun e w' => e = .returned (.bool true) ∧ Below w.heap.size w w' := by
  obtain ⟨k, rfl⟩ := Int.eq_ofNat_of_zero_le hb.1
  exact floats_any x k hx (by omega) w

end Go.Proofs.Ytbeaacchhaipjaa
