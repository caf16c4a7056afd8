/-
  The walk of the law's 'reads': both readers in step.
-/
import Derived.Test.YtbeaacchhaipjaaFloats
import Derived.Test.YtbeaacchhaipjaaRefText
import Derived.Test.YtbeaacchhaipjaaAsk
namespace Go.Proofs.Ytbeaacchhaipjaa
open Go.RowKit

theorem pick5 (x : Int) : ∃ q : Int, Hid (x % 5 = q) ∧ (q = 0 ∨ q = 1 ∨ q = 2 ∨ q = 3 ∨ q = 4) := ⟨x % 5, rfl, by omega⟩

theorem bdd {α β : Type} (a : α) (b : β) {c : Int} (h : -100 < c ∧ c < 100) : -100 < (a, b, c).2.2 ∧ (a, b, c).2.2 < 100 := h
theorem rByte_bad {l : List UInt8} {s : Nat × Int} {m : Int} (hbad : -100 < s.2 ∧ s.2 < 100) : -100 < (rByte l s m).2.2 ∧ (rByte l s m).2.2 < 100 := by
  unfold rByte
  repeat' split
  all_goals first | exact hbad | exact bdd _ _ (by decide)
theorem rFloat_bad {l : List UInt8} {s : Nat × Int} (hbad : -100 < s.2 ∧ s.2 < 100) : -100 < (rFloat l s).2.2 ∧ (rFloat l s).2.2 < 100 := by
  unfold rFloat
  repeat' split
  all_goals first | exact hbad | exact bdd _ _ (by decide)
theorem rText_bad {l : List UInt8} {s : Nat × Int} {m : Int} (hbad : -100 < s.2 ∧ s.2 < 100) : -100 < (rText l s m).2.2 ∧ (rText l s m).2.2 < 100 := by
  have h := rNum_bad (l := l) (m := m.toNat) hbad
  unfold rText
  repeat' split
  all_goals first | exact h.1 | exact bdd _ _ (by decide)

/-- both readers behind a call of each -/
theorem both_step {W0 wr w2 w3 : World} {B g2 g3 : Nat} {l : List UInt8} {p p2 : Nat} {bad b2 : Int} {v v' : Value} {e e' : Ending} (hfw : Fr W0 wr (fun j => j = g2 ∨ j = g3)) (hne : g2 ≠ g3) (hB2 : B ≤ g2)
    (hF : RfOk wr B g3 l (p, bad)) (h2 : Red B g2 l wr v (p2, b2) e w2) (h3 : RfOk w2 B g3 l (p, bad) → Rfd B g3 l w2 v' (p2, b2) e' w3) :
    RrOk w3 B g2 l (p2, b2) ∧ RfOk w3 B g3 l (p2, b2) ∧ Fr W0 w3 (fun j => j = g2 ∨ j = g3) := by
  obtain ⟨_, hr2, hf2⟩ := h2
  have hF2 := hF.fr hf2 (fun h => hne h.symm) (fun k hk e => by omega)
  obtain ⟨_, hr3, hf3⟩ := h3 hF2
  exact ⟨hr2.past hF2 hne hf3, hr3, (hfw.trans hf2 (fun k _ h => .inl h)).trans hf3 (fun k _ h => .inr h)⟩

set_option maxRecDepth 100000 in
set_option maxHeartbeats 4000000 in
theorem reads_any (A : Option Addr) (n c : Nat) (l : List UInt8) (A2 : Option Addr) (n2 c2 : Nat) (ls : List AskV) (w : World) (hr : RdB w w.heap.size A n l) (hc : n ≤ c) (ha : RdA w w.heap.size A2 n2 ls) (hok : ∀ y ∈ ls, AskOk y)
    (hn : n ≤ 140737488355320) (hn2 : n2 ≤ 140737488355328) :
    Calls Try.prog 40 #[.slice A n c, .slice A2 n2 c2] w fun e w' => e = .returned (.bool true) ∧ Below w.heap.size w w' := by
  have HL : Hid (l.length = n) := hr.len
  have HL2 : Hid (ls.length = n2) := ha.len
  go_enter Try.func40, Try.ntmps40
  go_wp2_with (at_builtin; refine wpList_append_b _ rfl (.tmp 10) (.tmp 11) rfl w.heap.size _ 0 0 [] rfl (OwnB.made (Nat.le_refl _)) _ A n c l rfl (hr.alloc (Nat.le_refl _) _) (by omega) (by simp) ?_; intro A1 n1 c1 w1 hown1 hg1 hob1; have hb1 := below_grown (Below.refl w.heap.size w) hg1 (Nat.le_refl _) (by simp); have hs1 := hb1.size; have hs2 := hg1.size)
  rw [List.nil_append] at hown1
  have hn1 : n1 = n := by rw [← hown1.len]; exact HL.out
  subst hn1
  refine (newReader_any A1 n1 c1 l w1 hown1.rd (by omega)).mono ?_
  rintro e w10 ⟨g2, rfl, hg2, hr10, hb10⟩
  have hs10 := hb10.size
  have hB10 : Below w.heap.size w w10 := hb1.trans (hb10.mono hs1)
  have hlt10 := hr10.lt
  have hrf : RfOk (w10.alloc (.cells #[.slice A n1 c, .int .i64 0, .int .i64 0] 58)) w1.heap.size w10.heap.size l (0, 0) :=
    ⟨hs10, Nat.zero_le _, by rw [HL.out]; omega, A, n1, c, Blk.new _ _ _, ((hr.below hB10).more hs1).alloc hs10 _, hc⟩
  have hr11 := hr10.keepB ((Below.refl w10.heap.size w10).alloc (Nat.le_refl _) (.cells #[.slice A n1 c, .int .i64 0, .int .i64 0] 58))
  have hB11 : Below w.heap.size w (w10.alloc (.cells #[.slice A n1 c, .int .i64 0, .int .i64 0] 58)) := hB10.alloc hB10.size _
  have hrd11 : RdB (w10.alloc (.cells #[.slice A n1 c, .int .i64 0, .int .i64 0] 58)) w1.heap.size A1 n1 l := (hown1.rd.below hb10).alloc hs10 _
  go_wp2_with fail
  obtain ⟨W0, hW0⟩ : ∃ W0, Hid (w10.alloc (.cells #[.slice A n1 c, .int .i64 0, .int .i64 0] 58) = W0) := ⟨_, rfl⟩
  have hz0 : w10.heap.size + 1 = W0.heap.size := by rw [← hW0.out]; simp
  rw [hW0.out] at hrf hr11 hB11 hrd11 ⊢
  clear hW0 hr10 hb10 hB10 hob1 hg1 hown1 hb1
  go_loopw [8] (fun i wr => ∃ (k p : Nat) (bad : Int), k ≤ n2 ∧ i = .int .i64 (k : Int) ∧ -100 < bad ∧ bad < 100 ∧ RrOk wr w1.heap.size g2 l (p, bad) ∧ RfOk wr w1.heap.size w10.heap.size l (p, bad) ∧ Fr W0 wr (fun j => j = g2 ∨ j = w10.heap.size)) (fun i _ => n2 - (intOf i).toNat)
  case atStart => exact ⟨0, 0, 0, by omega, rfl, by omega, by omega, hr11, hrf, Fr.refl _ _⟩
  case round =>
    obtain ⟨k, p, bad, hk, rfl, hbd0, hbd1, hR, hF, hfw⟩ := hrel
    have hsz := hfw.size
    have hBw : Below w.heap.size w wr := hB11.trans (hfw.below (B := w.heap.size) hB11.size (fun j hj e => by rcases e with e | e <;> omega))
    by_cases hlt : k < n2
    · obtain ⟨b, off, y, rfl, hbB, hy, d0, d1, d2, d3⟩ := (ha.below hBw).at_ hlt
      have hoy := hok y (List.mem_of_getElem? hy)
      have hlti : (k : Int) < (n2 : Int) := by omega
      obtain ⟨q, hp, hpc⟩ := pick5 y.what
      rcases hpc with rfl | rfl | rfl | rfl | rfl
      · obtain ⟨v, p2, b2, hv⟩ : ∃ v p2 b2, Hid (rByte l (p, bad) (y.b.toNat : Int) = (v, p2, b2)) := ⟨_, _, _, rfl⟩
        have hbn := rByte_bad (l := l) (s := (p, bad)) (m := (y.b.toNat : Int)) ⟨hbd0, hbd1⟩
        rw [hv.out] at hbn
        have hb256 : (y.b.toNat : Int) < 256 := by have := y.b.toNat_lt; omega
        have H1 := Lib.hid (reader_byte (y.b.toNat : Int) (by omega) hb256 wr.drew w1.heap.size g2 l p bad hR ⟨hbd0, hbd1⟩)
        have H2 := Lib.hid fun W h => refReader_byte (y.b.toNat : Int) (by omega) hb256 W w1.heap.size w10.heap.size l p bad h
        rw [hv.out] at H1 H2
        have hvv : (v == v) = true := beq_self_eq_true v
        have k0 : wr.drew.cell? ⟨b, off + k * 4 + 1, none⟩ = some (.int .u8 (y.b.toNat : Int)) := d1
        have hfd : Fr W0 wr.drew (fun j => j = g2 ∨ j = w10.heap.size) := hfw.drewN 1
        go_wp2_with fail
        refine (pick_at y.what 5 0 _ (by omega) (by omega) hp).mono ?_
        rintro e w' ⟨rfl, rfl⟩
        go_wp2_with fail
        go_region_held_law (fun w' => w'.cell? ⟨b, off + k * 4 + 1, none⟩ = some (.int .u8 (y.b.toNat : Int))) (with_reducible assumption)
          (first
            | (go_at_call 37; refine H1.out.mono ?_; rintro e w2 ⟨rfl, hr2, hf2⟩; have hF2 := RfOk.fr (w := wr.drew) hF hf2 (by omega) (fun k hk e => by omega); have k1 : w2.cell? ⟨b, off + k * 4 + 1, none⟩ = some (.int .u8 (y.b.toNat : Int)) := ((hf2.below (B := w.heap.size) hBw.size (fun j hj e => by omega)).cell (p := ⟨b, _, none⟩) hbB).trans k0)
            | (go_at_call 51; refine (H2.out _ hF2).mono ?_; rintro e w3 ⟨rfl, hr3, hf3⟩; have k2 : w3.cell? ⟨b, off + k * 4 + 1, none⟩ = some (.int .u8 (y.b.toNat : Int)) := ((hf3.below (B := w.heap.size) (by have := hf2.size; have := hBw.size; simp at *; omega) (fun j hj e => by omega)).cell (p := ⟨b, _, none⟩) hbB).trans k1))
        go_wp2_with fail
        go_roundw
        case rel => exact ⟨k + 1, p2, b2, by omega, by go_num, hbn.1, hbn.2, RrOk.past hr2 hF2 (by omega) hf3, hr3, (hfd.trans hf2 (fun k _ h => .inl h)).trans hf3 (fun k _ h => .inr h)⟩
        case measure => simp [intOf]; omega
      · obtain ⟨v, p2, b2, hv⟩ : ∃ v p2 b2, Hid (rNum l (p, bad) y.n = (v, p2, b2)) := ⟨_, _, _, rfl⟩
        have hbn := rNum_bad (l := l) (s := (p, bad)) (m := y.n) ⟨hbd0, hbd1⟩
        rw [hv.out] at hbn
        have hyn := hoy.1
        have H1 := Lib.hid (reader_num y.n hyn wr.drew w1.heap.size g2 l p bad hR ⟨hbd0, hbd1⟩)
        have H2 := Lib.hid fun W h => refReader_num y.n hyn W w1.heap.size w10.heap.size l p bad h
        rw [hv.out] at H1 H2
        have hvv : ((v : Int) == (v : Int)) = true := beq_self_eq_true _
        have k0 : wr.drew.cell? ⟨b, off + k * 4 + 2, none⟩ = some (.int .u64 (y.n : Int)) := d2
        have hfd : Fr W0 wr.drew (fun j => j = g2 ∨ j = w10.heap.size) := hfw.drewN 1
        go_wp2_with fail
        refine (pick_at y.what 5 1 _ (by omega) (by omega) hp).mono ?_
        rintro e w' ⟨rfl, rfl⟩
        go_wp2_with fail
        go_region_held_law (fun w' => w'.cell? ⟨b, off + k * 4 + 2, none⟩ = some (.int .u64 (y.n : Int))) (with_reducible assumption)
          (first
            | (go_at_call 38; refine H1.out.mono ?_; rintro e w2 ⟨rfl, hr2, hf2⟩; have hF2 := RfOk.fr (w := wr.drew) hF hf2 (by omega) (fun k hk e => by omega); have k1 : w2.cell? ⟨b, off + k * 4 + 2, none⟩ = some (.int .u64 (y.n : Int)) := ((hf2.below (B := w.heap.size) hBw.size (fun j hj e => by omega)).cell (p := ⟨b, _, none⟩) hbB).trans k0)
            | (go_at_call 52; refine (H2.out _ hF2).mono ?_; rintro e w3 ⟨rfl, hr3, hf3⟩; have k2 : w3.cell? ⟨b, off + k * 4 + 2, none⟩ = some (.int .u64 (y.n : Int)) := ((hf3.below (B := w.heap.size) (by have := hf2.size; have := hBw.size; simp at *; omega) (fun j hj e => by omega)).cell (p := ⟨b, _, none⟩) hbB).trans k1))
        go_wp2_with fail
        go_roundw
        case rel => exact ⟨k + 1, p2, b2, by omega, by go_num, hbn.1.1, hbn.1.2, RrOk.past hr2 hF2 (by omega) hf3, hr3, (hfd.trans hf2 (fun k _ h => .inl h)).trans hf3 (fun k _ h => .inr h)⟩
        case measure => simp [intOf]; omega
      · obtain ⟨v, p2, b2, hv⟩ : ∃ v p2 b2, Hid (rText l (p, bad) y.t = (v, p2, b2)) := ⟨_, _, _, rfl⟩
        have hbn := rText_bad (l := l) (s := (p, bad)) (m := y.t) ⟨hbd0, hbd1⟩
        rw [hv.out] at hbn
        have hyt := hoy.2
        have H1 := Lib.hid (reader_text y.t hyt.1 hyt.2 wr.drew w1.heap.size g2 l p bad hR ⟨hbd0, hbd1⟩)
        have H2 := Lib.hid fun W h => refReader_text y.t hyt.1 hyt.2 W w1.heap.size w10.heap.size l p bad h ⟨hbd0, hbd1⟩
        rw [hv.out] at H1 H2
        have hvv : ((bstr v).toList == (bstr v).toList) = true := seq_true rfl
        have k0 : wr.drew.cell? ⟨b, off + k * 4 + 3, none⟩ = some (.int .i64 y.t) := d3
        have hfd : Fr W0 wr.drew (fun j => j = g2 ∨ j = w10.heap.size) := hfw.drewN 1
        go_wp2_with fail
        refine (pick_at y.what 5 2 _ (by omega) (by omega) hp).mono ?_
        rintro e w' ⟨rfl, rfl⟩
        go_wp2_with fail
        go_region_held_law (fun w' => w'.cell? ⟨b, off + k * 4 + 3, none⟩ = some (.int .i64 y.t)) (with_reducible assumption)
          (first
            | (go_at_call 39; refine H1.out.mono ?_; rintro e w2 ⟨rfl, hr2, hf2⟩; have hF2 := RfOk.fr (w := wr.drew) hF hf2 (by omega) (fun k hk e => by omega); have k1 : w2.cell? ⟨b, off + k * 4 + 3, none⟩ = some (.int .i64 y.t) := ((hf2.below (B := w.heap.size) hBw.size (fun j hj e => by omega)).cell (p := ⟨b, _, none⟩) hbB).trans k0)
            | (go_at_call 53; refine (H2.out _ hF2).mono ?_; rintro e w3 ⟨rfl, hr3, hf3⟩; have k2 : w3.cell? ⟨b, off + k * 4 + 3, none⟩ = some (.int .i64 y.t) := ((hf3.below (B := w.heap.size) (by have := hf2.size; have := hBw.size; simp at *; omega) (fun j hj e => by omega)).cell (p := ⟨b, _, none⟩) hbB).trans k1))
        go_wp2_with fail
        go_roundw
        case rel => exact ⟨k + 1, p2, b2, by omega, by go_num, hbn.1, hbn.2, RrOk.past hr2 hF2 (by omega) hf3, hr3, (hfd.trans hf2 (fun k _ h => .inl h)).trans hf3 (fun k _ h => .inr h)⟩
        case measure => simp [intOf]; omega
      · obtain ⟨v, p2, b2, hv⟩ : ∃ v p2 b2, Hid (rFloat l (p, bad) = (v, p2, b2)) := ⟨_, _, _, rfl⟩
        have hbn := rFloat_bad (l := l) (s := (p, bad)) ⟨hbd0, hbd1⟩
        rw [hv.out] at hbn
        have H1 := Lib.hid (reader_float wr w1.heap.size g2 l p bad hR ⟨hbd0, hbd1⟩)
        have H2 := Lib.hid fun W h => refReader_float W w1.heap.size w10.heap.size l p bad h
        have one2 := Lib.hid (fun W => one_at v v W (one_self v))
        rw [hv.out] at H1 H2
        go_wp2_with fail
        refine (pick_at y.what 5 3 _ (by omega) (by omega) hp).mono ?_
        rintro e w' ⟨rfl, rfl⟩
        go_wp2_with fail
        refine H1.out.mono ?_
        rintro e w2 ⟨rfl, hr2, hf2⟩
        have hF2 := RfOk.fr (w := wr) hF hf2 (by omega) (fun k hk e => by omega)
        go_wp2_with fail
        refine (H2.out _ hF2).mono ?_
        rintro e w3 ⟨rfl, hr3, hf3⟩
        go_wp2_with fail
        refine (one2.out _).mono ?_
        rintro e w4 ⟨rfl, rfl⟩
        go_wp2_with fail
        go_roundw
        case rel => exact ⟨k + 1, p2, b2, by omega, by go_num, hbn.1, hbn.2, RrOk.past hr2 hF2 (by omega) hf3, hr3, (hfw.trans hf2 (fun k _ h => .inl h)).trans hf3 (fun k _ h => .inr h)⟩
        case measure => simp [intOf]; omega
      · have H1 := Lib.hid (reader_end wr w1.heap.size g2 l p bad hR ⟨hbd0, hbd1⟩)
        have H2 := Lib.hid fun W h => refReader_end W w1.heap.size w10.heap.size l p bad h
        have hvv : (rEnd l (p, bad) == rEnd l (p, bad)) = true := beq_self_eq_true _
        go_wp2_with fail
        refine (pick_at y.what 5 4 _ (by omega) (by omega) hp).mono ?_
        rintro e w' ⟨rfl, rfl⟩
        go_wp2_with fail
        refine H1.out.mono ?_
        rintro e w2 ⟨rfl, hr2, hf2⟩
        have hF2 := RfOk.fr (w := wr) hF hf2 (by omega) (fun k hk e => by omega)
        go_wp2_with fail
        refine (H2.out _ hF2).mono ?_
        rintro e w3 ⟨rfl, hr3, hf3⟩
        go_wp2_with fail
        go_roundw
        case rel => exact ⟨k + 1, p, bad, by omega, by go_num, hbd0, hbd1, RrOk.past hr2 hF2 (by omega) hf3, hr3, (hfw.trans hf2 (fun k _ h => .inl h)).trans hf3 (fun k _ h => .inr h)⟩
        case measure => simp [intOf]; omega
    · obtain rfl : k = n2 := by omega
      have H1 := Lib.hid (reader_end wr w1.heap.size g2 l p bad hR ⟨hbd0, hbd1⟩)
      have H2 := Lib.hid fun W h => refReader_end W w1.heap.size w10.heap.size l p bad h
      have hvv : (rEnd l (p, bad) == rEnd l (p, bad)) = true := beq_self_eq_true _
      have hseq : ((bstr l).toList == (bstr l).toList) = true := seq_true rfl
      have q0 : RdB wr w1.heap.size A1 n1 l := hrd11.fr hfw (by omega) (fun k hk e => by rcases e with e | e <;> omega)
      have q1 : RdB wr w1.heap.size A n1 l := (hr.below hBw).more hs1
      go_wp2_with fail
      refine H1.out.mono ?_
      rintro e w2 ⟨rfl, hr2, hf2⟩
      have hF2 := RfOk.fr (w := wr) hF hf2 (by omega) (fun k hk e => by omega)
      have hz2 := hf2.size
      have q2 := q0.fr hf2 (by omega) (fun k hk e => by omega)
      have q3 := q1.fr hf2 (by omega) (fun k hk e => by omega)
      go_wp2_with fail
      refine (H2.out _ hF2).mono ?_
      rintro e w3 ⟨rfl, hr3, hf3⟩
      have k4 := run_str (c := c1) (q2.fr hf3 (by omega) (fun k hk e => by omega))
      have k5 := run_str (c := c) (q3.fr hf3 (by omega) (fun k hk e => by omega))
      go_wp2_with fail
      go_ret
      exact ⟨rfl, hB11.trans (((hfw.trans hf2 (fun k _ h => .inl h)).trans hf3 (fun k _ h => .inr h)).below (B := w.heap.size) hB11.size (fun j hj e => by rcases e with e | e <;> omega))⟩

end Go.Proofs.Ytbeaacchhaipjaa
