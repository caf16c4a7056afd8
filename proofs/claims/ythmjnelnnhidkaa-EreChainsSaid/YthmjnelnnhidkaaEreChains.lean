/-
  EreChains: signs and rows in one another.
-/
import Derived.Test.YthmjnelnnhidkaaRefRight
import Derived.Test.YthmjnelnnhidkaaEreKn
import Derived.Test.YthmjnelnnhidkaaPick
import Derived.Test.YthmjnelnnhidkaaAsB
import Derived.Deep.DeepCutAuto
import Derived.Deep.RegionHeldLaw
namespace Go.Proofs.Ythmjnelnnhidkaa
open Go.RowKit

def ch7 (b7 : Nat) : Nat → Prop := fun k => b7 < k
theorem refOne_b (lo : Nat → Prop) (w : World) : Calls Try.prog 38 #[.int .u8 98] w (RetT w lo (tOne 98)) := refOne_any lo 98 (by decide) w
theorem refOne_a (lo : Nat → Prop) (w : World) : Calls Try.prog 38 #[.int .u8 97] w (RetT w lo (tOne 97)) := refOne_any lo 97 (by decide) w
theorem cells6s {w : World} {b : Nat} {t : TypeId} {x0 x1 x2 x3 x4 x5 : Value} (h : Blk w b t #[x0, x1, x2, x3, x4, x5]) :
    w.cell? ⟨b, 0, none⟩ = some x0 ∧ w.cell? ⟨b, 1, none⟩ = some x1 ∧ w.cell? ⟨b, 2, none⟩ = some x2 ∧ w.cell? ⟨b, 3, none⟩ = some x3 ∧ w.cell? ⟨b, 4, none⟩ = some x4 ∧ w.cell? ⟨b, 5, none⟩ = some x5 :=
  ⟨h.cell 0, h.cell 1, h.cell 2, h.cell 3, h.cell 4, h.cell 5⟩
theorem Blk.set6 {w : World} {g : Nat} {t : TypeId} {y0 y1 y2 y3 y4 y5 x0 x1 x2 x3 x4 x5 : Value} (h : Blk w g t #[y0, y1, y2, y3, y4, y5]) : Blk (Proofs.Ythmjnelnnhidkaa.set6 w g x0 x1 x2 x3 x4 x5) g t #[x0, x1, x2, x3, x4, x5] := by
  unfold Proofs.Ythmjnelnnhidkaa.set6
  have h0 := (h.set_ 0 x0).set_ 1 x1
  simp only [List.setIfInBounds_toArray, List.set_cons_zero, List.set_cons_succ] at h0
  have h1 := (h0.set_ 2 x2).set_ 3 x3
  simp only [List.setIfInBounds_toArray, List.set_cons_zero, List.set_cons_succ] at h1
  have h2 := (h1.set_ 4 x4).set_ 5 x5
  simp only [List.setIfInBounds_toArray, List.set_cons_zero, List.set_cons_succ] at h2
  exact h2
/-- a leaf lies nowhere else -/
theorem ReC.leaf_lo {w : World} {lo : Nat → Prop} {k : Int} {s : W4} {x : ReX} (lo' : Nat → Prop) (h : ReC w lo (.node k s []) x) : ReC w lo' (.node k s []) x := by
  unfold ReC at h ⊢
  obtain ⟨h1, h2, h3, h4, xs, h5, h6⟩ := h
  have hn : x.n = 0 := h3.symm
  exact ⟨h1, h2, h3, h4, xs, ⟨h5.1, fun hp => by omega⟩, h6⟩
/-- the tree at hand, in its variable -/
def ChT (w : World) (b7 : Nat) (m : Nat) (wr : World) : Prop :=
  ∃ (t : Tree) (k a b c d : Int) (A : Option Addr) (n cp : Nat), Blk wr b7 49 #[.int .i64 k, .int .u64 a, .int .u64 b, .int .u64 c, .int .u64 d, .slice A n cp] ∧ ReC wr (ch7 b7) t ⟨k, a, b, c, d, A, n, cp⟩ ∧ setsR t ≤ m ∧ Later w wr
/-- a row of two trees -/
def ChB (w : World) (b7 : Nat) (ks : List Tree) (k a b c d : Int) (A : Option Addr) (n cp : Nat) (t : Tree) (s10 : Value) (wx : World) : Prop :=
  ∃ g : Nat, s10 = .slice (some ⟨g, 0, none⟩) 2 2 ∧ ReC wx (ch7 b7) (.node 2 z4 ks) ⟨2, 0, 0, 0, 0, some ⟨g, 0, none⟩, 2, 2⟩ ∧ Blk wx b7 49 #[.int .i64 k, .int .u64 a, .int .u64 b, .int .u64 c, .int .u64 d, .slice A n cp] ∧ ReC wx (ch7 b7) t ⟨k, a, b, c, d, A, n, cp⟩ ∧ Later w wx
theorem sets_one (b : Nat) : setsR (tOne b) = 1 := by unfold tOne; rw [setsR]; rfl
theorem sets_star (k : Int) (t : Tree) : setsR (.node k z4 [t]) = setsR t := by rw [setsR, if_neg (by simp), setsRL, setsRL]; rfl
theorem sets_two (k : Int) (t u : Tree) : setsR (.node k z4 [t, u]) = setsR t + setsR u := by rw [setsR, if_neg (by simp), setsRL, setsRL, setsRL]; omega

/-- the last comparison: package ere says what the document says -/
structure EndC (t : Tree) (k a b c d : Int) (A : Option Addr) (n cp : Nat) (v : Bool) (m : Nat) (W : World) : Prop where
  r1 : ∀ wx, Later W wx → Calls Try.prog 34 #[.agg #[.int .i64 k, .int .u64 a, .int .u64 b, .int .u64 c, .int .u64 d, .slice A n cp]] wx fun e w' => e = .returned (.bool v) ∧ Later wx w'
  r2 : ∀ wx, Later W wx → Calls Try.prog 35 #[.agg #[.int .i64 k, .int .u64 a, .int .u64 b, .int .u64 c, .int .u64 d, .slice A n cp]] wx fun e w' => e = .returned (.bool v) ∧ Later wx w'
  s1 : ∀ wx, Later W wx → Calls Try.prog 36 #[.agg #[.int .i64 k, .int .u64 a, .int .u64 b, .int .u64 c, .int .u64 d, .slice A n cp]] wx fun e w' => e = .returned (.int .i64 (m : Int)) ∧ Later wx w'
  s2 : ∀ wx, Later W wx → Calls Try.prog 37 #[.agg #[.int .i64 k, .int .u64 a, .int .u64 b, .int .u64 c, .int .u64 d, .slice A n cp]] wx fun e w' => e = .returned (.int .i64 (m : Int)) ∧ Later wx w'
theorem endC {t : Tree} {lo : Nat → Prop} {k a b c d : Int} {A : Option Addr} {n cp : Nat} {W : World} (h : ReC W lo t ⟨k, a, b, c, d, A, n, cp⟩) (hs : shapedR t = true → setsR t ≤ 1000000000) : EndC t k a b c d A n cp (rightR t) (if rightR t = true then setsR t else 0) W :=
  ⟨fun wx hl => by rw [← right_same]; exact right_any t lo k a b c d A n cp wx (h.later hl),
   fun wx hl => refRight_any t lo k a b c d A n cp wx hs (h.later hl),
   fun wx hl => by rw [← sets_same]; exact setsT_any t lo k a b c d A n cp wx (h.later hl),
   fun wx hl => refSetsT_any t lo k a b c d A n cp wx hs (h.later hl)⟩
theorem known_l {W : World} (x : LW W) : Calls Try.prog 30 #[] x.val fun e w' => e = .returned (.bool true) ∧ Later x.val w' := ereKnown_any x.val

set_option maxRecDepth 100000 in
set_option maxHeartbeats 16000000 in
theorem ereChains_any (signs row : Int) (cat : Bool) (w : World) : Calls Try.prog 10 #[.int .i64 signs, .int .i64 row, .bool cat] w fun e w' => e = .returned (.bool true) ∧ Later w w' := by
  obtain ⟨p, hp, hp1⟩ := pick_nat signs 45 (by omega)
  obtain ⟨q, hq, hq1⟩ := pick_nat row 450 (by omega)
  go_enter Try.func10, Try.ntmps10
  go_wp2_with fail
  refine (refOne_a (ch7 0) _).mono ?_
  rintro e w0 ⟨k0, a0, b0, c0, d0, A0, n0, cp0, rfl, hC0, hl0⟩
  go_upto_region 2 with fail
  obtain ⟨b7, hb⟩ : ∃ b7, b7 = w0.heap.size := ⟨_, rfl⟩
  obtain ⟨W1, hW1⟩ : ∃ W1, W1 = w0.alloc (.cells #[.int .i64 k0, .int .u64 a0, .int .u64 b0, .int .u64 c0, .int .u64 d0, .slice A0 n0 cp0] 49) := ⟨_, rfl⟩
  have B7 : Blk W1 b7 49 #[.int .i64 k0, .int .u64 a0, .int .u64 b0, .int .u64 c0, .int .u64 d0, .slice A0 n0 cp0] := by rw [hW1, hb]; exact Blk.new w0 _ _
  have hl1 : Later w0 W1 := by rw [hW1]; exact (Later.refl w0).alloc _
  have hlw : Later w W1 := hl0.trans hl1
  have hb7 : w.heap.size ≤ b7 := by rw [hb]; exact hl0.size
  have hst : ChT w b7 1 W1 := ⟨tOne 97, k0, a0, b0, c0, d0, A0, n0, cp0, B7, ReC.leaf_lo _ (hC0.later hl1), by rw [sets_one]; exact Nat.le_refl _, hlw⟩
  rw [← hW1, ← hb]
  clear hW1 hb B7 hlw hl0 hC0 hl1
  go_wp2_with fail
  refine (pick_at signs 45 _ _ (by omega) (by omega) hp).mono ?_
  rintro e w2 ⟨rfl, rfl⟩
  go_wp2_with fail
  go_loopw [8] (fun s8 wr => ∃ i : Nat, s8 = .int .i64 (i : Int) ∧ i ≤ 45 ∧ ChT w b7 1 wr) (fun s8 _ => (intOf s8).toNat)
  case atStart => exact ⟨p, rfl, by omega, hst⟩
  case round =>
    clear hst
    obtain ⟨i, rfl, hi, t, k, a, b, c, d, A, n, cp, B7, hT, hm, hlw⟩ := hrel
    cases i with
    | zero =>
      go_wp2_with fail
      refine (pick_at row 450 _ _ (by omega) (by omega) hq).mono ?_
      rintro e w2 ⟨rfl, rfl⟩
      have hst : ChT w b7 1 wr := ⟨t, k, a, b, c, d, A, n, cp, B7, hT, hm, hlw⟩
      clear B7 hT hm hlw
      go_wp2_with fail
      go_loopw [9, 10] (fun s9 _ wr => ∃ i : Nat, s9 = .int .i64 (i : Int) ∧ i ≤ 450 ∧ ∃ m, m + i ≤ 451 ∧ ChT w b7 m wr) (fun s9 _ _ => (intOf s9).toNat)
      case atStart => exact ⟨q, rfl, by omega, 1, by omega, hst⟩
      case round =>
        clear hst
        obtain ⟨i, rfl, hi, m, hmi, t, k, a, b, c, d, A, n, cp, B7, hT, hm, hlw⟩ := hrel
        cases i with
        | zero =>
          have hE := endC hT (fun _ => by omega)
          obtain ⟨v, hv⟩ : ∃ v, v = rightR t := ⟨_, rfl⟩
          obtain ⟨M, hM⟩ : ∃ M, M = (if rightR t = true then setsR t else 0) := ⟨_, rfl⟩
          rw [← hM, ← hv] at hE
          have HE := Lib.hid hE
          have hvv : (v == v) = true := beq_self_eq_true _
          have hMM : ((M : Int) == (M : Int)) = true := beq_self_eq_true _
          clear hE hv hM
          have q0 : ∀ x : LW wr, x.val.cell? ⟨b7, 0, none⟩ = some (.int .i64 k) := LW.cell_ (B7.cell 0)
          have q1 : ∀ x : LW wr, x.val.cell? ⟨b7, 1, none⟩ = some (.int .u64 a) := LW.cell_ (B7.cell 1)
          have q2 : ∀ x : LW wr, x.val.cell? ⟨b7, 2, none⟩ = some (.int .u64 b) := LW.cell_ (B7.cell 2)
          have q3 : ∀ x : LW wr, x.val.cell? ⟨b7, 3, none⟩ = some (.int .u64 c) := LW.cell_ (B7.cell 3)
          have q4 : ∀ x : LW wr, x.val.cell? ⟨b7, 4, none⟩ = some (.int .u64 d) := LW.cell_ (B7.cell 4)
          have q5 : ∀ x : LW wr, x.val.cell? ⟨b7, 5, none⟩ = some (.slice A n cp) := LW.cell_ (B7.cell 5)
          go_wp2_with fail
          refine wp_region_laterq (by kernel_rfl) (by kernel_rfl) ?_
          repeat (go_big_quiet_step (((first
            | (go_at_call 30; (with_reducible refine Calls.laterq (known_l _)))
            | (go_at_call 34; (with_reducible refine Calls.laterq (HE.out.r1 _ (LW.later _))))
            | (go_at_call 35; (with_reducible refine Calls.laterq (HE.out.r2 _ (LW.later _))))
            | (go_at_call 36; (with_reducible refine Calls.laterq (HE.out.s1 _ (LW.later _))))
            | (go_at_call 37; (with_reducible refine Calls.laterq (HE.out.s2 _ (LW.later _))))))))
          refine wpQuiet_nil ?_
          intro _ hwq
          obtain ⟨xz, rfl⟩ := hwq
          go_wp2_with fail
          go_ret
          exact ⟨rfl, hlw.trans xz.later⟩
        | succ i =>
          have e1 : ((i + 1 : Nat) : Int) = (i : Int) + 1 := by omega
          have hpos : (0 : Int) < (i : Int) + 1 := by omega
          rw [e1]
          clear e1
          obtain ⟨wc, hwc⟩ : ∃ wc, wc = wr := ⟨_, rfl⟩
          rw [← hwc] at B7 hT hlw ⊢
          clear hwc
          have hup : Up wc (ch7 b7) := fun k hk => by have := B7.lt; show b7 < k; omega
          cases cat with
          | false =>
            go_upto_region 9 with fail
            go_cut [10] (fun s10 wx => ChB w b7 [tOne 98, t] k a b c d A n cp t s10 wx)
            case first =>
              have lt : Later wc wc := Later.refl _
              go_wp2_with fail
              go_region_held_law (fun w' => w'.cell? ⟨b7, 0, none⟩ = some (.int .i64 k) ∧ w'.cell? ⟨b7, 1, none⟩ = some (.int .u64 a) ∧ w'.cell? ⟨b7, 2, none⟩ = some (.int .u64 b) ∧ w'.cell? ⟨b7, 3, none⟩ = some (.int .u64 c) ∧ w'.cell? ⟨b7, 4, none⟩ = some (.int .u64 d) ∧ w'.cell? ⟨b7, 5, none⟩ = some (.slice A n cp)) (exact cells6s (t := 49) (by repeat (first | (with_reducible exact B7) | (with_reducible apply Blk.drew) | (with_reducible apply Blk.alloc))))
                ((((go_at_call 38; (with_reducible refine (refOne_b (ch7 b7) _).mono ?_)); rintro e w1 ⟨k1, a1, b1, c1, d1, A1, n1, cp1, rfl, hC1, hl1⟩);
                  have B7 := blkL hl1 (by repeat (first | (with_reducible exact B7) | (with_reducible apply Blk.drew) | (with_reducible apply Blk.alloc)));
                  have lt : Later wc w1 := Later.trans (by repeat (first | (with_reducible exact lt) | (with_reducible apply Later.drew) | (with_reducible apply Later.alloc))) hl1))
              all_goals
                go_wp2_with fail
                go_meet
                have hup1 := hup.later lt
                exact ⟨_, rfl, ReC.two 2 (hC1.later (by repeat (first | (with_reducible exact Later.refl _) | (with_reducible apply Later.drew) | (with_reducible apply Later.alloc)))) (hT.later (by repeat (first | (with_reducible exact lt) | (with_reducible apply Later.drew) | (with_reducible apply Later.alloc)))) (hup.later (by repeat (first | (with_reducible exact lt) | (with_reducible apply Later.drew) | (with_reducible apply Later.alloc)))), (by repeat (first | (with_reducible exact B7) | (with_reducible apply Blk.drew) | (with_reducible apply Blk.alloc))), hT.later (by repeat (first | (with_reducible exact lt) | (with_reducible apply Later.drew) | (with_reducible apply Later.alloc))), hlw.trans (by repeat (first | (with_reducible exact lt) | (with_reducible apply Later.drew) | (with_reducible apply Later.alloc)))⟩
            case rest =>
              obtain ⟨g10, rfl, hK, B7, hT, hlw⟩ := hcut
              obtain ⟨z0, z1, z2, z3, z4, z5, y0, y1, y2, y3, y4, y5⟩ := cells6 B7
              have hlc : w.heap.size ≤ b7 := hb7
              go_wp2_with fail
              go_roundw
              case rel => exact ⟨i, by go_num, by omega, m + 1, by omega, _, 2, 0, 0, 0, 0, some ⟨g10, 0, none⟩, 2, 2, B7.set6, ReC.fr (Fr.set6 b7 _ _ _ _ _ _) (spares_not _ (fun hh => Nat.lt_irrefl _ hh)) _ hK, by rw [sets_two, sets_one]; omega, hlw.set6 hlc⟩
              case measure => simp [intOf]; try omega
          | true =>
            go_upto_region 9 with fail
            go_cut [10] (fun s10 wx => ChB w b7 [tOne 98, t] k a b c d A n cp t s10 wx)
            case first =>
              have lt : Later wc wc := Later.refl _
              go_wp2_with fail
              go_region_held_law (fun w' => w'.cell? ⟨b7, 0, none⟩ = some (.int .i64 k) ∧ w'.cell? ⟨b7, 1, none⟩ = some (.int .u64 a) ∧ w'.cell? ⟨b7, 2, none⟩ = some (.int .u64 b) ∧ w'.cell? ⟨b7, 3, none⟩ = some (.int .u64 c) ∧ w'.cell? ⟨b7, 4, none⟩ = some (.int .u64 d) ∧ w'.cell? ⟨b7, 5, none⟩ = some (.slice A n cp)) (exact cells6s (t := 49) (by repeat (first | (with_reducible exact B7) | (with_reducible apply Blk.drew) | (with_reducible apply Blk.alloc))))
                ((((go_at_call 38; (with_reducible refine (refOne_b (ch7 b7) _).mono ?_)); rintro e w1 ⟨k1, a1, b1, c1, d1, A1, n1, cp1, rfl, hC1, hl1⟩);
                  have B7 := blkL hl1 (by repeat (first | (with_reducible exact B7) | (with_reducible apply Blk.drew) | (with_reducible apply Blk.alloc)));
                  have lt : Later wc w1 := Later.trans (by repeat (first | (with_reducible exact lt) | (with_reducible apply Later.drew) | (with_reducible apply Later.alloc))) hl1))
              all_goals
                go_wp2_with fail
                go_meet
                have hup1 := hup.later lt
                exact ⟨_, rfl, ReC.two 2 (hC1.later (by repeat (first | (with_reducible exact Later.refl _) | (with_reducible apply Later.drew) | (with_reducible apply Later.alloc)))) (hT.later (by repeat (first | (with_reducible exact lt) | (with_reducible apply Later.drew) | (with_reducible apply Later.alloc)))) (hup.later (by repeat (first | (with_reducible exact lt) | (with_reducible apply Later.drew) | (with_reducible apply Later.alloc)))), (by repeat (first | (with_reducible exact B7) | (with_reducible apply Blk.drew) | (with_reducible apply Blk.alloc))), hT.later (by repeat (first | (with_reducible exact lt) | (with_reducible apply Later.drew) | (with_reducible apply Later.alloc))), hlw.trans (by repeat (first | (with_reducible exact lt) | (with_reducible apply Later.drew) | (with_reducible apply Later.alloc)))⟩
            case rest =>
              obtain ⟨g10, rfl, hK, B7, hT, hlw⟩ := hcut
              clear hK
              have hup : Up wc (ch7 b7) := fun k hk => by have := B7.lt; show b7 < k; omega
              go_upto_region 11 with fail
              go_cut [10] (fun s10 wx => ChB w b7 [t, tOne 98] k a b c d A n cp t s10 wx)
              case first =>
                have lt : Later wc wc := Later.refl _
                go_wp2_with fail
                go_region_held_law (fun w' => w'.cell? ⟨b7, 0, none⟩ = some (.int .i64 k) ∧ w'.cell? ⟨b7, 1, none⟩ = some (.int .u64 a) ∧ w'.cell? ⟨b7, 2, none⟩ = some (.int .u64 b) ∧ w'.cell? ⟨b7, 3, none⟩ = some (.int .u64 c) ∧ w'.cell? ⟨b7, 4, none⟩ = some (.int .u64 d) ∧ w'.cell? ⟨b7, 5, none⟩ = some (.slice A n cp)) (exact cells6s (t := 49) (by repeat (first | (with_reducible exact B7) | (with_reducible apply Blk.drew) | (with_reducible apply Blk.alloc))))
                  ((((go_at_call 38; (with_reducible refine (refOne_b (ch7 b7) _).mono ?_)); rintro e w1 ⟨k1, a1, b1, c1, d1, A1, n1, cp1, rfl, hC1, hl1⟩);
                    have B7 := blkL hl1 (by repeat (first | (with_reducible exact B7) | (with_reducible apply Blk.drew) | (with_reducible apply Blk.alloc)));
                    have lt : Later wc w1 := Later.trans (by repeat (first | (with_reducible exact lt) | (with_reducible apply Later.drew) | (with_reducible apply Later.alloc))) hl1))
                all_goals
                  go_wp2_with fail
                  go_meet
                  have hup1 := hup.later lt
                  exact ⟨_, rfl, ReC.two 2 (hT.later (by repeat (first | (with_reducible exact lt) | (with_reducible apply Later.drew) | (with_reducible apply Later.alloc)))) (hC1.later (by repeat (first | (with_reducible exact Later.refl _) | (with_reducible apply Later.drew) | (with_reducible apply Later.alloc)))) (hup.later (by repeat (first | (with_reducible exact lt) | (with_reducible apply Later.drew) | (with_reducible apply Later.alloc)))), (by repeat (first | (with_reducible exact B7) | (with_reducible apply Blk.drew) | (with_reducible apply Blk.alloc))), hT.later (by repeat (first | (with_reducible exact lt) | (with_reducible apply Later.drew) | (with_reducible apply Later.alloc))), hlw.trans (by repeat (first | (with_reducible exact lt) | (with_reducible apply Later.drew) | (with_reducible apply Later.alloc)))⟩
              case rest =>
                obtain ⟨g10, rfl, hK, B7, hT, hlw⟩ := hcut
                by_cases h50 : 50 < i + 1
                · have h50i : (50 : Int) < (i : Int) + 1 := by omega
                  clear hK
                  go_wp2_with fail
                  go_roundw
                  case rel => exact ⟨i, by go_num, by omega, m, by omega, t, k, a, b, c, d, A, n, cp, B7, hT, hm, hlw⟩
                  case measure => simp [intOf]; try omega
                · have h50i : ¬ (50 : Int) < (i : Int) + 1 := by omega
                  obtain ⟨z0, z1, z2, z3, z4, z5, y0, y1, y2, y3, y4, y5⟩ := cells6 B7
                  have hlc : w.heap.size ≤ b7 := hb7
                  go_wp2_with fail
                  go_roundw
                  case rel => exact ⟨i, by go_num, by omega, m + 1, by omega, _, 2, 0, 0, 0, 0, some ⟨g10, 0, none⟩, 2, 2, B7.set6, ReC.fr (Fr.set6 b7 _ _ _ _ _ _) (spares_not _ (fun hh => Nat.lt_irrefl _ hh)) _ hK, by rw [sets_two, sets_one]; omega, hlw.set6 hlc⟩
                  case measure => simp [intOf]; try omega
    | succ i =>
      have e1 : ((i + 1 : Nat) : Int) = (i : Int) + 1 := by omega
      have hpos : (0 : Int) < (i : Int) + 1 := by omega
      rw [e1]
      clear e1
      have hup : Up wr (ch7 b7) := fun k hk => by have := B7.lt; show b7 < k; omega
      obtain ⟨W4, hW4⟩ : ∃ W4, W4 = wr.alloc (.cells #[.int .i64 k, .int .u64 a, .int .u64 b, .int .u64 c, .int .u64 d, .slice A n cp] 49) := ⟨_, rfl⟩
      have hK : ReC W4 (ch7 b7) (.node 4 z4 [t]) ⟨4, 0, 0, 0, 0, some ⟨wr.heap.size, 0, none⟩, 1, 1⟩ := by rw [hW4]; exact ReC.one (x1 := ⟨k, a, b, c, d, A, n, cp⟩) 4 hT hup
      have D7 : Blk W4 b7 49 #[.int .i64 k, .int .u64 a, .int .u64 b, .int .u64 c, .int .u64 d, .slice A n cp] := by rw [hW4]; exact B7.alloc _
      have hl4 : Later w W4 := by rw [hW4]; exact hlw.alloc _
      obtain ⟨u0, u1, u2, u3, u4, u5, v0, v1, v2, v3, v4, v5⟩ := cells6 B7
      obtain ⟨z0, z1, z2, z3, z4, z5, y0, y1, y2, y3, y4, y5⟩ := cells6 D7
      rw [hW4] at z0 z1 z2 z3 z4 z5 y0 y1 y2 y3 y4 y5
      clear hlw hT B7
      go_wp2_with fail
      rw [← hW4]
      have hlc : w.heap.size ≤ b7 := hb7
      go_roundw
      case rel => exact ⟨i, by go_num, by omega, _, 4, 0, 0, 0, 0, some ⟨wr.heap.size, 0, none⟩, 1, 1, D7.set6, ReC.fr (Fr.set6 b7 _ _ _ _ _ _) (spares_not _ (fun hh => Nat.lt_irrefl _ hh)) _ hK, by rw [sets_star]; exact hm, hl4.set6 hlc⟩
      case measure => simp [intOf]

end Go.Proofs.Ythmjnelnnhidkaa
