/-
  The walk of SplitPlays.
-/
import Derived.Test.YtkpckmdakiminaaDoorSpPair
import Derived.Deep.QuietTactic
import Derived.BigQuiet
import Derived.Deep.RegionHeldLaw
import Derived.Deep.RegionLaw
import Derived.Deep.CutBlock
import Derived.Deep.DeepCutAuto
namespace Go.Proofs.YtkpckmdakiminaaDoor
open Go.RowKit

def stepArr (y : StepV) : Array Value := #[.int .i64 y.what, .slice y.A y.n y.c, .string (bstr y.rs), .bool y.near]
/-- the step's copy in the call's own memory -/
def XOk (w : World) (gx : Nat) (y : StepV) : Prop := Blk w gx 42 (stepArr y) ∧ RdB w w.heap.size y.A y.n y.l ∧ y.n ≤ y.c ∧ y.n ≤ 1048576 ∧ -9223372036854775808 ≤ y.what ∧ y.what ≤ 9223372036854775807
def XIn (gx : Nat) (y : StepV) (k : Nat) : Prop := k = gx ∨ (0 < y.n ∧ ob y.A = some k)
theorem XOk.kept {w w' : World} {gx : Nat} {y : StepV} (h : XOk w gx y) (hk : KeptP (XIn gx y) w w') (hz : w.heap.size ≤ w'.heap.size) : XOk w' gx y :=
  ⟨(hk gx (.inl rfl)).trans h.1, (h.2.1.kept1 (fun k h0 e => hk k (.inr ⟨h0, e⟩))).more hz, h.2.2⟩

set_option maxRecDepth 100000 in
set_option maxHeartbeats 4000000 in
theorem spPlays_any (most : Int) (A : Option Addr) (n c : Nat) (ys : List StepV) (w : World) (hr : RdT w w.heap.size A n ys) (hc : n ≤ c) (hn : n ≤ 1048576) (hS : SepsAt w) :
    Calls Tryd.prog 4 #[.int .i64 most, .slice A n c] w fun e w' => e = .returned (.bool true) ∧ Below w.heap.size w w' := by
  obtain ⟨k, hkk, hk12⟩ := pick_nat most 12 (by decide)
  have hk12 : k < 12 := by omega
  obtain ⟨m, hmk⟩ : ∃ m : Nat, m = 1 + k := ⟨_, rfl⟩
  have hm1 : 1 ≤ m := by omega
  have hm2 : m ≤ 200 := by omega
  have hmi : (1 : Int) + (k : Int) = (m : Int) := by omega
  have HM := Lib.hid hmi
  have HMK := Lib.hid hmk
  clear hmi hmk
  go_enter Tryd.func4, Tryd.ntmps4
  go_upto_region 1 with fail
  go_cut [0] (fun s0 wx => s0 = .int .i64 (m : Int) ∧ wx = w)
  case first =>
    go_wp2_with fail
    refine (pick_at most 12 k w (by decide) (by decide) hkk).mono ?_
    rintro e w' ⟨rfl, rfl⟩
    go_wp2_with fail
    go_meet
    exact ⟨by rw [← HM.out], rfl⟩
  case rest =>
    obtain ⟨rfl, hwc⟩ := hcut
    subst hwc
    obtain ⟨wb, rfl⟩ : ∃ wb : World, wb = wc := ⟨_, rfl⟩
    go_wp2_with fail
    refine (new_any m hm1 hm2 wb).mono ?_
    rintro e w1 ⟨g, rfl, hs1, hb1⟩
    go_wp2_with fail
    refine (spk_any _).mono ?_
    rintro e w2 ⟨rfl, hb2⟩
    have hs2 := hs1.below hb2 (Nat.le_refl _)
    have hb02 : Below wb.heap.size wb w2 := hb1.trans (hb2.mono hb1.size)
    have H0 : Pr (fun _ => False) wb.heap.size wb (w2.alloc (.cells #[.int .i64 (m : Int), .slice none 0 0, .bool false, .bool false, .slice none 0 0] 40)) g (Sp.init m) w2.heap.size (Sp.init m) := by
      have hlt := hs2.lt
      refine ⟨by simp; have := hb02.size; omega, hb02.alloc hb02.size _, none, none, none, none, hs2.below ((Below.refl _ _).alloc (Nat.le_refl _) _) (Nat.le_refl _), ⟨hb02.size, (fun k hk => by cases hk), Nat.zero_le _, hm2, none, 0, 0, none, 0, 0, rfl, rfl, Blk.new _ _ _, OwnB.nil, OwnM.nil⟩, ?_, fun k hk => hk.elim⟩
      rintro k (rfl | h | h)
      · rintro (rfl | h | h)
        · have := (hlt _ (.inl rfl)).2; omega
        · cases h
        · cases h
      · cases h
      · cases h
    clear hs1 hs2 hb1 hb2
    go_wp2_with fail
    obtain ⟨gr, hgr⟩ : ∃ gr, Hid (w2.heap.size = gr) := ⟨_, rfl⟩
    rw [hgr.out] at H0 ⊢
    go_loopw [8] (fun v wr => ∃ (j : Nat) (s : Sp), v = .int .i64 (j : Int) ∧ j ≤ n ∧ j ≤ 150 ∧ Pr (fun _ => False) wb.heap.size wb wr g s gr s ∧ s.rest.length ≤ j * 1048576 ∧ s.most = m) (fun v _ => n - (intOf v).toNat)
    case atStart => exact ⟨0, Sp.init m, rfl, by omega, by omega, H0, by simp [Sp.init], rfl⟩
    case round =>
      clear H0
      obtain ⟨j, s, rfl, hj, hj2, HP, hrl, hmo⟩ := hrel
      have hmo := Lib.hid hmo
      by_cases hgo : j < n ∧ j < 150
      · obtain ⟨hlt, hlt2⟩ := hgo
        have hlti : (j : Int) < (n : Int) := by omega
        have hlt2i : (j : Int) < 150 := by omega
        obtain ⟨b, off, y, rfl, hbB, hy, y0, y1, y2, y3, hyr, hyc, hyn, hyw1, hyw2⟩ := (hr.below HP.2.1).at_ hlt
        have hy := Lib.hid hy
        have hsz := HP.1
        have hyr2 := hyr
        go_upto_if 59 with (fail)
        go_cut [] from 44 to 176 (fun wx => ∃ y' : StepV, y'.what = y.what ∧ y'.rs = y.rs ∧ y'.near = y.near ∧ XOk wx wr.heap.size y' ∧ Pr (XIn wr.heap.size y') wb.heap.size wb wx g s gr s)
        case first =>
          have hin : ∀ k, 0 < y.n → ob y.A = some k → k < wb.heap.size := fun k h0 e => by
            obtain ⟨ad, e2, h2, _⟩ := hyr2.2 h0
            rw [e2] at e
            injection e with e
            have e : ad.block = k := e
            omega
          cases hne : y.near with
          | false =>
            rw [hne] at y3
            have hne := Lib.hid hne
            go_wp2_with fail
            go_meet
            have hla : Later wr (wr.alloc (.cells #[.int .i64 y.what, .slice y.A y.n y.c, .string (bstr y.rs), .bool false] 42)) := (Later.refl _).alloc _
            refine ⟨y, rfl, rfl, rfl, ⟨by unfold stepArr; rw [hne.out]; exact Blk.new _ _ _, (hyr2.alloc hsz _).more (by simp; omega), hyc, hyn, hyw1, hyw2⟩, HP.more hla ?_⟩
            rintro k (rfl | ⟨h0, e⟩)
            · exact ⟨by simp, .inr (.inr (Nat.le_refl _))⟩
            · have := hin k h0 e
              exact ⟨by simp; omega, .inr (.inl this)⟩
          | true =>
            rw [hne] at y3
            have hne := Lib.hid hne
            have hrb := (hyr2.alloc hsz (.cells #[.int .i64 y.what, .slice y.A y.n y.c, .string (bstr y.rs), .bool true] 42)).more (show _ ≤ (wr.alloc (.cells #[.int .i64 y.what, .slice y.A y.n y.c, .string (bstr y.rs), .bool true] 42)).heap.size by simp; omega)
            have HB := Lib.hid (bytesW_new y.A y.n y.c y.l _ hrb (by omega))
            clear hrb
            go_wp2_with fail
            refine HB.out.mono ?_
            rintro e w3 ⟨l', rfl, hl', hb3⟩
            have hblk3 : Blk w3 wr.heap.size 42 #[.int .i64 y.what, .slice y.A y.n y.c, .string (bstr y.rs), .bool true] := (Blk.new wr _ _).below hb3 (by simp)
            have hcx : w3.cell? ⟨wr.heap.size, 1, none⟩ = some (.slice y.A y.n y.c) := hblk3.cell 1
            have hfx := hblk3.frozen 1
            go_wp2_with fail
            go_meet
            have hl3 : Later wr w3 := Later.trans ((Later.refl wr).alloc _) hb3
            simp only [World.size_alloc] at hl'
            have hla : Later wr (w3.setCell ⟨wr.heap.size, 1, none⟩ (.slice (some ⟨wr.heap.size + 1, 0, none⟩) y.n y.n)) := Below.setCell hl3 (Nat.le_refl _) _
            have hbx := hblk3.set_ 1 (.slice (some ⟨wr.heap.size + 1, 0, none⟩) y.n y.n)
            have hz3 : wr.heap.size + 1 ≤ w3.heap.size := by have := hb3.size; simpa using this
            have hzs : (w3.setCell ⟨wr.heap.size, 1, none⟩ (.slice (some ⟨wr.heap.size + 1, 0, none⟩) y.n y.n)).heap.size = w3.heap.size := by simp [World.setCell]
            refine ⟨{ y with A := some ⟨wr.heap.size + 1, 0, none⟩, c := y.n, l := l' }, rfl, rfl, rfl, ⟨?_, ?_, Nat.le_refl _, hyn, hyw1, hyw2⟩, HP.more hla ?_⟩
            · unfold stepArr; rw [hne.out]; simpa using hbx
            · rw [hzs]
              exact hl'.kept1 (fun k h0 e => Below.heap_setCell w3 _ _ k (by
                have e : wr.heap.size + 1 = k := by injection e
                show k ≠ wr.heap.size
                omega))
            · rintro k (rfl | ⟨h0, e⟩)
              · exact ⟨by omega, .inr (.inr (Nat.le_refl _))⟩
              · obtain ⟨ad, e2, h2, _⟩ := hl'.2 h0
                have e : wr.heap.size + 1 = k := by injection e
                injection e2 with e2
                rw [← e2] at h2
                have h2 : wr.heap.size + 1 < w3.heap.size := h2
                exact ⟨by omega, .inr (.inr (by omega))⟩
        case rest =>
          obtain ⟨y', e1, e2, e3, HX, HP2⟩ := hcut
          clear e1 e2 e3
          clear HP hy y0 y1 y2 y3 hyr hyr2 hyc hyn
          obtain ⟨gx, hgx⟩ : ∃ gx, Hid (wr.heap.size = gx) := ⟨_, rfl⟩
          rw [hgx.out] at HX HP2 ⊢
          obtain ⟨q, hq, hq9⟩ := pick_nat y'.what 9 (by decide)
          have x0 : wc.cell? ⟨gx, 0, none⟩ = some (.int .i64 y'.what) := HX.1.cell 0
          go_wp2_with fail
          refine (pick_at y'.what 9 q _ (by decide) (by decide) hq).mono ?_
          rintro e w4 ⟨rfl, rfl⟩
          go_upto_block 2 with (fail)
          go_cut [10, 12, 13, 14, 15, 16, 17, 18, 19, 20, 21, 22] from 44 to 176 (fun v10 _ _ _ _ _ _ _ _ _ _ _ wx => ∃ s' : Sp, v10 = .bool true ∧ Pr (fun _ => False) wb.heap.size wb wx g s' gr s' ∧ s'.rest.length ≤ (j + 1) * 1048576 ∧ s'.most = m)
          case first =>
            have hXlt : ∀ k, XIn gx y' k → k < wc.heap.size := fun k hk => (HP2.2.2.elim fun R1 h => h.elim fun R2 h => h.elim fun Q1 h => h.elim fun Q2 h => (h.2.2.2 k hk).1)
            have hgxlt := hXlt gx (.inl rfl)
            have hwbc := HP2.1
            by_cases q2 : q ≤ 2
            · have q2i : (q : Int) ≤ 2 := by omega
              have hx1 : wc.cell? ⟨gx, 1, none⟩ = some (.slice y'.A y'.n y'.c) := HX.1.cell 1
              have xa1 : ∀ (o : Obj), (wc.alloc o).cell? ⟨gx, 1, none⟩ = some (.slice y'.A y'.n y'.c) := fun o => (World.cell?_alloc_lt _ o _ (by exact hgxlt)).trans hx1
              have hyn := HX.2.2.2.1
              go_wp2_with (at_builtin; go_loud (refine wpList_append_b _ rfl (.tmp 81) (.tmp 83) rfl wc.heap.size _ 0 0 [] rfl (OwnB.made (Nat.le_refl _)) _ y'.A y'.n y'.c _ rfl (HX.2.1.alloc (Nat.le_refl _) _) (by omega) (by simp) ?_); intro Ao no co w5 hown5 hg5 hob5; rw [List.nil_append] at hown5; have lt5 := Later.grown (w := wc) ((Later.refl _).alloc _) hg5 (fun k hk => by injection hk with hk; exact Nat.le_of_eq hk))
              have hno : no = y'.n := by have h9 := hown5.len; have h8 := HX.2.1.len; omega
              have hP5 : Pr (fun k => XIn gx y' k ∨ ob Ao = some k) wb.heap.size wb w5 g s gr s := HP2.more lt5 (by
                rintro k (hk | hk)
                · exact ⟨Nat.lt_of_lt_of_le (hXlt k hk) lt5.size, .inl hk⟩
                · exact ⟨(hown5.lt k hk).2, .inr (.inr (hown5.lt k hk).1)⟩)
              have hX5 : XOk w5 gx y' := HX.kept (fun k hk => lt5.block k (hXlt k hk)) lt5.size
              have HF := Lib.hid (hP5.feed_ Ao no co y'.l _ hown5.rd (by omega))
              clear hx1 xa1 hob5 hg5
              refine HF.out.mono ?_
              rintro e w6 ⟨rfl, hP6, hK6, hsz6⟩
              have hown6 : OwnB w6 wc.heap.size Ao no co y'.l := hown5.kept1 (fun k hk => hK6 k (.inr hk))
              have hz6 : w5.heap.size ≤ w6.heap.size := hsz6
              have hX6 : XOk w6 gx y' := hX5.kept (fun k hk => hK6 k (.inl hk)) hz6
              clear HF hX5 hP5 hown5 lt5 HX HP2 hK6
              go_wp2_with fail
              go_loopw [13] (fun v wr => ∃ (i : Nat) (l' : List UInt8), v = .int .i64 (i : Int) ∧ i ≤ no ∧ OwnB wr wc.heap.size Ao no co l' ∧ Pr (fun k => XIn gx y' k ∨ ob Ao = some k) wb.heap.size wb wr g (s.feed y'.l) gr s ∧ XOk wr gx y') (fun v _ => no - (intOf v).toNat)
              case atStart => exact ⟨0, _, rfl, by omega, hown6, hP6, hX6⟩
              case round =>
                clear hown6 hP6 hX6
                obtain ⟨i, l', rfl, hi, hown7, hP7, hX7⟩ := hrel
                by_cases hlt7 : i < no
                · have hlt7i : (i : Int) < (no : Int) := by omega
                  obtain ⟨g', rfl, hg1, hg2, hc7, hf7, hst7⟩ := hown7.store hlt7
                  have hst7 := hst7 122 (by decide) (by decide)
                  have hX8 := hX7.kept (w' := wr.setCell ⟨g', i, none⟩ (.int .u8 122)) (fun k hk => Below.heap_setCell wr _ _ k (by have h9 := hXlt k hk; show k ≠ g'; omega)) (by simp [World.setCell])
                  have hP8 := hP7.set_ (k := g') (i := i) (.inr rfl) (by omega) (.int .u8 122)
                  clear hown7 hP7 hX7
                  go_wp2_with fail
                  go_roundw
                  case rel => exact ⟨i + 1, _, by go_num, by omega, hst7.1, hP8, hX8⟩
                  case measure => simp [intOf]; omega
                · obtain rfl : i = no := by omega
                  obtain ⟨Ar, nr, cr, xr4, hrr, hgr4⟩ := hP7.rest4
                  have hx1 : wr.cell? ⟨gx, 1, none⟩ = some (.slice y'.A y'.n y'.c) := hX7.1.cell 1
                  have hgx7 : gx < wr.heap.size := hX7.1.lt
                  have K3 := Lib.hid fun W (hl : Later wr W) => (hl.cell (p := ⟨gx, 1, none⟩) hgx7).trans hx1
                  have K4 := Lib.hid fun W (hl : Later wr W) => (hl.cell (p := ⟨gr, 4, none⟩) hgr4).trans xr4
                  have hnr : nr ≤ 157286400 := by have h9 := hrr.len; omega
                  clear hown7
                  go_wp2_with fail
                  have xa4 : ∀ o : Obj, (wr.alloc o).cell? ⟨gr, 4, none⟩ = some (.slice Ar nr cr) := fun o => (World.cell?_alloc_lt _ o _ (by exact hgr4)).trans xr4
                  have xa1 : ∀ o : Obj, (wr.alloc o).cell? ⟨gx, 1, none⟩ = some (.slice y'.A y'.n y'.c) := fun o => (World.cell?_alloc_lt _ o _ (by exact hgx7)).trans hx1
                  go_region_law
                    (first
                      | (refine step_append_b (o := ⟨some 103, _, _, _, _, _⟩) _ rfl (.tmp 98) (.tmp 102) rfl wr.heap.size _ 0 0 [] rfl (OwnB.later (OwnB.made (Later.size (by repeat (first | exact Later.refl _ | (with_reducible assumption) | apply Later.alloc | apply Later.drew | (refine Later.trans ?_ (by with_reducible assumption)))))) (by repeat (first | exact Later.refl _ | (with_reducible assumption) | apply Later.alloc | apply Later.drew | (refine Later.trans ?_ (by with_reducible assumption))))) _ Ar nr cr _ rfl (hrr.later (by repeat (first | exact Later.refl _ | (with_reducible assumption) | apply Later.alloc | apply Later.drew | (refine Later.trans ?_ (by with_reducible assumption))))) (by omega) (Later.size (by repeat (first | exact Later.refl _ | (with_reducible assumption) | apply Later.alloc | apply Later.drew | (refine Later.trans ?_ (by with_reducible assumption))))) ?_; intro A8 n8 c8 w8 hown8 hg8 hob8; have lt8 := Later.grown (w := wr) (by repeat (first | exact Later.refl _ | (with_reducible assumption) | apply Later.alloc | apply Later.drew | (refine Later.trans ?_ (by with_reducible assumption)))) hg8 (fun k hk => by injection hk with hk; exact Nat.le_of_eq hk); have hc8 := K3.out w8 lt8)
                      | (refine step_append_b (o := ⟨some 106, _, _, _, _, _⟩) _ rfl (.tmp 103) (.tmp 105) rfl wr.heap.size A8 n8 c8 _ rfl (hown8.later (by repeat (first | exact Later.refl _ | (with_reducible assumption) | apply Later.alloc | apply Later.drew | (refine Later.trans ?_ (by with_reducible assumption))))) _ y'.A y'.n y'.c _ rfl (hX7.2.1.later (by repeat (first | exact Later.refl _ | (with_reducible assumption) | apply Later.alloc | apply Later.drew | (refine Later.trans ?_ (by with_reducible assumption))))) (by have h9 := hown8.len; have h8 := hrr.len; simp only [List.nil_append] at h9; omega) (Later.size (by repeat (first | exact Later.refl _ | (with_reducible assumption) | apply Later.alloc | apply Later.drew | (refine Later.trans ?_ (by with_reducible assumption))))) ?_; intro A9 n9 c9 w9 hown9 hg9 hob9; have lt9 := Later.grown (w := wr) (by repeat (first | exact Later.refl _ | (with_reducible assumption) | apply Later.alloc | apply Later.drew | (refine Later.trans ?_ (by with_reducible assumption)))) hg9 (fun k hk => (hown8.lt k hk).1); have hfin := hP7.rfeed lt9 hown9; obtain ⟨uu9, hcf⟩ := hfin.1; have hff := hfin.2.1))
                  all_goals
                    go_wp2_with fail
                    go_meet
                    have h9 := hfin.2.2
                    rw [List.nil_append] at h9
                    exact ⟨s.feed y'.l, rfl, h9.mono (fun _ h => h.elim), by show (s.rest ++ y'.l).length ≤ _; have h7 := hX7.2.1.len; rw [List.length_append]; omega, hmo.out⟩
            · have hx1 : wc.cell? ⟨gx, 1, none⟩ = some (.slice y'.A y'.n y'.c) := HX.1.cell 1
              have hx2 : wc.cell? ⟨gx, 2, none⟩ = some (.string (bstr y'.rs)) := HX.1.cell 2
              have hx3 : wc.cell? ⟨gx, 3, none⟩ = some (.bool y'.near) := HX.1.cell 3
              have hSc := hS.below HP2.2.1 hS.lt
              have q2i : ¬ (q : Int) ≤ 2 := by omega
              clear hXlt hgxlt
              by_cases q6 : q ≤ 6
              · have q6i : (q : Int) ≤ 6 := by omega
                obtain ⟨o, s1, hos⟩ : ∃ o s1, Hid (s.next (stepSep y') = (o, s1)) := ⟨_, _, rfl⟩
                have hl1 : s1.rest.length ≤ s.rest.length := by have h9 := s.next_len (stepSep y'); rw [hos.out] at h9; exact h9
                have hm1' : Hid (s1.most = m) := by have h9 := s.next_mo (stepSep y'); rw [hos.out] at h9; exact h9.trans hmo.out
                have hss := seq_true (rfl : o.getD [] = o.getD [])
                have hbb : (o.isSome == o.isSome) = true := beq_self_eq_true _
                go_wp2_with fail
                refine (rs_any y' wc hSc HX.2.2.2.2.1 HX.2.2.2.2.2).mono ?_
                rintro e w5 ⟨rfl, lt5⟩
                obtain ⟨hP5, hK5, hz5⟩ := HP2.later lt5
                have HX5 := HX.kept hK5 hz5
                have HF := Lib.hid (hP5.next_ (stepSep y') (by omega))
                rw [hos.out] at HF
                clear hP5 hK5
                go_wp2_with fail
                refine HF.out.mono ?_
                rintro e w6 ⟨rfl, hP6, hK6, hz6⟩
                have HX6 := HX5.kept hK6 hz6
                have c0 : w6.cell? ⟨gx, 0, none⟩ = some (.int .i64 y'.what) := HX6.1.cell 0
                have c1 : w6.cell? ⟨gx, 1, none⟩ = some (.slice y'.A y'.n y'.c) := HX6.1.cell 1
                have c2 : w6.cell? ⟨gx, 2, none⟩ = some (.string (bstr y'.rs)) := HX6.1.cell 2
                have c3 : w6.cell? ⟨gx, 3, none⟩ = some (.bool y'.near) := HX6.1.cell 3
                have hS6 := hS.below hP6.2.1 hS.lt
                clear HF HX5 hK6 HP2 HX hSc
                go_wp2_with fail
                refine (rs_any y' w6 hS6 HX6.2.2.2.2.1 HX6.2.2.2.2.2).mono ?_
                rintro e w7 ⟨rfl, lt7⟩
                obtain ⟨hP7, hK7, hz7⟩ := hP6.later lt7
                have HG := Lib.hid (hP7.rnext_ (stepSep y') (by omega))
                rw [hos.out] at HG
                clear hP7 hK7 hP6 HX6
                go_wp2_with fail
                refine HG.out.mono ?_
                rintro e w8 ⟨rfl, hP8, hK8, hz8⟩
                clear HG hK8
                go_wp2_with fail
                go_meet
                exact ⟨s1, rfl, hP8.mono (fun _ h => h.elim), by omega, hm1'.out⟩
              · have q6i : ¬ (q : Int) ≤ 6 := by omega
                by_cases q7 : q = 7
                · subst q7
                  obtain ⟨o, s1, hos⟩ : ∃ o s1, Hid (s.last (stepSep y') = (o, s1)) := ⟨_, _, rfl⟩
                  have hl1 : s1.rest.length ≤ s.rest.length := by have h9 := s.last_len (stepSep y'); rw [hos.out] at h9; exact h9
                  have hm1' : Hid (s1.most = m) := by have h9 := s.last_mo (stepSep y'); rw [hos.out] at h9; exact h9.trans hmo.out
                  have hss := seq_true (rfl : o.getD [] = o.getD [])
                  have hbb : (o.isSome == o.isSome) = true := beq_self_eq_true _
                  go_wp2_with fail
                  refine (rs_any y' wc hSc HX.2.2.2.2.1 HX.2.2.2.2.2).mono ?_
                  rintro e w5 ⟨rfl, lt5⟩
                  obtain ⟨hP5, hK5, hz5⟩ := HP2.later lt5
                  have HX5 := HX.kept hK5 hz5
                  have HF := Lib.hid (hP5.last_ (stepSep y') (by omega))
                  rw [hos.out] at HF
                  clear hP5 hK5
                  go_wp2_with fail
                  refine HF.out.mono ?_
                  rintro e w6 ⟨rfl, hP6, hK6, hz6⟩
                  have HX6 := HX5.kept hK6 hz6
                  have c0 : w6.cell? ⟨gx, 0, none⟩ = some (.int .i64 y'.what) := HX6.1.cell 0
                  have c1 : w6.cell? ⟨gx, 1, none⟩ = some (.slice y'.A y'.n y'.c) := HX6.1.cell 1
                  have c2 : w6.cell? ⟨gx, 2, none⟩ = some (.string (bstr y'.rs)) := HX6.1.cell 2
                  have c3 : w6.cell? ⟨gx, 3, none⟩ = some (.bool y'.near) := HX6.1.cell 3
                  have hS6 := hS.below hP6.2.1 hS.lt
                  clear HF HX5 hK6 HP2 HX hSc
                  go_wp2_with fail
                  refine (rs_any y' w6 hS6 HX6.2.2.2.2.1 HX6.2.2.2.2.2).mono ?_
                  rintro e w7 ⟨rfl, lt7⟩
                  obtain ⟨hP7, hK7, hz7⟩ := hP6.later lt7
                  have HG := Lib.hid (hP7.rlast_ (stepSep y') (by omega))
                  rw [hos.out] at HG
                  clear hP7 hK7 hP6 HX6
                  go_wp2_with fail
                  refine HG.out.mono ?_
                  rintro e w8 ⟨rfl, hP8, hK8, hz8⟩
                  clear HG hK8
                  go_wp2_with fail
                  go_meet
                  exact ⟨s1, rfl, hP8.mono (fun _ h => h.elim), by omega, hm1'.out⟩
                · have q7i : ((q : Int) == 7) = false := beq_eq_false_iff_ne.2 (by omega)
                  have hss : ((bstr s.lay).toList != (bstr s.lay).toList) = false := by rw [bne_eq_false_iff_eq]
                  have hrl9 : s.rest.length ≤ 157286400 := by omega
                  obtain ⟨hBc, hbc, R1, R2, Q1, Q2, hsp, hsq, hdd, _⟩ := HP2
                  have hspl := Lib.hid hsp.lt
                  clear hx1 hx2 hx3 hSc
                  go_wp2_with fail
                  refine (newWriter_any wc).mono ?_
                  rintro e w5 ⟨rfl, rfl⟩
                  have hWr := WrOk.new wc wc.heap.size (Nat.le_refl _)
                  have HL := Lib.hid (spLay_any (wc.alloc (.cells #[.slice none 0 0] 67)) wb.heap.size g R1 R2 s (hsp.below ((Below.refl _ _).alloc (Nat.le_refl _) _) (Nat.le_refl _)) wc.heap.size wc.heap.size none [] hWr (by simp) (by
                    rintro k (rfl | hk) hin
                    · have := (hspl.out _ hin).2; omega
                    · cases hk) (by simp; omega))
                  clear hWr
                  go_wp2_with fail
                  refine HL.out.mono ?_
                  rintro e w6 ⟨rfl, Rw6, hW6, hf6, hR6⟩
                  rw [List.nil_append] at hW6
                  have lt6 : Later wc w6 := by
                    have h9 := Fr.below (B := wc.heap.size) hf6 (by simp) (by
                      rintro k hk (rfl | e)
                      · omega
                      · cases e)
                    exact ((Below.refl wc.heap.size wc).alloc (Nat.le_refl _) _).trans h9
                  have hsq6 := hsq.below lt6 (Nat.le_refl _)
                  have hbw6 : wc.heap.size ≤ w6.heap.size := lt6.size
                  have hll : s.lay.length ≤ 200000000 := by
                    have h1 := textB_len s.got
                    have h2 := textB_len s.rest
                    have h3 := hsp.2.2.1
                    have h4 := hsp.2.2.2.1
                    unfold Sp.lay
                    simp only [List.length_append, List.length_singleton]
                    omega
                  clear HL hf6 hR6
                  go_wp2_with fail
                  go_region_held_law (fun _ => True)
                    (exact True.intro)
                    (first
                      | (go_at_call 20; (with_reducible refine (writer_bytes _ wc.heap.size wc.heap.size Rw6 _ (WrOk.later hW6 (by repeat (first | exact Later.refl _ | (with_reducible assumption) | apply Later.alloc | apply Later.drew | (refine Later.trans ?_ (by with_reducible assumption))))) (by omega)).mono ?_); go_loud (rintro e wa ⟨Aa, na, ca, rfl, hoa, lta⟩; have lta : Later _ wa := lta; have cona := run_str (c := ca) hoa.rd; try (have conb2 := run_str (c := cb) (RdB.later (w' := wa) hob.rd (by repeat (first | exact Later.refl _ | (with_reducible assumption) | apply Later.alloc | apply Later.drew | (refine Later.trans ?_ (by with_reducible assumption))))))))
                      | (go_at_call 21; (with_reducible refine (refLay_any _ wb.heap.size gr Q1 Q2 s (SqOk.later hsq6 (by repeat (first | exact Later.refl _ | (with_reducible assumption) | apply Later.alloc | apply Later.drew | (refine Later.trans ?_ (by with_reducible assumption))))) (by omega)).mono ?_); go_loud (rintro e wd ⟨Ab, nb, cb, rfl, hob, ltb⟩; have ltb : Later _ wd := ltb; have conb := run_str (c := cb) hob.rd; try (have cona2 := run_str (c := ca) (RdB.later (w' := wd) hoa.rd (by repeat (first | exact Later.refl _ | (with_reducible assumption) | apply Later.alloc | apply Later.drew | (refine Later.trans ?_ (by with_reducible assumption)))))))))
                  all_goals
                    go_wp2_with fail
                    go_meet
                    have ltz : Later wc wd := (by repeat (first | exact Later.refl _ | (with_reducible assumption) | apply Later.alloc | apply Later.drew | (refine Later.trans ?_ (by with_reducible assumption))))
                    have hPz : Pr (fun _ => False) wb.heap.size wb wc g s gr s := ⟨hBc, hbc, R1, R2, Q1, Q2, hsp, hsq, hdd, fun k hk => hk.elim⟩
                    exact ⟨s, rfl, (hPz.later ltz).1, Nat.le_trans hrl (Nat.mul_le_mul_right _ (Nat.le_succ j)), hmo.out⟩
          case rest =>
            obtain ⟨s', rfl, HP3, hrl3, hmo3⟩ := hcut
            clear HX HP2 x0
            obtain ⟨wz, rfl⟩ : ∃ wz : World, wz = wc := ⟨_, rfl⟩
            obtain ⟨L, hL⟩ : ∃ L, Hid (s'.got.length = L) := ⟨_, rfl⟩
            have hH : Hid (∀ k : Nat, Calls Tryd.prog 22 #[.pointer (some ⟨g, 0, none⟩)] (wz.drewN k) fun e w' => e = .returned (.int .i64 (L : Int)) ∧ w' = wz.drewN k) := by
              intro k
              obtain ⟨hBc, hbc, R1, R2, Q1, Q2, hsp, hsq, hdd, _⟩ := HP3
              have := held_any (wz.drewN k) wb.heap.size g R1 R2 s' (hsp.drewN k)
              rwa [hL.out] at this
            have hr1 : ∃ A5 c5, wz.cell? ⟨gr, 1, none⟩ = some (.slice A5 L c5) := by
              obtain ⟨hBc, hbc, R1, R2, Q1, Q2, hsp, hsq, hdd, _⟩ := HP3
              obtain ⟨A5, n5, c5, _, _, _, _, _, h1, _, _, x1, _⟩ := hsq.cells
              have h9 := h1.len
              rw [hL.out] at h9
              subst h9
              exact ⟨A5, c5, x1⟩
            obtain ⟨A5, c5, x1⟩ := hr1
            have hLm : L ≤ m := by
              obtain ⟨hBc, hbc, R1, R2, Q1, Q2, hsp, hsq, hdd, _⟩ := HP3
              have h9 := hsp.2.2.1
              rw [hL.out] at h9
              omega
            have hne : ((L : Int) != (L : Int)) = false := by rw [bne_eq_false_iff_eq]
            have hgt : ¬ (m : Int) < (L : Int) := by omega
            have HMO := Lib.hid hmo3
            clear hmo3
            go_wp2_with fail
            go_quiet ((go_at_call 22; exact Calls.quiet_of_same (hH.out _)))
            go_wp2_with fail
            go_roundw
            case rel => exact ⟨j + 1, s', by go_num, by omega, by omega, (HP3.later ((Later.refl _).drewN _)).1, hrl3, HMO.out⟩
            case measure => simp [intOf]; omega
      · have hcase : ¬ (j : Int) < (n : Int) ∨ ((j : Int) < (n : Int) ∧ ¬ (j : Int) < 150) := by omega
        clear hgo
        rcases hcase with h1 | ⟨h1, h2⟩
        all_goals
          go_wp2_with fail
          go_ret
          exact ⟨rfl, HP.2.1⟩

end Go.Proofs.YtkpckmdakiminaaDoor
