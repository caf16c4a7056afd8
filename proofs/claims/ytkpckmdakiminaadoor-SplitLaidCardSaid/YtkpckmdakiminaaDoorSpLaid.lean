/-
  The walk of SplitLaid.
-/
import Derived.Test.YtkpckmdakiminaaDoorSpLaidA
import Derived.Deep.RegionHeldLaw
import Derived.Test.YtkpckmdakiminaaDoorEarly
import Derived.Deep.RegionLaw
import Derived.Deep.CutBlock
import Derived.Deep.DeepCutAuto
namespace Go.Proofs.YtkpckmdakiminaaDoor
open Go.RowKit

/-- bytes that are some, in memory of the call's own -/
def Some14 (w : World) (s : Value) (wx : World) : Prop := ∃ A n c l, s = .slice A n c ∧ RdB wx wx.heap.size A n l ∧ n ≤ c ∧ n ≤ 1000 ∧ Later w wx

set_option maxRecDepth 100000 in
set_option maxHeartbeats 40000000 in
theorem spLaid_any (most : Int) (A1 : Option Addr) (n1 c1 : Nat) (l1 : List UInt8) (rs : Int) (A3 : Option Addr) (n3 c3 : Nat) (l3 : List UInt8) (A4 : Option Addr) (n4 c4 : Nat) (l4 : List UInt8) (flag : Int) (w : World)
    (hr1 : RdB w w.heap.size A1 n1 l1) (hc1 : n1 ≤ c1) (hn1 : n1 ≤ 9223372036854775807) (hr3 : RdB w w.heap.size A3 n3 l3) (hc3 : n3 ≤ c3) (hn3 : n3 ≤ 9223372036854775807) (hr4 : RdB w w.heap.size A4 n4 l4) (hc4 : n4 ≤ c4) (hn4 : n4 ≤ 9223372036854775807) (hS : SepsAt w) :
    Calls Tryd.prog 5 #[.int .i64 most, .slice A1 n1 c1, .int .i64 rs, .slice A3 n3 c3, .slice A4 n4 c4, .int .i64 flag] w fun e w' => e = .returned (.bool true) ∧ Below w.heap.size w w' := by
  obtain ⟨k, hkk, hk12⟩ := pick_nat most 12 (by decide)
  have hk12 : k < 12 := by omega
  obtain ⟨m, hmk⟩ : ∃ m : Nat, m = 1 + k := ⟨_, rfl⟩
  have hm1 : 1 ≤ m := by omega
  have hm2 : m ≤ 200 := by omega
  have hm12 : m ≤ 12 := by omega
  obtain ⟨t, ht, ht5⟩ := pick_nat rs 5 (by decide)
  have ht5 : t < 5 := by omega
  have ht5i : (t : Int) < 5 := by omega
  obtain ⟨fl, hfl, hfl4⟩ := pick_nat flag 4 (by decide)
  obtain ⟨p4, hp41, hp42, hmin4⟩ : ∃ p : Nat, p ≤ 60 ∧ p ≤ n4 ∧ (p = n4 ∧ (n4 : Int) ≤ 60 ∨ p = 60 ∧ ¬ (n4 : Int) ≤ 60) := by
    by_cases h : n4 ≤ 60
    · exact ⟨n4, by omega, by omega, .inl ⟨rfl, by omega⟩⟩
    · exact ⟨60, by omega, by omega, .inr ⟨rfl, by omega⟩⟩
  have hr4p := hr4.upto hp42
  clear hr4
  have hmi : (1 : Int) + (k : Int) = (m : Int) := by omega
  have HM := Lib.hid hmi
  have HMK := Lib.hid hmk
  clear hmi hmk
  go_enter Tryd.func5, Tryd.ntmps5
  go_upto_region 1 with fail
  go_cut [0] (fun s0 wx => s0 = .int .i64 (m : Int) ∧ wx = w)
  case first =>
    go_wp2_with fail
    refine (pick_at most 12 k w (by decide) (by decide) hkk).mono ?_
    rintro e w' ⟨rfl, rfl⟩
    go_wp2_with fail
    go_meet
    exact ⟨by rw [← HM.out], rfl⟩
  case rest =>
    obtain ⟨rfl, hwc⟩ := hcut
    subst hwc
    obtain ⟨w0, rfl⟩ : ∃ w0 : World, w0 = wc := ⟨_, rfl⟩
    go_upto_region 2 with fail
    go_cut [4] (fun s4 wx => s4 = .slice A4 p4 c4 ∧ wx = w0)
    case first =>
      rcases hmin4 with ⟨rfl, h3⟩ | ⟨rfl, h3⟩
      all_goals
        go_wp2_with fail
        go_meet
        exact ⟨rfl, rfl⟩
    case rest =>
      obtain ⟨rfl, hwc⟩ := hcut
      subst hwc
      clear hmin4
      obtain ⟨w0, rfl⟩ : ∃ w0 : World, w0 = wc := ⟨_, rfl⟩
      obtain ⟨sep, hsep, hcs⟩ := hS.at_ ht5
      go_wp2_with fail
      refine (pick_at rs 5 t _ (by decide) (by decide) ht).mono ?_
      rintro e w' ⟨rfl, rfl⟩
      go_upto_region 4 with fail
      obtain ⟨k1, hk1a, hk1b, hk1⟩ : ∃ k1 : Nat, k1 ≤ 12 ∧ k1 ≤ n1 ∧ (k1 = n1 ∧ (n1 : Int) ≤ (m : Int) ∨ k1 = m ∧ ¬ (n1 : Int) ≤ (m : Int)) := by
        by_cases h : n1 ≤ m
        · exact ⟨n1, by omega, by omega, .inl ⟨rfl, by omega⟩⟩
        · exact ⟨m, by omega, by omega, .inr ⟨rfl, by omega⟩⟩
      obtain ⟨k2, hk2a, hk2b, hk2⟩ : ∃ k2 : Nat, k2 ≤ 30 ∧ k2 ≤ p4 ∧ (k2 = p4 ∧ (p4 : Int) ≤ 30 ∨ k2 = 30 ∧ ¬ (p4 : Int) ≤ 30) := by
        by_cases h : p4 ≤ 30
        · exact ⟨p4, by omega, by omega, .inl ⟨rfl, by omega⟩⟩
        · exact ⟨30, by omega, by omega, .inr ⟨rfl, by omega⟩⟩
      have hrb1 := hr1.upto hk1b
      have hrb2 := hr4p.upto hk2b
      go_cut [14] (fun s14 wx => Some14 w0 s14 wx)
      case first => as_aux_lemma =>
        have hfl0 : (0 : Int) ≤ (fl : Int) := by omega
        have hfl1 : (fl : Int) < 256 := by omega
        have hwf : Hid (IntKind.u8.wrap (fl : Int) = (fl : Int)) := by show _ = _; rw [IntKind.wrap_u8]; omega
        have hmn1 : Hid ((if (m : Int) < (n1 : Int) then (m : Int) else (n1 : Int)) = (k1 : Int)) := by
          show _ = _
          rcases hk1 with ⟨h0, h1⟩ | ⟨h0, h1⟩
          · rw [if_neg (by omega), h0]
          · rw [if_pos (by omega), h0]
        have hmn2 : Hid ((if (30 : Int) < (p4 : Int) then (30 : Int) else (p4 : Int)) = (k2 : Int)) := by
          show _ = _
          rcases hk2 with ⟨h0, h1⟩ | ⟨h0, h1⟩
          · rw [if_neg (by omega), h0]
          · rw [if_pos (by omega), h0]; rfl
        have hk1c : (k1 : Int) ≤ (c1 : Int) := by omega
        have hk2c : (k2 : Int) ≤ (c4 : Int) := by omega
        clear hk1 hk2
        go_wp2_with fail
        go_region_held_law (fun _ => True)
          (exact True.intro)
          (first
            | (go_at_call 7; (with_reducible refine (bytesW_new A1 _ c1 _ _ (hrb1.later (by repeat (first | exact Later.refl _ | (with_reducible assumption) | apply Later.alloc | apply Later.drew | (refine Later.trans ?_ (by with_reducible assumption))))) (by omega)).mono ?_); rintro e wa1 ⟨la1, rfl, hla1, lta1⟩; have lta1 : Later _ wa1 := lta1; have hla1 : RdB wa1 wa1.heap.size (some ⟨w0.heap.size, 0, none⟩) _ la1 := hla1; have cona1 := run_str (c := k1) hla1; have hln1 := hla1.len)
            | (go_at_call 7; (with_reducible refine (bytesW_new A4 _ c4 _ _ (hrb2.later (by repeat (first | exact Later.refl _ | (with_reducible assumption) | apply Later.alloc | apply Later.drew | (refine Later.trans ?_ (by with_reducible assumption))))) (by omega)).mono ?_); rintro e wa2 ⟨la2, rfl, hla2, lta2⟩; have lta2 : Later _ wa2 := lta2; have cona2 := run_str (c := k2) hla2; have hln2 := hla2.len)
            | (go_at_call 23; (with_reducible refine (refText_any (bstr la1) (by rw [bstr_size]; omega) _).mono ?_); rintro e wt1 ⟨At1, nt1, ct1, rfl, hT1o, lt1⟩; have lt1 : Later _ wt1 := lt1; have hnt1 : nt1 ≤ 30 := (by have h9 := hT1o.len; have h8 := nm_len (bstr la1).size; rw [List.length_append] at h9; have h7 : (bstr la1).data.toList.length = la1.length := rfl; omega); obtain ⟨L1, hT1⟩ : ∃ L, OwnB wt1 w0.heap.size At1 nt1 ct1 L := ⟨_, hT1o.base_le (B := w0.heap.size) (fun k _ hk => Nat.le_trans (Later.size (by repeat (first | exact Later.refl _ | (with_reducible assumption) | apply Later.alloc | apply Later.drew | (refine Later.trans ?_ (by with_reducible assumption))))) hk)⟩)
            | (go_at_call 23; (with_reducible refine (refText_any (bstr la2) (by rw [bstr_size]; omega) _).mono ?_); rintro e wt2 ⟨At2, nt2, ct2, rfl, hT2o, lt2⟩; have lt2 : Later _ wt2 := lt2; have hnt2 : nt2 ≤ 50 := (by have h9 := hT2o.len; have h8 := nm_len (bstr la2).size; rw [List.length_append] at h9; have h7 : (bstr la2).data.toList.length = la2.length := rfl; omega); obtain ⟨L2, hT2⟩ : ∃ L, RdB wt2 wt2.heap.size At2 nt2 L := ⟨_, hT2o.rd⟩; have hl2T := hT2.len)
            | (go_at_call 6; (with_reducible refine (pick_at flag 4 fl _ (by decide) (by decide) hfl).mono ?_); rintro e w' ⟨rfl, rfl⟩)
            | (refine step_min (o := ⟨some 41, _, _, _, _, _⟩) _ rfl (.tmp 39) (.tmp 40) _ rfl _ _ (k1 : Int) rfl rfl hmn1.out ?_)
            | (refine step_min (o := ⟨some 54, _, _, _, _, _⟩) _ rfl (.tmp 53) (.const (.int .i64 30)) _ rfl _ _ (k2 : Int) rfl rfl hmn2.out ?_)
            | (refine step_append_b (o := ⟨some 50, _, _, _, _, _⟩) _ rfl (.tmp 45) (.tmp 49) rfl w0.heap.size At1 nt1 ct1 L1 rfl ?_ (wt1.heap.size + 1) _ 1 1 [byt (fl : Int)] rfl ?_ ?_ ?_ ?_; (focus (refine OwnB.later hT1 ?_; repeat (first | exact Later.refl _ | (with_reducible assumption) | apply Later.alloc | apply Later.drew | (refine Later.trans ?_ (by with_reducible assumption))))); (focus (refine rd_byt2 wt1 (fl : Int) ?_ hfl0 hfl1; (first | rfl | exact hwf.out))); (focus omega); (focus (refine Later.size ?_; repeat (first | exact Later.refl _ | (with_reducible assumption) | apply Later.alloc | apply Later.drew | (refine Later.trans ?_ (by with_reducible assumption))))); intro A5 n5 c5 wa hown5 hg5 hob5; have hn5 : n5 ≤ 31 := (by have h9 := hown5.len; have h8 := hT1.len; rw [List.length_append, h8] at h9; simp only [List.length_singleton] at h9; omega); have lta := Later.grown (w := w0) (by repeat (first | exact Later.refl _ | (with_reducible assumption) | apply Later.alloc | apply Later.drew | (refine Later.trans ?_ (by with_reducible assumption)))) hg5 (fun k hk => (hT1.lt k hk).1))
            | (refine step_append_b (o := ⟨some 59, _, _, _, _, _⟩) _ rfl (.tmp 50) (.tmp 58) rfl w0.heap.size A5 n5 c5 (L1 ++ [byt (fl : Int)]) rfl ?_ wt2.heap.size At2 nt2 ct2 L2 rfl ?_ ?_ ?_ ?_; (focus (refine OwnB.later hown5 ?_; repeat (first | exact Later.refl _ | (with_reducible assumption) | apply Later.alloc | apply Later.drew | (refine Later.trans ?_ (by with_reducible assumption))))); (focus (refine RdB.later' hT2 (Nat.le_refl _) ?_; repeat (first | exact Later.refl _ | (with_reducible assumption) | apply Later.alloc | apply Later.drew | (refine Later.trans ?_ (by with_reducible assumption))))); (focus omega); (focus (refine Later.size ?_; repeat (first | exact Later.refl _ | (with_reducible assumption) | apply Later.alloc | apply Later.drew | (refine Later.trans ?_ (by with_reducible assumption))))); intro A6 n6 c6 wb hown6 hg6 hob6; have hn6 : n6 ≤ 81 := (by have h9 := hown6.len; have h8 := hown5.len; rw [List.length_append, h8, hl2T] at h9; omega); have ltb := Later.grown (w := w0) (by repeat (first | exact Later.refl _ | (with_reducible assumption) | apply Later.alloc | apply Later.drew | (refine Later.trans ?_ (by with_reducible assumption)))) hg6 (fun k hk => (hown5.lt k hk).1)))
        all_goals
          go_wp2_with fail
          go_meet
          exact ⟨A6, n6, c6, _, rfl, hown6.rd, hown6.cap, by omega, ltb⟩
      case rest =>
        obtain ⟨A6, n6, c6, l6, rfl, hr6, hc6, hn6, hl6⟩ := hcut
        clear hrb1 hrb2 hk1 hk2 hk1a hk1b hk2a hk2b
        obtain ⟨w1, rfl⟩ : ∃ w1 : World, w1 = wc := ⟨_, rfl⟩
        have hlw := hl6.size
        go_upto_if 62 with (fail)
        go_cut [14] (fun s14 wx => Some14 w0 s14 wx)
        case first =>
          by_cases hif : flag.tmod 5 = 4
          · have hife : (flag.tmod 5 == 4) = true := by rw [hif]; rfl
            clear hif
            go_wp2_with fail
            go_meet
            exact ⟨A4, p4, c4, _, rfl, hr4p.later hl6, by omega, by omega, hl6⟩
          · have hife : (flag.tmod 5 == 4) = false := beq_eq_false_iff_ne.2 hif
            clear hif
            go_wp2_with fail
            go_meet
            exact ⟨A6, n6, c6, _, rfl, hr6, hc6, hn6, hl6⟩
        case rest => as_aux_lemma =>
          clear hr6 hc6 hn6 hl6 hlw
          obtain ⟨A, n, c, l, rfl, hr, hc, hn, hl⟩ := hcut
          have hlw := hl.size
          have hln := hr.len
          go_wp2_with fail
          refine (newReader_any A n c l _ hr (by omega)).mono ?_
          rintro e w2 ⟨gp, rfl, hgp, hp2, hb2⟩
          have hz2 := hb2.size
          have hgp2 := hp2.lt
          have hp2' : RrOk (w2.alloc (.cells #[.slice A n c, .int .i64 0, .int .i64 0] 58)) wc.heap.size gp l (0, 0) := hp2.keepB ((Below.refl _ _).alloc (Nat.le_refl _) _)
          have hq2 : RfOk (w2.alloc (.cells #[.slice A n c, .int .i64 0, .int .i64 0] 58)) wc.heap.size w2.heap.size l (0, 0) := ⟨hz2, Nat.zero_le _, by omega, A, n, c, Blk.new _ _ _, (hr.below (hb2.alloc hz2 _)), hc⟩
          have HS := Lib.hid (spRead_any m hm1 hm2 _ wc.heap.size gp l hp2' (by omega))
          have hb02 : Below w0.heap.size w0 (w2.alloc (.cells #[.slice A n c, .int .i64 0, .int .i64 0] 58)) := Below.trans hl ((hb2.mono hlw).alloc (by omega) _)
          clear hp2 hp2'
          go_wp2_with fail
          refine HS.out.mono ?_
          rintro e w3 ⟨g, R1, R2, rfl, hs3, hp3, hf3⟩
          have hq3 := RfOk.fr hq2 hf3 (fun e => by omega) (fun k hk e => by omega)
          have hz3 := hf3.size
          simp only [World.size_alloc] at hz3
          have HR := Lib.hid (refReadSplit_any m hm1 hm2 w3 wc.heap.size w2.heap.size l hq3 (by omega))
          clear HS hq2
          go_wp2_with fail
          refine HR.out.mono ?_
          rintro e w4 ⟨gr, Q1, Q2, rfl, hs4, hq4, hf4⟩
          have hz4 := hf4.size
          obtain ⟨sp, hsp⟩ : ∃ sp, Hid ((readSp l (0, 0) m).1 = sp) := ⟨_, rfl⟩
          obtain ⟨st, hst⟩ : ∃ st, Hid ((readSp l (0, 0) m).2 = st) := ⟨_, rfl⟩
          have hbad : -100 < st.2 ∧ st.2 < 100 := by rw [← hst.out]; exact readSp_bad l m
          have hrest : sp.rest.length ≤ 2048 := by rw [← hsp.out]; exact readSp_rest l _ m
          rw [hsp.out] at hs3 hs4
          rw [hst.out] at hp3 hq4
          have hp4 : RrOk w4 wc.heap.size gp l st := by
            obtain ⟨_, _, _, _, _, _, hbq, _⟩ := hq3
            exact hp3.fr hf4 (fun e => by omega) (fun A' n' c' h4 k hk e => h4.ne_blk hbq (by decide) (by rw [hk, e]))
          clear HR hp3 hq3
          go_wp2_with fail
          refine (spk_any _).mono ?_
          rintro e w5 ⟨rfl, hb5⟩
          have hl5 : Later w4 w5 := hb5
          have hp5 := hp4.keepB hb5
          have hq5 := RfOk.fr hq4 (Fr.of_below hb5) (by omega) (fun k hk e => by omega)
          have H1 := Lib.hid (reader_end w5 wc.heap.size gp l st.1 st.2 hp5 hbad)
          clear hp4 hp5 hq4
          go_wp2_with fail
          refine H1.out.mono ?_
          rintro e w6 ⟨rfl, hp6, hf6⟩
          have hq6 := RfOk.fr hq5 hf6 (fun e => by omega) (fun k hk e => by omega)
          have hz6 := hf6.size
          have H2 := Lib.hid (refReader_end w6 wc.heap.size w2.heap.size l st.1 st.2 hq6)
          have hee : (rEnd l (st.1, st.2) != rEnd l (st.1, st.2)) = false := by rw [bne_eq_false_iff_eq]
          clear H1 hp6 hq5 hq6
          go_wp2_with fail
          refine H2.out.mono ?_
          rintro e w7 ⟨rfl, hq7, hf7⟩
          have hz7 := hf7.size
          have hb37 : Below wc.heap.size wc w7 := by
            have a1 : Below wc.heap.size wc (w2.alloc (.cells #[.slice A n c, .int .i64 0, .int .i64 0] 58)) := hb2.alloc hz2 _
            have a2 := a1.trans (hf3.below (by simp; omega) (fun k hk e => by omega))
            have a3 := a2.trans (hf4.below (by omega) (fun k hk e => by omega))
            have a4 := a3.trans (hl5.below (by omega))
            have a5 := a4.trans (hf6.below (by have := hl5.size; omega) (fun k hk e => by omega))
            exact a5.trans (hf7.below (by have := hl5.size; omega) (fun k hk e => by omega))
          have hf47 : Fr w4 w7 (fun k => w0.heap.size ≤ k ∧ k < w2.heap.size + 1) :=
            (((Fr.of_below hb5).mono (fun k hk h => by omega)).trans hf6 (fun k hk h => by omega)).trans hf7 (fun k hk h => by omega)
          have HN := Lib.hid (newReader_any A n c l w7 (hr.below hb37 |>.more hb37.size) (by omega))
          clear H2 hq7 hf6 hf7 hl5 hb5
          go_wp2_with fail
          refine HN.out.mono ?_
          rintro e w8 ⟨g9, rfl, _, _, hb8⟩
          have hf48 : Fr w4 w8 (fun k => w0.heap.size ≤ k ∧ k < w2.heap.size + 1) := hf47.trans (Fr.of_below hb8) (fun k hk h => by have := hf47.size; omega)
          have HP : Pr (fun _ => False) w0.heap.size w0 w8 g sp gr sp := Pr.of_read (w2 := w2.alloc (.cells #[.slice A n c, .int .i64 0, .int .i64 0] 58)) (Nat.le_refl _) hb02 hs3 (hf3.below (by simp; omega) (fun k hk e => by omega)) hs4 hf4 (by omega) (by simp) (by simpa using hf48)
          clear HN hf47 hf48 hs3 hs4 hf3 hf4 hb37 hb8 hb02
          go_wp2_with fail
          refine (spRead_zero _ g9).mono ?_
          rintro e w9 ⟨rfl, rfl⟩
          go_wp2_with fail
          have HPr := Lib.hid HP
          obtain ⟨hBc, hbc, S1, S2, T1, T2, hsx, hsy, hdd, _⟩ := HP
          have hspl := Lib.hid hsx.lt
          refine (newWriter_any w9).mono ?_
          rintro e w10 ⟨rfl, rfl⟩
          have hWr := WrOk.new w9 w9.heap.size (Nat.le_refl _)
          have HL := Lib.hid (spLay_any (w9.alloc (.cells #[.slice none 0 0] 67)) w0.heap.size g S1 S2 sp (hsx.below ((Below.refl _ _).alloc (Nat.le_refl _) _) (Nat.le_refl _)) w9.heap.size w9.heap.size none [] hWr (by simp) (by
            rintro k (rfl | hk) hin
            · have := (hspl.out _ hin).2; omega
            · cases hk) (by simp; omega))
          clear hWr
          go_wp2_with fail
          refine HL.out.mono ?_
          rintro e w11 ⟨rfl, Rw6, hW6, hf6, hR6⟩
          rw [List.nil_append] at hW6
          have lt6 : Later w9 w11 := by
            have h9 := Fr.below (B := w9.heap.size) hf6 (by simp) (by
              rintro k hk (rfl | e)
              · omega
              · cases e)
            exact ((Below.refl w9.heap.size w9).alloc (Nat.le_refl _) _).trans h9
          have hsq6 := hsy.below lt6 (Nat.le_refl _)
          have hbw6 : w9.heap.size ≤ w11.heap.size := lt6.size
          have hll : sp.lay.length ≤ 200000000 := by
            have h1 := textB_len sp.got
            have h2 := textB_len sp.rest
            have h3 := hsx.2.2.1
            have h4 := hsx.2.2.2.1
            unfold Sp.lay
            simp only [List.length_append, List.length_singleton]
            omega
          have hss : ((bstr sp.lay).toList != (bstr sp.lay).toList) = false := by rw [bne_eq_false_iff_eq]
          clear HL hf6 hR6
          go_upto_region 15 with (fail)
          go_cut [108] (fun v wx => v = .bool false ∧ Later w9 wx)
          case first => as_aux_lemma =>
            go_region_held_law (fun _ => True)
              (exact True.intro)
              (first
                | (go_at_call 20; (with_reducible refine (writer_bytes _ w9.heap.size w9.heap.size Rw6 _ (WrOk.later hW6 (by repeat (first | exact Later.refl _ | (with_reducible assumption) | apply Later.alloc | apply Later.drew | (refine Later.trans ?_ (by with_reducible assumption))))) (by omega)).mono ?_); go_loud (rintro e wa ⟨Aa, na, ca, rfl, hoa, lta⟩; have lta : Later _ wa := lta; have cona := run_str (c := ca) hoa.rd; try (have conb2 := run_str (c := cb) (RdB.later (w' := wa) hob.rd (by repeat (first | exact Later.refl _ | (with_reducible assumption) | apply Later.alloc | apply Later.drew | (refine Later.trans ?_ (by with_reducible assumption))))))))
                | (go_at_call 21; (with_reducible refine (refLay_any _ w0.heap.size gr T1 T2 sp (SqOk.later hsq6 (by repeat (first | exact Later.refl _ | (with_reducible assumption) | apply Later.alloc | apply Later.drew | (refine Later.trans ?_ (by with_reducible assumption))))) (by omega)).mono ?_); go_loud (rintro e wd ⟨Ab, nb, cb, rfl, hob, ltb⟩; have ltb : Later _ wd := ltb; have conb := run_str (c := cb) hob.rd; try (have cona2 := run_str (c := ca) (RdB.later (w' := wd) hoa.rd (by repeat (first | exact Later.refl _ | (with_reducible assumption) | apply Later.alloc | apply Later.drew | (refine Later.trans ?_ (by with_reducible assumption)))))))))
            all_goals
              go_wp2_with fail
              go_meet
              exact ⟨rfl, (by repeat (first | exact Later.refl _ | (with_reducible assumption) | apply Later.alloc | apply Later.drew | (refine Later.trans ?_ (by with_reducible assumption))))⟩
          case rest =>
            obtain ⟨rfl, hl15⟩ := hcut
            have HP := (HPr.out.later hl15).1
            clear HPr hsx hsy hdd hBc hbc hspl hsq6 hbw6 hll hss lt6 hW6
            obtain ⟨w12, rfl⟩ : ∃ w12 : World, w12 = wc := ⟨_, rfl⟩
            obtain ⟨k3, hk3a, hk3b, hk3⟩ : ∃ k3 : Nat, k3 ≤ 60 ∧ k3 ≤ n3 ∧ (k3 = n3 ∧ (n3 : Int) ≤ 60 ∨ k3 = 60 ∧ ¬ (n3 : Int) ≤ 60) := by
              by_cases h : n3 ≤ 60
              · exact ⟨n3, by omega, by omega, .inl ⟨rfl, by omega⟩⟩
              · exact ⟨60, by omega, by omega, .inr ⟨rfl, by omega⟩⟩
            have hrb3 := hr3.upto hk3b
            obtain ⟨lx, hlx⟩ : ∃ lx, lx = l3.take k3 := ⟨_, rfl⟩
            rw [← hlx] at hrb3
            have hlxn := hrb3.len
            clear hlx
            go_upto_region 17 with (fail)
            go_cut [] (fun wx => Pr (fun _ => False) w0.heap.size w0 wx g (sp.feed (fewB lx)) gr sp)
            case first =>
              have hrw : RdB w12 w12.heap.size A3 k3 lx := (hrb3.below HP.2.1).more HP.1
              rcases hk3 with ⟨rfl, h3⟩ | ⟨rfl, h3⟩
              all_goals
                go_wp2_with fail
                refine (few_any A3 _ c3 lx _ hrw (by omega)).mono ?_
                rintro e wa ⟨rfl, hra, hba⟩
                obtain ⟨hPa, _, _⟩ := HP.later hba
                go_wp2_with fail
                refine (hPa.feed_ _ _ _ _ _ hra (by omega)).mono ?_
                rintro e wb ⟨rfl, hPb, _, _⟩
                go_wp2_with fail
                go_meet
                exact hPb
            case rest => as_aux_lemma =>
              clear HP
              have HP := hcut
              clear hcut
              obtain ⟨wz, rfl⟩ : ∃ wz : World, wz = wc := ⟨_, rfl⟩
              go_upto_region 18 with (fail)
              go_cut [] (fun wx => Pr (fun _ => False) w0.heap.size w0 wx g (sp.feed (fewB lx)) gr (sp.feed (fewB lx)))
              case first => as_aux_lemma =>
                have hrw : RdB wz wz.heap.size A3 k3 lx := (hrb3.below HP.2.1).more HP.1
                have hflen : (fewB lx).length = k3 := by unfold fewB; rw [List.length_map]; exact hlxn
                obtain ⟨Ar, nr, cr, xr4, hrr, hgr4⟩ := HP.rest4
                have K4 := Lib.hid fun W (hl : Later wz W) => (hl.cell (p := ⟨gr, 4, none⟩) hgr4).trans xr4
                have hnr : nr ≤ 2048 := by have h9 := hrr.len; omega
                have xa4 : ∀ o : Obj, (wz.alloc o).cell? ⟨gr, 4, none⟩ = some (.slice Ar nr cr) := fun o => (World.cell?_alloc_lt _ o _ (by exact hgr4)).trans xr4
                have hmn3 : Hid ((if (60 : Int) < (n3 : Int) then (60 : Int) else (n3 : Int)) = (k3 : Int)) := by
                  show _ = _
                  rcases hk3 with ⟨h1, h2⟩ | ⟨h1, h2⟩
                  · rw [if_neg (by omega), h1]
                  · rw [if_pos (by omega), h1]; rfl
                have hk3c : (k3 : Int) ≤ (c3 : Int) := by omega
                have hk30 : (0 : Int) ≤ (k3 : Int) := by omega
                clear hk3
                go_wp2_with fail
                refine wp_region_early (S := fun w' => w'.cell? ⟨gr, 4, none⟩ = some (.slice Ar nr cr)) 16 (by kernel_rfl) (K4.out _ (by repeat (first | exact Later.refl _ | (with_reducible assumption) | apply Later.alloc | apply Later.drew | (refine Later.trans ?_ (by with_reducible assumption))))) (fun hHeld => ?_)
                refine wpAnyE_take (i := 0) (oi := ⟨some 117, Op.move (Operand.tmp 18), _, _, _, none⟩) (v := ?_) 0 [] rfl (by kernel_rfl) (by kernel_rfl) (by kernel_rfl) (by kernel_rfl) (by kernel_rfl) rfl (fun _ _ _ h => h) (Or.inl ⟨by rfl, ?_⟩) hHeld ?_
                rotate_left
                · intro w hSw
                  try dsimp only at hSw
                  go_simp
                  try with_reducible rfl
                try simp only [Act.put, List.setIfInBounds_toArray, List.set_cons_zero, List.set_cons_succ]
                refine wpAnyE_take (i := 2) (oi := ⟨some 119, Op.move (Operand.tmp 18), _, _, _, none⟩) (v := ?_) 2 [] rfl (by kernel_rfl) (by kernel_rfl) (by kernel_rfl) (by kernel_rfl) (by kernel_rfl) rfl (fun _ _ _ h => h) (Or.inl ⟨by rfl, ?_⟩) hHeld ?_
                rotate_left
                · intro w hSw
                  try dsimp only at hSw
                  go_simp
                  try with_reducible rfl
                try simp only [Act.put, List.setIfInBounds_toArray, List.set_cons_zero, List.set_cons_succ]
                refine wpAnyE_take (i := 3) (oi := ⟨some 120, Op.nilCheck (Operand.tmp 119), _, _, _, none⟩) (v := ?_) 3 [] rfl (by kernel_rfl) (by kernel_rfl) (by kernel_rfl) (by kernel_rfl) (by kernel_rfl) rfl (fun _ _ _ h => h) (Or.inl ⟨by rfl, ?_⟩) hHeld ?_
                rotate_left
                · intro w hSw
                  try dsimp only at hSw
                  go_simp
                  try with_reducible rfl
                try simp only [Act.put, List.setIfInBounds_toArray, List.set_cons_zero, List.set_cons_succ]
                refine wpAnyE_take (i := 4) (oi := ⟨some 121, Op.fieldAddr 40 (Operand.tmp 120) 4, _, _, _, none⟩) (v := ?_) 4 [] rfl (by kernel_rfl) (by kernel_rfl) (by kernel_rfl) (by kernel_rfl) (by kernel_rfl) rfl (fun _ _ _ h => h) (Or.inl ⟨by rfl, ?_⟩) hHeld ?_
                rotate_left
                · intro w hSw
                  try dsimp only at hSw
                  go_simp
                  try with_reducible rfl
                try simp only [Act.put, List.setIfInBounds_toArray, List.set_cons_zero, List.set_cons_succ]
                refine wpAnyE_take (i := 5) (oi := ⟨some 122, Op.load 22 (Operand.tmp 121), _, _, _, none⟩) (v := ?_) 5 [] rfl (by kernel_rfl) (by kernel_rfl) (by kernel_rfl) (by kernel_rfl) (by kernel_rfl) rfl (fun _ _ _ h => h) (Or.inl ⟨by rfl, ?_⟩) hHeld ?_
                rotate_left
                · intro w hSw
                  try dsimp only at hSw
                  go_simp
                  try with_reducible rfl
                try simp only [Act.put, List.setIfInBounds_toArray, List.set_cons_zero, List.set_cons_succ]
                refine wpAnyE_take (i := 7) (oi := ⟨some 124, Op.move (Operand.tmp 3), _, _, _, none⟩) (v := ?_) 7 [] rfl (by kernel_rfl) (by kernel_rfl) (by kernel_rfl) (by kernel_rfl) (by kernel_rfl) rfl (fun _ _ _ h => h) (Or.inl ⟨by rfl, ?_⟩) hHeld ?_
                rotate_left
                · intro w hSw
                  try dsimp only at hSw
                  go_simp
                  try with_reducible rfl
                try simp only [Act.put, List.setIfInBounds_toArray, List.set_cons_zero, List.set_cons_succ]
                refine wpAnyE_take (i := 8) (oi := ⟨some 125, Op.move (Operand.tmp 3), _, _, _, none⟩) (v := ?_) 8 [] rfl (by kernel_rfl) (by kernel_rfl) (by kernel_rfl) (by kernel_rfl) (by kernel_rfl) rfl (fun _ _ _ h => h) (Or.inl ⟨by rfl, ?_⟩) hHeld ?_
                rotate_left
                · intro w hSw
                  try dsimp only at hSw
                  go_simp
                  try with_reducible rfl
                try simp only [Act.put, List.setIfInBounds_toArray, List.set_cons_zero, List.set_cons_succ]
                refine wpAnyE_take (i := 9) (oi := ⟨some 126, Op.call { callee := Callee.builtin Builtin.len, args := #[Operand.tmp 125], argTypes := #[22] }, _, _, _, none⟩) (v := ?_) 9 [] rfl (by kernel_rfl) (by kernel_rfl) (by kernel_rfl) (by kernel_rfl) (by kernel_rfl) rfl (fun _ _ _ h => h) (Or.inl ⟨by rfl, ?_⟩) hHeld ?_
                rotate_left
                · intro w hSw
                  try dsimp only at hSw
                  go_simp
                  try with_reducible rfl
                try simp only [Act.put, List.setIfInBounds_toArray, List.set_cons_zero, List.set_cons_succ]
                refine wpAnyE_take (i := 10) (oi := ⟨some 127, Op.call { callee := Callee.builtin Builtin.min, args := #[Operand.tmp 126, Operand.const (Value.int IntKind.i64 60)], argTypes := #[3, 3] }, _, _, _, none⟩) (v := (.int .i64 (k3 : Int))) 10 [] rfl (by kernel_rfl) (by kernel_rfl) (by kernel_rfl) (by kernel_rfl) (by kernel_rfl) rfl (fun _ _ _ h => h) (yields_min rfl (.tmp 126) (.const (.int .i64 60)) _ rfl _ _ (k3 : Int) rfl rfl hmn3.out) hHeld ?_
                try simp only [Act.put, List.setIfInBounds_toArray, List.set_cons_zero, List.set_cons_succ]
                refine wpAnyE_take (i := 11) (oi := ⟨some 128, Op.slice 22 (Operand.tmp 124) none (some (Operand.tmp 127)) none, _, _, _, none⟩) (v := ?_) 11 [] rfl (by kernel_rfl) (by kernel_rfl) (by kernel_rfl) (by kernel_rfl) (by kernel_rfl) rfl (fun _ _ _ h => h) (Or.inl ⟨by rfl, ?_⟩) hHeld ?_
                rotate_left
                · intro w hSw
                  try dsimp only at hSw
                  go_simp
                  try with_reducible rfl
                try simp only [Act.put, List.setIfInBounds_toArray, List.set_cons_zero, List.set_cons_succ]
                refine wpAnyE_one (i := 1) (o := ⟨some 118, Op.buildSlice 22 0 #[], _, _, _, none⟩) (by kernel_rfl) rfl (fun K hK => ?_)
                go_simp
                refine hK.out _ _ (fun _ => K4.out _ (by repeat (first | exact Later.refl _ | (with_reducible assumption) | apply Later.alloc | apply Later.drew | (refine Later.trans ?_ (by with_reducible assumption))))) (fun hHeld => ?_)
                clear hK K
                replace hHeld := hHeld (by decide)
                try simp only [Act.put, List.setIfInBounds_toArray, List.set_cons_zero, List.set_cons_succ]
                refine wpAnyE_one (i := 6) (o := ⟨some 123, Op.call { callee := Callee.builtin Builtin.append, args := #[Operand.tmp 118, Operand.tmp 122], argTypes := #[22, 22] }, _, _, _, none⟩) (by kernel_rfl) rfl (fun K hK => ?_)
                refine step_append_b (o := ⟨some 123, _, _, _, _, _⟩) _ rfl (.tmp 118) (.tmp 122) rfl wz.heap.size _ 0 0 [] rfl ?_ wz.heap.size Ar nr cr sp.rest rfl ?_ ?_ ?_ ?_; (focus (refine OwnB.later (OwnB.made (Later.size ?_)) ?_; all_goals (repeat (first | exact Later.refl _ | (with_reducible assumption) | apply Later.alloc | apply Later.drew | (refine Later.trans ?_ (by with_reducible assumption)))))); (focus (refine RdB.later' hrr (Nat.le_refl _) ?_; repeat (first | exact Later.refl _ | (with_reducible assumption) | apply Later.alloc | apply Later.drew | (refine Later.trans ?_ (by with_reducible assumption))))); (focus omega); (focus (refine Later.size ?_; repeat (first | exact Later.refl _ | (with_reducible assumption) | apply Later.alloc | apply Later.drew | (refine Later.trans ?_ (by with_reducible assumption))))); intro A8 n8 c8 w8 hown8 hg8 hob8; have lt8 := Later.grown (w := wz) (by repeat (first | exact Later.refl _ | (with_reducible assumption) | apply Later.alloc | apply Later.drew | (refine Later.trans ?_ (by with_reducible assumption)))) hg8 (fun k hk => by have hk := Option.some.inj hk; first | exact Nat.le_of_eq hk | (rw [← hk]; exact Later.size (by repeat (first | exact Later.refl _ | (with_reducible assumption) | apply Later.alloc | apply Later.drew | (refine Later.trans ?_ (by with_reducible assumption)))))); have hc8 := K4.out w8 lt8
                refine hK.out _ _ (fun _ => K4.out _ (by repeat (first | exact Later.refl _ | (with_reducible assumption) | apply Later.alloc | apply Later.drew | (refine Later.trans ?_ (by with_reducible assumption))))) (fun hHeld => ?_)
                clear hK K
                replace hHeld := hHeld (by decide)
                try simp only [Act.put, List.setIfInBounds_toArray, List.set_cons_zero, List.set_cons_succ]
                refine wpAnyE_one (i := 12) (o := ⟨some 129, Op.call { callee := Callee.value (Operand.func 7), args := #[Operand.tmp 128], argTypes := #[22] }, _, _, _, none⟩) (by kernel_rfl) rfl (fun K hK => ?_)
                go_simp; go_at_call 7; (with_reducible refine (few_any A3 _ c3 lx _ (hrw.later (by repeat (first | exact Later.refl _ | (with_reducible assumption) | apply Later.alloc | apply Later.drew | (refine Later.trans ?_ (by with_reducible assumption))))) (by omega)).mono ?_); rintro e wq ⟨rfl, hlq, ltq⟩; have ltq : Later _ wq := ltq; have hcq := K4.out wq (by repeat (first | exact Later.refl _ | (with_reducible assumption) | apply Later.alloc | apply Later.drew | (refine Later.trans ?_ (by with_reducible assumption)))); have haq := fun o : Obj => K4.out (wq.alloc o) (by repeat (first | exact Later.refl _ | (with_reducible assumption) | apply Later.alloc | apply Later.drew | (refine Later.trans ?_ (by with_reducible assumption))))
                refine hK.out _ _ (fun _ => K4.out _ (by repeat (first | exact Later.refl _ | (with_reducible assumption) | apply Later.alloc | apply Later.drew | (refine Later.trans ?_ (by with_reducible assumption))))) (fun hHeld => ?_)
                clear hK K
                replace hHeld := hHeld (by decide)
                try simp only [Act.put, List.setIfInBounds_toArray, List.set_cons_zero, List.set_cons_succ]
                refine wpAnyE_one (i := 13) (o := ⟨some 130, Op.call { callee := Callee.builtin Builtin.append, args := #[Operand.tmp 123, Operand.tmp 129], argTypes := #[22, 22] }, _, _, _, none⟩) (by kernel_rfl) rfl (fun K hK => ?_)
                refine step_append_b (o := ⟨some 130, _, _, _, _, _⟩) _ rfl (.tmp 123) (.tmp 129) rfl wz.heap.size A8 n8 c8 ([] ++ sp.rest) rfl ?_ wq.heap.size _ _ _ (fewB lx) rfl ?_ ?_ ?_ ?_; (focus (refine OwnB.later hown8 ?_; repeat (first | exact Later.refl _ | (with_reducible assumption) | apply Later.alloc | apply Later.drew | (refine Later.trans ?_ (by with_reducible assumption))))); (focus (refine RdB.later' hlq (Nat.le_refl _) ?_; repeat (first | exact Later.refl _ | (with_reducible assumption) | apply Later.alloc | apply Later.drew | (refine Later.trans ?_ (by with_reducible assumption))))); (focus (exact (by have h9 := hown8.len; have h8 := hrr.len; simp only [List.nil_append] at h9; omega))); (focus (refine Later.size ?_; repeat (first | exact Later.refl _ | (with_reducible assumption) | apply Later.alloc | apply Later.drew | (refine Later.trans ?_ (by with_reducible assumption))))); intro A9 n9 c9 w9 hown9 hg9 hob9; have lt9 := Later.grown (w := wz) (by repeat (first | exact Later.refl _ | (with_reducible assumption) | apply Later.alloc | apply Later.drew | (refine Later.trans ?_ (by with_reducible assumption)))) hg9 (fun k hk => (hown8.lt k hk).1); have hfin := HP.rfeed lt9 hown9; obtain ⟨uu9, hcf⟩ := hfin.1; have hff := hfin.2.1
                refine hK.out _ _ (fun _ => K4.out _ (by repeat (first | exact Later.refl _ | (with_reducible assumption) | apply Later.alloc | apply Later.drew | (refine Later.trans ?_ (by with_reducible assumption))))) (fun hHeld => ?_)
                clear hK K
                replace hHeld := hHeld (by decide)
                try simp only [Act.put, List.setIfInBounds_toArray, List.set_cons_zero, List.set_cons_succ]
                refine wpAnyE_take (i := 14) (oi := ⟨some 131, Op.nilCheck (Operand.tmp 117), _, _, _, none⟩) (v := ?_) 15 [14] rfl (by kernel_rfl) (by kernel_rfl) (by kernel_rfl) (by kernel_rfl) (by kernel_rfl) rfl (fun _ _ _ h => h) (Or.inl ⟨by rfl, ?_⟩) hHeld ?_
                rotate_left
                · intro w hSw
                  try dsimp only at hSw
                  go_simp
                  try with_reducible rfl
                try simp only [Act.put, List.setIfInBounds_toArray, List.set_cons_zero, List.set_cons_succ]
                refine wpAnyE_take (i := 15) (oi := ⟨some 132, Op.fieldAddr 40 (Operand.tmp 131) 4, _, _, _, none⟩) (v := ?_) 15 [] rfl (by kernel_rfl) (by kernel_rfl) (by kernel_rfl) (by kernel_rfl) (by kernel_rfl) rfl (fun _ _ _ h => h) (Or.inl ⟨by rfl, ?_⟩) hHeld ?_
                rotate_left
                · intro w hSw
                  try dsimp only at hSw
                  go_simp
                  try with_reducible rfl
                try simp only [Act.put, List.setIfInBounds_toArray, List.set_cons_zero, List.set_cons_succ]
                refine wpAnyE_one (i := 16) (o := ⟨none, Op.store 22 (Operand.tmp 132) (Operand.tmp 130), _, _, _, none⟩) (by kernel_rfl) rfl (fun K hK => ?_)
                go_simp
                refine hK.out _ _ (fun h => absurd rfl h) (fun hHeld => ?_)
                clear hK K
                try simp only [Act.put, List.setIfInBounds_toArray, List.set_cons_zero, List.set_cons_succ]
                refine wpAnyE_done (by kernel_rfl) ?_ _
                go_wp2_with fail
                go_meet
                have h9 := hfin.2.2
                rw [List.nil_append] at h9
                exact h9
              case rest =>
                clear HP hk3
                have HP := hcut
                clear hcut
                obtain ⟨sq, hsq⟩ : ∃ sq, sq = sp.feed (fewB lx) := ⟨_, rfl⟩
                have hsql : sq.rest.length ≤ 2200 := by
                  rw [hsq]
                  show (sp.rest ++ fewB lx).length ≤ _
                  unfold fewB
                  rw [List.length_append, List.length_map]
                  omega
                rw [← hsq] at HP
                clear hsq
                go_wp2_with fail
                go_loopw [20] (fun v wr => ∃ (j : Nat) (s : Sp), v = .int .i64 (j : Int) ∧ j ≤ 100 ∧ Pr (fun _ => False) w0.heap.size w0 wr g s gr s ∧ s.rest.length ≤ 2200) (fun v _ => 100 - (intOf v).toNat)
                case atStart => exact ⟨0, sq, rfl, by omega, HP, hsql⟩
                case round =>
                  clear HP
                  obtain ⟨j, s, rfl, hj, HP, hrl⟩ := hrel
                  by_cases hgo : j < 100
                  · have hgoi : (j : Int) < 100 := by omega
                    obtain ⟨o, s1, hos⟩ : ∃ o s1, Hid (s.next sep = (o, s1)) := ⟨_, _, rfl⟩
                    have hl1 : s1.rest.length ≤ s.rest.length := by have h9 := s.next_len sep; rw [hos.out] at h9; exact h9
                    have HF := Lib.hid (HP.next_ sep (by omega))
                    rw [hos.out] at HF
                    clear HP
                    go_wp2_with fail
                    refine HF.out.mono ?_
                    rintro e w6 ⟨rfl, hP6, _, _⟩
                    have HG := Lib.hid (hP6.rnext_ sep (by omega))
                    rw [hos.out] at HG
                    clear HF hP6
                    cases o with
                    | some x =>
                      have hss : ((bstr x).toList != (bstr x).toList) = false := by rw [bne_eq_false_iff_eq]
                      have hbb : (true != true) = false := rfl
                      go_wp2_with fail
                      refine HG.out.mono ?_
                      rintro e w7 ⟨rfl, hP7, _, _⟩
                      clear HG
                      go_wp2_with fail
                      go_roundw
                      case rel => exact ⟨j + 1, s1, by go_num, by omega, hP7, by omega⟩
                      case measure => simp [intOf]; omega
                    | none =>
                      have hss : ((bstr []).toList != (bstr []).toList) = false := by rw [bne_eq_false_iff_eq]
                      have hbb : (false != false) = false := rfl
                      obtain ⟨o2, s2, hos2⟩ : ∃ o2 s2, Hid (s1.last sep = (o2, s2)) := ⟨_, _, rfl⟩
                      have hs2 := seq_true (rfl : o2.getD [] = o2.getD [])
                      have hb2 : (o2.isSome == o2.isSome) = true := beq_self_eq_true _
                      go_wp2_with fail
                      refine HG.out.mono ?_
                      rintro e w7 ⟨rfl, hP7, _, _⟩
                      have HF2 := Lib.hid (hP7.last_ sep (by omega))
                      rw [hos2.out] at HF2
                      clear HG hP7
                      go_wp2_with fail
                      refine HF2.out.mono ?_
                      rintro e w8 ⟨rfl, hP8, _, _⟩
                      have HG2 := Lib.hid (hP8.rlast_ sep (by omega))
                      rw [hos2.out] at HG2
                      clear HF2 hP8
                      go_wp2_with fail
                      refine HG2.out.mono ?_
                      rintro e w9 ⟨rfl, hP9, _, _⟩
                      clear HG2
                      go_wp2_with fail
                      go_ret
                      exact ⟨rfl, hP9.2.1⟩
                  · obtain rfl : j = 100 := by omega
                    go_wp2_with fail
                    go_ret
                    exact ⟨rfl, HP.2.1⟩

end Go.Proofs.YtkpckmdakiminaaDoor
