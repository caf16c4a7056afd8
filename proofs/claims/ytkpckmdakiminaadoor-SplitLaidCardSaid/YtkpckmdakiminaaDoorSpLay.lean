/-
  Lay of a splitter, the program's and the document's: the same bytes.
-/
import Derived.Test.YtkpckmdakiminaaDoorRefNext
import Derived.Test.YtkpckmdakiminaaDoorRefNm
import Derived.Test.YtkpckmdakiminaaDoorCalls
import Derived.Test.YtkpckmdakiminaaDoorLater
import Derived.Deep.RegionHeldLaw
import Derived.Laws.BitsAllLaws
namespace Go.Proofs.YtkpckmdakiminaaDoor
open Go.RowKit

theorem WrOk.later {w w' : World} {base g : Nat} {R : Option Nat} {l : List UInt8} (h : WrOk w base g R l) (hl : Later w w') : WrOk w' base g R l := h.fr (Fr.of_below hl) (fun k hk => by have := (h.lt k hk).2; omega)
theorem SqOk.later {w w' : World} {base g : Nat} {R1 R2 : Option Nat} {s : Sp} (h : SqOk w base g R1 R2 s) (hl : Later w w') : SqOk w' base g R1 R2 s := h.below hl (Nat.le_refl _)
def textB (l : List UInt8) : List UInt8 := nm l.length ++ l
def flagN (s : Sp) : Nat := s.over.toNat + 2 * s.wait.toNat
/-- a splitter's bytes -/
def Sp.lay (s : Sp) : List UInt8 := textB s.got ++ [byt (flagN s : Int)] ++ textB s.rest
theorem textB_len (l : List UInt8) : (textB l).length ≤ l.length + 10 := by
  have := nm_len l.length
  unfold textB; rw [List.length_append]; omega
theorem bstr_size (l : List UInt8) : (bstr l).size = l.length := by show l.toArray.size = _; simp

set_option maxRecDepth 100000 in
set_option maxHeartbeats 1000000 in
theorem refLast_any (rs : List UInt8) (w : World) (base g : Nat) (R1 R2 : Option Nat) (s : Sp) (h : SqOk w base g R1 R2 s) (hbase : base ≤ w.heap.size) (hrl : s.rest.length < 140737488355328) :
    Calls Tryd.prog 17 #[.pointer (some ⟨g, 0, none⟩), .string (bstr rs)] w (Nextq w base g R1 R2 (s.last rs)) := by
  have HN := Lib.hid (refNext_any rs w base g R1 R2 s h hbase hrl)
  clear h hrl
  obtain ⟨o, s1, hx⟩ : ∃ o s1, (o, s1) = s.next rs := ⟨_, _, rfl⟩
  have HX := Lib.hid hx
  rw [← hx] at HN
  clear hx
  go_enter Tryd.func17, Tryd.ntmps17
  go_wp2_with fail
  refine HN.out.mono ?_
  rintro e w1 ⟨rfl, hw1⟩
  cases o with
  | some r =>
    have hl : Hid (s.last rs = (some r, s1)) := by
      show _ = _
      unfold Sp.last
      rw [← HX.out]
    go_wp2_with fail
    go_ret2
    exact nextq_some hl.out hw1
  | none =>
    have hl0 : Hid (s.last rs = if s1.got = [] ∧ s1.over = false then (none, s1) else (some s1.got, s1.take)) := by
      show _ = _
      unfold Sp.last
      rw [← HX.out]
    obtain ⟨R1', R2', hs, hf, n1, n2⟩ := hw1
    obtain ⟨A, n, c, A2, n2', c2, hA, hA2, h1, h2, x0, x1, x2, x3, x4, hfz⟩ := hs.cells
    have hln : s1.got.length = n := h1.len
    have HS := Lib.hid hs
    clear hs hA hA2 h1 h2 x0 x3 x4 hfz
    by_cases hn : n = 0
    · subst hn
      have hg0 : s1.got = [] := List.length_eq_zero_iff.1 hln
      cases hov : s1.over with
      | false =>
        have hl : Hid (s.last rs = (none, s1)) := by have := hl0.out; rw [if_pos ⟨hg0, hov⟩] at this; exact this
        rw [hov] at x2
        clear hl0 hov hg0 hln
        go_wp2_with fail
        go_ret2
        exact nextq_none hl.out ⟨_, _, HS.out, hf, n1, n2⟩
      | true =>
        have hl : Hid (s.last rs = (some s1.got, s1.take)) := by have := hl0.out; rw [if_neg (by rw [hov]; simp)] at this; exact this
        rw [hov] at x2
        clear hl0 hov hg0 hln
        go_wp2_with fail
        refine (ends_any w1 base g R1' R2' s1 HS.out).mono ?_
        rintro e w2 ⟨rfl, hw2⟩
        go_wp2_with fail
        go_ret2
        exact nextq_some hl.out (Wenq.comp hf n1 n2 hw2)
    · have hne : ((n : Int) == 0) = false := beq_eq_false_iff_ne.2 (by omega)
      have hl : Hid (s.last rs = (some s1.got, s1.take)) := by
        have := hl0.out
        rw [if_neg (fun q => hn (by rw [← hln, q.1]; rfl))] at this
        exact this
      clear hl0 hln
      go_wp2_with fail
      refine (ends_any w1 base g R1' R2' s1 HS.out).mono ?_
      rintro e w2 ⟨rfl, hw2⟩
      go_wp2_with fail
      go_ret2
      exact nextq_some hl.out (Wenq.comp hf n1 n2 hw2)

set_option maxRecDepth 100000 in
set_option maxHeartbeats 1000000 in
theorem refLay_any (w : World) (base g : Nat) (R1 R2 : Option Nat) (s : Sp) (h : SqOk w base g R1 R2 s) (hrl : s.rest.length ≤ 1000000000) :
    Calls Tryd.prog 21 #[.pointer (some ⟨g, 0, none⟩)] w (Made w s.lay) := by
  have hm := h.2.2.2.1
  have hgm := h.2.2.1
  have hg9 : g < w.heap.size := (h.lt g (.inl rfl)).2
  obtain ⟨A, n, c, A2, n2, c2, hA, hA2, h1, h2, x0, x1, x2, x3, x4, hfz⟩ := h.cells
  have K1 := Lib.hid fun W (hl : Later w W) => run_str (c := c) (h1.rd.later hl)
  have K2 := Lib.hid fun W (hl : Later w W) => run_str (c := c2) (h2.rd.later hl)
  have K3 := Lib.hid fun W (hl : Later w W) => (hl.cell (p := ⟨g, 1, none⟩) hg9).trans x1
  have K4 := Lib.hid fun W (hl : Later w W) => (hl.cell (p := ⟨g, 4, none⟩) hg9).trans x4
  have hgl : s.got.length ≤ 200 := by omega
  clear h hA hA2 hfz x0 h1 h2
  have hx2 := Lib.hid x2
  have hx3 := Lib.hid x3
  clear x2 x3
  go_enter Tryd.func21, Tryd.ntmps21
  go_upto_region 2 with fail
  have x2 := hx2.out
  go_upto_if 7 with (fail)
  go_cut [3] (fun v wx => v = .int .u8 (s.over.toNat : Int) ∧ wx = w)
  case first =>
    cases hov : s.over
    all_goals
      rw [hov] at x2
      have HOV := Lib.hid hov
      clear hov
      go_wp2_with fail
      go_meet
      exact ⟨by rw [HOV.out]; rfl, rfl⟩
  case rest =>
    obtain ⟨rfl, hwc⟩ := hcut
    subst hwc
    have x3 := hx3.out
    go_upto_if 11 with (fail)
    go_cut [3] (fun v wx => v = .int .u8 (flagN s : Int) ∧ wx = wc)
    case first =>
      obtain ⟨o, ho⟩ : ∃ o : Nat, Hid (s.over.toNat = o) := ⟨_, rfl⟩
      have ho1 : o ≤ 1 := by rw [← ho.out]; cases s.over <;> decide
      rw [ho.out]
      cases hwt : s.wait
      all_goals
        rw [hwt] at x3
        have hf : Hid (flagN s = o + 2 * s.wait.toNat) := by show _ = _; unfold flagN; rw [ho.out]
        rw [hwt] at hf
        clear hwt
        go_wp2_with fail
        go_meet
        exact ⟨by rw [hf.out]; first | rfl | go_num, rfl⟩
    case rest =>
      obtain ⟨rfl, hwc⟩ := hcut
      subst hwc
      have hf4 : flagN s < 256 := by unfold flagN; have := s.over.toNat_le; have := s.wait.toNat_le; omega
      have hf0 : (0 : Int) ≤ (flagN s : Int) := by omega
      have hf1 : (flagN s : Int) < 256 := by omega
      have q1 := K1.out wc (Later.refl _)
      have q2 := K2.out wc (Later.refl _)
      go_wp2_with fail
      go_region_held_law (fun w' => w'.cell? ⟨g, 1, none⟩ = some (.slice A n c) ∧ w'.cell? ⟨g, 4, none⟩ = some (.slice A2 n2 c2) ∧ (convert 22 9 (.slice A n c)).run Tryd.prog w' = .ok (.string (bstr s.got)) w' ∧ (convert 22 9 (.slice A2 n2 c2)).run Tryd.prog w' = .ok (.string (bstr s.rest)) w')
        (exact ⟨K3.out _ (by repeat (first | exact Later.refl _ | (with_reducible assumption) | apply Later.alloc | apply Later.drew | (refine Later.trans ?_ (by with_reducible assumption)))), K4.out _ (by repeat (first | exact Later.refl _ | (with_reducible assumption) | apply Later.alloc | apply Later.drew | (refine Later.trans ?_ (by with_reducible assumption)))), K1.out _ (by repeat (first | exact Later.refl _ | (with_reducible assumption) | apply Later.alloc | apply Later.drew | (refine Later.trans ?_ (by with_reducible assumption)))), K2.out _ (by repeat (first | exact Later.refl _ | (with_reducible assumption) | apply Later.alloc | apply Later.drew | (refine Later.trans ?_ (by with_reducible assumption))))⟩)
        (first
          | (go_at_call 23; (with_reducible refine (refText_any (bstr s.got) (by rw [bstr_size]; omega) _).mono ?_); go_loud (rintro e wt1 ⟨At1, nt1, ct1, rfl, hT1o, lt1⟩; have lt1 : Later _ wt1 := lt1; have hnt1 : nt1 ≤ 300 := (by have h9 := hT1o.len; have h8 := nm_len (bstr s.got).size; rw [List.length_append] at h9; have h7 : (bstr s.got).data.toList.length = s.got.length := rfl; omega); have hT1 := hT1o.base_le (B := wc.heap.size) (fun k _ hk => Nat.le_trans (Later.size (by repeat (first | exact Later.refl _ | (with_reducible assumption) | apply Later.alloc | apply Later.drew | (refine Later.trans ?_ (by with_reducible assumption))))) hk)))
          | (go_at_call 23; (with_reducible refine (refText_any (bstr s.rest) (by rw [bstr_size]; omega) _).mono ?_); go_loud (rintro e wt2 ⟨At2, nt2, ct2, rfl, hT2o, lt2⟩; have lt2 : Later _ wt2 := lt2; have hnt2 : nt2 ≤ 2000000000 := (by have h9 := hT2o.len; have h8 := nm_len (bstr s.rest).size; rw [List.length_append] at h9; have h7 : (bstr s.rest).data.toList.length = s.rest.length := rfl; omega); have hT2 := hT2o.rd))
          | (refine step_append_b (o := ⟨some 22, _, _, _, _, _⟩) _ rfl (.tmp 19) (.tmp 21) rfl wc.heap.size At1 nt1 ct1 _ rfl (hT1.later (by repeat (first | exact Later.refl _ | (with_reducible assumption) | apply Later.alloc | apply Later.drew | (refine Later.trans ?_ (by with_reducible assumption))))) _ _ 1 1 _ rfl (later_lit hf0 hf1 (by repeat (first | exact Later.refl _ | (with_reducible assumption) | apply Later.alloc | apply Later.drew | (refine Later.trans ?_ (by with_reducible assumption))))) (by omega) (Later.size (by repeat (first | exact Later.refl _ | (with_reducible assumption) | apply Later.alloc | apply Later.drew | (refine Later.trans ?_ (by with_reducible assumption))))) ?_; intro A5 n5 c5 wa hown5 hg5 hob5; have hn5 : n5 ≤ 301 := (by have h9 := hown5.len; have h8 := hT1.len; rw [List.length_append, h8] at h9; simp only [List.length_singleton] at h9; omega); have lta := Later.grown (w := wc) (by repeat (first | exact Later.refl _ | (with_reducible assumption) | apply Later.alloc | apply Later.drew | (refine Later.trans ?_ (by with_reducible assumption)))) hg5 (fun k hk => (hT1.lt k hk).1); try (have hT2 := ((hT2o.later (by repeat (first | exact Later.refl _ | (with_reducible assumption) | apply Later.alloc | apply Later.drew | (refine Later.trans ?_ (by with_reducible assumption))))).kept hg5 (by first | exact own_apart hT1o hT2o (Later.size (by repeat (first | exact Later.refl _ | (with_reducible assumption) | apply Later.alloc | apply Later.drew | (refine Later.trans ?_ (by with_reducible assumption))))) | exact own_apart' hT1o hT2o (Later.size (by repeat (first | exact Later.refl _ | (with_reducible assumption) | apply Later.alloc | apply Later.drew | (refine Later.trans ?_ (by with_reducible assumption))))))).rd))
          | (refine step_append_b (o := ⟨some 29, _, _, _, _, _⟩) _ rfl (.tmp 22) (.tmp 28) rfl wc.heap.size A5 n5 c5 _ rfl (hown5.later (by repeat (first | exact Later.refl _ | (with_reducible assumption) | apply Later.alloc | apply Later.drew | (refine Later.trans ?_ (by with_reducible assumption))))) _ At2 nt2 ct2 _ rfl (hT2.later (by repeat (first | exact Later.refl _ | (with_reducible assumption) | apply Later.alloc | apply Later.drew | (refine Later.trans ?_ (by with_reducible assumption))))) (by omega) (Later.size (by repeat (first | exact Later.refl _ | (with_reducible assumption) | apply Later.alloc | apply Later.drew | (refine Later.trans ?_ (by with_reducible assumption))))) ?_; intro A6 n6 c6 wb hown6 hg6 hob6; have ltb := Later.grown (w := wc) (by repeat (first | exact Later.refl _ | (with_reducible assumption) | apply Later.alloc | apply Later.drew | (refine Later.trans ?_ (by with_reducible assumption)))) hg6 (fun k hk => (hown5.lt k hk).1)))
      all_goals
        go_wp2_with fail
        go_ret
        exact ⟨_, _, _, rfl, hown6, ltb⟩


set_option maxRecDepth 100000 in
set_option maxHeartbeats 2000000 in
theorem spLay_any (w : World) (base g : Nat) (R1 R2 : Option Nat) (s : Sp) (h : SpOk w base g R1 R2 s) (bw gw : Nat) (Rw : Option Nat) (l : List UInt8) (hw : WrOk w bw gw Rw l) (hbw : bw ≤ w.heap.size) (hd : ∀ k, WrIn gw Rw k → ¬ SpIn g R1 R2 k)
    (hl : l.length + s.rest.length ≤ 1000000000) :
    Calls Tryd.prog 19 #[.pointer (some ⟨g, 0, none⟩), .pointer (some ⟨gw, 0, none⟩)] w fun e w' => e = .returned (.tuple #[]) ∧ Laid w bw gw Rw (l ++ s.lay) w' := by
  have hm := h.2.2.2.1
  have hgm := h.2.2.1
  have H := Lib.hid h
  obtain ⟨A, n, c, A2, n2, c2, hA, hA2, h1, h2, x0, x1, x2, x3, x4, hfz⟩ := h.cells
  have k1 := run_str (c := c) h1.rd
  clear h hA hA2 hfz x0 h1 h2 x2 x3 x4
  go_enter Tryd.func19, Tryd.ntmps19
  go_wp2_with fail
  refine (writer_text (bstr s.got) w bw gw Rw l hw (by rw [bstr_size]; omega) hbw).mono ?_
  rintro e w1 ⟨rfl, Rw1, hw1, hf1, hR1⟩
  have hs1 := H.out.fr hf1 (fun k hk hin => hd k hin hk)
  have hbw1 : bw ≤ w1.heap.size := Nat.le_trans hbw hf1.size
  obtain ⟨A, n, c, A2, n2, c2, hA, hA2, h1, h2, x0, x1, x2, x3, x4, hfz⟩ := hs1.cells
  have HS1 := Lib.hid hs1
  clear hs1 hA hA2 hfz x0 x1 x4 h1 h2 k1
  have HX2 := Lib.hid x2
  have HX3 := Lib.hid x3
  clear x2 x3
  go_upto_region 2 with fail
  have x2 := HX2.out
  go_upto_if 15 with (fail)
  go_cut [4] (fun v wx => v = .int .u8 (s.over.toNat : Int) ∧ wx = w1)
  case first =>
    have e1 : bits BinOp.or IntKind.u8 0 1 = 1 := by decide +kernel
    cases hov : s.over
    all_goals
      rw [hov] at x2
      have HOV := Lib.hid hov
      clear hov
      go_wp2_with fail
      go_meet
      exact ⟨by rw [HOV.out]; rfl, rfl⟩
  case rest =>
    obtain ⟨rfl, hwc⟩ := hcut
    subst hwc
    have x3 := HX3.out
    go_upto_if 21 with (fail)
    go_cut [4] (fun v wx => v = .int .u8 (flagN s : Int) ∧ wx = wc)
    case first =>
      have hf : flagN s = s.over.toNat + 2 * s.wait.toNat := rfl
      have HF := Lib.hid hf
      clear hf
      have e1 : bits BinOp.or IntKind.u8 0 2 = 2 := by decide +kernel
      have e2 : bits BinOp.or IntKind.u8 1 2 = 3 := by decide +kernel
      cases hov : s.over
      all_goals
        have HOV := Lib.hid hov
        rw [hov] at HF
        simp only [Bool.toNat_false, Bool.toNat_true] at HF ⊢
        clear hov
        cases hwt : s.wait
        all_goals
          rw [hwt] at x3 HF
          clear hwt
          go_wp2_with fail
          go_meet
          exact ⟨by rw [HF.out]; rfl, rfl⟩
    case rest =>
      obtain ⟨rfl, hwc⟩ := hcut
      subst hwc
      have hf4 : flagN s < 256 := by unfold flagN; have := s.over.toNat_le; have := s.wait.toNat_le; omega
      have hf0 : (0 : Int) ≤ (flagN s : Int) := by omega
      have hf1' : (flagN s : Int) < 256 := by omega
      have hll : (l ++ nm (bstr s.got).size ++ (bstr s.got).data.toList).length ≤ l.length + 210 := by
        have h8 := nm_len (bstr s.got).size
        have h7 : (bstr s.got).data.toList.length = s.got.length := rfl
        rw [List.length_append, List.length_append]
        omega
      obtain ⟨L1, hL1⟩ : ∃ L1, Hid (l ++ nm (bstr s.got).size ++ (bstr s.got).data.toList = L1) := ⟨_, rfl⟩
      rw [hL1.out] at hw1 hll
      go_wp2_with fail
      refine (writer_byte (flagN s : Int) hf0 hf1' wc bw gw Rw1 _ hw1 (by omega) hbw1).mono ?_
      rintro e w2 ⟨rfl, Rw2, hw2, hf2, hR2⟩
      have hd1 : ∀ k, WrIn gw Rw1 k → ¬ SpIn g R1 R2 k := by
        rintro k hk hin
        have hlt := (H.out.lt k hin).2
        refine hd k ?_ hin
        rcases hk with rfl | hk
        · exact .inl rfl
        · rcases hR1 with rfl | ⟨j, e, hj⟩
          · exact .inr hk
          · rw [e] at hk; injection hk with hk; omega
      have hs2 := HS1.out.fr hf2 (fun k hk hin => hd1 k hin hk)
      have hbw2 : bw ≤ w2.heap.size := Nat.le_trans hbw1 hf2.size
      obtain ⟨A, n, c, A2, n2, c2, hA, hA2, h1, h2, x0, x1, x2, x3, x4, hfz⟩ := hs2.cells
      have k2 := run_str (c := c2) h2.rd
      clear hs2 hA hA2 hfz x0 x1 x2 x3 h1 h2
      go_wp2_with fail
      refine (writer_text (bstr s.rest) w2 bw gw Rw2 _ hw2 (by rw [bstr_size, List.length_append]; simp only [List.length_singleton]; omega) hbw2).mono ?_
      rintro e w3 ⟨rfl, hw3⟩
      go_wp2_with fail
      go_end0
      refine ⟨rfl, ?_⟩
      have := Laid.then_ hf1 hR1 (Laid.then_ hf2 hR2 hw3)
      have e : L1 ++ [byt (flagN s : Int)] ++ nm (bstr s.rest).size ++ (bstr s.rest).data.toList = l ++ s.lay := by
        rw [← hL1.out]
        show _ = l ++ ((nm s.got.length ++ s.got) ++ [byt (flagN s : Int)] ++ (nm s.rest.length ++ s.rest))
        simp only [List.append_assoc]
        rfl
      rwa [e] at this

end Go.Proofs.YtkpckmdakiminaaDoor
