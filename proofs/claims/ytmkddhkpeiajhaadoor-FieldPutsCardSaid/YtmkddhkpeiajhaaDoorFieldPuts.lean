/-
  FieldPuts: what is put is got, the others stay, those between are there, empty, and the text is all of them with what stands between.
-/
import Derived.Test.YtmkddhkpeiajhaaDoorFieldKn
import Derived.Test.YtmkddhkpeiajhaaDoorRecAll
import Derived.Test.YtmkddhkpeiajhaaDoorLetters
import Derived.Test.YtmkddhkpeiajhaaDoorPick
namespace Go.Proofs.YtmkddhkpeiajhaaDoor
open Go.RowKit

theorem later_frz {w w1 w2 : World} {g : Nat} (h : Later w w1) (hf : Fr w1 w2 (fun k => k = g)) (hg : w.heap.size ≤ g) : Later w w2 :=
  ⟨hf.os.trans h.os, hf.tape.trans h.tape, hf.output.trans h.output, Nat.le_trans h.size hf.size, fun k hk => (hf.block k (Nat.lt_of_lt_of_le hk h.size) (by show ¬ k = g; omega)).trans (h.block k hk)⟩
theorem RcOk.lt {w : World} {g : Nat} {T : List UInt8} {ss : List (List UInt8)} (h : RcOk w g T ss) : g < w.heap.size := by
  obtain ⟨_, _, _, hB, _, _⟩ := h
  exact hB.lt
theorem bstr_appz (a b : List UInt8) : bstr a ++ bstr b = bstr (a ++ b) := by
  apply ByteArray.ext
  simp [bstr]

set_option maxRecDepth 100000 in
set_option maxHeartbeats 16000000 in
theorem fieldPuts_any (A1 : Option Addr) (n1 c1 : Nat) (l1 : List UInt8) (A2 : Option Addr) (n2 c2 : Nat) (l2 : List UInt8) (k : Int) (w : World) (hm : MaxL w) (hr1 : RdB w w.heap.size A1 n1 l1) (hr2 : RdB w w.heap.size A2 n2 l2) (hn1 : n1 ≤ 9223372036854775807) (hn2 : n2 ≤ 9223372036854775807) :
    Calls Tryd.prog 4 #[.slice A1 n1 c1, .slice A2 n2 c2, .int .i64 k] w fun e w' => e = .returned (.bool true) ∧ Later w w' := by
  obtain ⟨L, hL⟩ : ∃ L, L = lettersF l1 30 := ⟨_, rfl⟩
  obtain ⟨x, hx⟩ : ∃ x, x = lettersF l2 8 := ⟨_, rfl⟩
  have hLl : L.length ≤ 30 := by rw [hL]; exact letters_len l1 30
  have hxl : x.length ≤ 8 := by rw [hx]; exact letters_len l2 8
  have hc1 : Calls Tryd.prog 8 #[.slice A1 n1 c1, .int .i64 30] w fun e w' => e = .returned (.string (bstr L)) ∧ Later w w' := by rw [hL]; exact letters_any A1 n1 c1 30 l1 w hr1 (by omega) hn1
  have hc2 : ∀ wx, Later w wx → Calls Tryd.prog 8 #[.slice A2 n2 c2, .int .i64 8] wx fun e w' => e = .returned (.string (bstr x)) ∧ Later wx w' := fun wx hl => by rw [hx]; exact letters_any A2 n2 c2 8 l2 wx ((hr2.later' (Nat.le_refl _) hl).more hl.size) (by omega) hn2
  obtain ⟨p, hp, hp1⟩ := pick_nat k 12 (by omega)
  have hwt := words_tot L
  have HC1 := Lib.hid hc1
  have HC2 := Lib.hid hc2
  have HM := Lib.hid hm
  clear hc1 hc2 hr1 hr2 hL hx hm
  obtain ⟨W, hW⟩ : ∃ W, W = wordsF L := ⟨_, rfl⟩
  rw [← hW] at hwt
  have hst : ∀ (g : Nat) (wx : World), RcOk wx g [] [] → Calls Tryd.prog 11 #[.pointer (some ⟨g, 0, none⟩), .string (bstr L), .string ⟨#[32]⟩] wx fun e w' => e = .returned (.int .i64 0) ∧ RcOk w' g L W ∧ Fr wx w' (fun k => k = g) := fun g wx h => by rw [hW]; exact recSet_any g [] [] L wx h (by omega) (by rw [← hW]; omega)
  obtain ⟨P, hP⟩ : ∃ P, P = putL W p x := ⟨_, rfl⟩
  have hPl : P.length = max (p + 1) W.length := by rw [hP, putL_len]
  have hjl : (Lib.join P [59]).length ≤ 100 := by
    have h1 := join_len 59 P
    have h2 := tot_put W p x
    rw [← hP] at h2
    omega
  have hpt : ∀ (g : Nat) (wx : World), RcOk wx g L W → g < wx.heap.size → Calls Tryd.prog 14 #[.pointer (some ⟨g, 0, none⟩), .int .i64 ((p : Int) + 1), .string (bstr x), .string ⟨#[59]⟩] wx fun e w' => e = .returned (.int .i64 0) ∧ RcOk w' g (Lib.join P [59]) P ∧ Fr wx w' (fun k => k = g) := fun g wx h hg => by rw [hP]; exact recPut_any g p L x W [59] wx h hg (by omega) (by omega) (by omega) (by rw [← hP]; omega)
  have hat : ∀ j, j < P.length → P[j]? = some (if j = p then x else (W[j]?).getD []) := fun j hj => by rw [hP]; exact put_at W p j x (by omega)
  have HST := Lib.hid hst
  have HPT := Lib.hid hpt
  have HAT := Lib.hid hat
  have HPL := Lib.hid hPl
  have HJL := Lib.hid hjl
  have HWT := Lib.hid hwt
  have hWl : W.length ≤ 31 := by omega
  clear hst hpt hat hPl hjl hP hW hwt
  go_enter Tryd.func4, Tryd.ntmps4
  go_wp2_with fail
  refine HC1.out.mono ?_
  rintro e w1 ⟨rfl, hl1⟩
  go_wp2_with fail
  refine (HC2.out _ hl1).mono ?_
  rintro e w2 ⟨rfl, hl2⟩
  go_wp2_with fail
  refine (pick_at k 12 p _ (by omega) (by omega) hp).mono ?_
  rintro e w3 ⟨rfl, rfl⟩
  have hpi : (1 : Int) + (p : Int) = (p : Int) + 1 := by omega
  go_wp2_with fail
  refine (recNew_any _).mono ?_
  rintro e w4 ⟨rfl, hrc, hl4⟩
  obtain ⟨g, hg⟩ : ∃ g, g = w2.heap.size := ⟨_, rfl⟩
  rw [← hg] at hrc ⊢
  have HL4 : Hid (Later w w4) := hl1.trans (hl2.trans hl4)
  have hgw : w.heap.size ≤ g := by rw [hg]; exact (hl1.trans hl2).size
  have HRC := Lib.hid hrc
  clear hg hl1 hl2 hl4 hrc hp
  go_wp2_with fail
  refine (fieldKnown_any _ (HM.out.later HL4.out)).mono ?_
  rintro e w5 ⟨rfl, hl5⟩
  have HRC5 := Lib.hid (HRC.out.later hl5)
  have HL5 : Hid (Later w w5) := HL4.out.trans hl5
  clear hl5 HRC HL4
  go_wp2_with fail
  refine (HST.out g _ HRC5.out).mono ?_
  rintro e w6 ⟨rfl, hr6, hf6⟩
  have HL6 : Hid (Later w w6) := later_frz HL5.out hf6 hgw
  have HF6 := Lib.hid hf6
  have HR6 := Lib.hid hr6
  have hg6 : g < w6.heap.size := hr6.lt
  clear hr6 hf6 HRC5 HST HC1 HC2
  go_wp2_with fail
  go_loopw [10, 11] (fun s10 s11 wr => ∃ (i : Nat) (A : Option Addr) (n c : Nat), i ≤ W.length ∧ s10 = .slice A n c ∧ s11 = .int .i64 ((i : Int) + 1) ∧ OwnZ wr w6.heap.size A n c (W.take i) ∧ Later w6 wr) (fun _ s11 _ => W.length + 1 - (intOf s11).toNat)
  case atStart => exact ⟨0, none, 0, 0, Nat.zero_le _, rfl, rfl, OwnZ.nil, Later.refl _⟩
  case round =>
    obtain ⟨i, A, n, c, hi, rfl, rfl, hown, hlr⟩ := hrel
    have HLR := Lib.hid hlr
    go_wp2_with fail
    refine (recNF_any g L W wr (HR6.out.later HLR.out)).mono ?_
    rintro e wa ⟨rfl, hla⟩
    have HLA : Hid (Later w6 wa) := HLR.out.trans hla
    have hown := hown.later hla
    clear hlr hla HLR
    by_cases hlt : i < W.length
    · have hlti : (i : Int) + 1 ≤ (W.length : Int) := by omega
      obtain ⟨y, hy⟩ : ∃ y, W[i]? = some y := ⟨_, List.getElem?_eq_getElem hlt⟩
      have hnl := hown.len
      rw [List.length_take] at hnl
      have hg1 := recGet_in g i L W y wa (HR6.out.later HLA.out) (by omega) hy
      have hty : W.take (i + 1) = W.take i ++ [y] := by rw [List.take_add_one, hy]; rfl
      have HG1 := Lib.hid hg1
      have HTY := Lib.hid hty
      clear hg1 hty hy
      go_wp2_with fail
      refine HG1.out.mono ?_
      rintro e wb ⟨rfl, hlb⟩
      have hown := hown.later hlb
      have HLB : Hid (Later w6 wb) := HLA.out.trans hlb
      clear hlb
      go_wp2_with (at_builtin; go_loud (refine wpList_append_z _ rfl (.tmp 54) (.tmp 56) rfl w6.heap.size A n c _ rfl (hown.later ((Later.refl _).alloc _)) y _ _ rfl (reads_z wb y _) (by omega) (by have := HLB.out.size; simp; omega) ?_); intro A9 n9 c9 w9 hn9 hown9 hg9)
      have hl9 : Later w6 w9 := (HLB.out.alloc _).grown hg9 (fun k hk => (hown.lt k hk).1)
      have HO9 : Hid (OwnZ w9 w6.heap.size A9 n9 c9 (W.take (i + 1))) := by rw [HTY.out]; exact hown9
      have HL9 := Lib.hid hl9
      clear hown9 hl9
      go_wp2_with fail
      go_roundw
      case rel => exact ⟨i + 1, A9, n9, c9, by omega, by rw [hn9], by go_num, HO9.out, HL9.out⟩
      case measure => first | (simp [intOf]; done) | (simp [intOf]; omega)
    · obtain rfl : W.length = i := by omega
      rw [List.take_length] at hown
      have hnl := hown.len
      have HOW := Lib.hid hown
      have HPT2 := Lib.hid (HPT.out g wa (HR6.out.later HLA.out) (Nat.lt_of_lt_of_le hg6 HLA.out.size))
      have hmx : max ((p : Int) + 1) (n : Int) = (P.length : Int) := by have := HPL.out; omega
      have hpp : ((P.length : Int) != (P.length : Int)) = false := by rw [bne, beq_self_eq_true]; rfl
      clear hown HPT
      go_wp2_with fail
      refine HPT2.out.mono ?_
      rintro e w7 ⟨rfl, hr7, hf7⟩
      have HR7 := Lib.hid hr7
      have HL7 : Hid (Later w w7) := later_frz (HL6.out.trans HLA.out) hf7 hgw
      have HO7 : Hid (OwnZ w7 w6.heap.size A n c W) := HOW.out.fr hf7 (fun k hk e => by have := (HOW.out.lt k hk).1; omega)
      clear hr7 hf7 HPT2 HOW
      go_wp2_with fail
      refine (recNF_any g _ P w7 HR7.out).mono ?_
      rintro e w8 ⟨rfl, hl8⟩
      have HL8 := Lib.hid hl8
      have HRD : Hid (RdZ w8 w8.heap.size A n W) := HO7.out.rd.lat hl8
      have HR8 : Hid (RcOk w8 g (Lib.join P [59]) P) := HR7.out.later hl8
      have HLW8 : Hid (Later w w8) := HL7.out.trans hl8
      clear hl8 HO7 HR7
      go_wp2_with fail
      go_loopw [15, 16] (fun s15 s16 wr => ∃ j : Nat, j ≤ P.length ∧ s15 = .string (bstr (Lib.join (P.take j) [59])) ∧ s16 = .int .i64 ((j : Int) + 1) ∧ Hid (Later w8 wr)) (fun _ s16 _ => P.length + 1 - (intOf s16).toNat)
      case atStart => exact ⟨0, Nat.zero_le _, rfl, rfl, Later.refl _⟩
      case round =>
        obtain ⟨j, hj, rfl, rfl, hlr⟩ := hrel
        go_wp2_with fail
        refine (recNF_any g _ P wr (HR8.out.later hlr.out)).mono ?_
        rintro e wa2 ⟨rfl, hla⟩
        have HLA2 : Hid (Later w8 wa2) := hlr.out.trans hla
        clear hla hlr
        by_cases hlt : j < P.length
        · have hlti : (j : Int) + 1 ≤ (P.length : Int) := by omega
          have hz := HAT.out j hlt
          have hP31 : P.length ≤ 31 := by have := HPL.out; omega
          have hle := jle [59] P (P.length - j) j (by omega)
          have hjs := fun z (hz : P[j]? = some z) => jstep [59] P j z hz
          obtain ⟨Y, hY⟩ : ∃ Y, Y = Lib.join (P.take j) [59] := ⟨_, rfl⟩
          rw [← hY] at hjs hle ⊢
          have HY := Lib.hid hY
          have HJS := Lib.hid hjs
          have hle2 : Y.length ≤ 100 := Nat.le_trans hle HJL.out
          have sy : (bstr Y).size = Y.length := rfl
          have sx : (bstr x).size = x.length := rfl
          clear hY hjs hle
          by_cases hjp : j = p
          · have hq : (((j : Int) + 1) == ((p : Int) + 1)) = true := by rw [hjp]; exact beq_self_eq_true _
            rw [if_pos hjp] at hz
            clear hjp
            by_cases hjw : j < W.length
            · have hjn : (j : Int) + 1 ≤ (n : Int) := by omega
              have hj2 : (j : Int) + 1 - 1 = (j : Int) := by omega
              have hj3 : (j : Int) < (n : Int) := by omega
              have hg2 := recGet_in g j _ P x wa2 (HR8.out.later HLA2.out) (by omega) hz
              have HJZ := Lib.hid (HJS.out _ hz)
              have HG2 := Lib.hid hg2
              have hse : ((bstr x).toList == (bstr x).toList) = true := seq_true rfl
              have hse2 : ((bstr x).toList != (bstr x).toList) = false := by rw [bne, hse]; rfl
              have sz : (bstr x).size = x.length := rfl
              clear hg2 hz
              go_wp2_with fail
              refine HG2.out.mono ?_
              rintro e wb2 ⟨rfl, hlb⟩
              have HLB2 : Hid (Later w8 wb2) := HLA2.out.trans hlb
              clear hlb HG2
              obtain ⟨b0, off, y0, rfl, _, hy0, hcell⟩ := (HRD.out.lat HLB2.out).at_ (k := j) (by omega)
              clear hy0
              by_cases hj0 : j = 0
              · subst hj0
                have hcell0 : wb2.cell? ⟨b0, off, none⟩ = some (.string (bstr y0)) := hcell
                clear hcell
                have hY0 : Hid (Y = []) := HY.out
                have hzz : ¬ 9223372036854775807 < (bstr Y).size + (bstr x).size := by rw [sy, sz]; omega
                clear sy sx sz
                go_wp2_with fail
                go_roundw
                case rel => exact ⟨1, by omega, by show Value.string (bstr Y ++ bstr x) = Value.string (bstr (Lib.join (P.take (0 + 1)) [59])); rw [bstr_appz, HJZ.out]; simp [hY0.out], by go_num, HLB2⟩
                case measure => first | (simp [intOf]; done) | (simp [intOf]; omega)
              · have hj1 : (1 : Int) < (j : Int) + 1 := by omega
                have st : (⟨#[59]⟩ : ByteArray).size = 1 := rfl
                have hz1 : ¬ 9223372036854775807 < (bstr Y).size + (⟨#[59]⟩ : ByteArray).size := by rw [sy, st]; omega
                have hz2 : ¬ 9223372036854775807 < (bstr Y ++ ⟨#[59]⟩).size + (bstr x).size := by rw [ByteArray.size_append, sy, st, sz]; omega
                clear sy sx st sz
                go_wp2_with fail
                go_roundw
                case rel => exact ⟨j + 1, by omega, by show Value.string (bstr Y ++ bstr [59] ++ bstr x) = _; rw [bstr_appz, bstr_appz, HJZ.out, if_neg hj0], by go_num, HLB2⟩
                case measure => first | (simp [intOf]; done) | (simp [intOf]; omega)
            · have hjn : ¬ (j : Int) + 1 ≤ (n : Int) := by omega
              have hg2 := recGet_in g j _ P x wa2 (HR8.out.later HLA2.out) (by omega) hz
              have HJZ := Lib.hid (HJS.out _ hz)
              have HG2 := Lib.hid hg2
              have hse : ((bstr x).toList == (bstr x).toList) = true := seq_true rfl
              have hse2 : ((bstr x).toList != (bstr x).toList) = false := by rw [bne, hse]; rfl
              have sz : (bstr x).size = x.length := rfl
              clear hg2 hz
              go_wp2_with fail
              refine HG2.out.mono ?_
              rintro e wb2 ⟨rfl, hlb⟩
              have HLB2 : Hid (Later w8 wb2) := HLA2.out.trans hlb
              clear hlb HG2
              by_cases hj0 : j = 0
              · subst hj0
                have hY0 : Hid (Y = []) := HY.out
                have hzz : ¬ 9223372036854775807 < (bstr Y).size + (bstr x).size := by rw [sy, sz]; omega
                clear sy sx sz
                go_wp2_with fail
                go_roundw
                case rel => exact ⟨1, by omega, by show Value.string (bstr Y ++ bstr x) = Value.string (bstr (Lib.join (P.take (0 + 1)) [59])); rw [bstr_appz, HJZ.out]; simp [hY0.out], by go_num, HLB2⟩
                case measure => first | (simp [intOf]; done) | (simp [intOf]; omega)
              · have hj1 : (1 : Int) < (j : Int) + 1 := by omega
                have st : (⟨#[59]⟩ : ByteArray).size = 1 := rfl
                have hz1 : ¬ 9223372036854775807 < (bstr Y).size + (⟨#[59]⟩ : ByteArray).size := by rw [sy, st]; omega
                have hz2 : ¬ 9223372036854775807 < (bstr Y ++ ⟨#[59]⟩).size + (bstr x).size := by rw [ByteArray.size_append, sy, st, sz]; omega
                clear sy sx st sz
                go_wp2_with fail
                go_roundw
                case rel => exact ⟨j + 1, by omega, by show Value.string (bstr Y ++ bstr [59] ++ bstr x) = _; rw [bstr_appz, bstr_appz, HJZ.out, if_neg hj0], by go_num, HLB2⟩
                case measure => first | (simp [intOf]; done) | (simp [intOf]; omega)
          · have hq : (((j : Int) + 1) == ((p : Int) + 1)) = false := by rw [beq_eq_false_iff_ne]; omega
            rw [if_neg hjp] at hz
            clear hjp
            by_cases hjw : j < W.length
            · have hjn : (j : Int) + 1 ≤ (n : Int) := by omega
              have hj2 : (j : Int) + 1 - 1 = (j : Int) := by omega
              have hj3 : (j : Int) < (n : Int) := by omega
              obtain ⟨y, hy⟩ : ∃ y, W[j]? = some y := ⟨_, List.getElem?_eq_getElem hjw⟩
              rw [hy] at hz
              simp only [Option.getD_some] at hz
              have HYW := Lib.hid hy
              have hyl : y.length ≤ 100 := by
                have h1 := jle [59] P (P.length - (j + 1)) (j + 1) (by omega)
                rw [HJS.out y hz, List.length_append] at h1
                have h2 := HJL.out
                omega
              clear hy
              have hg2 := recGet_in g j _ P y wa2 (HR8.out.later HLA2.out) (by omega) hz
              have HJZ := Lib.hid (HJS.out _ hz)
              have HG2 := Lib.hid hg2
              have hse : ((bstr y).toList == (bstr y).toList) = true := seq_true rfl
              have hse2 : ((bstr y).toList != (bstr y).toList) = false := by rw [bne, hse]; rfl
              have sz : (bstr y).size = y.length := rfl
              clear hg2 hz
              go_wp2_with fail
              refine HG2.out.mono ?_
              rintro e wb2 ⟨rfl, hlb⟩
              have HLB2 : Hid (Later w8 wb2) := HLA2.out.trans hlb
              clear hlb HG2
              obtain ⟨b0, off, y0, rfl, _, hy0, hcell⟩ := (HRD.out.lat HLB2.out).at_ (k := j) (by omega)
              rw [HYW.out] at hy0
              injection hy0 with hy0
              subst hy0
              by_cases hj0 : j = 0
              · subst hj0
                have hcell0 : wb2.cell? ⟨b0, off, none⟩ = some (.string (bstr y)) := hcell
                clear hcell
                have hY0 : Hid (Y = []) := HY.out
                have hzz : ¬ 9223372036854775807 < (bstr Y).size + (bstr y).size := by rw [sy, sz]; omega
                clear sy sx sz
                go_wp2_with fail
                go_roundw
                case rel => exact ⟨1, by omega, by show Value.string (bstr Y ++ bstr y) = Value.string (bstr (Lib.join (P.take (0 + 1)) [59])); rw [bstr_appz, HJZ.out]; simp [hY0.out], by go_num, HLB2⟩
                case measure => first | (simp [intOf]; done) | (simp [intOf]; omega)
              · have hj1 : (1 : Int) < (j : Int) + 1 := by omega
                have st : (⟨#[59]⟩ : ByteArray).size = 1 := rfl
                have hz1 : ¬ 9223372036854775807 < (bstr Y).size + (⟨#[59]⟩ : ByteArray).size := by rw [sy, st]; omega
                have hz2 : ¬ 9223372036854775807 < (bstr Y ++ ⟨#[59]⟩).size + (bstr y).size := by rw [ByteArray.size_append, sy, st, sz]; omega
                clear sy sx st sz
                go_wp2_with fail
                go_roundw
                case rel => exact ⟨j + 1, by omega, by show Value.string (bstr Y ++ bstr [59] ++ bstr y) = _; rw [bstr_appz, bstr_appz, HJZ.out, if_neg hj0], by go_num, HLB2⟩
                case measure => first | (simp [intOf]; done) | (simp [intOf]; omega)
            · have hjn : ¬ (j : Int) + 1 ≤ (n : Int) := by omega
              rw [List.getElem?_eq_none (l := W) (i := j) (by omega)] at hz
              simp only [Option.getD_none] at hz
              have hem : (bstr ([] : List UInt8)).toList.isEmpty = true := by rw [bstr_toList]; rfl
              have hg2 := recGet_in g j _ P ([] : List UInt8) wa2 (HR8.out.later HLA2.out) (by omega) hz
              have HJZ := Lib.hid (HJS.out _ hz)
              have HG2 := Lib.hid hg2
              have hse : ((bstr ([] : List UInt8)).toList == (bstr ([] : List UInt8)).toList) = true := seq_true rfl
              have hse2 : ((bstr ([] : List UInt8)).toList != (bstr ([] : List UInt8)).toList) = false := by rw [bne, hse]; rfl
              have sz : (bstr ([] : List UInt8)).size = 0 := rfl
              clear hg2 hz
              go_wp2_with fail
              refine HG2.out.mono ?_
              rintro e wb2 ⟨rfl, hlb⟩
              have HLB2 : Hid (Later w8 wb2) := HLA2.out.trans hlb
              clear hlb HG2
              by_cases hj0 : j = 0
              · subst hj0
                have hY0 : Hid (Y = []) := HY.out
                have hzz : ¬ 9223372036854775807 < (bstr Y).size + (bstr ([] : List UInt8)).size := by rw [sy, sz]; omega
                clear sy sx sz
                go_wp2_with fail
                go_roundw
                case rel => exact ⟨1, by omega, by show Value.string (bstr Y ++ bstr ([] : List UInt8)) = Value.string (bstr (Lib.join (P.take (0 + 1)) [59])); rw [bstr_appz, HJZ.out]; simp [hY0.out], by go_num, HLB2⟩
                case measure => first | (simp [intOf]; done) | (simp [intOf]; omega)
              · have hj1 : (1 : Int) < (j : Int) + 1 := by omega
                have st : (⟨#[59]⟩ : ByteArray).size = 1 := rfl
                have hz1 : ¬ 9223372036854775807 < (bstr Y).size + (⟨#[59]⟩ : ByteArray).size := by rw [sy, st]; omega
                have hz2 : ¬ 9223372036854775807 < (bstr Y ++ ⟨#[59]⟩).size + (bstr ([] : List UInt8)).size := by rw [ByteArray.size_append, sy, st, sz]; omega
                clear sy sx st sz
                go_wp2_with fail
                go_roundw
                case rel => exact ⟨j + 1, by omega, by show Value.string (bstr Y ++ bstr [59] ++ bstr ([] : List UInt8)) = _; rw [bstr_appz, bstr_appz, HJZ.out, if_neg hj0], by go_num, HLB2⟩
                case measure => first | (simp [intOf]; done) | (simp [intOf]; omega)
        · obtain rfl : P.length = j := by omega
          rw [List.take_length]
          have hs : ((bstr (Lib.join P [59])).toList == (bstr (Lib.join P [59])).toList) = true := seq_true rfl
          clear hj hlt
          go_wp2_with fail
          refine (recText_any g _ P _ (HR8.out.later HLA2.out)).mono ?_
          rintro e w9 ⟨rfl, hl9⟩
          go_wp2_with fail
          go_ret
          exact ⟨rfl, HLW8.out.trans (HLA2.out.trans hl9)⟩

end Go.Proofs.YtmkddhkpeiajhaaDoor
