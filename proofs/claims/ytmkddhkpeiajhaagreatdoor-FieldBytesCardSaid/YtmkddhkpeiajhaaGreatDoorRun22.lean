import Derived.Test.YtmkddhkpeiajhaaGreatDoorRun21
import Derived.Deep.CutBlock
import Derived.Deep.DeepCutAuto
import Derived.Test.YtmkddhkpeiajhaaGreatDoorRows
import Derived.Test.YtmkddhkpeiajhaaGreatDoorBytes
import Derived.ProofKit
import Derived.OpenShut
import Derived.ShutString
import Derived.ChangeOld
import Derived.SizedLaws
import Derived.Deep.CondSized
import Derived.JoinedCond
import Derived.Deep.Slices
import Derived.Deep.Fields
import Derived.ChangeSame
import Derived.Test.YtmkddhkpeiajhaaGreatDoorByF
namespace Go.Proofs.YtmkddhkpeiajhaaGreatDoor
open Go.RowKit
variable {M : Nat}
theorem bstr_datz (t : ByteArray) : bstr t.data.toList = t := rfl
def RunTo (M : Nat) (w : World) (g gr : Nat) (e : Ending) (w' : World) : Prop := e = .returned (.bool true) ∧ ∃ T' ss', Two M w' g gr T' ss' ∧ Fr w w' (fun k => k = g ∨ k = gr)
set_option maxRecDepth 100000 in
set_option maxHeartbeats 8000000 in
theorem run_any (D : DocParses) (g gr : Nat) (T : List UInt8) (ss : List (List UInt8)) (w : World) (h : Two M w g gr T ss) (hm : MaxL w) (hS : SepsAt w) (hlo : ∀ k, k = g ∨ k = gr → k ≠ 0 ∧ k ≠ 1)
  (what n : Int) (hn1 : -9223372036854775808 ≤ n) (hn2 : n ≤ 9223372036854775807) (A : Option Addr) (m c : Nat) (l : List UInt8) (hr : RdB w w.heap.size A m l) (hm9 : m ≤ 9223372036854775807) (S : ByteArray) (near : Bool) :
  Calls Tryz.prog 7 #[.pointer (some ⟨g, 0, none⟩), .pointer (some ⟨gr, 0, none⟩), .agg #[.int .i64 what, .int .i64 n, .slice A m c, .string S, .bool near]] w (RunTo M w g gr) := by
 obtain ⟨W0, hW0⟩ : ∃ W0, W0 = w.alloc (.cells #[.int .i64 what, .int .i64 n, .slice A m c, .string S, .bool near] 33) := ⟨_, rfl⟩
 have B0 : Blk W0 w.heap.size 33 #[.int .i64 what, .int .i64 n, .slice A m c, .string S, .bool near] := by rw [hW0]; exact Blk.new w _ _
 have hl0 : Later w W0 := by rw [hW0]; exact (Later.refl w).alloc _
 have hr0 := hr.later hl0
 obtain ⟨p9, hp9, hp90, hp91⟩ : ∃ p : Int, Hid (n % 9 = p) ∧ 0 ≤ p ∧ p < 9 := ⟨n % 9, rfl, by omega, by omega⟩
 obtain ⟨b, hb⟩ : ∃ b, b = w.heap.size := ⟨_, rfl⟩
 rw [← hb] at B0
 have HB0 := Lib.hid B0
 have HL0 := Lib.hid hl0
 have H2 := Lib.hid h
 have HM := Lib.hid hm
 have HS := Lib.hid hS
 have HLO := Lib.hid hlo
 have HR := Lib.hid hr0
 clear h hm hS hlo hr hr0 hl0
 go_enter Tryz.func7, Tryz.ntmps7
 go_upto_region 1 with fail
 rw [← hW0, ← hb]
 have HW := Lib.hid hb
 clear hW0 hb
 have z0 : W0.cell? ⟨b, 0, none⟩ = some (.int .i64 what) := B0.cell 0
 have z1 : W0.cell? ⟨b, 1, none⟩ = some (.int .i64 n) := B0.cell 1
 have z2 : W0.cell? ⟨b, 2, none⟩ = some (.slice A m c) := B0.cell 2
 have z3 : W0.cell? ⟨b, 3, none⟩ = some (.string S) := B0.cell 3
 have z4 : W0.cell? ⟨b, 4, none⟩ = some (.bool near) := B0.cell 4
 clear B0
 go_upto_if 22 with (fail)
 go_cut [7, 8] (fun s7 s8 wx => ∃ (x : ByteArray) (i : Int), s7 = .string x ∧ s8 = .int .i64 i ∧ Later W0 wx)
 case first =>
  cases near with
  | false =>
   go_wp2_with fail
   go_meet
   exact ⟨S, n, rfl, rfl, Later.refl _⟩
  | true =>
   go_wp2_with fail
   refine (letters_any A m c 20 l _ HR.out (by decide) hm9).mono ?_
   rintro e w1 ⟨rfl, hl1⟩
   have HL1 := Lib.hid hl1
   have y1 : w1.cell? ⟨b, 1, none⟩ = some (.int .i64 n) := (blkL hl1 HB0.out).cell 1
   clear hl1
   go_wp2_with fail
   refine (pick_at n 9 p9 w1 (by decide) (by decide) hp9).mono ?_
   rintro e w2 ⟨rfl, rfl⟩
   go_wp2_with fail
   go_meet
   exact ⟨_, _, rfl, rfl, HL1.out⟩
 case rest =>
  obtain ⟨x, i, rfl, rfl, hl1⟩ := hcut
  obtain ⟨w1, rfl⟩ : ∃ w1 : World, w1 = wc := ⟨_, rfl⟩
  have hB1 := blkL hl1 HB0.out
  have HLW : Hid (Later w w1) := HL0.out.trans hl1
  have H2 := Lib.hid (H2.out.later HLW.out)
  have HM := Lib.hid (HM.out.later HLW.out)
  have HS : Hid (SepsAt w1) := HS.out.fr (frLz (p := fun _ => False) HLW.out) (fun h => h)
  have y0 : w1.cell? ⟨b, 0, none⟩ = some (.int .i64 what) := hB1.cell 0
  have y1 : w1.cell? ⟨b, 1, none⟩ = some (.int .i64 n) := hB1.cell 1
  clear hB1 hl1 z0 z1 z2 z3 z4
  go_upto_region 6 with (fail)
  go_cut [9] (fun s9 wx => ∃ F : List UInt8, s9 = .string (bstr F) ∧ F.length ≤ 1000000 ∧ wx = w1)
  case first =>
   obtain ⟨t, ht, ht4⟩ : ∃ t : Int, Hid ((n.tdiv 9) % 4 = t) ∧ (t = 0 ∨ t = 1 ∨ t = 2 ∨ t = 3) := ⟨(n.tdiv 9) % 4, rfl, by omega⟩
   go_wp2_with fail
   refine (pick_at (n.tdiv 9) 4 t _ (by decide) (by decide) ht).mono ?_
   rintro e w' ⟨rfl, rfl⟩
   have i0 : ∀ wx : World, (Instr.index 57 (.agg #[.string ⟨#[32]⟩, .string ⟨#[]⟩, .string ⟨#[45, 45]⟩, .string ⟨#[48, 49, 50, 51, 52, 53, 54, 55, 56, 57, 48, 49, 50, 51, 52, 53, 54, 55, 56, 57, 48, 49, 50, 51, 52, 53, 54, 55, 56, 57, 48, 49, 50, 51, 52, 53, 54, 55, 56, 57]⟩]) (.int .i64 0)).run Tryz.prog wx = .ok (.string ⟨#[32]⟩) wx := fun _ => by kernel_rfl
   have i1 : ∀ wx : World, (Instr.index 57 (.agg #[.string ⟨#[32]⟩, .string ⟨#[]⟩, .string ⟨#[45, 45]⟩, .string ⟨#[48, 49, 50, 51, 52, 53, 54, 55, 56, 57, 48, 49, 50, 51, 52, 53, 54, 55, 56, 57, 48, 49, 50, 51, 52, 53, 54, 55, 56, 57, 48, 49, 50, 51, 52, 53, 54, 55, 56, 57]⟩]) (.int .i64 1)).run Tryz.prog wx = .ok (.string ⟨#[]⟩) wx := fun _ => by kernel_rfl
   have i2 : ∀ wx : World, (Instr.index 57 (.agg #[.string ⟨#[32]⟩, .string ⟨#[]⟩, .string ⟨#[45, 45]⟩, .string ⟨#[48, 49, 50, 51, 52, 53, 54, 55, 56, 57, 48, 49, 50, 51, 52, 53, 54, 55, 56, 57, 48, 49, 50, 51, 52, 53, 54, 55, 56, 57, 48, 49, 50, 51, 52, 53, 54, 55, 56, 57]⟩]) (.int .i64 2)).run Tryz.prog wx = .ok (.string ⟨#[45, 45]⟩) wx := fun _ => by kernel_rfl
   have i3 : ∀ wx : World, (Instr.index 57 (.agg #[.string ⟨#[32]⟩, .string ⟨#[]⟩, .string ⟨#[45, 45]⟩, .string ⟨#[48, 49, 50, 51, 52, 53, 54, 55, 56, 57, 48, 49, 50, 51, 52, 53, 54, 55, 56, 57, 48, 49, 50, 51, 52, 53, 54, 55, 56, 57, 48, 49, 50, 51, 52, 53, 54, 55, 56, 57]⟩]) (.int .i64 3)).run Tryz.prog wx = .ok (.string ⟨#[48, 49, 50, 51, 52, 53, 54, 55, 56, 57, 48, 49, 50, 51, 52, 53, 54, 55, 56, 57, 48, 49, 50, 51, 52, 53, 54, 55, 56, 57, 48, 49, 50, 51, 52, 53, 54, 55, 56, 57]⟩) wx := fun _ => by kernel_rfl
   rcases ht4 with rfl | rfl | rfl | rfl
   ·go_wp2_with fail
    go_meet
    exact ⟨[32], rfl, by decide, rfl⟩
   ·go_wp2_with fail
    go_meet
    exact ⟨[], rfl, by decide, rfl⟩
   ·go_wp2_with fail
    go_meet
    exact ⟨[45, 45], rfl, by decide, rfl⟩
   ·go_wp2_with fail
    go_meet
    exact ⟨[48, 49, 50, 51, 52, 53, 54, 55, 56, 57, 48, 49, 50, 51, 52, 53, 54, 55, 56, 57, 48, 49, 50, 51, 52, 53, 54, 55, 56, 57, 48, 49, 50, 51, 52, 53, 54, 55, 56, 57], rfl, by decide, rfl⟩
  case rest =>
   obtain ⟨F, rfl, hF, hwc⟩ := hcut
   subst hwc
   obtain ⟨w1, rfl⟩ : ∃ w1 : World, w1 = wc := ⟨_, rfl⟩
   obtain ⟨q, hq, hq7⟩ : ∃ q : Int, Hid (what % 7 = q) ∧ ((q = 0 ∨ q = 1) ∨ (q = 2 ∨ q = 3) ∨ q = 4 ∨ (q = 5 ∨ q = 6)) := ⟨what % 7, rfl, by omega⟩
   obtain ⟨X, hX⟩ : ∃ X, Hid (x = bstr X) := ⟨x.data.toList, rfl⟩
   go_wp2_with fail
   refine (pick_at what 7 q _ (by decide) (by decide) hq).mono ?_
   rintro e w' ⟨rfl, rfl⟩
   rcases hq7 with hq7 | hq7 | hq7 | hq7
   ·rcases hq7 with rfl | rfl
    all_goals
     go_upto_region 10 with (fail)
     go_cut [7] (fun s7 wx => ∃ Z : List UInt8, s7 = .string (bstr Z) ∧ Z.length ≤ 1100 ∧ wx = w1)
     case first =>
      by_cases hsz : (x.size : Int) ≤ 1100
      ·go_wp2_with fail
       go_meet
       exact ⟨_, congrArg Value.string (bstr_datz _).symm, by first | (show ByteArray.size _ ≤ _; rw [ByteArray.size_extract]; omega) | (show x.size ≤ _; omega), rfl⟩
      ·go_wp2_with fail
       go_meet
       exact ⟨_, congrArg Value.string (bstr_datz _).symm, by show ByteArray.size _ ≤ _; rw [ByteArray.size_extract]; omega, rfl⟩
     case rest =>
      obtain ⟨Z, rfl, hZ, hwc⟩ := hcut
      subst hwc
      obtain ⟨w1, rfl⟩ : ∃ w1 : World, w1 = wc := ⟨_, rfl⟩
      go_upto_if 52 with (fail)
      go_cut [10] (fun s10 wx => ∃ k : Int, s10 = .int .i64 k ∧ wx = w1)
      case first =>
       obtain ⟨k4, hk4⟩ : ∃ k4 : Int, Hid ((n.tdiv 7) % 4 = k4) := ⟨_, rfl⟩
       by_cases hsz : (60 : Int) < ((bstr Z).size : Int)
       ·go_wp2_with fail
        refine (pick_at (n.tdiv 7) 4 k4 _ (by decide) (by decide) hk4).mono ?_
        rintro e w' ⟨rfl, rfl⟩
        go_wp2_with fail
        go_meet
        exact ⟨_, rfl, rfl⟩
       ·go_wp2_with fail
        go_meet
        exact ⟨_, rfl, rfl⟩
      case rest =>
       obtain ⟨k, rfl, hwc⟩ := hcut
       subst hwc
       obtain ⟨w1, rfl⟩ : ∃ w1 : World, w1 = wc := ⟨_, rfl⟩
       obtain ⟨G, hG, hsep⟩ := sep_any k
       obtain ⟨nn, T', ss', hfine, hc1, hc2⟩ := set_pair (M := M) D g gr T ss H2.out.2.2.2.2.2.2 Z G hZ hG
       have HSP := Lib.hid hsep
       have HC1 := Lib.hid (hc1 w1 HM.out H2.out.2.2.2.2.2.1 H2.out.1)
       have HC2 := Lib.hid hc2
       have hnn : (nn == nn) = true := beq_self_eq_true _
       clear hsep hc1 hc2
       go_wp2_with fail
       refine (HSP.out _ HS.out).mono ?_
       rintro e w' ⟨rfl, rfl⟩
       go_wp2_with fail
       refine HC1.out.mono ?_
       intro e w2 hy
       have HY := Lib.hid hy
       obtain ⟨rfl, _, hf2⟩ := hy
       have HS2 : Hid (SepsAt w2) := HS.out.fr hf2 (fun e => (HLO.out _ (.inl rfl)).1 e.symm)
       clear hf2
       go_wp2_with fail
       refine (HSP.out _ HS2.out).mono ?_
       rintro e w' ⟨rfl, rfl⟩
       have hmid := Lib.hid (H2.out.mid HY.out)
       go_wp2_with fail
       refine (HC2.out _ hmid.out.2 hmid.out.1).mono ?_
       intro e w3 hy3
       have HY3 := Lib.hid hy3
       obtain ⟨rfl, _, _⟩ := hy3
       have HT := Lib.hid (H2.out.turn hfine HY.out HY3.out)
       go_wp2_with fail
       go_ret
       exact ⟨rfl, T', ss', HT.out.1, (frLz HLW.out).trans HT.out.2 (fun _ _ h => h)⟩
   ·rw [hX.out]
    obtain ⟨nn, T', ss', hfine, hc1, hc2⟩ := put_pair (M := M) g gr T ss H2.out.2.2.2.2.2.2 i X F hF H2.out.2.2.1
    have HC1 := Lib.hid (hc1 w1 H2.out.2.2.2.2.2.1 H2.out.1)
    have HC2 := Lib.hid hc2
    have hnn : (nn == nn) = true := beq_self_eq_true _
    clear hc1 hc2
    rcases hq7 with rfl | rfl
    all_goals
     go_wp2_with fail
     refine HC1.out.mono ?_
     intro e w2 hy
     have HY := Lib.hid hy
     obtain ⟨rfl, _, _⟩ := hy
     have hmid := Lib.hid (H2.out.mid HY.out)
     go_wp2_with fail
     refine (HC2.out _ hmid.out.2 hmid.out.1).mono ?_
     intro e w3 hy3
     have HY3 := Lib.hid hy3
     obtain ⟨rfl, _, _⟩ := hy3
     have HT := Lib.hid (H2.out.turn hfine HY.out HY3.out)
     go_wp2_with fail
     go_ret
     exact ⟨rfl, T', ss', HT.out.1, (frLz HLW.out).trans HT.out.2 (fun _ _ h => h)⟩
   ·subst hq7
    go_upto_if 85 with (fail)
    go_cut [8] (fun s8 wx => ∃ k : Int, s8 = .int .i64 k ∧ wx = w1)
    case first =>
     obtain ⟨k4, hk4, hk40, hk41⟩ : ∃ k4 : Int, Hid (n % 4 = k4) ∧ 0 ≤ k4 ∧ k4 < 4 := ⟨n % 4, rfl, by omega, by omega⟩
     by_cases h13 : n.tmod 13 = 0
     ·have h13e : (n.tmod 13 == 0) = true := by rw [h13]; rfl
      clear h13
      go_wp2_with fail
      refine (pick_at n 4 k4 _ (by decide) (by decide) hk4).mono ?_
      rintro e w' ⟨rfl, rfl⟩
      go_wp2_with fail
      go_meet
      exact ⟨_, rfl, rfl⟩
     ·have h13e : (n.tmod 13 == 0) = false := beq_eq_false_iff_ne.2 h13
      clear h13
      go_wp2_with fail
      go_meet
      exact ⟨_, rfl, rfl⟩
    case rest =>
     obtain ⟨k, rfl, hwc⟩ := hcut
     subst hwc
     obtain ⟨w1, rfl⟩ : ∃ w1 : World, w1 = wc := ⟨_, rfl⟩
     obtain ⟨nn, T', ss', hfine, hc1, hc2⟩ := nf_pair (M := M) g gr T ss H2.out.2.2.2.2.2.2 k F hF H2.out.2.2.1
     have HC1 := Lib.hid (hc1 w1 H2.out.2.2.2.2.2.1 H2.out.1)
     have HC2 := Lib.hid hc2
     have hnn : (nn == nn) = true := beq_self_eq_true _
     clear hc1 hc2
     go_wp2_with fail
     refine HC1.out.mono ?_
     intro e w2 hy
     have HY := Lib.hid hy
     obtain ⟨rfl, _, _⟩ := hy
     have hmid := Lib.hid (H2.out.mid HY.out)
     go_wp2_with fail
     refine (HC2.out _ hmid.out.2 hmid.out.1).mono ?_
     intro e w3 hy3
     have HY3 := Lib.hid hy3
     obtain ⟨rfl, _, _⟩ := hy3
     have HT := Lib.hid (H2.out.turn hfine HY.out HY3.out)
     go_wp2_with fail
     go_ret
     exact ⟨rfl, T', ss', HT.out.1, (frLz HLW.out).trans HT.out.2 (fun _ _ h => h)⟩
   ·obtain ⟨⟨va, vb, vc⟩, hv⟩ : ∃ v, Hid (getV T ss i = v) := ⟨_, rfl⟩
    have hG1 : ∀ wx, RcOk M wx g T ss → Calls Tryz.prog 29 #[.pointer (some ⟨g, 0, none⟩), .int .i64 i] wx fun e w' => e = .returned (.tuple #[.string (bstr va), .bool vb, .int .i64 vc]) ∧ Later wx w' := fun wx hx => by
     have h := recGet_gen g i T ss wx hx
     rw [hv.out] at h
     exact h
    have hG2 : ∀ wx, RwOk M wx gr T ss → Calls Tryz.prog 30 #[.pointer (some ⟨gr, 0, none⟩), .int .i64 i] wx fun e w' => e = .returned (.tuple #[.string (bstr va), .bool vb, .int .i64 vc]) ∧ Later wx w' := fun wx hx => by
     have h := rwGet_gen gr i T ss wx hx
     rw [hv.out] at h
     exact h
    have HG1 := Lib.hid hG1
    have HG2 := Lib.hid hG2
    have e1 : ((bstr va).toList == (bstr va).toList) = true := beq_self_eq_true _
    have e2 : (vb == vb) = true := beq_self_eq_true _
    have e3 : (vc == vc) = true := beq_self_eq_true _
    clear hG1 hG2
    rcases hq7 with rfl | rfl
    all_goals
     go_wp2_with fail
     refine (HG1.out _ H2.out.1).mono ?_
     rintro e w2 ⟨rfl, hl2⟩
     have HT2 := Lib.hid (H2.out.later hl2)
     have HLX : Hid (Later w w2) := HLW.out.trans hl2
     clear hl2
     go_wp2_with fail
     refine (HG2.out _ HT2.out.2.1).mono ?_
     rintro e w3 ⟨rfl, hl3⟩
     have HT3 := Lib.hid (HT2.out.later hl3)
     have HLY : Hid (Later w w3) := HLX.out.trans hl3
     clear hl3
     go_wp2_with fail
     go_ret
     exact ⟨rfl, T, ss, HT3.out, frLz HLY.out⟩
end Go.Proofs.YtmkddhkpeiajhaaGreatDoor
namespace Go.Proofs.YtmkddhkpeiajhaaGreatDoor
open Go.ChangeShapes Go.WideShapes Go.ChangeAt Go.RowKit
open Go.ChangeMaps (open_string shut_string)
theorem own : ownKnob Tryz.prog.godebug = none := by kernel_rfl
theorem laidOut : laidOutB Tryz.prog = true := by kernel_rfl
theorem bytesU8 : Tryz.prog.bytesOf 5 = 1 := by kernel_rfl
theorem cellsU8 : Tryz.prog.cellsOf 5 = 1 := by kernel_rfl
theorem u8_bd {n : Int} (h : (Lit.int .u8 n).wf = true) : 0 ≤ n ∧ n < 256 := by
 have h1 : IntKind.u8.min = 0 := by decide
 have h2 : IntKind.u8.max = 255 := by decide
 simp only [Lit.wf, Bool.and_eq_true, decide_eq_true_eq, h1, h2] at h
 omega
def SlD {H : Type} (d : DataW H) (n : Nat) : Prop := (d = .nil ∧ n = 0) ∨ ∃ es sp, d = .slice es sp ∧ es.length = n
theorem getD_get (l : List Int) (j : Nat) (h : j < l.length) : l.getD j 0 = l[j] := by simp [List.getD, h]
set_option maxRecDepth 100000 in
theorem open_b {H : Type} {enc : TypeId × Value → H} {W : World} {base : Nat} {v : Value} {d : DataW H} {p : List MemPlace}
  (hval : Value.okWide Tryz.prog W .any base 31 v) (h : DataW.Trod enc Tryz.prog W 0 (fun _ => true) true 31 v d p) :
  ∃ A n c l, v = .slice A n c ∧ RdB W W.heap.size A n l ∧ SlD d n ∧ n ≤ c := by
 obtain ⟨a0, len0, cap0, rfl⟩ := okWide_slice Tryz.underlying31 hval
 obtain ⟨fuel, hf⟩ := h
 rcases open_ints Tryz.underlying31 Tryz.underlying5 cellsU8 hf with ⟨hcs, hx⟩ | ⟨x, l, c, zs, hcs, _, hl, hm, hz, hx, hcell, hwz⟩
 ·simp [Value.cells] at hcs
  obtain ⟨rfl, rfl, rfl⟩ := hcs
  simp only [Prod.mk.injEq] at hx
  exact ⟨none, 0, 0, [], rfl, RdB.nil, .inl ⟨hx.1, rfl⟩, Nat.le_refl _⟩
 ·simp [Value.cells] at hcs
  obtain ⟨rfl, rfl, rfl⟩ := hcs
  simp only [Prod.mk.injEq] at hx
  rw [if_pos rfl] at hz
  have hlen : ((zs.take len0).map byt).length = len0 := by rw [List.length_map, List.length_take]; omega
  refine ⟨some x, len0, cap0, (zs.take len0).map byt, rfl, ⟨by rw [bv_length]; omega, fun hn => ⟨x, rfl, ?_, fun j u hu => ?_⟩⟩, .inr ⟨_, _, hx.1, by simp [lits]; omega⟩, hl⟩
  ·have := World.block_lt_of_cell? W _ (hcell 0 (by omega))
   rw [block_of_add] at this
   exact this
  ·have hj : j < len0 := by
    rcases Nat.lt_or_ge j len0 with h | h
    ·exact h
    ·rw [List.getElem?_eq_none (by rw [bv_length, hlen]; exact h)] at hu; cases hu
   rw [hcell j (by omega)]
   rw [bv_get _ j (by rw [hlen]; exact hj)] at hu
   rw [← hu]
   congr 2
   have hb := u8_bd (hwz (zs.getD j 0) (by rw [getD_get zs j (by omega)]; exact List.getElem_mem _))
   rw [List.getElem_map, List.getElem_take, ← getD_get zs j (by omega), byt_toNat hb.1 hb.2]
theorem size_b {H : Type} {ts : List TypeId} {ds : List (DataW H)} (h : (DataW.weightsEach Tryz.prog ts ds).all (· ≤ reachBytes) = true) (j : Nat) {d : DataW H} {n : Nat} (hs : SlD d n)
  (ht : ts[j]? = some 31) (hd : ds[j]? = some d) : n ≤ 140737488351232 := by
 rcases hs with ⟨_, rfl⟩ | ⟨es, sp, rfl, rfl⟩
 ·omega
 ·have := sized_slice h ht hd Tryz.underlying31
  rw [bytesU8] at this
  have e : reachBytes = 140737488351232 := by decide
  omega
theorem i64_bd {n : Int} (h : (Lit.int .i64 n).wf = true) : -9223372036854775808 ≤ n ∧ n ≤ 9223372036854775807 := by
 have h1 : IntKind.i64.min = -9223372036854775808 := by decide
 have h2 : IntKind.i64.max = 9223372036854775807 := by decide
 simp only [Lit.wf, Bool.and_eq_true, decide_eq_true_eq, h1, h2] at h
 omega
end Go.Proofs.YtmkddhkpeiajhaaGreatDoor
namespace Go.Proofs.YtmkddhkpeiajhaaGreatDoor
open Go.RowKit
namespace structs
open Go.ChangeShapes Go.WideShapes Go.Deep
section
variable {H : Type} {enc : TypeId × Value → H} {P : Program} {w : World} {base : Nat} {spare : Nat → Bool} {held : Bool}
theorem open_slice_fields {t e : TypeId} {fs : Array Field} {fuel : Nat} {cs : List Value} {x : DataW H × List MemPlace} (ht : P.underlying t = some (.slice e)) (he : P.underlying e = some (.struct fs))
  (hone : oneCellFields P fs = true) (hC : P.cellsOf e = fs.size) (h : DataW.trod enc P w base spare held fuel t cs = some x) :
  (cs = [.slice none 0 0] ∧ x = (.nil, [])) ∨
  ∃ (a : Addr) (len cap m : Nat) (D : Nat → DataW H) (Pl : Nat → List MemPlace), cs = [.slice (some a) len cap] ∧ base ≤ a.block ∧ len ≤ cap ∧ cap ≤ maxLen ∧ m = (if spare a.block then cap else len) ∧
   x = (.slice ((List.range len).map D) ((List.range (m - len)).map fun j => D (len + j)), MemPlace.row a (m * fs.size) ++ (List.range m).flatMap Pl) ∧
   ∀ i, i < m → ∃ (ys : List (DataW H × List MemPlace)) (n : Nat), D i = .agg (ys.map (·.1)) ∧ Pl i = ys.flatMap (·.2) ∧ ys.length = fs.size ∧
    ∀ (j : Nat) (f : Field), fs[j]? = some f → ∃ (v : Value) (y : DataW H × List MemPlace), w.cell? (a.add (i * fs.size + j)) = some v ∧ ys[j]? = some y ∧ DataW.trod enc P w base spare held n f.type [v] = some y := by
 rcases open_slice ht h with h0 | ⟨a, len, cap, m, n, D, Pl, hcs, hb, hl, hm, hmm, hx, hi⟩
 ·exact .inl h0
 ·refine .inr ⟨a, len, cap, m, D, Pl, hcs, hb, hl, hm, hmm, by rw [hC] at hx; exact hx, fun i him => ?_⟩
  obtain ⟨cs', hc, ht'⟩ := hi i him
  rw [hC] at hc
  obtain ⟨ys, n', hn', hy, hlen, hyl, hf⟩ := DataW.trod_struct he ht'
  obtain ⟨_, hcl, hat⟩ := World.cells?_some hc
  simp only [Prod.mk.injEq] at hy
  refine ⟨ys, n', hy.1, hy.2, hyl, fun j f hj => ?_⟩
  obtain ⟨ho, hk⟩ := hone_of hone j f hj
  have hjl : j < fs.size := (Array.getElem?_eq_some_iff.1 hj).1
  have hcell := hat j hjl
  have hv : cs'[j]? = some (cs'[j]'(by omega)) := List.getElem?_eq_getElem (by omega)
  have h1 := hf j f hj
  rw [ho, hk] at h1
  have hone' : (cs'.drop j).take 1 = [cs'[j]'(by omega)] := by
   rw [List.drop_eq_getElem_cons (by omega)]
   rfl
  rw [hone'] at h1
  have hys : ys[j]? = some (ys[j]'(by omega)) := List.getElem?_eq_getElem (by omega)
  refine ⟨_, _, ?_, hys, h1.trans hys⟩
  rw [← Go.Deep.add_add, hcell, hv]
end
end structs
open Go.ChangeShapes Go.WideShapes
theorem list_of {α : Type} {p : Nat → α → Prop} : ∀ n : Nat, (∀ i, i < n → ∃ y, p i y) → ∃ l : List α, l.length = n ∧ ∀ (i : Nat) (y : α), l[i]? = some y → p i y
 | 0, _ => ⟨[], rfl, fun i y h => by simp at h⟩
 | n + 1, h => by
  obtain ⟨l, hl, hp⟩ := list_of n fun i hi => h i (by omega)
  obtain ⟨y, hy⟩ := h n (by omega)
  refine ⟨l ++ [y], by simp [hl], fun i z hz => ?_⟩
  by_cases hi : i < l.length
  ·rw [List.getElem?_append_left hi] at hz; exact hp i z hz
  ·rw [List.getElem?_append_right (by omega)] at hz
   have : i - l.length = 0 := by
    rcases Nat.eq_zero_or_pos (i - l.length) with h0 | h0
    ·exact h0
    ·rw [List.getElem?_eq_none (by simp; omega)] at hz; cases hz
   rw [this] at hz
   simp at hz
   subst hz
   rw [show i = n from by omega]
   exact hy
theorem trod_b {H : Type} {enc : TypeId × Value → H} {W : World} {fuel : Nat} {cs : List Value} {x : DataW H × List MemPlace}
  (h : DataW.trod enc Tryz.prog W 0 (fun _ => true) true fuel 31 cs = some x) : ∃ A n c l, cs = [.slice A n c] ∧ RdB W W.heap.size A n l ∧ SlD x.1 n ∧ n ≤ c ∧ c ≤ maxLen := by
 rcases open_ints Tryz.underlying31 Tryz.underlying5 cellsU8 h with ⟨hcs, hx⟩ | ⟨x, l, c, zs, hcs, _, hl, hm, hz, hx, hcell, hwz⟩
 ·subst hx
  exact ⟨none, 0, 0, [], hcs, RdB.nil, .inl ⟨rfl, rfl⟩, Nat.le_refl _, Nat.zero_le _⟩
 ·subst hx
  rw [if_pos rfl] at hz
  have hlen : ((zs.take l).map byt).length = l := by rw [List.length_map, List.length_take]; omega
  refine ⟨some x, l, c, (zs.take l).map byt, hcs, ⟨by rw [bv_length]; omega, fun hn => ⟨x, rfl, ?_, fun j u hu => ?_⟩⟩, .inr ⟨_, _, rfl, by simp [lits]; omega⟩, hl, hm⟩
  ·have := World.block_lt_of_cell? W _ (hcell 0 (by omega))
   rw [block_of_add] at this
   exact this
  ·have hj : j < l := by
    rcases Nat.lt_or_ge j l with h | h
    ·exact h
    ·rw [List.getElem?_eq_none (by rw [bv_length, hlen]; exact h)] at hu; cases hu
   rw [hcell j (by omega)]
   rw [bv_get _ j (by rw [hlen]; exact hj)] at hu
   rw [← hu]
   congr 2
   have hb := u8_bd (hwz (zs.getD j 0) (by rw [getD_get zs j (by omega)]; exact List.getElem_mem _))
   rw [List.getElem_map, List.getElem_take, ← getD_get zs j (by omega), byt_toNat hb.1 hb.2]
structure StepV where
 what : Int
 num : Int
 A : Option Addr
 n : Nat
 c : Nat
 l : List UInt8
 rs : List UInt8
 near : Bool
def stepCells (y : StepV) : List Value := [.int .i64 y.what, .int .i64 y.num, .slice y.A y.n y.c, .string (bstr y.rs), .bool y.near]
def RdT (w : World) (B : Nat) (A : Option Addr) (n : Nat) (ys : List StepV) : Prop := Reads w B 5 A n (ys.flatMap stepCells) ∧ ∀ y ∈ ys, RdB w B y.A y.n y.l ∧ y.n ≤ y.c ∧ y.n ≤ 9223372036854775807 ∧ -9223372036854775808 ≤ y.num ∧ y.num ≤ 9223372036854775807
theorem stepCells_len (ls : List StepV) : (ls.flatMap stepCells).length = ls.length * 5 := by
 induction ls with
 | nil => rfl
 | cons y ls ih => simp [stepCells, ih]; omega
theorem stepCells_get : ∀ (ls : List StepV) (k j : Nat) (hk : k < ls.length), j < 5 → (ls.flatMap stepCells)[k * 5 + j]? = (stepCells ls[k])[j]?
 | y :: ls, 0, j, _, hj => by
  rw [List.flatMap_cons, List.getElem?_append_left (by simp [stepCells]; omega)]; simp
 | y :: ls, k + 1, j, hk, hj => by
  rw [List.flatMap_cons, List.getElem?_append_right (by simp [stepCells]; omega)]
  have := stepCells_get ls k j (by simpa using hk) hj
  rw [show (k + 1) * 5 + j - (stepCells y).length = k * 5 + j from by simp [stepCells]; omega, this]
  simp
section
variable {w w' : World} {B B' n : Nat} {A : Option Addr} {ys : List StepV}
theorem RdT.len (h : RdT w B A n ys) : ys.length = n := by have := h.1.1; rw [stepCells_len] at this; omega
theorem RdT.below (h : RdT w B A n ys) (hb : Below B w w') : RdT w' B A n ys := ⟨Reads.below h.1 hb, fun y hy => ⟨(h.2 y hy).1.below hb, (h.2 y hy).2⟩⟩
theorem RdT.at_ (h : RdT w B A n ys) {k : Nat} (hk : k < n) : ∃ b off y, A = some ⟨b, off, none⟩ ∧ b < B ∧ ys[k]? = some y ∧
  w.cell? ⟨b, off + k * 5, none⟩ = some (.int .i64 y.what) ∧ w.cell? ⟨b, off + k * 5 + 1, none⟩ = some (.int .i64 y.num) ∧ w.cell? ⟨b, off + k * 5 + 2, none⟩ = some (.slice y.A y.n y.c) ∧ w.cell? ⟨b, off + k * 5 + 3, none⟩ = some (.string (bstr y.rs)) ∧ w.cell? ⟨b, off + k * 5 + 4, none⟩ = some (.bool y.near) ∧
  RdB w B y.A y.n y.l ∧ y.n ≤ y.c ∧ y.n ≤ 9223372036854775807 ∧ -9223372036854775808 ≤ y.num ∧ y.num ≤ 9223372036854775807 := by
 obtain ⟨ad, rfl, hb, hall⟩ := h.1.2 (by omega)
 have hl : k < ys.length := by rw [h.len]; exact hk
 have hg : ∀ j, j < 5 → ∀ u, (stepCells ys[k])[j]? = some u → w.cell? (ad.add (k * 5 + j)) = some u := fun j hj u hu => hall (k * 5 + j) u (by rw [stepCells_get ys k j hl hj]; exact hu)
 have h0 := hg 0 (by omega) _ rfl
 have hz := hall 0 _ (by have := stepCells_get ys 0 0 (by omega) (by omega); rw [show 0 * 5 + 0 = 0 from rfl] at this; rw [this]; rfl)
 obtain ⟨b, off, sp⟩ := ad
 have hsp : sp = none := by simpa [Addr.add] using World.cell?_spot hz
 subst hsp
 have h1 := hg 1 (by omega) _ rfl
 have h2 := hg 2 (by omega) _ rfl
 have h3 := hg 3 (by omega) _ rfl
 have h4 := hg 4 (by omega) _ rfl
 rw [Addr.add_lit] at h0 h1 h2 h3 h4
 have hm := h.2 _ (List.getElem_mem hl)
 exact ⟨b, off, ys[k], rfl, hb, List.getElem?_eq_getElem hl, h0, h1, h2, h3, h4, hm.1, hm.2⟩
end
set_option maxRecDepth 100000 in
theorem open_steps {H : Type} {enc : TypeId × Value → H} {W : World} {base : Nat} {v : Value} {d : DataW H} {p : List MemPlace}
  (hval : Value.okWide Tryz.prog W .any base 22 v) (h : DataW.Trod enc Tryz.prog W 0 (fun _ => true) true 22 v d p) :
  ∃ A n c ys, v = .slice A n c ∧ RdT W W.heap.size A n ys ∧ n ≤ 9223372036854775807 ∧ n ≤ c := by
 obtain ⟨a0, len0, cap0, rfl⟩ := okWide_slice Tryz.underlying22 hval
 obtain ⟨fuel, hf⟩ := h
 rcases structs.open_slice_fields Tryz.underlying22 Tryz.underlying33 (by kernel_rfl) (by kernel_rfl) hf with ⟨hcs, hx⟩ | ⟨a, len, cap, m, D, Pl, hcs, _, hl, hm, hmm, hx, hi⟩
 ·simp [Value.cells] at hcs
  obtain ⟨rfl, rfl, rfl⟩ := hcs
  exact ⟨none, 0, 0, [], rfl, ⟨⟨rfl, fun h => absurd h (by omega)⟩, fun y hy => by cases hy⟩, by omega, Nat.le_refl _⟩
 ·simp [Value.cells] at hcs
  obtain ⟨rfl, rfl, rfl⟩ := hcs
  rw [if_pos rfl] at hmm
  subst hmm
  have hn : len0 ≤ 9223372036854775807 := by unfold maxLen at hm; omega
  have each : ∀ i, i < len0 → ∃ y : StepV, (RdB W W.heap.size y.A y.n y.l ∧ y.n ≤ y.c ∧ y.n ≤ 9223372036854775807 ∧ -9223372036854775808 ≤ y.num ∧ y.num ≤ 9223372036854775807) ∧ ∀ (j : Nat) (u : Value), (stepCells y)[j]? = some u → W.cell? (a.add (i * 5 + j)) = some u := by
   intro i hil
   obtain ⟨ys, n, hD, _, hlen, hfld⟩ := hi i (by omega)
   obtain ⟨v0, y0, c0, e0, t0⟩ := hfld 0 _ rfl
   obtain ⟨v1, y1, c1, e1, t1⟩ := hfld 1 _ rfl
   obtain ⟨v2, y2, c2, e2, t2⟩ := hfld 2 _ rfl
   obtain ⟨v3, y3, c3, e3, t3⟩ := hfld 3 _ rfl
   obtain ⟨v4, y4, c4, e4, t4⟩ := hfld 4 _ rfl
   obtain ⟨n0, hv0, hy0, w0⟩ := DataW.trod_int Tryz.underlying3 t0
   obtain ⟨n1, hv1, hy1, w1⟩ := DataW.trod_int Tryz.underlying3 t1
   obtain ⟨A2, n2, k2, l2, hv2, hr2, hs2, hc2, hm2⟩ := trod_b t2
   obtain ⟨n3, hv3, hy3, w3⟩ := DataW.trod_string Tryz.underlying9 t3
   obtain ⟨n4, hv4, hy4⟩ := DataW.trod_bool Tryz.underlying4 t4
   simp only [List.cons.injEq, and_true] at hv0 hv1 hv2 hv3 hv4
   subst hv0; subst hv1; subst hv2; subst hv3; subst hv4
   refine ⟨⟨n0, n1, A2, n2, k2, l2, n3.data.toList, n4⟩, ⟨hr2, hc2, by unfold maxLen at hm2; show n2 ≤ _; omega, i64_bd w1⟩, fun j u hu => ?_⟩
   match j, hu with
   | 0, hu => simp [stepCells] at hu; subst hu; exact c0
   | 1, hu => simp [stepCells] at hu; subst hu; exact c1
   | 2, hu => simp [stepCells] at hu; subst hu; exact c2
   | 3, hu => simp [stepCells, bstr] at hu; subst hu; exact c3
   | 4, hu => simp [stepCells] at hu; subst hu; exact c4
   | j + 5, hu => simp [stepCells] at hu
  obtain ⟨ls, hll, hls⟩ := list_of len0 each
  refine ⟨some a, len0, _, ls, rfl, ⟨⟨by rw [stepCells_len, hll], fun hn => ⟨a, rfl, ?_, fun j u hu => ?_⟩⟩, fun y hy => ?_⟩, hn, hl⟩
  ·have hy := List.getElem?_eq_getElem (show 0 < ls.length by omega)
   have := World.block_lt_of_cell? W _ ((hls 0 _ hy).2 0 _ rfl)
   rw [block_of_add] at this
   exact this
  ·have hj : j < ls.length * 5 := by
    rcases Nat.lt_or_ge j (ls.length * 5) with h | h
    ·exact h
    ·rw [List.getElem?_eq_none (by rw [stepCells_len]; exact h)] at hu; cases hu
   have hk : j / 5 < ls.length := by omega
   have hy := List.getElem?_eq_getElem hk
   have e : j = j / 5 * 5 + j % 5 := by omega
   rw [e, stepCells_get ls (j / 5) (j % 5) hk (by omega)] at hu
   rw [e]
   exact (hls _ _ hy).2 _ _ hu
  ·obtain ⟨i, hi, rfl⟩ := List.getElem_of_mem hy
   exact (hls i _ (List.getElem?_eq_getElem hi)).1
end Go.Proofs.YtmkddhkpeiajhaaGreatDoor
namespace Go.Proofs.YtmkddhkpeiajhaaGreatDoor
open Go.RowKit
theorem RdZ.lat {w w' : World} {A : Option Addr} {n : Nat} {ss : List (List UInt8)} (h : RdZ w w.heap.size A n ss) (hl : Later w w') : RdZ w' w'.heap.size A n ss := (RdZ.below h (hl.below (Nat.le_refl _))).more hl.size
theorem fk1 : wordsF [32, 32, 97, 32, 32, 98, 32] = [[97], [98]] := by decide +kernel
theorem fk2 : piecesC 58 [97, 58, 58, 98] = [[97], [], [98]] := by decide +kernel
theorem strs_lit (w : World) (A : Option Addr) (n c : Nat) (ss : List (List UInt8)) (cs : Array Value) (h : RdZ w w.heap.size A n ss) (hcs : cs = (ss.map strCell).toArray) (hn : n < 1000000) :
  Calls Tryz.prog 20 #[.slice A n c, .slice (some ⟨w.heap.size, 0, none⟩) n n] (w.alloc (.cells cs 9)) fun e w' => e = .returned (.bool true) ∧ Later w w' := by
 subst hcs
 have hz : (w.alloc (.cells (ss.map strCell).toArray 9)).heap.size = w.heap.size + 1 := by simp
 have h1 := h.lat ((Later.refl w).alloc (.cells (ss.map strCell).toArray 9))
 have h2 := reads_cells w ss 9
 rw [← hz, h.len] at h2
 exact (strs_same _ _ A _ n c n ss h1 h2 (Nat.le_refl _) (by omega)).mono fun e w' ⟨he, hb⟩ => ⟨he, ((Later.refl w).alloc _).trans hb⟩
set_option maxRecDepth 100000 in
set_option maxHeartbeats 4000000 in
theorem fieldKnown_any (w : World) (hm : MaxL w) : Calls Tryz.prog 6 #[] w fun e w' => e = .returned (.bool true) ∧ Later w w' := by
 have h1 := fun (wx : World) => fsplit_words [32, 32, 97, 32, 32, 98, 32] wx (by decide) (by decide)
 rw [fk1] at h1
 have h2 := fun (wx : World) (hl : Later w wx) => fsplit_at 58 [97, 58, 58, 98] wx (hm.later hl) (by decide) (by decide) (by decide) (by decide)
 rw [fk2] at h2
 have H1 := Lib.hid h1
 have H2 := Lib.hid h2
 clear h1 h2 hm
 go_enter Tryz.func6, Tryz.ntmps6
 go_wp2_with fail
 refine (H1.out _).mono ?_
 rintro e w1 ⟨_, rfl, A1, n1, c1, rfl, hr1, hl1⟩
 have HR1 := Lib.hid hr1
 have HL1 := Lib.hid hl1
 have hn1 : n1 = 2 := hr1.len.symm
 subst hn1
 clear hr1 hl1
 go_wp2_with fail
 refine (H2.out _ HL1.out).mono ?_
 rintro e w2 ⟨_, rfl, A2, n2, c2, rfl, hr2, hl2⟩
 have hn2 : n2 = 3 := hr2.len.symm
 subst hn2
 have HR2 := Lib.hid hr2
 have HL2 := Lib.hid hl2
 clear hr2 hl2
 go_wp2_with fail
 refine (fsplit_re _).mono ?_
 rintro e w3 ⟨_, rfl, A3, n3, c3, rfl, hr3, hl3⟩
 have hn3 : n3 = 3 := hr3.len.symm
 subst hn3
 have HR3 := Lib.hid hr3
 have HL3 := Lib.hid hl3
 clear hr3 hl3
 go_wp2_with fail
 refine (strs_lit _ A1 2 c1 [[97], [98]] _ (HR1.out.lat (HL2.out.trans HL3.out)) rfl (by decide)).mono ?_
 rintro e w4 ⟨rfl, hl4⟩
 have HL4 := Lib.hid hl4
 clear hl4
 go_wp2_with fail
 refine (strs_lit _ A2 3 c2 [[97], [], [98]] _ (HR2.out.lat (HL3.out.trans HL4.out)) rfl (by decide)).mono ?_
 rintro e w5 ⟨rfl, hl5⟩
 have HL5 := Lib.hid hl5
 clear hl5
 go_wp2_with fail
 refine (strs_lit _ A3 3 c3 [[97], [98], [99]] _ (HR3.out.lat (HL4.out.trans HL5.out)) rfl (by decide)).mono ?_
 rintro e w6 ⟨rfl, hl6⟩
 go_wp2_with fail
 go_ret
 exact ⟨rfl, HL1.out.trans (HL2.out.trans (HL3.out.trans (HL4.out.trans (HL5.out.trans hl6))))⟩
end Go.Proofs.YtmkddhkpeiajhaaGreatDoor
namespace Go.Proofs.YtmkddhkpeiajhaaGreatDoor
open Go.RowKit
theorem recNew_blk (w : World) : Calls Tryz.prog 5 #[] w fun e w' => e = .returned (.pointer (some ⟨w.heap.size, 0, none⟩)) ∧ Blk w' w.heap.size 52 #[.string ⟨#[]⟩, .slice none 0 0] ∧ Later w w' := by
 go_enter Tryz.func5, Tryz.ntmps5
 go_wp2_with fail
 go_ret
 exact ⟨rfl, Blk.new w _ _, (Later.refl w).alloc _⟩
end Go.Proofs.YtmkddhkpeiajhaaGreatDoor
