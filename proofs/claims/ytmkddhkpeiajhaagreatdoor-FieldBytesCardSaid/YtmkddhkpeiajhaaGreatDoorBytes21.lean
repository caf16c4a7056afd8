import Derived.Test.YtmkddhkpeiajhaaGreatDoorRun22
import Derived.Test.YtmkddhkpeiajhaaGreatDoorRwLay
import Derived.Test.YtmkddhkpeiajhaaGreatDoorRecRd
import Derived.Test.YtmkddhkpeiajhaaGreatDoorEarly2
import Derived.Deep.CutBlock
import Derived.Deep.DeepCutAuto
namespace Go.Proofs.YtmkddhkpeiajhaaGreatDoor
open Go.RowKit
theorem near_store {w0 w1 : World} {A : Option Addr} {n c : Nat} {l : List UInt8} (hb : Below w0.heap.size w0 w1) (ho : OwnB w1 w0.heap.size A n c l) {k : Nat} (hk : k < n) {x : Int} (h0 : 0 ≤ x) (h1 : x < 256) :
  ∃ g, A = some ⟨g, 0, none⟩ ∧ g < w1.heap.size ∧ (∃ y, w1.cell? ⟨g, k, none⟩ = some (.int .u8 y)) ∧ w1.frozen? ⟨g, k, none⟩ = false ∧
   (∃ l', OwnB (w1.setCell ⟨g, k, none⟩ (.int .u8 x)) w0.heap.size A n c l') ∧ Below w0.heap.size w0 (w1.setCell ⟨g, k, none⟩ (.int .u8 x)) := by
 obtain ⟨g, rfl, hbg, hgl, hcell, hfz, hst⟩ := ho.store hk
 obtain ⟨h2, h3⟩ := hst x h0 h1
 exact ⟨g, rfl, hgl, ⟨_, hcell⟩, hfz, ⟨_, h2⟩, hb.setCell hbg _⟩
theorem later_fr {w w1 w2 : World} {g : Nat} (h : Later w w1) (hf : Fr w1 w2 (fun k => k = g)) (hg : w.heap.size ≤ g) : Later w w2 := Below.trans h (hf.below h.size (fun k hk e => by omega))
theorem layR_len (T : List UInt8) (ss : List (List UInt8)) (hT : T.length ≤ 256) (hn : ss.length ≤ 100) (hss : ∀ y ∈ ss, y.length ≤ 1000000) : (layR T ss).length ≤ 200000000 := by
 have h1 := nm_len T.length
 have h2 := nm_len ss.length
 have h3 := layS_len ss hss
 have h4 : ss.length * 1000010 ≤ 100 * 1000010 := Nat.mul_le_mul_right _ hn
 unfold layR
 simp only [List.length_append]
 omega
set_option maxRecDepth 100000 in
set_option maxHeartbeats 8000000 in
theorem bytes_any (D : DocParses) (A : Option Addr) (n c : Nat) (ys : List StepV) (w : World) (hr : RdT w w.heap.size A n ys) (hm : MaxL w) (hS : SepsAt w)
  (Ab : Option Addr) (nb cb : Nat) (lb : List UInt8) (hrb : RdB w w.heap.size Ab nb lb) (hcb : nb ≤ cb) (hnb : nb ≤ 140737488351232) (own : Bool) (at_ tob : Int) :
  Calls Tryz.prog 4 #[.slice A n c, .slice Ab nb cb, .bool own, .int .i64 at_, .int .i64 tob] w fun e w' => e = .returned (.bool true) ∧ Below w.heap.size w w' := by
 have hs1 : 0 < w.heap.size := World.block_lt_of_cell? w _ (hS 0 [32] rfl)
 have hm1 : 1 < w.heap.size := by obtain ⟨m, hm⟩ := hm; exact World.block_lt_of_cell? w _ hm
 have HM := Lib.hid hm
 have HS := Lib.hid hS
 have HR := Lib.hid hr
 have HRB := Lib.hid hrb
 clear hm hS hr hrb
 go_enter Tryz.func4, Tryz.ntmps4
 go_wp2_with fail
 refine (recNew_blk w).mono ?_
 rintro e w1 ⟨rfl, hB1, hl1⟩
 have HL1 := Lib.hid hl1
 obtain ⟨g, hg⟩ : ∃ g, g = w.heap.size := ⟨_, rfl⟩
 rw [← hg] at hB1 ⊢
 have HB1 := Lib.hid hB1
 have HG := Lib.hid hg
 clear hB1 hl1 hg
 go_wp2_with fail
 refine (fieldKnown_any w1 (HM.out.later HL1.out)).mono ?_
 rintro e w2 ⟨rfl, hl2⟩
 have HL2 : Hid (Later w w2) := HL1.out.trans hl2
 have HB2 := Lib.hid (blkLz hl2 HB1.out)
 clear hl2 HB1
 obtain ⟨W3, hW3⟩ : ∃ W3, W3 = w2.alloc (.cells #[.string ⟨#[]⟩, .slice none 0 0] 29) := ⟨_, rfl⟩
 obtain ⟨gr, hgr⟩ : ∃ gr, gr = w2.heap.size := ⟨_, rfl⟩
 have B3 : Blk W3 gr 29 #[.string ⟨#[]⟩, .slice none 0 0] := by rw [hW3, hgr]; exact Blk.new w2 _ _
 have hl3 : Later w2 W3 := by rw [hW3]; exact (Later.refl w2).alloc _
 have HL3 : Hid (Later w W3) := HL2.out.trans hl3
 have hsz3 : W3.heap.size = w2.heap.size + 1 := by rw [hW3]; simp
 have hgw : w.heap.size ≤ g := by have := HG.out; omega
 have hgrw : w.heap.size ≤ gr := by have := HL2.out.size; omega
 have hglt := HB2.out.lt
 obtain ⟨M, hM⟩ : ∃ M, M = W3.heap.size := ⟨_, rfl⟩
 have hT0 : Hid (Two M W3 g gr [] []) :=
  ⟨⟨none, 0, 0, blkLz hl3 HB2.out, ⟨rfl, fun h => absurd h (by omega)⟩, fun k h => by cases h⟩, ⟨none, 0, 0, B3, ⟨rfl, fun h => absurd h (by omega)⟩, Nat.le_refl _, fun k h => by cases h⟩, by omega, by omega, by omega, by omega, by decide, by decide, fun y hy => by cases hy⟩
 have hB0 : Hid (Below w.heap.size w W3) := HL3.out
 go_upto_region 5 with fail
 rw [← hW3, ← hgr]
 clear hW3 hgr hl3 hsz3 hM B3 HB2 hglt
 go_upto_block 0 with (fail)
 go_cut [13] from 32 to 48 (fun _ wx => ∃ (T : List UInt8) (ss : List (List UInt8)), Two M wx g gr T ss ∧ Below w.heap.size w wx)
 case first =>
  go_wp2_with fail
  go_loopw [13] (fun s13 wr => ∃ (i : Nat) (T : List UInt8) (ss : List (List UInt8)), i ≤ n ∧ i ≤ 20 ∧ s13 = .int .i64 (i : Int) ∧ Hid (Two M wr g gr T ss) ∧ Hid (Below w.heap.size w wr)) (fun s13 _ => 20 - (intOf s13).toNat)
  case atStart => exact ⟨0, [], [], Nat.zero_le _, Nat.zero_le _, rfl, hT0, hB0⟩
  case round =>
   obtain ⟨i, T, ss, hi, hi60, rfl, HT, HB⟩ := hrel
   by_cases hlt : i < n
   ·have hlti : (i : Int) < (n : Int) := by omega
    by_cases h60 : i < 20
    ·have h60i : (i : Int) < 20 := by omega
     obtain ⟨b, off, y, rfl, _, hy, h0, h1, h2, h3, h4, hyr, hyc, hyn, hy1, hy2⟩ := (HR.out.below HB.out).at_ hlt
     have hRun := Lib.hid (run_any (M := M) D g gr T ss wr HT.out (by obtain ⟨m, hm⟩ := HM.out; exact ⟨m, (HB.out.cell (p := ⟨_, 0, none⟩) hm1).trans hm⟩) (fun j s hs => (HB.out.cell (p := ⟨_, j, none⟩) hs1).trans (HS.out j s hs)) (by rintro k (rfl | rfl) <;> exact ⟨by omega, by omega⟩) y.what y.num hy1 hy2 y.A y.n y.c y.l (hyr.more HB.out.size) hyn (bstr y.rs) y.near)
     obtain ⟨what, num, yA, yn, yc, yl, yrs, near⟩ := y
     simp only at h0 h1 h2 h3 h4 hRun
     clear hy hyr hyc hyn hy1 hy2
     go_wp2_with fail
     refine hRun.out.mono ?_
     rintro e w4 ⟨rfl, T', ss', hT', hf⟩
     have HT' := Lib.hid hT'
     have HB4 : Hid (Below w.heap.size w w4) := HB.out.trans (hf.below HB.out.size (fun k hk e => by omega))
     clear hT' hf h0 h1 h2 h3 h4
     go_wp2_with fail
     go_roundw
     case rel => exact ⟨i + 1, T', ss', by omega, by omega, by go_num, HT'.out, HB4⟩
     case measure => first | (simp [intOf]; done) | (simp [intOf]; omega)
    ·have h60i : ¬ (i : Int) < 20 := by omega
     go_wp2_with fail
     go_meet
     exact ⟨T, ss, HT.out, HB.out⟩
   ·have hlti : ¬ (i : Int) < (n : Int) := by omega
    go_wp2_with fail
    go_meet
    exact ⟨T, ss, HT.out, HB.out⟩
 case rest =>
  obtain ⟨T, ss, hTwo, hBc⟩ := hcut
  clear hT0 hB0 HL1 HL2 HL3 HR HM HS
  obtain ⟨w9, rfl⟩ : ∃ w9 : World, w9 = wc := ⟨_, rfl⟩
  obtain ⟨hRc, hRw, hgM, hgrM, hne, hMs, hT, hn100, hy⟩ := hTwo
  have hyM : ∀ y ∈ ss, y.length ≤ 1000000 := fun y h => Nat.le_trans (hy y h) (by decide)
  have HY := Lib.hid hy
  have HYM := Lib.hid hyM
  have HRW := Lib.hid hRw
  obtain ⟨A9, n9, c9, hB9, hrd9, hA9⟩ := hRc
  obtain rfl : ss.length = n9 := hrd9.len
  have hg9 := hB9.lt
  have HB9 := Lib.hid hB9
  have HRD9 := Lib.hid hrd9
  have HBC := Lib.hid hBc
  have hlR := layR_len T ss hT hn100 hyM
  have hpos := layR_pos T ss
  have hwz := hBc.size
  clear hy hyM hRw hB9 hrd9 hA9 hBc
  go_wp2_with fail
  refine (newWriter_any w9).mono ?_
  rintro e w10 ⟨rfl, rfl⟩
  have hl10 : Later w9 (w9.alloc (.cells #[.slice none 0 0] 67)) := (Later.refl w9).alloc _
  have H1 := Lib.hid (recLay_any g w9.heap.size T ss A9 c9 (w9.alloc (.cells #[.slice none 0 0] 67)) (blkLz hl10 HB9.out) (RdZ.below HRD9.out (hl10.below (Nat.le_refl _))) w9.heap.size w9.heap.size none [] (WrOk.new w9 w9.heap.size (Nat.le_refl _)) (by simp) (Nat.le_refl _) hg9 hT hn100 HYM.out (by simp))
  have HL10 := Lib.hid hl10
  clear hl10 HB9 HRD9
  go_wp2_with fail
  refine H1.out.mono ?_
  rintro e w11 ⟨rfl, Rw11, hW11, hf11, _⟩
  rw [List.nil_append] at hW11
  have HL11 : Hid (Later w9 w11) := Below.trans HL10.out (hf11.below HL10.out.size (by
   rintro k hk (rfl | e)
   ·omega
   ·cases e))
  have H2 := Lib.hid (writer_bytes w11 w9.heap.size w9.heap.size Rw11 (layR T ss) hW11 (by omega))
  clear H1 hW11 hf11 HL10
  go_wp2_with fail
  refine H2.out.mono ?_
  rintro e w12 ⟨Ax, nx, cx, rfl, hOx, hl12⟩
  have HL12 : Hid (Later w9 w12) := HL11.out.trans hl12
  have hnx : (layR T ss).length = nx := hOx.len
  have hcx := hOx.cap
  have HRX := Lib.hid hOx.rd
  have H3 := Lib.hid (newReader_any Ax nx cx (layR T ss) w12 hOx.rd (by omega))
  clear H2 hOx hl12 HL11
  go_wp2_with fail
  refine H3.out.mono ?_
  rintro e w13a ⟨gp, rfl, hgp, hp13, hl13⟩
  have hz12 := HL12.out.size
  have HL13 : Hid (Later w9 w13a) := HL12.out.trans hl13
  have HX13 := Lib.hid (RdB.below HRX.out hl13)
  obtain ⟨b12, hb12⟩ : ∃ b12, b12 = w12.heap.size := ⟨_, rfl⟩
  rw [← hb12] at hp13 hgp HX13
  have hgp13 := hp13.lt
  have H4 := Lib.hid (recRead_any w13a b12 gp (layR T ss) 0 0 hp13 (by decide))
  rw [rec_back T ss hT hn100 HY.out] at H4
  have hb9 : w9.heap.size ≤ b12 := by omega
  clear H3 hl13 hp13 HRX HL12 hb12 hz12
  go_wp2_with fail
  refine H4.out.mono ?_
  rintro e w13 ⟨gu, rfl, hgu, hU, hP13, hf13⟩
  have HP := Lib.hid hP13
  have hs13 := hf13.size
  have hL13 : Later w9 w13 := later_fr HL13.out hf13 (by omega)
  have HL13' := Lib.hid hL13
  have HU : Hid (∀ W, Fr w13 W (fun k => k = gp) → RcOk w13a.heap.size W gu T ss) := fun W h => hU.fr h (by omega) (fun k hk e => by omega)
  have HD : Hid (∀ W, Fr w13 W (fun k => k = gp) → RwOk M W gr T ss) := fun W h => HRW.out.later (later_fr HL13'.out h (by omega))
  have HX : Hid (∀ W, Fr w13 W (fun k => k = gp) → RdB W b12 Ax nx (layR T ss)) := fun W h => (HX13.out.fr (hf13.trans h (fun _ _ h => h)) (by omega) (fun k hk e => by omega))
  have HLY : Hid (∀ W, Fr w13 W (fun k => k = gp) → Calls Tryz.prog 15 #[.pointer (some ⟨gr, 0, none⟩)] W (Made W (layR T ss))) := fun W h => by
   obtain ⟨Az, nz, cz, hBz, hrz, _, _⟩ := HD.out W h
   obtain rfl : ss.length = nz := hrz.len
   exact rwLay_any gr T ss Az cz W hBz hrz hT hn100 HYM.out
  have hss : ((bstr (layR T ss)).toList != (bstr (layR T ss)).toList) = false := by rw [bne_eq_false_iff_eq]
  clear H4 hU hP13 HL13 hf13 hL13
  go_upto_region 14 with (fail)
  go_cut [79] (fun v wx => v = .bool false ∧ Fr w13 wx (fun k => k = gp))
  case first =>
   refine wp_region_early (S := fun W => Fr w13 W (fun k => k = gp)) 21 (by kernel_rfl) ((Fr.refl w13 (fun k => k = gp)).drew) (fun hHeld => ?_)
   refine wpAnyE_takez (i := 0) (oi := ⟨some 59, Op.move (Operand.tmp 17), _, _, _, none⟩) (v := ?_) rfl rfl (by kernel_rfl) (by kernel_rfl) (by kernel_rfl) (by kernel_rfl) (fun _ _ _ h => h) (Or.inl ⟨by rfl, ?_⟩) hHeld ?_
   rotate_left
   ·intro w hSw
    try dsimp only at hSw
    go_simp
    try with_reducible rfl
   try simp only [Act.put, List.setIfInBounds_toArray, List.set_cons_zero, List.set_cons_succ]
   refine wpAnyE_takez (i := 1) (oi := ⟨some 60, Op.binOp BinOp.eql 23 (Operand.tmp 59) (Operand.const (Value.pointer none)) 23, _, _, _, none⟩) (v := ?_) rfl rfl (by kernel_rfl) (by kernel_rfl) (by kernel_rfl) (by kernel_rfl) (fun _ _ _ h => h) (Or.inl ⟨by rfl, ?_⟩) hHeld ?_
   rotate_left
   ·intro w hSw
    try dsimp only at hSw
    go_simp
    try with_reducible rfl
   try simp only [Act.put, List.setIfInBounds_toArray, List.set_cons_zero, List.set_cons_succ]
   refine wpAnyE_takez (i := 2) (oi := ⟨some 61, Op.move (Operand.tmp 60), _, _, _, none⟩) (v := ?_) rfl rfl (by kernel_rfl) (by kernel_rfl) (by kernel_rfl) (by kernel_rfl) (fun _ _ _ h => h) (Or.inl ⟨by rfl, ?_⟩) hHeld ?_
   rotate_left
   ·intro w hSw
    try dsimp only at hSw
    go_simp
    try with_reducible rfl
   try simp only [Act.put, List.setIfInBounds_toArray, List.set_cons_zero, List.set_cons_succ]
   refine wpAnyE_takez (i := 3) (oi := ⟨some 62, Op.move (Operand.tmp 16), _, _, _, some (2, false)⟩) (v := ?_) rfl rfl (by kernel_rfl) (by kernel_rfl) (by kernel_rfl) (by kernel_rfl) (fun _ _ _ h => h) (Or.inl ⟨by rfl, ?_⟩) hHeld ?_
   rotate_left
   ·intro w hSw
    try dsimp only at hSw
    go_simp
    try with_reducible rfl
   try simp only [Act.put, List.setIfInBounds_toArray, List.set_cons_zero, List.set_cons_succ]
   refine wpAnyE_one (i := 4) (o := ⟨some 63, Op.call { callee := Callee.value (Operand.func 14), args := #[Operand.tmp 62], argTypes := #[40] }, _, _, _, some (2, false)⟩) (by kernel_rfl) rfl (fun K hK => ?_)
   go_simp
   go_at_call 14
   refine (reader_end w13.drew b12 gp (layR T ss) (layR T ss).length 0 (HP.out.drewN 1) (by decide)).mono ?_
   rw [rEnd_back]
   rintro e w14 ⟨rfl, _, hf14⟩
   have hf14 : Fr w13 w14 (fun k => k = gp) := (Fr.refl w13 (fun k => k = gp)).drew.trans hf14 (fun _ _ h => h)
   refine hK.out _ _ (fun _ => hf14) (fun hHeld => ?_)
   clear hK K
   replace hHeld := hHeld (by decide)
   try simp only [Act.put, List.setIfInBounds_toArray, List.set_cons_zero, List.set_cons_succ]
   refine wpAnyE_takez (i := 5) (oi := ⟨some 64, Op.binOp BinOp.neq 43 (Operand.tmp 63) (Operand.const (Value.int IntKind.i64 0)) 43, _, _, _, some (2, false)⟩) (v := ?_) rfl rfl (by kernel_rfl) (by kernel_rfl) (by kernel_rfl) (by kernel_rfl) (fun _ _ _ h => h) (Or.inl ⟨by rfl, ?_⟩) hHeld ?_
   rotate_left
   ·intro w hSw
    try dsimp only at hSw
    go_simp
    try with_reducible rfl
   try simp only [Act.put, List.setIfInBounds_toArray, List.set_cons_zero, List.set_cons_succ]
   refine wpAnyE_takez (i := 6) (oi := ⟨some 65, Op.pick (Operand.tmp 61) (Operand.const (Value.bool true)) (Operand.tmp 64), _, _, _, none⟩) (v := ?_) rfl rfl (by kernel_rfl) (by kernel_rfl) (by kernel_rfl) (by kernel_rfl) (fun _ _ _ h => h) (Or.inl ⟨by rfl, ?_⟩) hHeld ?_
   rotate_left
   ·intro w hSw
    try dsimp only at hSw
    go_simp
    try with_reducible rfl
   try simp only [Act.put, List.setIfInBounds_toArray, List.set_cons_zero, List.set_cons_succ]
   refine wpAnyE_takez (i := 7) (oi := ⟨some 66, Op.move (Operand.tmp 65), _, _, _, none⟩) (v := ?_) rfl rfl (by kernel_rfl) (by kernel_rfl) (by kernel_rfl) (by kernel_rfl) (fun _ _ _ h => h) (Or.inl ⟨by rfl, ?_⟩) hHeld ?_
   rotate_left
   ·intro w hSw
    try dsimp only at hSw
    go_simp
    try with_reducible rfl
   try simp only [Act.put, List.setIfInBounds_toArray, List.set_cons_zero, List.set_cons_succ]
   refine wpAnyE_takez (i := 8) (oi := ⟨some 67, Op.move (Operand.tmp 17), _, _, _, some (7, false)⟩) (v := ?_) rfl rfl (by kernel_rfl) (by kernel_rfl) (by kernel_rfl) (by kernel_rfl) (fun _ _ _ h => h) (Or.inl ⟨by rfl, ?_⟩) hHeld ?_
   rotate_left
   ·intro w hSw
    try dsimp only at hSw
    go_simp
    try with_reducible rfl
   try simp only [Act.put, List.setIfInBounds_toArray, List.set_cons_zero, List.set_cons_succ]
   refine wpAnyE_takez (i := 9) (oi := ⟨some 68, Op.move (Operand.tmp 12), _, _, _, some (7, false)⟩) (v := ?_) rfl rfl (by kernel_rfl) (by kernel_rfl) (by kernel_rfl) (by kernel_rfl) (fun _ _ _ h => h) (Or.inl ⟨by rfl, ?_⟩) hHeld ?_
   rotate_left
   ·intro w hSw
    try dsimp only at hSw
    go_simp
    try with_reducible rfl
   try simp only [Act.put, List.setIfInBounds_toArray, List.set_cons_zero, List.set_cons_succ]
   refine wpAnyE_one (i := 10) (o := ⟨some 69, Op.call { callee := Callee.value (Operand.func 8), args := #[Operand.tmp 67, Operand.tmp 68], argTypes := #[23, 26] }, _, _, _, some (7, false)⟩) (by kernel_rfl) rfl (fun K hK => ?_)
   go_simp
   go_at_call 8
   refine (same_gen gu gr T ss w14 (HU.out w14 hf14) (HD.out w14 hf14) hn100).mono ?_
   rintro e w15 ⟨rfl, lt15⟩
   have hf15 : Fr w13 w15 (fun k => k = gp) := hf14.trans (frLz lt15) (fun _ _ h => h)
   refine hK.out _ _ (fun _ => hf15) (fun hHeld => ?_)
   clear hK K
   replace hHeld := hHeld (by decide)
   try simp only [Act.put, List.setIfInBounds_toArray, List.set_cons_zero, List.set_cons_succ]
   refine wpAnyE_takez (i := 11) (oi := ⟨some 70, Op.unOp UnOp.not 4 (Operand.tmp 69), _, _, _, some (7, false)⟩) (v := ?_) rfl rfl (by kernel_rfl) (by kernel_rfl) (by kernel_rfl) (by kernel_rfl) (fun _ _ _ h => h) (Or.inl ⟨by rfl, ?_⟩) hHeld ?_
   rotate_left
   ·intro w hSw
    try dsimp only at hSw
    go_simp
    try with_reducible rfl
   try simp only [Act.put, List.setIfInBounds_toArray, List.set_cons_zero, List.set_cons_succ]
   refine wpAnyE_takez (i := 12) (oi := ⟨some 71, Op.pick (Operand.tmp 66) (Operand.const (Value.bool true)) (Operand.tmp 70), _, _, _, none⟩) (v := ?_) rfl rfl (by kernel_rfl) (by kernel_rfl) (by kernel_rfl) (by kernel_rfl) (fun _ _ _ h => h) (Or.inl ⟨by rfl, ?_⟩) hHeld ?_
   rotate_left
   ·intro w hSw
    try dsimp only at hSw
    go_simp
    try with_reducible rfl
   try simp only [Act.put, List.setIfInBounds_toArray, List.set_cons_zero, List.set_cons_succ]
   refine wpAnyE_takez (i := 13) (oi := ⟨some 72, Op.move (Operand.tmp 71), _, _, _, none⟩) (v := ?_) rfl rfl (by kernel_rfl) (by kernel_rfl) (by kernel_rfl) (by kernel_rfl) (fun _ _ _ h => h) (Or.inl ⟨by rfl, ?_⟩) hHeld ?_
   rotate_left
   ·intro w hSw
    try dsimp only at hSw
    go_simp
    try with_reducible rfl
   try simp only [Act.put, List.setIfInBounds_toArray, List.set_cons_zero, List.set_cons_succ]
   refine wpAnyE_takez (i := 14) (oi := ⟨some 73, Op.move (Operand.tmp 15), _, _, _, some (13, false)⟩) (v := ?_) rfl rfl (by kernel_rfl) (by kernel_rfl) (by kernel_rfl) (by kernel_rfl) (fun _ _ _ h => h) (Or.inl ⟨by rfl, ?_⟩) hHeld ?_
   rotate_left
   ·intro w hSw
    try dsimp only at hSw
    go_simp
    try with_reducible rfl
   try simp only [Act.put, List.setIfInBounds_toArray, List.set_cons_zero, List.set_cons_succ]
   refine wpAnyE_takez (i := 16) (oi := ⟨some 75, Op.move (Operand.tmp 12), _, _, _, some (13, false)⟩) (v := ?_) rfl rfl (by kernel_rfl) (by kernel_rfl) (by kernel_rfl) (by kernel_rfl) (fun _ _ _ h => h) (Or.inl ⟨by rfl, ?_⟩) hHeld ?_
   rotate_left
   ·intro w hSw
    try dsimp only at hSw
    go_simp
    try with_reducible rfl
   try simp only [Act.put, List.setIfInBounds_toArray, List.set_cons_zero, List.set_cons_succ]
   refine wpAnyE_takez (i := 15) (oi := ⟨some 74, Op.convert 31 9 (Operand.tmp 73), _, _, _, some (13, false)⟩) (v := ?_) rfl rfl (by kernel_rfl) (by kernel_rfl) (by kernel_rfl) (by kernel_rfl) (fun _ _ _ h => h) (Or.inl ⟨by rfl, ?_⟩) hHeld ?_
   rotate_left
   ·intro w hSw
    try dsimp only at hSw
    have hcv := run_str (c := cx) (HX.out w hSw); go_simp
    try with_reducible rfl
   try simp only [Act.put, List.setIfInBounds_toArray, List.set_cons_zero, List.set_cons_succ]
   refine wpAnyE_one (i := 17) (o := ⟨some 76, Op.call { callee := Callee.value (Operand.func 15), args := #[Operand.tmp 75], argTypes := #[26] }, _, _, _, some (13, false)⟩) (by kernel_rfl) rfl (fun K hK => ?_)
   go_simp
   go_at_call 15
   refine (HLY.out w15 hf15).mono ?_
   rintro e w16 ⟨Al, nl, cl, rfl, hOl, lt16⟩
   have hf16 : Fr w13 w16 (fun k => k = gp) := hf15.trans (frLz lt16) (fun _ _ h => h)
   have hcv := run_str (c := cl) hOl.rd
   refine hK.out _ _ (fun _ => hf16) (fun hHeld => ?_)
   clear hK K
   replace hHeld := hHeld (by decide)
   try simp only [Act.put, List.setIfInBounds_toArray, List.set_cons_zero, List.set_cons_succ]
   refine wpAnyE_one (i := 18) (o := ⟨some 77, Op.convert 31 9 (Operand.tmp 76), _, _, _, some (13, false)⟩) (by kernel_rfl) rfl (fun K hK => ?_)
   go_simp
   refine hK.out _ _ (fun _ => hf16) (fun hHeld => ?_)
   clear hK K
   replace hHeld := hHeld (by decide)
   try simp only [Act.put, List.setIfInBounds_toArray, List.set_cons_zero, List.set_cons_succ]
   refine wpAnyE_takez (i := 19) (oi := ⟨some 78, Op.binOp BinOp.neq 9 (Operand.tmp 74) (Operand.tmp 77) 9, _, _, _, some (13, false)⟩) (v := ?_) rfl rfl (by kernel_rfl) (by kernel_rfl) (by kernel_rfl) (by kernel_rfl) (fun _ _ _ h => h) (Or.inl ⟨by rfl, ?_⟩) hHeld ?_
   rotate_left
   ·intro w hSw
    try dsimp only at hSw
    go_simp
    try with_reducible rfl
   try simp only [Act.put, List.setIfInBounds_toArray, List.set_cons_zero, List.set_cons_succ]
   refine wpAnyE_takez (i := 20) (oi := ⟨some 79, Op.pick (Operand.tmp 72) (Operand.const (Value.bool true)) (Operand.tmp 78), _, _, _, none⟩) (v := ?_) rfl rfl (by kernel_rfl) (by kernel_rfl) (by kernel_rfl) (by kernel_rfl) (fun _ _ _ h => h) (Or.inl ⟨by rfl, ?_⟩) hHeld ?_
   rotate_left
   ·intro w hSw
    try dsimp only at hSw
    go_simp
    try with_reducible rfl
   try simp only [Act.put, List.setIfInBounds_toArray, List.set_cons_zero, List.set_cons_succ]
   refine wpAnyE_done (by kernel_rfl) ?_ _
   go_wp2_with fail
   go_meet
   exact ⟨rfl, hf16⟩
  case rest =>
   obtain ⟨rfl, hf17⟩ := hcut
   obtain ⟨w17, rfl⟩ : ∃ w17 : World, w17 = wc := ⟨_, rfl⟩
   have hl17 := later_fr HL13'.out hf17 (by omega)
   have HB17 : Hid (Later w w17) := Below.trans HBC.out (hl17.below hwz)
   have HX17 := Lib.hid (HX.out w17 hf17)
   have hz17 : b12 ≤ w17.heap.size := by have := hf17.size; omega
   have hw17 := HB17.out.size
   clear hf17 hl17 HX HLY HD HU HP HRW HL13' HBC hss
   go_upto_if 80 with (fail)
   go_cut [1] (fun s1 wx => ∃ (A2 : Option Addr) (n2 c2 : Nat) (l2 : List UInt8), s1 = .slice A2 n2 c2 ∧ RdB wx wx.heap.size A2 n2 l2 ∧ n2 ≤ c2 ∧ n2 ≤ 140737488351232 ∧ Later w wx)
   case first =>
    cases own with
    | false =>
     go_wp2_with fail
     go_meet
     exact ⟨Ab, nb, cb, lb, rfl, HRB.out.later HB17.out, hcb, hnb, HB17.out⟩
    | true =>
     have hwr0 : 0 ≤ tob % 256 ∧ tob % 256 < 256 := by omega
     have hx17 := HX17.out
     go_wp2_with (at_builtin; go_loud (refine wpList_append_b _ rfl (.tmp 81) (.tmp 82) rfl w17.heap.size _ 0 0 [] rfl (OwnB.made (Nat.le_refl _)) _ Ax nx cx _ rfl (hx17.below (((Below.refl b12 w17)).alloc hz17 _)) (by omega) (by simp) ?_); intro Ay ny cy w18 hOy hgy _)
     have lt18 : Later w17 w18 := ((Later.refl w17).alloc _).grown hgy (fun k hk => by cases hk; exact Nat.le_refl _)
     obtain rfl : ny = nx := by have h9 := hOy.len; rw [List.nil_append] at h9; omega
     obtain ⟨kk, hkk, hkn⟩ := pick_nat at_ (ny : Int) (by omega)
     have hkn : kk < ny := by omega
     obtain ⟨gy, rfl, hgyl, ⟨y0, hcell⟩, hfz, ⟨l1, hO1⟩, hb1⟩ := near_store (w0 := w17) lt18 hOy hkn hwr0.1 hwr0.2
     have hki : (kk : Int) < (ny : Int) := by omega
     have hpk := Lib.hid (pick_at at_ (ny : Int) kk w18 (by omega) (by omega) hkk)
     have HO1 := Lib.hid hO1
     have Hb1 := Lib.hid hb1
     clear hx17 hOy hgy hO1 hb1 lt18
     go_wp2_with fail
     refine hpk.out.mono ?_
     rintro e w19 ⟨rfl, hww⟩
     subst hww
     go_wp2_with fail
     go_meet
     exact ⟨_, _, _, l1, rfl, HO1.out.rd, HO1.out.cap, by omega, HB17.out.trans Hb1.out⟩
   case rest =>
    obtain ⟨A2, n2, c2, l2, rfl, hr2, hc2, hn2, hl2⟩ := hcut
    obtain ⟨w20, rfl⟩ : ∃ w20 : World, w20 = wc := ⟨_, rfl⟩
    clear HX17 HB17 HRB hz17 hw17 hnb hcb
    have HLW := Lib.hid hl2
    have hw20 := hl2.size
    have hln : l2.length = n2 := hr2.len
    have HR2 := Lib.hid hr2
    have H5 := Lib.hid (newReader_any A2 n2 c2 l2 w20 hr2 (by omega))
    clear hr2 hl2
    go_wp2_with fail
    refine H5.out.mono ?_
    rintro e w21 ⟨gq, rfl, hgq, hq21, hl21⟩
    have hz21 := hl21.size
    obtain ⟨W22, hW22⟩ : ∃ W22, W22 = w21.alloc (.cells #[.slice A2 n2 c2, .int .i64 0, .int .i64 0] 48) := ⟨_, rfl⟩
    obtain ⟨gs, hgs⟩ : ∃ gs, gs = w21.heap.size := ⟨_, rfl⟩
    have hgqs : gq < gs := by have := hq21.lt; omega
    have hq22 : RrOk W22 w20.heap.size gq l2 (0, 0) := by rw [hW22]; exact hq21.keepB ((Below.refl _ _).alloc (Nat.le_refl _) _)
    have hl22 : Later w20 W22 := by rw [hW22]; exact Later.alloc hl21 _
    have hs22 : RfOk W22 w20.heap.size gs l2 (0, 0) := ⟨by omega, Nat.zero_le _, by omega, A2, n2, c2, by rw [hW22, hgs]; exact Blk.new _ _ _, HR2.out.below hl22, hc2⟩
    have hzs : W22.heap.size = gs + 1 := by rw [hW22, hgs]; simp
    obtain ⟨rT, hrT⟩ : ∃ rT, Hid ((recF l2 (0, 0)).1.1 = rT) := ⟨_, rfl⟩
    obtain ⟨rs, hrs⟩ : ∃ rs, Hid ((recF l2 (0, 0)).1.2 = rs) := ⟨_, rfl⟩
    obtain ⟨st, hst⟩ : ∃ st, Hid ((recF l2 (0, 0)).2 = st) := ⟨_, rfl⟩
    have hbad : -100 < st.2 ∧ st.2 < 100 := by rw [← hst.out]; exact recF_bad (by show (-100 : Int) < 0 ∧ (0 : Int) < 100; decide)
    have hrsn : rs.length ≤ 100 := by rw [← hrs.out]; exact recF_len l2 _
    have H6 := Lib.hid (recRead_any W22 w20.heap.size gq l2 0 0 hq22 (by decide))
    rw [hrT.out, hrs.out, hst.out] at H6
    have HS22 := Lib.hid hs22
    have HL22 := Lib.hid hl22
    have hbs : w20.heap.size ≤ gs := by omega
    go_upto_region 22 with (fail)
    rw [← hW22, ← hgs]
    clear H5 hq21 hl21 hW22 hgs hq22 hs22 hl22 HR2
    go_wp2_with fail
    refine H6.out.mono ?_
    rintro e w23 ⟨gv, rfl, hgv, hV, hq23, hf23⟩
    have hz23 := hf23.size
    have hs23 : RfOk w23 w20.heap.size gs l2 (0, 0) := RfOk.fr HS22.out hf23 (by omega) (fun k hk e => by omega)
    have H7 := Lib.hid (rwRead_any w23 w20.heap.size gs l2 0 0 hs23 (by decide) (by omega))
    rw [hrT.out, hrs.out, hst.out] at H7
    have HBs : Hid (∃ cs, Blk w23 gs 48 cs) := by obtain ⟨_, _, _, _, _, _, h3, _⟩ := hs23; exact ⟨_, h3⟩
    have HV := Lib.hid hV
    have HQ23 := Lib.hid hq23
    have HF23 := Lib.hid hf23
    clear H6 HS22 hV hq23 hf23 hs23
    go_wp2_with fail
    refine H7.out.mono ?_
    rintro e w24 ⟨gz, rfl, hgz, hZ, hs24, hf24⟩
    obtain ⟨cs3, hb3⟩ := HBs.out
    have hV24 : RcOk W22.heap.size w24 gv rT rs := HV.out.fr hf24 (by omega) (fun k hk e => by omega)
    have hq24 : RrOk w24 w20.heap.size gq l2 st := HQ23.out.fr hf24 (by omega) (fun A' n' c' h4 k hk e => h4.ne_blk hb3 (by decide) (by rw [hk, e]))
    have hl24 : Later w20 w24 := later_fr (later_fr HL22.out HF23.out (by omega)) hf24 (by omega)
    have H8 := Lib.hid (same_gen gv gz rT rs w24 hV24 hZ hrsn)
    have HQ24 := Lib.hid hq24
    have HS24 := Lib.hid hs24
    have HL24 := Lib.hid hl24
    clear H7 HV HQ23 HF23 HL22 HBs hb3 hZ hs24 hf24 hV24 hq24 hl24
    go_wp2_with fail
    refine H8.out.mono ?_
    rintro e w25 ⟨rfl, lt25⟩
    obtain ⟨p9, b9⟩ := st
    have hq25 := HQ24.out.keepB lt25
    have hs25 : RfOk w25 w20.heap.size gs l2 (p9, b9) := HS24.out.fr (frLz (p := fun _ => False) lt25) (fun h => h) (fun _ _ h => h)
    have HL25 : Hid (Later w20 w25) := HL24.out.trans lt25
    have H9 := Lib.hid (reader_end w25 w20.heap.size gq l2 p9 b9 hq25 hbad)
    have HS25 := Lib.hid hs25
    have hee : (rEnd l2 (p9, b9) == rEnd l2 (p9, b9)) = true := beq_self_eq_true _
    clear H8 HQ24 HS24 HL24 lt25 hq25 hs25
    go_wp2_with fail
    refine H9.out.mono ?_
    rintro e w26 ⟨rfl, _, hf26⟩
    have hs26 : RfOk w26 w20.heap.size gs l2 (p9, b9) := HS25.out.fr hf26 (by omega) (fun k hk e => by omega)
    have HL26 : Hid (Later w20 w26) := later_fr HL25.out hf26 (by omega)
    have H10 := Lib.hid (refReader_end w26 w20.heap.size gs l2 p9 b9 hs26)
    clear H9 HS25 hf26 hs26 HL25
    go_wp2_with fail
    refine H10.out.mono ?_
    rintro e w27 ⟨rfl, _, hf27⟩
    have HL27 : Hid (Later w20 w27) := later_fr HL26.out hf27 (by omega)
    clear H10 HL26 hf27
    go_wp2_with fail
    go_ret
    exact ⟨rfl, HLW.out.trans HL27.out⟩
end Go.Proofs.YtmkddhkpeiajhaaGreatDoor
