/-
  split.Read and the document's ReadSplit.
-/
import Derived.Test.YtkpckmdakiminaaDoorSpPair
import Derived.Test.YtkpckmdakiminaaDoorConvM
import Derived.Test.YtkpckmdakiminaaDoorRefText
import Derived.StillTailTactics
import Derived.Deep.DeepCutAuto
namespace Go.Proofs.YtkpckmdakiminaaDoor
open Go.RowKit

/-- a splitter that is read, and where that ends -/
def readSp (l : List UInt8) (st : Nat × Int) (m : Nat) : Sp × Nat × Int :=
  let a := rText l st (m : Int)
  let b := rByte l a.2 3
  let c := rText l b.2 2048
  (if c.2.2 = 0 then ⟨m, a.1, b.1 % 2 == 1, b.1 / 2 == 1, c.1⟩ else Sp.init m, c.2)

/-- a new row is stored as the record -/
theorem sp_got_new {w w1 : World} {base g n' c' : Nat} {R1 R2 : Option Nat} {A' : Option Addr} {s : Sp} {l : List UInt8} (h : SpOk w base g R1 R2 s) (hl : l.length ≤ s.most) (hb1 : Below w.heap.size w w1)
    (hown : OwnM w1 base A' n' c' l) (hob : ∀ k, ob A' = some k → w.heap.size ≤ k) :
    (w1.cell? ⟨g, 1, none⟩ = w.cell? ⟨g, 1, none⟩ ∧ w1.frozen? ⟨g, 1, none⟩ = false) ∧ Went w base g R1 R2 { s with got := l } (w1.setCell ⟨g, 1, none⟩ (.slice A' n' c')) := by
  obtain ⟨hb, hd, hr, hm, A, n, c, A2, n2, c2, rfl, rfl, hblk, h1, h2⟩ := h
  have hblk1 : Blk w1 g 64 #[.int .i64 (s.most : Int), .slice A n c, .bool s.over, .bool s.wait, .slice A2 n2 c2] := hblk.below hb1 hblk.lt
  have h2' : OwnM w1 base A2 n2 c2 s.rest := h2.fr (Fr.of_below hb1) (fun k hk => by have := (h2.lt k hk).2; omega)
  refine ⟨⟨hb1.cell (p := ⟨g, 1, none⟩) hblk.lt, hblk1.frozen 1⟩, ob A', ob A2, ⟨hb, ?_, hl, hm, A', n', c', A2, n2, c2, rfl, rfl, by simpa using hblk1.set_ 1 (.slice A' n' c'), sp_setM hown hblk1, sp_setM h2' hblk1⟩, ?_, ?_, Newer.refl _ _⟩
  · intro k hk hk2
    have h3 := hob k hk
    have h4 := (h2.lt k hk2).2
    omega
  · exact ((Fr.of_below hb1).mono (p := SpIn g (ob A) (ob A2)) (fun k hk hle => by omega)).set (fun _ => .inl rfl) _
  · exact fun k hk => .inr (hob k hk)
/-- a new row is stored as what has not been looked at -/
theorem sp_rest_new {w w1 : World} {base g n' c' : Nat} {R1 R2 : Option Nat} {A' : Option Addr} {s : Sp} {l : List UInt8} (h : SpOk w base g R1 R2 s) (hb1 : Below w.heap.size w w1)
    (hown : OwnM w1 base A' n' c' l) (hob : ∀ k, ob A' = some k → w.heap.size ≤ k) :
    (w1.cell? ⟨g, 4, none⟩ = w.cell? ⟨g, 4, none⟩ ∧ w1.frozen? ⟨g, 4, none⟩ = false) ∧ Went w base g R1 R2 { s with rest := l } (w1.setCell ⟨g, 4, none⟩ (.slice A' n' c')) := by
  obtain ⟨hb, hd, hr, hm, A, n, c, A2, n2, c2, rfl, rfl, hblk, h1, h2⟩ := h
  have hblk1 : Blk w1 g 64 #[.int .i64 (s.most : Int), .slice A n c, .bool s.over, .bool s.wait, .slice A2 n2 c2] := hblk.below hb1 hblk.lt
  have h1' : OwnM w1 base A n c s.got := h1.fr (Fr.of_below hb1) (fun k hk => by have := (h1.lt k hk).2; omega)
  refine ⟨⟨hb1.cell (p := ⟨g, 4, none⟩) hblk.lt, hblk1.frozen 4⟩, ob A, ob A', ⟨hb, ?_, hr, hm, A, n, c, A', n', c', rfl, rfl, by simpa using hblk1.set_ 4 (.slice A' n' c'), sp_setM h1' hblk1, sp_setM hown hblk1⟩, ?_, Newer.refl _ _, ?_⟩
  · intro k hk hk2
    have h3 := hob k hk2
    have h4 := (h1.lt k hk).2
    omega
  · exact ((Fr.of_below hb1).mono (p := SpIn g (ob A) (ob A2)) (fun k hk hle => by omega)).set (fun _ => .inl rfl) _
  · exact fun k hk => .inr (hob k hk)

theorem SpOk.blk {w : World} {base g : Nat} {R1 R2 : Option Nat} {s : Sp} (h : SpOk w base g R1 R2 s) : ∃ cs, Blk w g 64 cs := by
  obtain ⟨_, _, _, _, A, n, c, A2, n2, c2, _, _, hb, _⟩ := h
  exact ⟨_, hb⟩
theorem RrOk.set_far {w : World} {base gp g : Nat} {l : List UInt8} {st : Nat × Int} {cs : Array Value} (h : RrOk w base gp l st) (hb : Blk w g 64 cs) (i : Nat) (u : Value) : RrOk (w.setCell ⟨g, i, none⟩ u) base gp l st := by
  have hf : Fr w (w.setCell ⟨g, i, none⟩ u) (fun k => k = g) := Fr.set (p := fun k => k = g) (Fr.refl w _) (a := ⟨g, i, none⟩) (fun _ => rfl) u
  refine h.fr hf (fun e => ?_) (fun A n c h4 k hk e => h4.ne_blk hb (by decide) (by rw [hk, e]))
  obtain ⟨_, _, _, A, n, c, h3, _⟩ := h
  exact Blk.ne_ h3 hb (by decide) e
theorem rText_le (l : List UInt8) (s : Nat × Int) (m : Nat) : (rText l s (m : Int)).1.length ≤ m := by
  unfold rText
  rw [Int.toNat_natCast]
  split
  · simp
  · split
    · simp
    · rename_i h1 _
      have : (rNum l s m).1 ≤ m := by
        unfold rNum at h1 ⊢
        split
        · simp
        · split
          · simp
          · split
            · simp
            · omega
      rw [List.length_take]
      omega
theorem rByte_le (l : List UInt8) (s : Nat × Int) (m : Int) (h : 0 ≤ m) : 0 ≤ (rByte l s m).1 ∧ (rByte l s m).1 ≤ m := by
  unfold rByte
  split
  · exact ⟨Int.le_refl _, h⟩
  · split
    · exact ⟨Int.le_refl _, h⟩
    · split
      · exact ⟨Int.le_refl _, h⟩
      · constructor
        · simp
        · simp only; omega
theorem rText_bad (l : List UInt8) (s : Nat × Int) (m : Int) (h : -100 < s.2 ∧ s.2 < 100) : -100 < (rText l s m).2.2 ∧ (rText l s m).2.2 < 100 := by
  have hn := (rNum_bad (l := l) (s := s) (m := m.toNat) h).1
  unfold rText
  split
  · exact hn
  · split
    · exact ⟨by show (-100 : Int) < 10; decide, by show (10 : Int) < 100; decide⟩
    · exact ⟨by show (-100 : Int) < 0; decide, by show (0 : Int) < 100; decide⟩
theorem rByte_bad (l : List UInt8) (s : Nat × Int) (m : Int) (h : -100 < s.2 ∧ s.2 < 100) : -100 < (rByte l s m).2.2 ∧ (rByte l s m).2.2 < 100 := by
  unfold rByte
  split
  · exact h
  · split
    · exact ⟨by show (-100 : Int) < 10; decide, by show (10 : Int) < 100; decide⟩
    · split
      · exact ⟨by show (-100 : Int) < 12; decide, by show (12 : Int) < 100; decide⟩
      · exact ⟨by show (-100 : Int) < 0; decide, by show (0 : Int) < 100; decide⟩

set_option maxRecDepth 100000 in
theorem bad_any (w : World) (base gp : Nat) (l : List UInt8) (p : Nat) (bad : Int) (hr : RrOk w base gp l (p, bad)) :
    Calls Tryd.prog 38 #[.pointer (some ⟨gp, 0, none⟩)] w fun e w' => e = .returned (.int .i64 bad) ∧ w' = w := by
  obtain ⟨hb, h1, h2, A, n, c, h3, h4⟩ := hr
  have hc2 := h3.cell 2
  simp only [List.getElem?_toArray, List.getElem?_cons_succ, List.getElem?_cons_zero] at hc2
  clear h3 h4
  go_enter Tryd.func38, Tryd.ntmps38
  go_wp2_with fail
  go_ret
  exact ⟨rfl, rfl⟩

set_option maxRecDepth 100000 in
set_option maxHeartbeats 2000000 in
theorem spRead_any (m : Nat) (hm1 : 1 ≤ m) (hm2 : m ≤ 200) (w : World) (base gp : Nat) (l : List UInt8) (hr : RrOk w base gp l (0, 0)) (_hl : l.length ≤ 1000) :
    Calls Tryd.prog 25 #[.pointer (some ⟨gp, 0, none⟩), .int .i64 (m : Int)] w fun e w' => ∃ g R1 R2, e = .returned (.pointer (some ⟨g, 0, none⟩)) ∧ SpOk w' w.heap.size g R1 R2 (readSp l (0, 0) m).1 ∧ RrOk w' base gp l (readSp l (0, 0) m).2 ∧ Fr w w' (fun k => k = gp) := by
  obtain ⟨x1, s1, h1⟩ : ∃ x1 s1, Hid (rText l (0, 0) (m : Int) = (x1, s1)) := ⟨_, _, rfl⟩
  obtain ⟨x2, s2, h2⟩ : ∃ x2 s2, Hid (rByte l s1 3 = (x2, s2)) := ⟨_, _, rfl⟩
  obtain ⟨x3, s3, h3⟩ : ∃ x3 s3, Hid (rText l s2 2048 = (x3, s3)) := ⟨_, _, rfl⟩
  have HT := Lib.hid fun W (h : RrOk W base gp l (0, 0)) => reader_text (m : Int) (by omega) (by omega) W base gp l 0 0 h (by decide)
  go_enter Tryd.func25, Tryd.ntmps25
  go_wp2_with fail
  refine (new_any m hm1 hm2 w).mono ?_
  rintro e w1 ⟨g, rfl, hs1, hb1⟩
  have hr1 := hr.keepB hb1
  go_wp2_with fail
  have hgp := hr.lt
  have hgl : ∀ k, SpIn g none none k → ¬ k = gp := fun k hk e => by have := (hs1.lt k hk).1; omega
  have hx1 : x1.length ≤ m := by have h9 := rText_le l (0, 0) m; rw [h1.out] at h9; exact h9
  have HT1 := Lib.hid (HT.out w1 hr1)
  rw [h1.out] at HT1
  refine HT1.out.mono ?_
  rintro e w2 ⟨rfl, hr2, hf2⟩
  have hs2 := hs1.fr hf2 hgl
  obtain ⟨c3, w3, hcv, hown3, hb3⟩ := run_bytes_m w2 x1 (by omega)
  have hz2 : w.heap.size ≤ w2.heap.size := Nat.le_trans hb1.size hf2.size
  have hst3 := sp_got_new (l := x1) hs2 (by exact hx1) hb3 (hown3.base_le hz2) (fun k hk => by injection hk with hk; exact Nat.le_of_eq hk)
  obtain ⟨_, _, _, _, _, _, _, _, _, _, _, z1, _, _, _, _⟩ := hs2.cells
  have hc3 := hst3.1.1.trans z1
  have hfz3 := hst3.1.2
  have HW3 := Lib.hid hst3.2
  have hr3 := hr2.keepB hb3
  have hr3' : RrOk (w3.setCell ⟨g, 1, none⟩ (.slice (some ⟨w2.heap.size, 0, none⟩) x1.length c3)) base gp l s1 := by
    obtain ⟨cs, hbk⟩ := (hs2.below hb3 (Nat.le_refl _)).blk
    exact hr3.set_far hbk 1 _
  clear hs1 hs2 HT1 hr1 hr2 z1 hown3 hst3
  have hbad1 : -100 < s1.2 ∧ s1.2 < 100 := by have h9 := rText_bad l (0, 0) (m : Int) (by decide); rw [h1.out] at h9; exact h9
  have HB1 := Lib.hid (reader_byte 3 (by decide) (by decide) _ base gp l s1.1 s1.2 hr3' hbad1)
  rw [h2.out] at HB1
  have hx2 := rByte_le l s1 3 (by decide)
  rw [h2.out] at hx2
  have hx2 : x2 = 0 ∨ x2 = 1 ∨ x2 = 2 ∨ x2 = 3 := by have h9 : 0 ≤ x2 ∧ x2 ≤ 3 := hx2; omega
  go_wp2_with fail
  refine HB1.out.mono ?_
  rintro e w4 ⟨rfl, hr4, hf4⟩
  clear HB1 hr3 hr3'
  obtain ⟨S1, S2, hs3, hf3, n1, n2⟩ := HW3.out
  have hgp3 : ∀ k, SpIn g S1 S2 k → ¬ k = gp := fun k hk e => by have := (hs3.lt k hk).1; omega
  have hs4 := hs3.fr hf4 hgp3
  have hF4 : Fr w w4 (fun k => k = gp) := by
    have a1 : Fr w w1 (fun k => k = gp) := (Fr.of_below hb1).mono (fun k hk h => absurd h (by omega))
    have a2 : Fr w w2 (fun k => k = gp) := a1.trans hf2 (fun _ _ h => h)
    have a3 : Fr w w3 (fun k => k = gp) := a2.trans (Fr.of_below hb3) (fun k hk h => absurd h (by omega))
    exact (a3.set (a := ⟨g, 1, none⟩) (fun h => absurd h (by have := (hs3.lt g (.inl rfl)).1; show ¬ g < w.heap.size; omega)) _).trans hf4 (fun _ _ h => h)
  have hgge : w.heap.size ≤ g := (hs3.lt g (.inl rfl)).1
  obtain ⟨_, _, _, _, _, _, _, _, _, _, _, _, z2, z3, _, zfz⟩ := hs4.cells
  have z2f := zfz 2
  have z3f := zfz 3
  obtain ⟨cs4, hbk4⟩ := hs4.blk
  have hr4s : ∀ a b, RrOk ((w4.setCell ⟨g, 2, none⟩ (.bool a)).setCell ⟨g, 3, none⟩ (.bool b)) base gp l s2 := fun a b => (hr4.set_far hbk4 2 _).set_far (hbk4.set_ 2 _) 3 _
  have HR4 := Lib.hid hr4s
  have HS4 := Lib.hid fun a b => ((hs4.set_over a).set_wait b)
  clear hr4s hr4 hbk4 zfz HW3 hs3 hs4
  go_upto_region 6 with fail
  go_cut [] (fun wx => SpOk wx w.heap.size g S1 S2 ⟨m, x1, x2 % 2 == 1, x2 / 2 == 1, []⟩ ∧ RrOk wx base gp l s2 ∧ Fr w wx (fun k => k = gp))
  case first =>
    have e1 : bits BinOp.and IntKind.u8 0 1 = 0 := by decide +kernel
    have e2 : bits BinOp.and IntKind.u8 1 1 = 1 := by decide +kernel
    have e3 : bits BinOp.and IntKind.u8 2 1 = 0 := by decide +kernel
    have e4 : bits BinOp.and IntKind.u8 3 1 = 1 := by decide +kernel
    have e5 : bits BinOp.and IntKind.u8 0 2 = 0 := by decide +kernel
    have e6 : bits BinOp.and IntKind.u8 1 2 = 0 := by decide +kernel
    have e7 : bits BinOp.and IntKind.u8 2 2 = 2 := by decide +kernel
    have e8 : bits BinOp.and IntKind.u8 3 2 = 2 := by decide +kernel
    rcases hx2 with rfl | rfl | rfl | rfl
    all_goals
      go_wp2_with fail
      go_meet
      exact ⟨HS4.out _ _, HR4.out _ _, (hF4.set (a := ⟨g, 2, none⟩) (fun h => absurd h (by show ¬ g < w.heap.size; omega)) _).set (a := ⟨g, 3, none⟩) (fun h => absurd h (by show ¬ g < w.heap.size; omega)) _⟩
  case rest =>
    obtain ⟨hs5, hr5, hF5⟩ := hcut
    have hgp5 : ∀ k, SpIn g S1 S2 k → ¬ k = gp := hgp3
    have hbad2 : -100 < s2.2 ∧ s2.2 < 100 := by have h9 := rByte_bad l s1 3 hbad1; rw [h2.out] at h9; exact h9
    have HT2 := Lib.hid (reader_text 2048 (by decide) (by decide) wc base gp l s2.1 s2.2 hr5 hbad2)
    rw [h3.out] at HT2
    have hbad3 : -100 < s3.2 ∧ s3.2 < 100 := by have h9 := rText_bad l s2 2048 hbad2; rw [h3.out] at h9; exact h9
    have hx3 : x3.length ≤ 2048 := by have h9 := rText_le l s2 2048; rw [show ((2048 : Nat) : Int) = 2048 from rfl, h3.out] at h9; exact h9
    have hread : Hid (readSp l (0, 0) m = (if s3.2 = 0 then ⟨m, x1, x2 % 2 == 1, x2 / 2 == 1, x3⟩ else Sp.init m, s3)) := by
      show _ = _
      unfold readSp
      simp only [h1.out, h2.out, h3.out]
    clear hr5 hx2
    go_wp2_with fail
    refine HT2.out.mono ?_
    rintro e w6 ⟨rfl, hr6, hf6⟩
    have hs6 := hs5.fr hf6 hgp5
    obtain ⟨c7, w7, hcv, hown7, hb7⟩ := run_bytes_m w6 x3 (by omega)
    have hz6 : w.heap.size ≤ w6.heap.size := Nat.le_trans hF5.size hf6.size
    have hst7 := sp_rest_new (l := x3) hs6 hb7 (hown7.base_le hz6) (fun k hk => by injection hk with hk; exact Nat.le_of_eq hk)
    obtain ⟨_, _, _, _, _, _, _, _, _, _, _, _, _, _, z4, _⟩ := hs6.cells
    have hc7 := hst7.1.1.trans z4
    have hfz7 := hst7.1.2
    have HW7 := Lib.hid hst7.2
    obtain ⟨cs7, hbk7⟩ := (hs6.below hb7 (Nat.le_refl _)).blk
    have hr7 := (hr6.keepB hb7).set_far hbk7 4 (.slice (some ⟨w6.heap.size, 0, none⟩) x3.length c7)
    have hF7 : Fr w (w7.setCell ⟨g, 4, none⟩ (.slice (some ⟨w6.heap.size, 0, none⟩) x3.length c7)) (fun k => k = gp) :=
      ((hF5.trans hf6 (fun _ _ h => h)).trans (Fr.of_below hb7) (fun k hk h => absurd h (by omega))).set (a := ⟨g, 4, none⟩) (fun h => absurd h (by show ¬ g < w.heap.size; omega)) _
    have HB := Lib.hid (bad_any _ base gp l s3.1 s3.2 hr7)
    clear HT2 hr6 z4 hst7 hbk7 hs5 hs6 hown7
    go_wp2_with fail
    refine HB.out.mono ?_
    rintro e w8 ⟨rfl, rfl⟩
    by_cases hb0 : s3.2 = 0
    · have hbe : (s3.2 != 0) = false := by rw [bne_eq_false_iff_eq]; exact hb0
      have HB0 := Lib.hid hb0
      clear hb0
      go_wp2_with fail
      go_ret
      obtain ⟨T1, T2, hs8, hf8, _, _⟩ := HW7.out
      refine ⟨g, T1, T2, rfl, ?_, ?_, hF7⟩
      · rw [hread.out, if_pos HB0.out]; exact hs8
      · rw [hread.out]; exact hr7
    · have hbe : (s3.2 != 0) = true := by simpa using hb0
      have HB0 := Lib.hid hb0
      clear hb0
      go_wp2_with fail
      go_ret
      refine ⟨_, none, none, rfl, ?_, ?_, hF7.alloc _⟩
      · rw [hread.out, if_neg HB0.out]
        have hz8 : (w7.setCell ⟨g, 4, none⟩ (.slice (some ⟨w6.heap.size, 0, none⟩) x3.length c7)).heap.size = w7.heap.size := by simp [World.setCell]
        have hb9 := Blk.new (w7.setCell ⟨g, 4, none⟩ (.slice (some ⟨w6.heap.size, 0, none⟩) x3.length c7)) 64 #[.int .i64 (m : Int), .slice none 0 0, .bool false, .bool false, .slice none 0 0]
        rw [hz8] at hb9
        exact ⟨Nat.le_trans hz6 hb7.size, (fun k hk => by cases hk), Nat.zero_le _, hm2, none, 0, 0, none, 0, 0, rfl, rfl, hb9, OwnM.nil, OwnM.nil⟩
      · rw [hread.out]; exact hr7.keepB ((Below.refl _ _).alloc (Nat.le_refl _) _)


theorem SqOk.blk {w : World} {base g : Nat} {R1 R2 : Option Nat} {s : Sp} (h : SqOk w base g R1 R2 s) : ∃ cs, Blk w g 40 cs := by
  obtain ⟨_, _, _, _, A, n, c, A2, n2, c2, _, _, hb, _⟩ := h
  exact ⟨_, hb⟩

set_option maxRecDepth 100000 in
set_option maxHeartbeats 2000000 in
theorem refReadSplit_any (m : Nat) (hm1 : 1 ≤ m) (hm2 : m ≤ 200) (w : World) (base gp : Nat) (l : List UInt8) (hr : RfOk w base gp l (0, 0)) (hbase : base ≤ w.heap.size) :
    Calls Tryd.prog 26 #[.pointer (some ⟨gp, 0, none⟩), .int .i64 (m : Int)] w fun e w' => ∃ g R1 R2, e = .returned (.pointer (some ⟨g, 0, none⟩)) ∧ SqOk w' w.heap.size g R1 R2 (readSp l (0, 0) m).1 ∧ RfOk w' base gp l (readSp l (0, 0) m).2 ∧ Fr w w' (fun k => k = gp) := by
  obtain ⟨x1, s1, h1⟩ : ∃ x1 s1, Hid (rText l (0, 0) (m : Int) = (x1, s1)) := ⟨_, _, rfl⟩
  obtain ⟨x2, s2, h2⟩ : ∃ x2 s2, Hid (rByte l s1 3 = (x2, s2)) := ⟨_, _, rfl⟩
  obtain ⟨x3, s3, h3⟩ : ∃ x3 s3, Hid (rText l s2 2048 = (x3, s3)) := ⟨_, _, rfl⟩
  have hbad1 : -100 < s1.2 ∧ s1.2 < 100 := by have h9 := rText_bad l (0, 0) (m : Int) (by decide); rw [h1.out] at h9; exact h9
  have hbad2 : -100 < s2.2 ∧ s2.2 < 100 := by have h9 := rByte_bad l s1 3 hbad1; rw [h2.out] at h9; exact h9
  have hx1 : x1.length ≤ m := by have h9 := rText_le l (0, 0) m; rw [h1.out] at h9; exact h9
  have hx2 : 0 ≤ x2 ∧ x2 ≤ 3 := by have h9 := rByte_le l s1 3 (by decide); rw [h2.out] at h9; exact h9
  have hx3 : x3.length ≤ 2048 := by have h9 := rText_le l s2 2048; rw [show ((2048 : Nat) : Int) = 2048 from rfl, h3.out] at h9; exact h9
  have hread : Hid (readSp l (0, 0) m = (if s3.2 = 0 then ⟨m, x1, x2 % 2 == 1, x2 / 2 == 1, x3⟩ else Sp.init m, s3)) := by
    show _ = _
    unfold readSp
    simp only [h1.out, h2.out, h3.out]
  have q1 : ¬ (m : Int) < 1 := by omega
  have q2 : ¬ (200 : Int) < (m : Int) := by omega
  have hgp := hr.lt
  go_enter Tryd.func26, Tryd.ntmps26
  go_wp2_with fail
  have ha := (Fr.refl w (fun k => k = gp)).alloc (.cells #[.int .i64 (m : Int), .slice none 0 0, .bool false, .bool false, .slice none 0 0] 40)
  have hra : RfOk (w.alloc (.cells #[.int .i64 (m : Int), .slice none 0 0, .bool false, .bool false, .slice none 0 0] 40)) base gp l (0, 0) := hr.fr ((Fr.refl w (fun _ => False)).alloc _) (fun h => h) (fun _ _ h => h)
  have hs0 : SqOk (w.alloc (.cells #[.int .i64 (m : Int), .slice none 0 0, .bool false, .bool false, .slice none 0 0] 40)) w.heap.size w.heap.size none none (Sp.init m) :=
    ⟨Nat.le_refl _, (fun k hk => by cases hk), Nat.zero_le _, hm2, none, 0, 0, none, 0, 0, rfl, rfl, Blk.new _ _ _, OwnM.nil, OwnM.nil⟩
  have HT1 := Lib.hid (refReader_text (m : Int) (by omega) (by omega) _ base gp l 0 0 hra (by decide))
  rw [h1.out] at HT1
  clear hr hra
  refine HT1.out.mono ?_
  rintro e w1 ⟨rfl, hr1, hf1⟩
  have HB1 := Lib.hid (refReader_byte 3 (by decide) (by decide) _ base gp l s1.1 s1.2 hr1)
  rw [h2.out] at HB1
  clear HT1 hr1
  go_wp2_with fail
  refine HB1.out.mono ?_
  rintro e w2 ⟨rfl, hr2, hf2⟩
  have HT2 := Lib.hid (refReader_text 2048 (by decide) (by decide) _ base gp l s2.1 s2.2 hr2 hbad2)
  rw [h3.out] at HT2
  clear HB1 hr2
  go_wp2_with fail
  refine HT2.out.mono ?_
  rintro e w3 ⟨rfl, hr3, hf3⟩
  clear HT2
  have hne : ∀ k, SpIn w.heap.size none none k → ¬ k = gp := by
    rintro k (rfl | h | h) e
    · omega
    · cases h
    · cases h
  have hs3 := ((hs0.fr hf1 hne).fr hf2 hne).fr hf3 hne
  have hF3 := ((ha.trans hf1 (fun _ _ h => h)).trans hf2 (fun _ _ h => h)).trans hf3 (fun _ _ h => h)
  have hz3 : w.heap.size ≤ w3.heap.size := hF3.size
  have hcb : w3.cell? ⟨gp, 2, none⟩ = some (.int .i64 s3.2) := by
    obtain ⟨_, _, _, A, n, c, hb, _⟩ := hr3
    exact hb.cell 2
  clear hs0 hf1 hf2 hf3 ha
  by_cases hb0 : s3.2 = 0
  · have hbe : (s3.2 == 0) = true := by simpa using hb0
    have HB0 := Lib.hid hb0
    clear hb0
    obtain ⟨c4, w4, hcv4, hown4, hb4⟩ := run_bytes_m w3 x1 (by omega)
    have hst4 := got_new (l := x1) hs3 (by exact hx1) hb4 (hown4.base_le hz3) (fun k hk => by injection hk with hk; exact Nat.le_of_eq hk)
    obtain ⟨_, _, _, _, _, _, _, _, _, _, _, z1, z2, z3, z4, _⟩ := hs3.cells
    have hlt3 : w.heap.size < w3.heap.size := (hs3.lt _ (.inl rfl)).2
    have y1 := hst4.1.1.trans z1
    have y2 : w4.cell? ⟨w.heap.size, 2, none⟩ = some (.bool false) := (hb4.cell (p := ⟨w.heap.size, 2, none⟩) hlt3).trans z2
    have y3 : w4.cell? ⟨w.heap.size, 3, none⟩ = some (.bool false) := (hb4.cell (p := ⟨w.heap.size, 3, none⟩) hlt3).trans z3
    obtain ⟨cs4, hbk4⟩ := (hs3.below hb4 (Nat.le_refl _)).blk
    have fz1 := hst4.1.2
    have fz2 := hbk4.frozen 2
    have fz3 := hbk4.frozen 3
    obtain ⟨_, T1, T2, hs4, hf4, _, _⟩ := hst4
    obtain ⟨V1, hV1⟩ : ∃ V1 : Value, Hid (.slice (some ⟨w3.heap.size, 0, none⟩) x1.length c4 = V1) := ⟨_, rfl⟩
    have hs6 : SqOk (((w4.setCell ⟨w.heap.size, 1, none⟩ (.slice (some ⟨w3.heap.size, 0, none⟩) x1.length c4)).setCell ⟨w.heap.size, 2, none⟩ (.bool (x2 % 2 == 1))).setCell ⟨w.heap.size, 3, none⟩ (.bool (x2 / 2 == 1))) w.heap.size w.heap.size T1 T2 ⟨m, x1, x2 % 2 == 1, x2 / 2 == 1, []⟩ := (hs4.set_over (x2 % 2 == 1)).set_wait (x2 / 2 == 1)
    have hz6 : (((w4.setCell ⟨w.heap.size, 1, none⟩ (.slice (some ⟨w3.heap.size, 0, none⟩) x1.length c4)).setCell ⟨w.heap.size, 2, none⟩ (.bool (x2 % 2 == 1))).setCell ⟨w.heap.size, 3, none⟩ (.bool (x2 / 2 == 1))).heap.size = w4.heap.size := by simp [World.setCell]
    obtain ⟨c7, w7, hcv7, hown7, hb7⟩ := run_bytes_m (((w4.setCell ⟨w.heap.size, 1, none⟩ (.slice (some ⟨w3.heap.size, 0, none⟩) x1.length c4)).setCell ⟨w.heap.size, 2, none⟩ (.bool (x2 % 2 == 1))).setCell ⟨w.heap.size, 3, none⟩ (.bool (x2 / 2 == 1))) x3 (by omega)
    have hzw : w.heap.size ≤ w4.heap.size := Nat.le_trans hz3 hb4.size
    have hst7 := rest_new (l := x3) hs6 hb7 (hown7.base_le (by rw [hz6]; exact hzw)) (fun k hk => by injection hk with hk; exact Nat.le_of_eq hk)
    rw [hz6] at hcv7 hst7
    obtain ⟨_, _, _, _, _, _, _, _, _, _, _, _, _, _, z44, _⟩ := hs6.cells
    have hc7 := hst7.1.1.trans z44
    have hfz7 := hst7.1.2
    obtain ⟨_, U1, U2, hs8, hf8, _, _⟩ := hst7
    have hG : Fr w3 (w7.setCell ⟨w.heap.size, 4, none⟩ (.slice (some ⟨w4.heap.size, 0, none⟩) x3.length c7)) (fun k => w.heap.size ≤ k) := by
      have a1 : Fr w3 w4 (fun k => w.heap.size ≤ k) := (Fr.of_below hb4).mono (fun k hk h => by omega)
      have a2 := ((a1.set (a := ⟨w.heap.size, 1, none⟩) (fun _ => Nat.le_refl _) (.slice (some ⟨w3.heap.size, 0, none⟩) x1.length c4)).set (a := ⟨w.heap.size, 2, none⟩) (fun _ => Nat.le_refl _) (.bool (x2 % 2 == 1))).set (a := ⟨w.heap.size, 3, none⟩) (fun _ => Nat.le_refl _) (.bool (x2 / 2 == 1))
      exact (a2.trans (Fr.of_below hb7) (fun k hk h => by rw [hz6] at h; omega)).set (a := ⟨w.heap.size, 4, none⟩) (fun _ => Nat.le_refl _) _
    have HG := Lib.hid hG
    have HS8 := Lib.hid hs8
    have HR3 := Lib.hid hr3
    clear hs3 hs4 hs6 hs8 hG hr3 hown4 hown7 hf4 hf8 z1 z2 z3 z44 hz6 hV1 hbk4
    go_wp2_with fail
    go_ret
    refine ⟨_, U1, U2, rfl, ?_, ?_, hF3.trans HG.out (fun k hk h => absurd h (by omega))⟩
    · rw [hread.out, if_pos HB0.out]; exact HS8.out
    · rw [hread.out]; exact HR3.out.fr HG.out (by omega) (fun k hk h => by omega)
  · have hbe : (s3.2 == 0) = false := by simpa using hb0
    have HB0 := Lib.hid hb0
    clear hb0
    go_wp2_with fail
    go_ret
    refine ⟨_, none, none, rfl, ?_, ?_, hF3⟩
    · rw [hread.out, if_neg HB0.out]; exact hs3
    · rw [hread.out]; exact hr3

end Go.Proofs.YtkpckmdakiminaaDoor
