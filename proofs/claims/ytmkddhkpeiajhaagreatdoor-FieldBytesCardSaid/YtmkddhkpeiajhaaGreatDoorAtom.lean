import Derived.Test.YtmkddhkpeiajhaaGreatDoorPiece
import Derived.Test.YtmkddhkpeiajhaaGreatDoorPieces
namespace Go.Proofs.YtmkddhkpeiajhaaGreatDoor
open Go.RowKit
theorem atom_c (s : List UInt8) (alt : St → Pc × St) (st : St) (c : UInt8) (h : s[st.at_]? = some c) : atomF s alt st =
    (if c.toNat = 40 then groupF s alt (stAt st (st.at_ + 1)) st.at_
    else if c.toNat = 46 then (pcLeaf 1 (w4 (mNot mNone)), stAt st (st.at_ + 1))
    else if c.toNat = 91 then
      match bracketF s ((st.at_ + 1 : Nat) : Int) with
      | none => (pcLeaf 1 Proofs.YtmkddhkpeiajhaaGreatDoor.z4, stAt (stFault 24 st.at_ st) 0)
      | some (m, e) => (pcLeaf 1 (w4 m), stAt st e)
    else if c.toNat = 94 then (pcLeaf 7 Proofs.YtmkddhkpeiajhaaGreatDoor.z4, stAt st (st.at_ + 1))
    else if c.toNat = 36 then (pcLeaf 8 Proofs.YtmkddhkpeiajhaaGreatDoor.z4, stAt st (st.at_ + 1))
    else if c.toNat = 92 then (pcLeaf 1 (w4 (mOf [UInt8.ofNat (escF s (stAt st (st.at_ + 1))).1])), (escF s (stAt st (st.at_ + 1))).2)
    else if c.toNat = 42 ∨ c.toNat = 43 ∨ c.toNat = 63 ∨ c.toNat = 123 ∨ c.toNat = 124 ∨ c.toNat = 41 then (pcLeaf 1 (w4 (mOf [c])), stFault 24 st.at_ (stAt st (st.at_ + 1)))
    else (pcLeaf 1 (w4 (mOf [c])), stAt st (st.at_ + 1))) := by
  unfold atomF
  rw [h]
  rfl
theorem leaf_m (lo : Nat → Prop) (m : Mem) (w : World) : Calls Tryz.prog 125 #[.int .i64 1, .agg #[.int .u64 (word m 0 : Nat), .int .u64 (word m 1 : Nat), .int .u64 (word m 2 : Nat), .int .u64 (word m 3 : Nat)]] w (RetPc w lo (pcLeaf 1 (w4 m))) := leaf_any lo 1 (w4 m) w
theorem not_z (w : World) : Calls Tryz.prog 127 #[.agg #[.int .u64 0, .int .u64 0, .int .u64 0, .int .u64 0]] w fun e w' => e = .returned (.agg #[.int .u64 (word (mNot mNone) 0 : Nat), .int .u64 (word (mNot mNone) 1 : Nat), .int .u64 (word (mNot mNone) 2 : Nat), .int .u64 (word (mNot mNone) 3 : Nat)]) ∧ Later w w' := by
  have h := not_any mNone w
  unfold setV at h
  rw [setC_none] at h
  exact h
theorem rdB_one (w : World) (c : UInt8) (x : Int) (hx : x = (c.toNat : Int)) (t : TypeId) : RdB (w.alloc (.cells #[.int .u8 x] t)) (w.alloc (.cells #[.int .u8 x] t)).heap.size (some ⟨w.heap.size, 0, none⟩) 1 [c] := by
  subst hx
  refine ⟨rfl, fun _ => ⟨_, rfl, by simp, fun j u hu => ?_⟩⟩
  rw [Addr.add_lit, Nat.zero_add, cell_of_row _ _ _ _ _ _ (heap_alloc_new w _), ← Array.getElem?_toList]
  exact hu
theorem of_c (w : World) (c : UInt8) (x : Int) (hx : x = (c.toNat : Int)) (t : TypeId) : Calls Tryz.prog 129 #[.slice (some ⟨w.heap.size, 0, none⟩) 1 1] (w.alloc (.cells #[.int .u8 x] t)) fun e w' => e = .returned (.agg #[.int .u64 (word (mOf [c]) 0 : Nat), .int .u64 (word (mOf [c]) 1 : Nat), .int .u64 (word (mOf [c]) 2 : Nat), .int .u64 (word (mOf [c]) 3 : Nat)]) ∧ Later w w' :=
  (of_any _ 1 1 [c] _ (rdB_one w c x hx t) (by omega)).mono fun _ _ h => ⟨h.1, ((Later.refl w).alloc _).trans h.2⟩
theorem cells2r {w : World} {b : Nat} {t : TypeId} {x0 x1 x2 x3 x4 : Value} (h : Blk w b t #[x0, x1, x2, x3, x4]) : w.cell? ⟨b, 0, none⟩ = some x0 ∧ w.cell? ⟨b, 1, none⟩ = some x1 := ⟨h.cell 0, h.cell 1⟩
def AtomB (w W : World) (o : Option (Mem × Nat)) (s5 s6 s7 : Value) (wx : World) : Prop :=
  ∃ g5 : Nat, s5 = .pointer (some ⟨g5, 0, none⟩) ∧ w.heap.size < g5 ∧ Later W wx ∧
    match o with
    | some (m, e) => s6 = .int .i64 (e : Int) ∧ s7 = .bool true ∧ Blk wx g5 95 #[.int .u64 (word m 0 : Nat), .int .u64 (word m 1 : Nat), .int .u64 (word m 2 : Nat), .int .u64 (word m 3 : Nat)]
    | none => s6 = .int .i64 0 ∧ s7 = .bool false ∧ Blk wx g5 95 #[.int .u64 0, .int .u64 0, .int .u64 0, .int .u64 0]
theorem fault_stAt (e a b c : Nat) (st : St) : stAt (stFault e a (stAt st b)) c = stAt (stFault e a st) c := by
  unfold stFault
  by_cases h : st.bad = 0
  · rw [if_pos h, if_pos (show (stAt st b).bad = 0 from h)]; rfl
  · rw [if_neg h, if_neg (show ¬ (stAt st b).bad = 0 from h)]; rfl
theorem cells4 {w : World} {b : Nat} {t : TypeId} {x0 x1 x2 x3 : Value} (h : Blk w b t #[x0, x1, x2, x3]) :
    w.cell? ⟨b, 0, none⟩ = some x0 ∧ w.cell? ⟨b, 1, none⟩ = some x1 ∧ w.cell? ⟨b, 2, none⟩ = some x2 ∧ w.cell? ⟨b, 3, none⟩ = some x3 ∧
    w.frozen? ⟨b, 0, none⟩ = false ∧ w.frozen? ⟨b, 1, none⟩ = false ∧ w.frozen? ⟨b, 2, none⟩ = false ∧ w.frozen? ⟨b, 3, none⟩ = false :=
  ⟨h.cell 0, h.cell 1, h.cell 2, h.cell 3, h.frozen 0, h.frozen 1, h.frozen 2, h.frozen 3⟩
set_option maxRecDepth 100000 in
set_option maxHeartbeats 8000000 in
theorem atomR_any (S : ByteArray) [Txt S] (d : Nat) (hd : d ≤ 11) (hs : S.size ≤ 1000000000) (ih : AltC S d) : RdrC 114 S (d + 1) (atomF S.data.toList (altF S.data.toList d)) := by
  intro lo g st w h hD hlo
  obtain ⟨R, hR⟩ : ∃ R, R = atomF S.data.toList (altF S.data.toList d) st := ⟨_, rfl⟩
  rw [← hR]
  have HR := Lib.hid hR
  have HD := Lib.hid hD
  have hgw := h.lt
  clear hR hD
  have HAT := Lib.hid HD.out.at_
  have HBAD := Lib.hid HD.out.bad
  cases hx : S.data.toList[st.at_]? with
  | none =>
    have hle := str_none S _ hx
    have HX := Lib.hid hx
    clear hx
    have HR2 : Hid (R = (pcLeaf 0 Proofs.YtmkddhkpeiajhaaGreatDoor.z4, stFault 24 S.size st)) := by
      show _ = _
      rw [HR.out]
      unfold atomF
      rw [HX.out, len_eq]
    go_enter Tryz.func114, Tryz.ntmps114
    go_upto_region 1 with fail
    obtain ⟨W0, hW0⟩ : ∃ W0, W0 = w.alloc (.cells #[.int .i64 0, .int .u64 0, .int .u64 0, .int .u64 0, .int .u64 0, .slice none 0 0, .int .i64 0, .int .i64 0, .bool false] 117) := ⟨_, rfl⟩
    have B4 : Blk W0 w.heap.size 117 #[.int .i64 0, .int .u64 0, .int .u64 0, .int .u64 0, .int .u64 0, .slice none 0 0, .int .i64 0, .int .i64 0, .bool false] := by rw [hW0]; exact Blk.new w _ _
    have hl0 : Later w W0 := by rw [hW0]; exact (Later.refl w).alloc _
    have h0 := h.later hl0
    have hF0 : Fr w W0 (fun k => k = g) := Fr.later hl0
    have ne4 : w.heap.size ≠ g := by omega
    rw [← hW0]
    clear hW0 hl0
    go_wp2_with fail
    refine (more_no g S st W0 h0 hle hs).mono ?_
    rintro e w1 ⟨rfl, hl1⟩
    have h1 := h0.later hl1
    have B4 := blkL hl1 B4
    have hF1 := frL hF0 hl1
    have c0 := h1.c0
    clear h0 hF0 hl1
    go_wp2_with fail
    refine (faultR_any g S st _ _ S.size 24 w1 h1 rfl rfl).mono ?_
    rintro e w2 ⟨rfl, h2, hF2⟩
    have hF3 := frF hF1 hF2
    have D4 := blkF hF2 ne4 B4
    clear c0 h1 hF1 hF2 B4
    go_wp2_with fail
    refine (leaf_z lo 0 _).mono ?_
    rintro e w3 ⟨k1, a1, b1, c1, d1, A1, n1, cp1, rfl, hr, hl⟩
    have G4 := blkL hl D4
    obtain ⟨z0, z1, z2, z3, z4, z5, z6, z7, z8, y0, y1, y2, y3, y4, y5, y6, y7, y8⟩ := cells9 G4
    go_wp2_with fail
    refine bodyPost_ret (v := .agg #[.int .i64 k1, .int .u64 a1, .int .u64 b1, .int .u64 c1, .int .u64 d1, .slice A1 n1 cp1, .int .i64 ((pcLeaf 0 Proofs.YtmkddhkpeiajhaaGreatDoor.z4).deep : Int), .int .i64 ((pcLeaf 0 Proofs.YtmkddhkpeiajhaaGreatDoor.z4).leaves : Int), .bool (pcLeaf 0 Proofs.YtmkddhkpeiajhaaGreatDoor.z4).big]) (by simp [results, Tryz.results114, go_sem, z0, z1, z2, z3, z4, z5, z6, z7, z8]) rfl ?_
    exact RetPcS.store9 HR2.out G4 hr (h2.later hl) (frL hF3 hl) (Nat.le_refl _)
  | some x =>
    obtain ⟨hi, he⟩ := str_get S _ x hx
    have hx255 := x.toNat_lt
    have HX := Lib.hid hx
    have hii : (st.at_ : Int) < (S.size : Int) := by omega
    have HE := Lib.hid he
    have HR2 := Lib.hid (HR.out.trans (atom_c _ _ _ x hx))
    have eq0 : ∀ q : Nat, x.toNat = q → ((S[st.at_].toNat : Int) == (q : Int)) = true := fun q hq => by rw [he, hq]; exact beq_self_eq_true _
    have eq1 : ∀ q : Nat, x.toNat ≠ q → ((S[st.at_].toNat : Int) == (q : Int)) = false := fun q hq => by rw [he, beq_eq_false_iff_ne]; omega
    have EQ0 := Lib.hid eq0
    have EQ1 := Lib.hid eq1
    clear hx he eq0 eq1 HR
    go_enter Tryz.func114, Tryz.ntmps114
    go_upto_region 1 with fail
    obtain ⟨W0, hW0⟩ : ∃ W0, W0 = w.alloc (.cells #[.int .i64 0, .int .u64 0, .int .u64 0, .int .u64 0, .int .u64 0, .slice none 0 0, .int .i64 0, .int .i64 0, .bool false] 117) := ⟨_, rfl⟩
    have B4 : Blk W0 w.heap.size 117 #[.int .i64 0, .int .u64 0, .int .u64 0, .int .u64 0, .int .u64 0, .slice none 0 0, .int .i64 0, .int .i64 0, .bool false] := by rw [hW0]; exact Blk.new w _ _
    have hl0 : Later w W0 := by rw [hW0]; exact (Later.refl w).alloc _
    have h0 := h.later hl0
    have hF0 : Fr w W0 (fun k => k = g) := Fr.later hl0
    have ne4 : w.heap.size ≠ g := by omega
    rw [← hW0]
    clear hW0 hl0
    go_wp2_with fail
    refine (more_yes g S st W0 h0 hi hs).mono ?_
    rintro e w1 ⟨rfl, hl1⟩
    have h1 := h0.later hl1
    have B4 := blkL hl1 B4
    have hF1 := frL hF0 hl1
    have q0 := h1.c0
    have q1 := h1.c1
    have f1 := h1.f 1
    clear h0 hF0 hl1
    go_upto_region 7 with fail
    obtain ⟨W2, hW2⟩ : ∃ W2, W2 = w1.setCell ⟨g, 1, none⟩ (.int .i64 ((st.at_ : Int) + 1)) := ⟨_, rfl⟩
    have h2 : RdC W2 g S (stAt st (st.at_ + 1)) := by rw [hW2]; exact h1.setAt (st.at_ + 1) _ (by omega)
    have D4 : Blk W2 w.heap.size 117 #[.int .i64 0, .int .u64 0, .int .u64 0, .int .u64 0, .int .u64 0, .slice none 0 0, .int .i64 0, .int .i64 0, .bool false] := by rw [hW2]; exact B4.far (p := ⟨g, 1, none⟩) ne4 _
    have hF2 : Fr w W2 (fun k => k = g) := by rw [hW2]; exact frG (i := 1) hF1 _
    have hlo2 : Up W2 lo := hlo.fr hF2
    rw [← hW2]
    clear hW2 q0 q1 f1 h1 B4 hF1
    have hex : x.toNat = 40 ∨ x.toNat = 46 ∨ x.toNat = 91 ∨ x.toNat = 94 ∨ x.toNat = 36 ∨ x.toNat = 92 ∨ (x.toNat = 42 ∨ x.toNat = 43 ∨ x.toNat = 63 ∨ x.toNat = 123 ∨ x.toNat = 124 ∨ x.toNat = 41) ∨ (x.toNat ≠ 40 ∧ x.toNat ≠ 46 ∧ x.toNat ≠ 91 ∧ x.toNat ≠ 94 ∧ x.toNat ≠ 36 ∧ x.toNat ≠ 92 ∧ ¬ (x.toNat = 42 ∨ x.toNat = 43 ∨ x.toNat = 63 ∨ x.toNat = 123 ∨ x.toNat = 124 ∨ x.toNat = 41)) := by omega
    rcases hex with hc | hc | hc | hc | hc | hc | hc | ⟨hc1, hc2, hc3, hc4, hc5, hc6, hc7⟩
    · have e40 : ((S[st.at_].toNat : Int) == 40) = true := EQ0.out 40 hc
      obtain ⟨q, st7, hq⟩ : ∃ q st7, R = (q, st7) := ⟨_, _, rfl⟩
      have hgr := groupR_any lo d g S (stAt st (st.at_ + 1)) st.at_ W2 hd ih h2 hs ⟨HBAD.out, by show st.at_ + 1 ≤ _; rw [len_eq]; omega, HD.out.op, HD.out.deep⟩ hlo2
      have hRe := HR2.out
      rw [if_pos hc] at hRe
      rw [← hRe, hq] at hgr
      have HGR := Lib.hid hgr
      have HRQ := Lib.hid hq
      clear hgr hRe hq hc
      go_wp2_with fail
      refine HGR.out.mono ?_
      rintro e w7 ⟨k1, a1, b1, c1, d1, A1, n1, cp1, rfl, hr7, h7, hf7⟩
      have G4 := blkF hf7 ne4 D4
      have hF7 := frF hF2 hf7
      obtain ⟨z0, z1, z2, z3, z4, z5, z6, z7, z8, y0, y1, y2, y3, y4, y5, y6, y7, y8⟩ := cells9 G4
      go_wp2_with fail
      refine bodyPost_ret (v := .agg #[.int .i64 k1, .int .u64 a1, .int .u64 b1, .int .u64 c1, .int .u64 d1, .slice A1 n1 cp1, .int .i64 (q.deep : Int), .int .i64 (q.leaves : Int), .bool q.big]) (by simp [results, Tryz.results114, go_sem, z0, z1, z2, z3, z4, z5, z6, z7, z8]) rfl ?_
      exact RetPcS.store9 HRQ.out G4 hr7 h7 hF7 (Nat.le_refl _)
    · have e40 : ((S[st.at_].toNat : Int) == 40) = false := EQ1.out 40 (by omega)
      have e46 : ((S[st.at_].toNat : Int) == 46) = true := EQ0.out 46 hc
      have HRQ : Hid (R = (pcLeaf 1 (w4 (mNot mNone)), stAt st (st.at_ + 1))) := by show _ = _; rw [HR2.out, if_neg (show ¬ x.toNat = 40 by omega), if_pos hc]
      clear hc
      go_wp2_with fail
      refine (not_z _).mono ?_
      rintro e w6 ⟨rfl, hl6⟩
      go_wp2_with fail
      refine (leaf_m lo (mNot mNone) _).mono ?_
      rintro e w7 ⟨k1, a1, b1, c1, d1, A1, n1, cp1, rfl, hr7, hl7⟩
      have hl7 := hl6.trans hl7
      have G4 := blkL hl7 D4
      obtain ⟨z0, z1, z2, z3, z4, z5, z6, z7, z8, y0, y1, y2, y3, y4, y5, y6, y7, y8⟩ := cells9 G4
      go_wp2_with fail
      refine bodyPost_ret (v := .agg #[.int .i64 k1, .int .u64 a1, .int .u64 b1, .int .u64 c1, .int .u64 d1, .slice A1 n1 cp1, .int .i64 ((pcLeaf 1 (w4 (mNot mNone))).deep : Int), .int .i64 ((pcLeaf 1 (w4 (mNot mNone))).leaves : Int), .bool (pcLeaf 1 (w4 (mNot mNone))).big]) (by simp [results, Tryz.results114, go_sem, z0, z1, z2, z3, z4, z5, z6, z7, z8]) rfl ?_
      exact RetPcS.store9 HRQ.out G4 hr7 (h2.later hl7) (frL hF2 hl7) (Nat.le_refl _)
    · have e40 : ((S[st.at_].toNat : Int) == 40) = false := EQ1.out 40 (by omega)
      have e46 : ((S[st.at_].toNat : Int) == 46) = false := EQ1.out 46 (by omega)
      have e91 : ((S[st.at_].toNat : Int) == 91) = true := EQ0.out 91 hc
      have hRe := HR2.out
      rw [if_neg (show ¬ x.toNat = 40 by omega), if_neg (show ¬ x.toNat = 46 by omega), if_pos hc] at hRe
      cases hbk : bracketF S.data.toList ((st.at_ + 1 : Nat) : Int) with
      | none =>
        rw [hbk] at hRe
        have HRQ : Hid (R = (pcLeaf 1 Proofs.YtmkddhkpeiajhaaGreatDoor.z4, stAt (stFault 24 st.at_ st) 0)) := hRe
        clear hRe hc
        have hbr : ∀ wx : World, Calls Tryz.prog 128 #[.string S, .int .i64 ((st.at_ : Int) + 1)] wx fun e w' => e = .returned (.tuple #[.agg #[.int .u64 0, .int .u64 0, .int .u64 0, .int .u64 0], .int .i64 0, .bool false]) ∧ Later wx w' := fun wx => by
          have := bracket_any S ((st.at_ + 1 : Nat) : Int) wx (by omega)
          rw [show ((st.at_ + 1 : Nat) : Int) = (st.at_ : Int) + 1 by omega] at this hbk
          rw [hbk] at this
          exact this
        have HBR := Lib.hid hbr
        have HB2 : Blk W2 g 115 #[.string S, .int .i64 ((st.at_ : Int) + 1), .int .i64 (st.op : Int), .int .i64 (st.bad : Int), .int .i64 (st.fr : Int)] := by
          have hh := h2
          unfold RdC at hh
          rw [show (((stAt st (st.at_ + 1)).at_ : Nat) : Int) = (st.at_ : Int) + 1 by show ((st.at_ + 1 : Nat) : Int) = _; omega] at hh
          exact hh
        have lt0 : Later W2 W2 := Later.refl _
        clear hbr hbk
        have hszw := D4.lt
        have hne0 : g ≠ W2.heap.size := by have := h2.lt; omega
        go_upto_region 13 with fail
        go_cut [5, 6, 7] (fun s5 s6 s7 wx => AtomB w W2 none s5 s6 s7 wx)
        case first =>
          go_wp2_with fail
          go_region_held_law (fun w' => w'.cell? ⟨g, 0, none⟩ = some (.string S) ∧ w'.cell? ⟨g, 1, none⟩ = some (.int .i64 ((st.at_ : Int) + 1))) (exact cells2r (t := 115) (by repeat (first | (with_reducible exact HB2) | (with_reducible apply Blk.drew) | (with_reducible apply Blk.alloc) | (with_reducible refine Blk.far ?_ hne0 _))))
            ((((go_at_call 128; (with_reducible refine (HBR.out _).mono ?_)); rintro e w3 ⟨rfl, hl3⟩);
              (first
                | (with_reducible have A13 : Blk w3 _ 95 #[.int .u64 0, .int .u64 0, .int .u64 0, .int .u64 0] := blkNwD hl3; obtain ⟨z0, z1, z2, z3, y0, y1, y2, y3⟩ := cells4 A13)
                | (with_reducible have A13 : Blk w3 _ 95 #[.int .u64 0, .int .u64 0, .int .u64 0, .int .u64 0] := blkNw hl3; obtain ⟨z0, z1, z2, z3, y0, y1, y2, y3⟩ := cells4 A13)
                | skip);
              have HB2 := blkL hl3 (by repeat (first | (with_reducible exact HB2) | (with_reducible apply Blk.drew) | (with_reducible apply Blk.alloc) | (with_reducible refine Blk.far ?_ hne0 _)));
              have lt0 : Later W2 w3 := Later.trans (by repeat (first | (with_reducible exact lt0) | (with_reducible apply Later.drew) | (with_reducible apply Later.alloc))) hl3))
          all_goals
            go_wp2_with fail
            go_meet
            have hsz3 := lt0.size
            first
              | (have hA13 := A13
                 exact ⟨_, rfl, by omega, (((lt0.setCell (p := ⟨W2.heap.size, 0, none⟩) (Nat.le_refl _) _).setCell (p := ⟨W2.heap.size, 1, none⟩) (Nat.le_refl _) _).setCell (p := ⟨W2.heap.size, 2, none⟩) (Nat.le_refl _) _).setCell (p := ⟨W2.heap.size, 3, none⟩) (Nat.le_refl _) _, rfl, rfl, (((A13.set_ 0 _).set_ 1 _).set_ 2 _).set_ 3 _⟩)
              | exact ⟨_, rfl, by omega, lt0.alloc _, rfl, rfl, Blk.new w3 _ _⟩
        case rest =>
          obtain ⟨g5, rfl, hg5, hlc, rfl, rfl, B5⟩ := hcut
          have h3 := h2.later hlc
          have D4 := blkL hlc D4
          have hF3 := frL hF2 hlc
          have ne5 : g5 ≠ g := by
            rintro rfl
            exact Blk.ne_ B5 h3 (by decide) rfl
          clear h2 hF2 HB2 lt0
          go_wp2_with fail
          refine (faultR_any g S _ _ _ st.at_ 24 wc h3 rfl rfl).mono ?_
          rintro e w4 ⟨rfl, h4, hf4⟩
          have D4 := blkF hf4 ne4 D4
          have B5 := blkF hf4 ne5 B5
          have hF4 := frF hF3 hf4
          have q1 := h4.c1
          have f1 := h4.f 1
          clear h3 hF3 hf4
          go_upto_region 17 with fail
          obtain ⟨W5, hW5⟩ : ∃ W5, W5 = w4.setCell ⟨g, 1, none⟩ (.int .i64 0) := ⟨_, rfl⟩
          have h5 : RdC W5 g S (stAt (stFault 24 st.at_ (stAt st (st.at_ + 1))) 0) := by rw [hW5]; exact h4.setAt 0 _ rfl
          have D4 : Blk W5 w.heap.size 117 #[.int .i64 0, .int .u64 0, .int .u64 0, .int .u64 0, .int .u64 0, .slice none 0 0, .int .i64 0, .int .i64 0, .bool false] := by rw [hW5]; exact D4.far (p := ⟨g, 1, none⟩) ne4 _
          have B5 : Blk W5 g5 95 #[.int .u64 0, .int .u64 0, .int .u64 0, .int .u64 0] := by rw [hW5]; exact B5.far (p := ⟨g, 1, none⟩) ne5 _
          have hF5 : Fr w W5 (fun k => k = g) := by rw [hW5]; exact frG (i := 1) hF4 _
          rw [fault_stAt] at h5
          rw [← hW5]
          clear hW5 q1 f1 h4 hF4
          obtain ⟨u0, u1, u2, u3, -⟩ := cells4 B5
          go_wp2_with fail
          refine (leaf_z lo 1 _).mono ?_
          rintro e w7 ⟨k1, a1, b1, c1, d1, A1, n1, cp1, rfl, hr7, hl7⟩
          have G4 := blkL hl7 D4
          obtain ⟨z0, z1, z2, z3, z4, z5, z6, z7, z8, y0, y1, y2, y3, y4, y5, y6, y7, y8⟩ := cells9 G4
          go_wp2_with fail
          refine bodyPost_ret (v := .agg #[.int .i64 k1, .int .u64 a1, .int .u64 b1, .int .u64 c1, .int .u64 d1, .slice A1 n1 cp1, .int .i64 ((pcLeaf 1 Proofs.YtmkddhkpeiajhaaGreatDoor.z4).deep : Int), .int .i64 ((pcLeaf 1 Proofs.YtmkddhkpeiajhaaGreatDoor.z4).leaves : Int), .bool (pcLeaf 1 Proofs.YtmkddhkpeiajhaaGreatDoor.z4).big]) (by simp [results, Tryz.results114, go_sem, z0, z1, z2, z3, z4, z5, z6, z7, z8]) rfl ?_
          exact RetPcS.store9 HRQ.out G4 hr7 (h5.later hl7) (frL hF5 hl7) (Nat.le_refl _)
      | some r =>
        obtain ⟨m, e0⟩ := r
        rw [hbk] at hRe
        have HRQ : Hid (R = (pcLeaf 1 (w4 m), stAt st e0)) := hRe
        clear hRe hc
        have hbr : ∀ wx : World, Calls Tryz.prog 128 #[.string S, .int .i64 ((st.at_ : Int) + 1)] wx fun e w' => e = .returned (.tuple #[.agg #[.int .u64 (word m 0 : Nat), .int .u64 (word m 1 : Nat), .int .u64 (word m 2 : Nat), .int .u64 (word m 3 : Nat)], .int .i64 (e0 : Int), .bool true]) ∧ Later wx w' := fun wx => by
          have := bracket_any S ((st.at_ + 1 : Nat) : Int) wx (by omega)
          rw [show ((st.at_ + 1 : Nat) : Int) = (st.at_ : Int) + 1 by omega] at this hbk
          rw [hbk] at this
          exact this
        have HBR := Lib.hid hbr
        have HB2 : Blk W2 g 115 #[.string S, .int .i64 ((st.at_ : Int) + 1), .int .i64 (st.op : Int), .int .i64 (st.bad : Int), .int .i64 (st.fr : Int)] := by
          have hh := h2
          unfold RdC at hh
          rw [show (((stAt st (st.at_ + 1)).at_ : Nat) : Int) = (st.at_ : Int) + 1 by show ((st.at_ + 1 : Nat) : Int) = _; omega] at hh
          exact hh
        have lt0 : Later W2 W2 := Later.refl _
        clear hbr hbk
        have hszw := D4.lt
        have hne0 : g ≠ W2.heap.size := by have := h2.lt; omega
        go_upto_region 13 with fail
        go_cut [5, 6, 7] (fun s5 s6 s7 wx => AtomB w W2 (some (m, e0)) s5 s6 s7 wx)
        case first =>
          go_wp2_with fail
          go_region_held_law (fun w' => w'.cell? ⟨g, 0, none⟩ = some (.string S) ∧ w'.cell? ⟨g, 1, none⟩ = some (.int .i64 ((st.at_ : Int) + 1))) (exact cells2r (t := 115) (by repeat (first | (with_reducible exact HB2) | (with_reducible apply Blk.drew) | (with_reducible apply Blk.alloc) | (with_reducible refine Blk.far ?_ hne0 _))))
            ((((go_at_call 128; (with_reducible refine (HBR.out _).mono ?_)); rintro e w3 ⟨rfl, hl3⟩);
              (first
                | (with_reducible have A13 : Blk w3 _ 95 #[.int .u64 0, .int .u64 0, .int .u64 0, .int .u64 0] := blkNwD hl3; obtain ⟨z0, z1, z2, z3, y0, y1, y2, y3⟩ := cells4 A13)
                | (with_reducible have A13 : Blk w3 _ 95 #[.int .u64 0, .int .u64 0, .int .u64 0, .int .u64 0] := blkNw hl3; obtain ⟨z0, z1, z2, z3, y0, y1, y2, y3⟩ := cells4 A13)
                | skip);
              have HB2 := blkL hl3 (by repeat (first | (with_reducible exact HB2) | (with_reducible apply Blk.drew) | (with_reducible apply Blk.alloc) | (with_reducible refine Blk.far ?_ hne0 _)));
              have lt0 : Later W2 w3 := Later.trans (by repeat (first | (with_reducible exact lt0) | (with_reducible apply Later.drew) | (with_reducible apply Later.alloc))) hl3))
          all_goals
            go_wp2_with fail
            go_meet
            have hsz3 := lt0.size
            first
              | (have hA13 := A13
                 exact ⟨_, rfl, by omega, (((lt0.setCell (p := ⟨W2.heap.size, 0, none⟩) (Nat.le_refl _) _).setCell (p := ⟨W2.heap.size, 1, none⟩) (Nat.le_refl _) _).setCell (p := ⟨W2.heap.size, 2, none⟩) (Nat.le_refl _) _).setCell (p := ⟨W2.heap.size, 3, none⟩) (Nat.le_refl _) _, rfl, rfl, (((A13.set_ 0 _).set_ 1 _).set_ 2 _).set_ 3 _⟩)
              | exact ⟨_, rfl, by omega, lt0.alloc _, rfl, rfl, Blk.new w3 _ _⟩
        case rest =>
          obtain ⟨g5, rfl, hg5, hlc, rfl, rfl, B5⟩ := hcut
          have h3 := h2.later hlc
          have D4 := blkL hlc D4
          have hF3 := frL hF2 hlc
          have q1 := h3.c1
          have f1 := h3.f 1
          have ne5 : g5 ≠ g := by
            rintro rfl
            exact Blk.ne_ B5 h3 (by decide) rfl
          clear h2 hF2 HB2 lt0
          go_upto_region 17 with fail
          obtain ⟨W5, hW5⟩ : ∃ W5, W5 = wc.setCell ⟨g, 1, none⟩ (.int .i64 (e0 : Int)) := ⟨_, rfl⟩
          have h5 : RdC W5 g S (stAt st e0) := by rw [hW5]; exact h3.setAt e0 _ rfl
          have D4 : Blk W5 w.heap.size 117 #[.int .i64 0, .int .u64 0, .int .u64 0, .int .u64 0, .int .u64 0, .slice none 0 0, .int .i64 0, .int .i64 0, .bool false] := by rw [hW5]; exact D4.far (p := ⟨g, 1, none⟩) ne4 _
          have B5 : Blk W5 g5 95 #[.int .u64 (word m 0 : Nat), .int .u64 (word m 1 : Nat), .int .u64 (word m 2 : Nat), .int .u64 (word m 3 : Nat)] := by rw [hW5]; exact B5.far (p := ⟨g, 1, none⟩) ne5 _
          have hF5 : Fr w W5 (fun k => k = g) := by rw [hW5]; exact frG (i := 1) hF3 _
          rw [← hW5]
          clear hW5 q1 f1 h3 hF3
          obtain ⟨u0, u1, u2, u3, -⟩ := cells4 B5
          go_wp2_with fail
          refine (leaf_m lo m _).mono ?_
          rintro e w7 ⟨k1, a1, b1, c1, d1, A1, n1, cp1, rfl, hr7, hl7⟩
          have G4 := blkL hl7 D4
          obtain ⟨z0, z1, z2, z3, z4, z5, z6, z7, z8, y0, y1, y2, y3, y4, y5, y6, y7, y8⟩ := cells9 G4
          go_wp2_with fail
          refine bodyPost_ret (v := .agg #[.int .i64 k1, .int .u64 a1, .int .u64 b1, .int .u64 c1, .int .u64 d1, .slice A1 n1 cp1, .int .i64 ((pcLeaf 1 (w4 m)).deep : Int), .int .i64 ((pcLeaf 1 (w4 m)).leaves : Int), .bool (pcLeaf 1 (w4 m)).big]) (by simp [results, Tryz.results114, go_sem, z0, z1, z2, z3, z4, z5, z6, z7, z8]) rfl ?_
          exact RetPcS.store9 HRQ.out G4 hr7 (h5.later hl7) (frL hF5 hl7) (Nat.le_refl _)
    · have e40 : ((S[st.at_].toNat : Int) == 40) = false := EQ1.out 40 (by omega)
      have e46 : ((S[st.at_].toNat : Int) == 46) = false := EQ1.out 46 (by omega)
      have e91 : ((S[st.at_].toNat : Int) == 91) = false := EQ1.out 91 (by omega)
      have e94 : ((S[st.at_].toNat : Int) == 94) = true := EQ0.out 94 hc
      have HRQ : Hid (R = (pcLeaf 7 Proofs.YtmkddhkpeiajhaaGreatDoor.z4, stAt st (st.at_ + 1))) := by show _ = _; rw [HR2.out, if_neg (show ¬ x.toNat = 40 by omega), if_neg (show ¬ x.toNat = 46 by omega), if_neg (show ¬ x.toNat = 91 by omega), if_pos hc]
      clear hc
      go_wp2_with fail
      refine (leaf_z lo 7 _).mono ?_
      rintro e w7 ⟨k1, a1, b1, c1, d1, A1, n1, cp1, rfl, hr7, hl7⟩
      have G4 := blkL hl7 D4
      obtain ⟨z0, z1, z2, z3, z4, z5, z6, z7, z8, y0, y1, y2, y3, y4, y5, y6, y7, y8⟩ := cells9 G4
      go_wp2_with fail
      refine bodyPost_ret (v := .agg #[.int .i64 k1, .int .u64 a1, .int .u64 b1, .int .u64 c1, .int .u64 d1, .slice A1 n1 cp1, .int .i64 ((pcLeaf 7 Proofs.YtmkddhkpeiajhaaGreatDoor.z4).deep : Int), .int .i64 ((pcLeaf 7 Proofs.YtmkddhkpeiajhaaGreatDoor.z4).leaves : Int), .bool (pcLeaf 7 Proofs.YtmkddhkpeiajhaaGreatDoor.z4).big]) (by simp [results, Tryz.results114, go_sem, z0, z1, z2, z3, z4, z5, z6, z7, z8]) rfl ?_
      exact RetPcS.store9 HRQ.out G4 hr7 (h2.later hl7) (frL hF2 hl7) (Nat.le_refl _)
    · have e40 : ((S[st.at_].toNat : Int) == 40) = false := EQ1.out 40 (by omega)
      have e46 : ((S[st.at_].toNat : Int) == 46) = false := EQ1.out 46 (by omega)
      have e91 : ((S[st.at_].toNat : Int) == 91) = false := EQ1.out 91 (by omega)
      have e94 : ((S[st.at_].toNat : Int) == 94) = false := EQ1.out 94 (by omega)
      have e36 : ((S[st.at_].toNat : Int) == 36) = true := EQ0.out 36 hc
      have HRQ : Hid (R = (pcLeaf 8 Proofs.YtmkddhkpeiajhaaGreatDoor.z4, stAt st (st.at_ + 1))) := by show _ = _; rw [HR2.out, if_neg (show ¬ x.toNat = 40 by omega), if_neg (show ¬ x.toNat = 46 by omega), if_neg (show ¬ x.toNat = 91 by omega), if_neg (show ¬ x.toNat = 94 by omega), if_pos hc]
      clear hc
      go_wp2_with fail
      refine (leaf_z lo 8 _).mono ?_
      rintro e w7 ⟨k1, a1, b1, c1, d1, A1, n1, cp1, rfl, hr7, hl7⟩
      have G4 := blkL hl7 D4
      obtain ⟨z0, z1, z2, z3, z4, z5, z6, z7, z8, y0, y1, y2, y3, y4, y5, y6, y7, y8⟩ := cells9 G4
      go_wp2_with fail
      refine bodyPost_ret (v := .agg #[.int .i64 k1, .int .u64 a1, .int .u64 b1, .int .u64 c1, .int .u64 d1, .slice A1 n1 cp1, .int .i64 ((pcLeaf 8 Proofs.YtmkddhkpeiajhaaGreatDoor.z4).deep : Int), .int .i64 ((pcLeaf 8 Proofs.YtmkddhkpeiajhaaGreatDoor.z4).leaves : Int), .bool (pcLeaf 8 Proofs.YtmkddhkpeiajhaaGreatDoor.z4).big]) (by simp [results, Tryz.results114, go_sem, z0, z1, z2, z3, z4, z5, z6, z7, z8]) rfl ?_
      exact RetPcS.store9 HRQ.out G4 hr7 (h2.later hl7) (frL hF2 hl7) (Nat.le_refl _)
    · have e40 : ((S[st.at_].toNat : Int) == 40) = false := EQ1.out 40 (by omega)
      have e46 : ((S[st.at_].toNat : Int) == 46) = false := EQ1.out 46 (by omega)
      have e91 : ((S[st.at_].toNat : Int) == 91) = false := EQ1.out 91 (by omega)
      have e94 : ((S[st.at_].toNat : Int) == 94) = false := EQ1.out 94 (by omega)
      have e36 : ((S[st.at_].toNat : Int) == 36) = false := EQ1.out 36 (by omega)
      have e92 : ((S[st.at_].toNat : Int) == 92) = true := EQ0.out 92 hc
      obtain ⟨q, st3, hq⟩ : ∃ q st3, escF S.data.toList (stAt st (st.at_ + 1)) = (q, st3) := ⟨_, _, rfl⟩
      have hesc : Calls Tryz.prog 130 #[.pointer (some ⟨g, 0, none⟩)] W2 (EscRet g S (stAt st (st.at_ + 1)) W2) := by
        cases hx2 : S.data.toList[(stAt st (st.at_ + 1)).at_]? with
        | none => exact escR_none g S _ W2 h2 hs hx2
        | some c => exact absurd (hx2.symm.trans (Txt.esc (S := S) st.at_ x HX.out hc)) (by simp)
      have hres := esc_res S.data.toList (stAt st (st.at_ + 1)) HBAD.out (by show st.at_ + 1 ≤ _; rw [len_eq]; omega)
      unfold EscRet at hesc
      rw [hq] at hesc hres
      have hq256 : q < 256 := hres.2.2.2
      have HESC := Lib.hid hesc
      have HQ : Hid ((q : Int) = ((UInt8.ofNat q).toNat : Int)) := by show _ = _; rw [UInt8.toNat_ofNat']; omega
      have HRQ : Hid (R = (pcLeaf 1 (w4 (mOf [UInt8.ofNat q])), st3)) := by show _ = _; rw [HR2.out, if_neg (show ¬ x.toNat = 40 by omega), if_neg (show ¬ x.toNat = 46 by omega), if_neg (show ¬ x.toNat = 91 by omega), if_neg (show ¬ x.toNat = 94 by omega), if_neg (show ¬ x.toNat = 36 by omega), if_pos hc, hq]
      clear hesc hres hq hc
      go_wp2_with fail
      refine HESC.out.mono ?_
      rintro e w3 ⟨rfl, h3, hf3⟩
      have D4 := blkF hf3 ne4 D4
      have hF3 := frF hF2 hf3
      clear h2 hF2 hf3
      go_wp2_with fail
      refine (of_c _ (UInt8.ofNat q) _ HQ.out _).mono ?_
      rintro e w6 ⟨rfl, hl6⟩
      go_wp2_with fail
      refine (leaf_m lo (mOf [UInt8.ofNat q]) _).mono ?_
      rintro e w7 ⟨k1, a1, b1, c1, d1, A1, n1, cp1, rfl, hr7, hl7⟩
      have hl7 := hl6.trans hl7
      have G4 := blkL hl7 D4
      obtain ⟨z0, z1, z2, z3, z4, z5, z6, z7, z8, y0, y1, y2, y3, y4, y5, y6, y7, y8⟩ := cells9 G4
      go_wp2_with fail
      refine bodyPost_ret (v := .agg #[.int .i64 k1, .int .u64 a1, .int .u64 b1, .int .u64 c1, .int .u64 d1, .slice A1 n1 cp1, .int .i64 ((pcLeaf 1 (w4 (mOf [UInt8.ofNat q]))).deep : Int), .int .i64 ((pcLeaf 1 (w4 (mOf [UInt8.ofNat q]))).leaves : Int), .bool (pcLeaf 1 (w4 (mOf [UInt8.ofNat q]))).big]) (by simp [results, Tryz.results114, go_sem, z0, z1, z2, z3, z4, z5, z6, z7, z8]) rfl ?_
      exact RetPcS.store9 HRQ.out G4 hr7 (h3.later hl7) (frL hF3 hl7) (Nat.le_refl _)
    · rcases hc with hc | hc | hc | hc | hc | hc
      · have e40 : ((S[st.at_].toNat : Int) == 40) = false := EQ1.out 40 (by omega)
        have e46 : ((S[st.at_].toNat : Int) == 46) = false := EQ1.out 46 (by omega)
        have e91 : ((S[st.at_].toNat : Int) == 91) = false := EQ1.out 91 (by omega)
        have e94 : ((S[st.at_].toNat : Int) == 94) = false := EQ1.out 94 (by omega)
        have e36 : ((S[st.at_].toNat : Int) == 36) = false := EQ1.out 36 (by omega)
        have e92 : ((S[st.at_].toNat : Int) == 92) = false := EQ1.out 92 (by omega)
        have e42 : ((S[st.at_].toNat : Int) == 42) = true := EQ0.out 42 (by omega)
        have HRQ : Hid (R = (pcLeaf 1 (w4 (mOf [x])), stFault 24 st.at_ (stAt st (st.at_ + 1)))) := by show _ = _; rw [HR2.out, if_neg (show ¬ x.toNat = 40 by omega), if_neg (show ¬ x.toNat = 46 by omega), if_neg (show ¬ x.toNat = 91 by omega), if_neg (show ¬ x.toNat = 94 by omega), if_neg (show ¬ x.toNat = 36 by omega), if_neg (show ¬ x.toNat = 92 by omega), if_pos (by omega)]
        clear hc
        go_wp2_with fail
        refine (faultR_any g S _ _ _ st.at_ 24 W2 h2 rfl rfl).mono ?_
        rintro e w3 ⟨rfl, h3, hf3⟩
        have D4 := blkF hf3 ne4 D4
        have hF3 := frF hF2 hf3
        clear h2 hF2 hf3
        have HXE := HE.out
        go_wp2_with fail
        refine (of_c _ x _ rfl _).mono ?_
        rintro e w6 ⟨rfl, hl6⟩
        go_wp2_with fail
        refine (leaf_m lo (mOf [x]) _).mono ?_
        rintro e w7 ⟨k1, a1, b1, c1, d1, A1, n1, cp1, rfl, hr7, hl7⟩
        have hl7 := hl6.trans hl7
        have G4 := blkL hl7 D4
        obtain ⟨z0, z1, z2, z3, z4, z5, z6, z7, z8, y0, y1, y2, y3, y4, y5, y6, y7, y8⟩ := cells9 G4
        go_wp2_with fail
        refine bodyPost_ret (v := .agg #[.int .i64 k1, .int .u64 a1, .int .u64 b1, .int .u64 c1, .int .u64 d1, .slice A1 n1 cp1, .int .i64 ((pcLeaf 1 (w4 (mOf [x]))).deep : Int), .int .i64 ((pcLeaf 1 (w4 (mOf [x]))).leaves : Int), .bool (pcLeaf 1 (w4 (mOf [x]))).big]) (by simp [results, Tryz.results114, go_sem, z0, z1, z2, z3, z4, z5, z6, z7, z8]) rfl ?_
        exact RetPcS.store9 HRQ.out G4 hr7 (h3.later hl7) (frL hF3 hl7) (Nat.le_refl _)
      · have e40 : ((S[st.at_].toNat : Int) == 40) = false := EQ1.out 40 (by omega)
        have e46 : ((S[st.at_].toNat : Int) == 46) = false := EQ1.out 46 (by omega)
        have e91 : ((S[st.at_].toNat : Int) == 91) = false := EQ1.out 91 (by omega)
        have e94 : ((S[st.at_].toNat : Int) == 94) = false := EQ1.out 94 (by omega)
        have e36 : ((S[st.at_].toNat : Int) == 36) = false := EQ1.out 36 (by omega)
        have e92 : ((S[st.at_].toNat : Int) == 92) = false := EQ1.out 92 (by omega)
        have e42 : ((S[st.at_].toNat : Int) == 42) = false := EQ1.out 42 (by omega)
        have e43 : ((S[st.at_].toNat : Int) == 43) = true := EQ0.out 43 (by omega)
        have HRQ : Hid (R = (pcLeaf 1 (w4 (mOf [x])), stFault 24 st.at_ (stAt st (st.at_ + 1)))) := by show _ = _; rw [HR2.out, if_neg (show ¬ x.toNat = 40 by omega), if_neg (show ¬ x.toNat = 46 by omega), if_neg (show ¬ x.toNat = 91 by omega), if_neg (show ¬ x.toNat = 94 by omega), if_neg (show ¬ x.toNat = 36 by omega), if_neg (show ¬ x.toNat = 92 by omega), if_pos (by omega)]
        clear hc
        go_wp2_with fail
        refine (faultR_any g S _ _ _ st.at_ 24 W2 h2 rfl rfl).mono ?_
        rintro e w3 ⟨rfl, h3, hf3⟩
        have D4 := blkF hf3 ne4 D4
        have hF3 := frF hF2 hf3
        clear h2 hF2 hf3
        have HXE := HE.out
        go_wp2_with fail
        refine (of_c _ x _ rfl _).mono ?_
        rintro e w6 ⟨rfl, hl6⟩
        go_wp2_with fail
        refine (leaf_m lo (mOf [x]) _).mono ?_
        rintro e w7 ⟨k1, a1, b1, c1, d1, A1, n1, cp1, rfl, hr7, hl7⟩
        have hl7 := hl6.trans hl7
        have G4 := blkL hl7 D4
        obtain ⟨z0, z1, z2, z3, z4, z5, z6, z7, z8, y0, y1, y2, y3, y4, y5, y6, y7, y8⟩ := cells9 G4
        go_wp2_with fail
        refine bodyPost_ret (v := .agg #[.int .i64 k1, .int .u64 a1, .int .u64 b1, .int .u64 c1, .int .u64 d1, .slice A1 n1 cp1, .int .i64 ((pcLeaf 1 (w4 (mOf [x]))).deep : Int), .int .i64 ((pcLeaf 1 (w4 (mOf [x]))).leaves : Int), .bool (pcLeaf 1 (w4 (mOf [x]))).big]) (by simp [results, Tryz.results114, go_sem, z0, z1, z2, z3, z4, z5, z6, z7, z8]) rfl ?_
        exact RetPcS.store9 HRQ.out G4 hr7 (h3.later hl7) (frL hF3 hl7) (Nat.le_refl _)
      · have e40 : ((S[st.at_].toNat : Int) == 40) = false := EQ1.out 40 (by omega)
        have e46 : ((S[st.at_].toNat : Int) == 46) = false := EQ1.out 46 (by omega)
        have e91 : ((S[st.at_].toNat : Int) == 91) = false := EQ1.out 91 (by omega)
        have e94 : ((S[st.at_].toNat : Int) == 94) = false := EQ1.out 94 (by omega)
        have e36 : ((S[st.at_].toNat : Int) == 36) = false := EQ1.out 36 (by omega)
        have e92 : ((S[st.at_].toNat : Int) == 92) = false := EQ1.out 92 (by omega)
        have e42 : ((S[st.at_].toNat : Int) == 42) = false := EQ1.out 42 (by omega)
        have e43 : ((S[st.at_].toNat : Int) == 43) = false := EQ1.out 43 (by omega)
        have e63 : ((S[st.at_].toNat : Int) == 63) = true := EQ0.out 63 (by omega)
        have HRQ : Hid (R = (pcLeaf 1 (w4 (mOf [x])), stFault 24 st.at_ (stAt st (st.at_ + 1)))) := by show _ = _; rw [HR2.out, if_neg (show ¬ x.toNat = 40 by omega), if_neg (show ¬ x.toNat = 46 by omega), if_neg (show ¬ x.toNat = 91 by omega), if_neg (show ¬ x.toNat = 94 by omega), if_neg (show ¬ x.toNat = 36 by omega), if_neg (show ¬ x.toNat = 92 by omega), if_pos (by omega)]
        clear hc
        go_wp2_with fail
        refine (faultR_any g S _ _ _ st.at_ 24 W2 h2 rfl rfl).mono ?_
        rintro e w3 ⟨rfl, h3, hf3⟩
        have D4 := blkF hf3 ne4 D4
        have hF3 := frF hF2 hf3
        clear h2 hF2 hf3
        have HXE := HE.out
        go_wp2_with fail
        refine (of_c _ x _ rfl _).mono ?_
        rintro e w6 ⟨rfl, hl6⟩
        go_wp2_with fail
        refine (leaf_m lo (mOf [x]) _).mono ?_
        rintro e w7 ⟨k1, a1, b1, c1, d1, A1, n1, cp1, rfl, hr7, hl7⟩
        have hl7 := hl6.trans hl7
        have G4 := blkL hl7 D4
        obtain ⟨z0, z1, z2, z3, z4, z5, z6, z7, z8, y0, y1, y2, y3, y4, y5, y6, y7, y8⟩ := cells9 G4
        go_wp2_with fail
        refine bodyPost_ret (v := .agg #[.int .i64 k1, .int .u64 a1, .int .u64 b1, .int .u64 c1, .int .u64 d1, .slice A1 n1 cp1, .int .i64 ((pcLeaf 1 (w4 (mOf [x]))).deep : Int), .int .i64 ((pcLeaf 1 (w4 (mOf [x]))).leaves : Int), .bool (pcLeaf 1 (w4 (mOf [x]))).big]) (by simp [results, Tryz.results114, go_sem, z0, z1, z2, z3, z4, z5, z6, z7, z8]) rfl ?_
        exact RetPcS.store9 HRQ.out G4 hr7 (h3.later hl7) (frL hF3 hl7) (Nat.le_refl _)
      · have e40 : ((S[st.at_].toNat : Int) == 40) = false := EQ1.out 40 (by omega)
        have e46 : ((S[st.at_].toNat : Int) == 46) = false := EQ1.out 46 (by omega)
        have e91 : ((S[st.at_].toNat : Int) == 91) = false := EQ1.out 91 (by omega)
        have e94 : ((S[st.at_].toNat : Int) == 94) = false := EQ1.out 94 (by omega)
        have e36 : ((S[st.at_].toNat : Int) == 36) = false := EQ1.out 36 (by omega)
        have e92 : ((S[st.at_].toNat : Int) == 92) = false := EQ1.out 92 (by omega)
        have e42 : ((S[st.at_].toNat : Int) == 42) = false := EQ1.out 42 (by omega)
        have e43 : ((S[st.at_].toNat : Int) == 43) = false := EQ1.out 43 (by omega)
        have e63 : ((S[st.at_].toNat : Int) == 63) = false := EQ1.out 63 (by omega)
        have e123 : ((S[st.at_].toNat : Int) == 123) = true := EQ0.out 123 (by omega)
        have HRQ : Hid (R = (pcLeaf 1 (w4 (mOf [x])), stFault 24 st.at_ (stAt st (st.at_ + 1)))) := by show _ = _; rw [HR2.out, if_neg (show ¬ x.toNat = 40 by omega), if_neg (show ¬ x.toNat = 46 by omega), if_neg (show ¬ x.toNat = 91 by omega), if_neg (show ¬ x.toNat = 94 by omega), if_neg (show ¬ x.toNat = 36 by omega), if_neg (show ¬ x.toNat = 92 by omega), if_pos (by omega)]
        clear hc
        go_wp2_with fail
        refine (faultR_any g S _ _ _ st.at_ 24 W2 h2 rfl rfl).mono ?_
        rintro e w3 ⟨rfl, h3, hf3⟩
        have D4 := blkF hf3 ne4 D4
        have hF3 := frF hF2 hf3
        clear h2 hF2 hf3
        have HXE := HE.out
        go_wp2_with fail
        refine (of_c _ x _ rfl _).mono ?_
        rintro e w6 ⟨rfl, hl6⟩
        go_wp2_with fail
        refine (leaf_m lo (mOf [x]) _).mono ?_
        rintro e w7 ⟨k1, a1, b1, c1, d1, A1, n1, cp1, rfl, hr7, hl7⟩
        have hl7 := hl6.trans hl7
        have G4 := blkL hl7 D4
        obtain ⟨z0, z1, z2, z3, z4, z5, z6, z7, z8, y0, y1, y2, y3, y4, y5, y6, y7, y8⟩ := cells9 G4
        go_wp2_with fail
        refine bodyPost_ret (v := .agg #[.int .i64 k1, .int .u64 a1, .int .u64 b1, .int .u64 c1, .int .u64 d1, .slice A1 n1 cp1, .int .i64 ((pcLeaf 1 (w4 (mOf [x]))).deep : Int), .int .i64 ((pcLeaf 1 (w4 (mOf [x]))).leaves : Int), .bool (pcLeaf 1 (w4 (mOf [x]))).big]) (by simp [results, Tryz.results114, go_sem, z0, z1, z2, z3, z4, z5, z6, z7, z8]) rfl ?_
        exact RetPcS.store9 HRQ.out G4 hr7 (h3.later hl7) (frL hF3 hl7) (Nat.le_refl _)
      · have e40 : ((S[st.at_].toNat : Int) == 40) = false := EQ1.out 40 (by omega)
        have e46 : ((S[st.at_].toNat : Int) == 46) = false := EQ1.out 46 (by omega)
        have e91 : ((S[st.at_].toNat : Int) == 91) = false := EQ1.out 91 (by omega)
        have e94 : ((S[st.at_].toNat : Int) == 94) = false := EQ1.out 94 (by omega)
        have e36 : ((S[st.at_].toNat : Int) == 36) = false := EQ1.out 36 (by omega)
        have e92 : ((S[st.at_].toNat : Int) == 92) = false := EQ1.out 92 (by omega)
        have e42 : ((S[st.at_].toNat : Int) == 42) = false := EQ1.out 42 (by omega)
        have e43 : ((S[st.at_].toNat : Int) == 43) = false := EQ1.out 43 (by omega)
        have e63 : ((S[st.at_].toNat : Int) == 63) = false := EQ1.out 63 (by omega)
        have e123 : ((S[st.at_].toNat : Int) == 123) = false := EQ1.out 123 (by omega)
        have e124 : ((S[st.at_].toNat : Int) == 124) = true := EQ0.out 124 (by omega)
        have HRQ : Hid (R = (pcLeaf 1 (w4 (mOf [x])), stFault 24 st.at_ (stAt st (st.at_ + 1)))) := by show _ = _; rw [HR2.out, if_neg (show ¬ x.toNat = 40 by omega), if_neg (show ¬ x.toNat = 46 by omega), if_neg (show ¬ x.toNat = 91 by omega), if_neg (show ¬ x.toNat = 94 by omega), if_neg (show ¬ x.toNat = 36 by omega), if_neg (show ¬ x.toNat = 92 by omega), if_pos (by omega)]
        clear hc
        go_wp2_with fail
        refine (faultR_any g S _ _ _ st.at_ 24 W2 h2 rfl rfl).mono ?_
        rintro e w3 ⟨rfl, h3, hf3⟩
        have D4 := blkF hf3 ne4 D4
        have hF3 := frF hF2 hf3
        clear h2 hF2 hf3
        have HXE := HE.out
        go_wp2_with fail
        refine (of_c _ x _ rfl _).mono ?_
        rintro e w6 ⟨rfl, hl6⟩
        go_wp2_with fail
        refine (leaf_m lo (mOf [x]) _).mono ?_
        rintro e w7 ⟨k1, a1, b1, c1, d1, A1, n1, cp1, rfl, hr7, hl7⟩
        have hl7 := hl6.trans hl7
        have G4 := blkL hl7 D4
        obtain ⟨z0, z1, z2, z3, z4, z5, z6, z7, z8, y0, y1, y2, y3, y4, y5, y6, y7, y8⟩ := cells9 G4
        go_wp2_with fail
        refine bodyPost_ret (v := .agg #[.int .i64 k1, .int .u64 a1, .int .u64 b1, .int .u64 c1, .int .u64 d1, .slice A1 n1 cp1, .int .i64 ((pcLeaf 1 (w4 (mOf [x]))).deep : Int), .int .i64 ((pcLeaf 1 (w4 (mOf [x]))).leaves : Int), .bool (pcLeaf 1 (w4 (mOf [x]))).big]) (by simp [results, Tryz.results114, go_sem, z0, z1, z2, z3, z4, z5, z6, z7, z8]) rfl ?_
        exact RetPcS.store9 HRQ.out G4 hr7 (h3.later hl7) (frL hF3 hl7) (Nat.le_refl _)
      · have e40 : ((S[st.at_].toNat : Int) == 40) = false := EQ1.out 40 (by omega)
        have e46 : ((S[st.at_].toNat : Int) == 46) = false := EQ1.out 46 (by omega)
        have e91 : ((S[st.at_].toNat : Int) == 91) = false := EQ1.out 91 (by omega)
        have e94 : ((S[st.at_].toNat : Int) == 94) = false := EQ1.out 94 (by omega)
        have e36 : ((S[st.at_].toNat : Int) == 36) = false := EQ1.out 36 (by omega)
        have e92 : ((S[st.at_].toNat : Int) == 92) = false := EQ1.out 92 (by omega)
        have e42 : ((S[st.at_].toNat : Int) == 42) = false := EQ1.out 42 (by omega)
        have e43 : ((S[st.at_].toNat : Int) == 43) = false := EQ1.out 43 (by omega)
        have e63 : ((S[st.at_].toNat : Int) == 63) = false := EQ1.out 63 (by omega)
        have e123 : ((S[st.at_].toNat : Int) == 123) = false := EQ1.out 123 (by omega)
        have e124 : ((S[st.at_].toNat : Int) == 124) = false := EQ1.out 124 (by omega)
        have e41 : ((S[st.at_].toNat : Int) == 41) = true := EQ0.out 41 (by omega)
        have HRQ : Hid (R = (pcLeaf 1 (w4 (mOf [x])), stFault 24 st.at_ (stAt st (st.at_ + 1)))) := by show _ = _; rw [HR2.out, if_neg (show ¬ x.toNat = 40 by omega), if_neg (show ¬ x.toNat = 46 by omega), if_neg (show ¬ x.toNat = 91 by omega), if_neg (show ¬ x.toNat = 94 by omega), if_neg (show ¬ x.toNat = 36 by omega), if_neg (show ¬ x.toNat = 92 by omega), if_pos (by omega)]
        clear hc
        go_wp2_with fail
        refine (faultR_any g S _ _ _ st.at_ 24 W2 h2 rfl rfl).mono ?_
        rintro e w3 ⟨rfl, h3, hf3⟩
        have D4 := blkF hf3 ne4 D4
        have hF3 := frF hF2 hf3
        clear h2 hF2 hf3
        have HXE := HE.out
        go_wp2_with fail
        refine (of_c _ x _ rfl _).mono ?_
        rintro e w6 ⟨rfl, hl6⟩
        go_wp2_with fail
        refine (leaf_m lo (mOf [x]) _).mono ?_
        rintro e w7 ⟨k1, a1, b1, c1, d1, A1, n1, cp1, rfl, hr7, hl7⟩
        have hl7 := hl6.trans hl7
        have G4 := blkL hl7 D4
        obtain ⟨z0, z1, z2, z3, z4, z5, z6, z7, z8, y0, y1, y2, y3, y4, y5, y6, y7, y8⟩ := cells9 G4
        go_wp2_with fail
        refine bodyPost_ret (v := .agg #[.int .i64 k1, .int .u64 a1, .int .u64 b1, .int .u64 c1, .int .u64 d1, .slice A1 n1 cp1, .int .i64 ((pcLeaf 1 (w4 (mOf [x]))).deep : Int), .int .i64 ((pcLeaf 1 (w4 (mOf [x]))).leaves : Int), .bool (pcLeaf 1 (w4 (mOf [x]))).big]) (by simp [results, Tryz.results114, go_sem, z0, z1, z2, z3, z4, z5, z6, z7, z8]) rfl ?_
        exact RetPcS.store9 HRQ.out G4 hr7 (h3.later hl7) (frL hF3 hl7) (Nat.le_refl _)
    · have e40 : ((S[st.at_].toNat : Int) == 40) = false := EQ1.out 40 (by omega)
      have e46 : ((S[st.at_].toNat : Int) == 46) = false := EQ1.out 46 (by omega)
      have e91 : ((S[st.at_].toNat : Int) == 91) = false := EQ1.out 91 (by omega)
      have e94 : ((S[st.at_].toNat : Int) == 94) = false := EQ1.out 94 (by omega)
      have e36 : ((S[st.at_].toNat : Int) == 36) = false := EQ1.out 36 (by omega)
      have e92 : ((S[st.at_].toNat : Int) == 92) = false := EQ1.out 92 (by omega)
      have e42 : ((S[st.at_].toNat : Int) == 42) = false := EQ1.out 42 (by omega)
      have e43 : ((S[st.at_].toNat : Int) == 43) = false := EQ1.out 43 (by omega)
      have e63 : ((S[st.at_].toNat : Int) == 63) = false := EQ1.out 63 (by omega)
      have e123 : ((S[st.at_].toNat : Int) == 123) = false := EQ1.out 123 (by omega)
      have e124 : ((S[st.at_].toNat : Int) == 124) = false := EQ1.out 124 (by omega)
      have e41 : ((S[st.at_].toNat : Int) == 41) = false := EQ1.out 41 (by omega)
      have HRQ : Hid (R = (pcLeaf 1 (w4 (mOf [x])), stAt st (st.at_ + 1))) := by show _ = _; rw [HR2.out, if_neg hc1, if_neg hc2, if_neg hc3, if_neg hc4, if_neg hc5, if_neg hc6, if_neg hc7]
      clear hc1 hc2 hc3 hc4 hc5 hc6 hc7
      go_wp2_with fail
      refine (of_c _ x _ (by rw [HE.out]) _).mono ?_
      rintro e w6 ⟨rfl, hl6⟩
      go_wp2_with fail
      refine (leaf_m lo (mOf [x]) _).mono ?_
      rintro e w7 ⟨k1, a1, b1, c1, d1, A1, n1, cp1, rfl, hr7, hl7⟩
      have hl7 := hl6.trans hl7
      have G4 := blkL hl7 D4
      obtain ⟨z0, z1, z2, z3, z4, z5, z6, z7, z8, y0, y1, y2, y3, y4, y5, y6, y7, y8⟩ := cells9 G4
      go_wp2_with fail
      refine bodyPost_ret (v := .agg #[.int .i64 k1, .int .u64 a1, .int .u64 b1, .int .u64 c1, .int .u64 d1, .slice A1 n1 cp1, .int .i64 ((pcLeaf 1 (w4 (mOf [x]))).deep : Int), .int .i64 ((pcLeaf 1 (w4 (mOf [x]))).leaves : Int), .bool (pcLeaf 1 (w4 (mOf [x]))).big]) (by simp [results, Tryz.results114, go_sem, z0, z1, z2, z3, z4, z5, z6, z7, z8]) rfl ?_
      exact RetPcS.store9 HRQ.out G4 hr7 (h2.later hl7) (frL hF2 hl7) (Nat.le_refl _)
end Go.Proofs.YtmkddhkpeiajhaaGreatDoor
