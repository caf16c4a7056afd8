import Derived.Test.YtmkddhkpeiajhaaGreatDoorStepLaw
import Derived.Test.YtmkddhkpeiajhaaGreatDoorRrd6
import Derived.LoopTactic
import Derived.Deep.CutBlock
import Derived.Deep.DeepCutAuto
namespace Go.Proofs.YtmkddhkpeiajhaaGreatDoor
open Go.RowKit
theorem boolC_set (p q : Mem) (k : Nat) (hk : k < 256) (h : ∀ b, b ≠ k → p b = q b) : (boolC p).setIfInBounds k (.bool (q k)) = boolC q := by
  apply Array.ext_getElem?
  intro i
  rw [Array.getElem?_setIfInBounds]
  by_cases hi : i < 256
  · by_cases e : k = i
    · subst e
      rw [if_pos rfl, if_pos (by rw [boolC_size]; exact hk), boolC_get _ hk]
    · rw [if_neg e, boolC_get _ hi, boolC_get _ hi, h i (Ne.symm e)]
  · rw [Array.getElem?_eq_none (xs := boolC q) (by rw [boolC_size]; omega), if_neg (by omega), Array.getElem?_eq_none (by rw [boolC_size]; omega)]
def rUpto (m : Mem) (a k : Nat) : Mem := fun b => m b || (decide (a ≤ b) && decide (b < k))
theorem rUpto_zero (m : Mem) (a b : Nat) : rUpto m a a b = m b := by
  unfold rUpto
  by_cases h : a ≤ b
  · have : decide (b < a) = false := by simp; omega
    rw [this, Bool.and_false, Bool.or_false]
  · have : decide (a ≤ b) = false := by simp; omega
    rw [this, Bool.false_and, Bool.or_false]
theorem rUpto_step (m : Mem) (a k : Nat) (h : a ≤ k) (hk : k < 256) : (boolC (rUpto m a k)).setIfInBounds k (.bool true) = boolC (rUpto m a (k + 1)) := by
  have := boolC_set (rUpto m a k) (rUpto m a (k + 1)) k hk (fun b hb => by
    unfold rUpto
    have : decide (b < k) = decide (b < k + 1) := by rw [decide_eq_decide]; omega
    rw [this])
  have e : rUpto m a (k + 1) k = true := by
    unfold rUpto
    rw [decide_eq_true h, decide_eq_true (Nat.lt_succ_self k)]
    simp
  rwa [e] at this
theorem rUpto_one (m : Mem) (a b : Nat) (ha : a < 256) : rUpto m a (a + 1) b = mOr m (mOf [UInt8.ofNat a]) b := by
  unfold rUpto mOr mOf
  have h1 : (UInt8.ofNat a).toNat = a := by rw [UInt8.toNat_ofNat']; omega
  show _ = (m b || ([UInt8.ofNat a].any fun x => b == x.toNat))
  simp only [List.any_cons, List.any_nil, Bool.or_false, h1]
  congr 1
  rw [Bool.eq_iff_iff, Bool.and_eq_true, decide_eq_true_eq, decide_eq_true_eq, beq_iff_eq]
  omega
def mTurned (m : Mem) (t : Bool) (k : Nat) : Mem := fun b => if b < k then m b != t else m b
theorem mTurned_zero (m : Mem) (t : Bool) (b : Nat) : mTurned m t 0 b = m b := by unfold mTurned; rw [if_neg (Nat.not_lt_zero _)]
theorem mTurned_at (m : Mem) (t : Bool) (k : Nat) : mTurned m t k k = m k := by unfold mTurned; rw [if_neg (Nat.lt_irrefl _)]
theorem mTurned_all (m : Mem) (t : Bool) (b : Nat) (hb : b < 256) : mTurned m t 256 b = (if t then mNot m else m) b := by
  unfold mTurned
  rw [if_pos hb]
  cases t
  · simp
  · show (m b != true) = mNot m b
    unfold mNot
    cases m b <;> rfl
theorem mTurned_step (m : Mem) (t : Bool) (k : Nat) (hk : k < 256) : (boolC (mTurned m t k)).setIfInBounds k (.bool (m k != t)) = boolC (mTurned m t (k + 1)) := by
  have := boolC_set (mTurned m t k) (mTurned m t (k + 1)) k hk (fun b hb => by
    unfold mTurned
    by_cases h : b < k
    · rw [if_pos h, if_pos (by omega)]
    · rw [if_neg h, if_neg (by omega)])
  have e : mTurned m t (k + 1) k = (m k != t) := by unfold mTurned; rw [if_pos (Nat.lt_succ_self k)]
  rwa [e] at this
def AtomR (W : World) (z : Mem) (n : Nat) (ok : Bool) (s6 s7 s8 : Value) (wx : World) : Prop :=
  ∃ g6 : Nat, s6 = .pointer (some ⟨g6, 0, none⟩) ∧ W.heap.size ≤ g6 ∧ Later W wx ∧ s7 = .int .i64 (n : Int) ∧ s8 = .bool ok ∧ Blk wx g6 181 (boolC z)
theorem cells2f {w : World} {b : Nat} {t : TypeId} {x0 x1 x2 x3 x4 x5 : Value} (h : Blk w b t #[x0, x1, x2, x3, x4, x5]) : w.cell? ⟨b, 0, none⟩ = some x0 ∧ w.cell? ⟨b, 1, none⟩ = some x1 := ⟨h.cell 0, h.cell 1⟩
def BrCon (S : ByteArray) : Prop := ∀ p : Nat, S.data.toList[p]? = some 91 → ∃ z n ok, (∀ wx, Calls Tryz.prog 134 #[.string S, .int .i64 ((p + 1 : Nat) : Int)] wx fun e w' => e = .returned (.tuple #[.agg (boolC z), .int .i64 ((n : Nat) : Int), .bool ok]) ∧ Later wx w') ∧ ((ok = true ∧ bracketF S.data.toList ((p + 1 : Nat) : Int) = some (z, n)) ∨ (ok = false ∧ bracketF S.data.toList ((p + 1 : Nat) : Int) = none))
theorem thereC {w : World} {g : Nat} {t : TypeId} {p z : Mem} {C : Array Value} (h : Blk w g t (boolC p)) (hC : Hid (C = boolC z)) : w.there g 0 C.toList.length := by
  have := (thereB (m := z) h).out
  rw [hC.out, Array.length_toList]
  exact this
theorem packed_t (m : Mem) (w : World) :
    Calls Tryz.prog 133 #[.agg (boolC m).toList.toArray] w fun e w' => e = .returned (.agg #[.int .u64 (word (m) 0 : Nat), .int .u64 (word (m) 1 : Nat), .int .u64 (word (m) 2 : Nat), .int .u64 (word (m) 3 : Nat)]) ∧ Later w w' := by
  rw [Array.toArray_toList]
  exact packed_any m w
set_option maxRecDepth 4000 in
set_option maxHeartbeats 8000000 in
theorem atom91_of (S : ByteArray) (d : Nat) (hs1 : S.size ≤ 20000) (hbc : BrCon S) : Atom91 S d := by
  intro lo g st w h hD hlo hbr
  obtain ⟨R, hR⟩ : ∃ R, R = rAtom S.data.toList (rAlt S.data.toList d) st := ⟨_, rfl⟩
  rw [← hR]
  have hat := hD.at_
  rw [len_eq] at hat
  have hati : (st.at_ : Int) ≤ 100000 := by omega
  clear hlo hD
  cases hx : S.data.toList[st.at_]? with
  | none => unfold isAt at hbr; rw [hx] at hbr; cases hbr
  | some x =>
    obtain ⟨hi, he⟩ := str_get S _ x hx
    have hltd : decide (S.size ≤ st.at_) = false := by simp; omega
    have hx1 := x.toNat_lt
    obtain ⟨xn, hxn⟩ : ∃ xn, xn = x.toNat := ⟨_, rfl⟩
    have hei : (S[st.at_].toNat : Int) = (xn : Int) := by rw [he, hxn]
    rw [← hxn] at hx1
    have h91 : xn = 91 := by
      unfold isAt at hbr
      rw [hx] at hbr
      simp at hbr
      omega
    obtain ⟨z, n, ok, hcon, hbk⟩ := hbc st.at_ (by rw [hx]; exact congrArg some (UInt8.toNat_inj.1 (by rw [← hxn, h91]; rfl)))
    have hRR : R = if ok then (.node 1 (w4 z) [], stAt st n) else (tEmpty, stFault 24 st.at_ (stAt st (st.at_ + 1))) := by
      rw [hR]; unfold rAtom; rw [hx]; simp only; rw [← hxn, h91, if_neg (by omega), if_neg (by omega), if_pos rfl]
      rcases hbk with ⟨rfl, hb⟩ | ⟨rfl, hb⟩
      · rw [hb]; rfl
      · rw [hb]; rfl
    have HRR := Lib.hid hRR
    have hcon2 : ∀ wx, Calls Tryz.prog 134 #[.string S, .int .i64 ((st.at_ : Int) + 1)] wx fun e w' => e = .returned (.tuple #[.agg (boolC z), .int .i64 ((n : Nat) : Int), .bool ok]) ∧ Later wx w' := fun wx => by
      have := hcon wx
      rwa [show ((st.at_ + 1 : Nat) : Int) = (st.at_ : Int) + 1 by omega] at this
    obtain ⟨C, hC⟩ : ∃ C, C = boolC z := ⟨_, rfl⟩
    have hone : ∀ v, v ∈ C.toList → v.oneCell' = true := by
      rw [hC]
      have := oneB z
      rw [Array.all_eq_true_iff_forall_mem] at this
      exact fun v hv => this v (Array.mem_toList_iff.1 hv)
    have hsomeC : some 256 = some C.toList.length := by rw [hC, Array.length_toList, boolC_size]
    rw [← hC] at hcon2
    have HC := Lib.hid hC
    clear hC
    have HCON := Lib.hid hcon2
    have hxi : (xn : Int) = 91 := by omega
    obtain ⟨hz, hsz⟩ := zero_set
    clear hR hx hbr he hxn hRR hcon hcon2 hbk h91 hbc
    go_enter Tryz.func118, Tryz.ntmps118
    go_upto_region 1 with fail
    obtain ⟨W0, hW0⟩ : ∃ W0, W0 = w.alloc (.cells #[.int .i64 0, .int .u64 0, .int .u64 0, .int .u64 0, .int .u64 0, .slice none 0 0] 98) := ⟨_, rfl⟩
    have B4 : Blk W0 w.heap.size 98 #[.int .i64 0, .int .u64 0, .int .u64 0, .int .u64 0, .int .u64 0, .slice none 0 0] := by rw [hW0]; exact Blk.new w _ _
    have hl0 : Later w W0 := by rw [hW0]; exact (Later.refl w).alloc _
    have h0 := h.later hl0
    have hF0 : Fr w W0 (fun k => k = g) := Fr.later hl0
    have ne4 : w.heap.size ≠ g := by have := h.lt; omega
    rw [← hW0]
    clear hW0 hl0 h
    have k0 : ∀ x : LW W0, x.val.cell? ⟨g, 0, none⟩ = some (.string S) := LW.cell_ h0.c0
    have k1 : ∀ x : LW W0, x.val.cell? ⟨g, 1, none⟩ = some (.int .i64 (st.at_ : Int)) := LW.cell_ h0.c1
    go_wp2_with fail
    refine wp_region_laterq (by kernel_rfl) (by kernel_rfl) ?_
    repeat (go_big_quiet_step (fail))
    refine wpQuiet_nil ?_
    intro _ hwq
    obtain ⟨xz, rfl⟩ := hwq
    have h1 := h0.later xz.later
    have B4 := blkL xz.later B4
    have hF1 := frL hF0 xz.later
    clear k0 k1
    obtain ⟨W1, hW1⟩ : ∃ W1, W1 = xz.val := ⟨_, rfl⟩
    rw [← hW1] at h1 B4 hF1 ⊢
    clear hW1 h0 hF0 xz
    have c0 := h1.c0
    have c1 := h1.c1
    have f1 := h1.f 1
    go_upto_region 6 with fail
    obtain ⟨W2, hW2⟩ : ∃ W2, W2 = W1.setCell ⟨g, 1, none⟩ (.int .i64 ((st.at_ : Int) + 1)) := ⟨_, rfl⟩
    have h2 : RfC W2 g S (stAt st (st.at_ + 1)) := by rw [hW2]; exact h1.setAt (st.at_ + 1) ((st.at_ : Int) + 1) (by omega)
    have hF2 : Fr w W2 (fun k => k = g) := by rw [hW2]; exact frG (i := 1) hF1 _
    have B5 : Blk W2 w.heap.size 98 #[.int .i64 0, .int .u64 0, .int .u64 0, .int .u64 0, .int .u64 0, .slice none 0 0] := by rw [hW2]; exact B4.far (p := ⟨g, 1, none⟩) ne4 _
    rw [← hW2]
    clear hW2 c0 c1 f1 h1 hF1 B4
    have h1 := h2
    have hF1 := hF2
    have B4 := B5
    clear h2 hF2 B5
    have B2 : Blk W2 g 132 #[.string S, .int .i64 ((st.at_ : Int) + 1), .int .i64 (st.op : Int), .int .i64 (st.bad : Int), .int .i64 (st.fr : Int), .int .i64 0] := by
      have := h1
      unfold RfC at this
      rwa [show (((stAt st (st.at_ + 1)).at_ : Nat) : Int) = (st.at_ : Int) + 1 by show ((st.at_ + 1 : Nat) : Int) = _; omega] at this
    have HB2 := B2
    have lt0 : Later W2 W2 := Later.refl _
    go_upto_region 20 with fail
    go_cut [6, 7, 8] (fun s6 s7 s8 wx => AtomR W2 z n ok s6 s7 s8 wx)
    case first =>
      clear HRR h1 hF1 B4
      go_wp2_with fail
      have hneA : g ≠ W2.heap.size := by have := HB2.lt; omega
      have hneB := hneA
      go_region_held_law (fun w' => w'.cell? ⟨g, 0, none⟩ = some (.string S) ∧ w'.cell? ⟨g, 1, none⟩ = some (.int .i64 ((st.at_ : Int) + 1))) (exact cells2f (t := 132) (by repeat (first | (with_reducible exact HB2) | (with_reducible apply Blk.drew) | (with_reducible apply Blk.alloc) | (with_reducible refine Blk.farCells _ ?_ hneA 0) | (with_reducible refine Blk.farCells _ ?_ hneB 0))))
        ((((go_at_call 134; (with_reducible refine (HCON.out _).mono ?_)); rintro e w3 ⟨rfl, hl3⟩);
              (first
                | (with_reducible have A13 : Blk w3 _ 181 (boolC mNone) := blkNwD hl3; have R6 : w3.there _ 0 C.toList.length := thereC A13 HC)
                | (with_reducible have A13 : Blk w3 _ 181 (boolC mNone) := blkNw hl3; have R6 : w3.there _ 0 C.toList.length := thereC A13 HC)
                | (have R6 : (w3.alloc (.cells (boolC mNone) 181)).there w3.heap.size 0 C.toList.length := thereC (Blk.new w3 _ _) HC));
              have HB2 := blkL hl3 (by repeat (first | (with_reducible exact HB2) | (with_reducible apply Blk.drew) | (with_reducible apply Blk.alloc) | (with_reducible refine Blk.farCells _ ?_ hneA 0) | (with_reducible refine Blk.farCells _ ?_ hneB 0)));
              have hneB : g ≠ w3.heap.size := (by have := HB2.lt; omega);
              have lt0 : Later W2 w3 := Later.trans (by repeat (first | (with_reducible exact lt0) | (with_reducible apply Later.drew) | (with_reducible apply Later.alloc))) hl3))
      all_goals
        have hsz3 := lt0.size
        go_wp2_with fail
        go_meet
        rw [HC.out]
        first
          | (have hA13 := A13
             exact ⟨_, rfl, Nat.le_refl _, laterCellsG lt0 (Nat.le_refl _) _ _, rfl, rfl, Blk.setBools A13⟩)
          | exact ⟨_, rfl, hsz3, laterCellsG (lt0.alloc _) hsz3 _ _, rfl, rfl, Blk.setBools (Blk.new w3 _ _)⟩
    case rest =>
      obtain ⟨g6, rfl, hg6, hlc, rfl, rfl, B6⟩ := hcut
      have h3 := h1.later hlc
      have D4 := blkL hlc B4
      have hF3 := frL hF1 hlc
      have ne6 : g6 ≠ g := by have := HB2.lt; omega
      clear h1 hF1 B4 HB2 lt0 B2 HCON hone HC hsomeC
      cases ok with
      | false =>
        have HR : Hid (R = (tEmpty, stFault 24 st.at_ (stAt st (st.at_ + 1)))) := HRR.out
        clear HRR
        go_wp2_with fail
        refine (fails_any g S _ _ _ st.at_ 24 _ h3 rfl rfl).mono ?_
        rintro e w3 ⟨rfl, h5, hF5⟩
        have hF4 := frF hF3 hF5
        have E4 := blkF hF5 ne4 D4
        clear h3 hF3 D4 hF5
        obtain ⟨z0, z1, z2, z3, z4, z5, y0, y1, y2, y3, y4, y5⟩ := cells6 E4
        go_wp2_with fail
        refine bodyPost_ret (v := .agg #[.int .i64 0, .int .u64 0, .int .u64 0, .int .u64 0, .int .u64 0, .slice none 0 0]) (by simp [results, Tryz.results118, go_sem, z0, z1, z2, z3, z4, z5]) rfl ?_
        exact RetTS.store6 HR.out (ReC.leaf _ (fun k => lo k ∧ k ≠ w.heap.size) 0 Proofs.YtmkddhkpeiajhaaGreatDoor.z4 none 0) h5 hF4 rfl E4 (fun h => h.2 rfl) (Nat.le_refl _) (fun k h => h.1)
      | true =>
        have HR : Hid (R = (.node 1 (w4 z) [], stAt st n)) := HRR.out
        have c1 := h3.c1
        have f1 := h3.f 1
        clear HRR
        go_upto_region 24 with fail
        obtain ⟨W5, hW5⟩ : ∃ W5, W5 = wc.setCell ⟨g, 1, none⟩ (.int .i64 (n : Int)) := ⟨_, rfl⟩
        have h5 : RfC W5 g S (stAt st n) := by rw [hW5]; exact h3.setAt n _ rfl
        have hF5 : Fr w W5 (fun k => k = g) := by rw [hW5]; exact frG (i := 1) hF3 _
        have E4 : Blk W5 w.heap.size 98 #[.int .i64 0, .int .u64 0, .int .u64 0, .int .u64 0, .int .u64 0, .slice none 0 0] := by rw [hW5]; exact D4.far (p := ⟨g, 1, none⟩) ne4 _
        have B6 : Blk W5 g6 181 (boolC z) := by rw [hW5]; exact B6.far (p := ⟨g, 1, none⟩) ne6 _
        have R6 : Hid (W5.rangeAt g6 0 (boolC z).toList) := rangeB B6
        rw [← hW5]
        clear hW5 c1 f1 h3 hF3 D4
        go_wp2_with (refine wpList_load_mid (P := Tryz.prog) rfl 181 (.tmp 6) rfl g6 0 rfl (boolC z).toList _ (by with_reducible exact R6.out) Tryz.underlying181 rfl (sizeB z) ?_)
        refine (packed_t z _).mono ?_
        rintro e w7 ⟨rfl, hl7⟩
        have h7 := h5.later hl7
        have hF7 := frL hF5 hl7
        have G4 := blkL hl7 E4
        clear h5 hF5 E4 hl7 R6 B6
        obtain ⟨z0, z1, z2, z3, z4, z5, y0, y1, y2, y3, y4, y5⟩ := cells6 G4
        go_wp2_with fail
        refine bodyPost_ret (v := .agg #[.int .i64 1, .int .u64 (word z 0 : Nat), .int .u64 (word z 1 : Nat), .int .u64 (word z 2 : Nat), .int .u64 (word z 3 : Nat), .slice none 0 0]) (by simp [results, Tryz.results118, go_sem, z0, z1, z2, z3, z4, z5]) rfl ?_
        exact RetTS.store6 HR.out (ReC.leaf _ (fun k => lo k ∧ k ≠ w.heap.size) 1 (w4 z) none 0) h7 hF7 rfl G4 (fun h => h.2 rfl) (Nat.le_refl _) (fun k h => h.1)
structure Ab (S : ByteArray) : Prop where
  sz : S.size = 4
  h1 : 1 < S.size
  h2 : 2 < S.size
  h3 : 3 < S.size
  e1 : S[1] = 97
  e2 : S[2] = 98
  e3 : S[3] = 93
theorem ab_is : Ab (bstr [91, 97, 98, 93]) := ⟨rfl, by show 1 < 4; omega, by show 2 < 4; omega, by show 3 < 4; omega, rfl, rfl, rfl⟩
set_option maxRecDepth 100000 in
theorem opens_ab (S : ByteArray) (h : Ab S) (p : Int) (hp : p = 1 ∨ p = 2) (w : World) : Calls Tryz.prog 142 #[.string S, .int .i64 p] w fun e w' => e = .returned (.bool false) ∧ w' = w := by
  obtain ⟨sz, h1, h2, h3, e1, e2, e3⟩ := h
  rcases hp with rfl | rfl
  · go_enter Tryz.func142, Tryz.ntmps142
    go_wp2_with fail
    go_ret
    exact ⟨rfl, rfl⟩
  · go_enter Tryz.func142, Tryz.ntmps142
    go_wp2_with fail
    go_ret
    exact ⟨rfl, rfl⟩
set_option maxRecDepth 100000 in
theorem one_ab (S : ByteArray) (h : Ab S) (p : Int) (x : Int) (hp : p = 1 ∧ x = 97 ∨ p = 2 ∧ x = 98) (w : World) : Calls Tryz.prog 144 #[.string S, .int .i64 p] w fun e w' => e = .returned (.tuple #[.int .u8 x, .int .i64 (p + 1), .bool true]) ∧ w' = w := by
  obtain ⟨sz, h1, h2, h3, e1, e2, e3⟩ := h
  rcases hp with ⟨rfl, rfl⟩ | ⟨rfl, rfl⟩
  · go_enter Tryz.func144, Tryz.ntmps144
    go_wp2_with fail
    go_ret3
    exact ⟨rfl, rfl⟩
  · go_enter Tryz.func144, Tryz.ntmps144
    go_wp2_with fail
    go_ret3
    exact ⟨rfl, rfl⟩
def abM : Nat → Mem
  | 0 => mNone
  | 1 => mOr mNone (mOf [UInt8.ofNat 97])
  | _ => mOr (mOr mNone (mOf [UInt8.ofNat 97])) (mOf [UInt8.ofNat 98])
theorem abM_step (j : Nat) (hj : j < 2) : abM (j + 1) = mOr (abM j) (mOf [UInt8.ofNat (97 + j)]) := by
  match j, hj with
  | 0, _ => rfl
  | 1, _ => rfl
set_option maxRecDepth 4000 in
set_option maxHeartbeats 16000000 in
theorem bracket_ab (S : ByteArray) (hAb : Ab S) (w : World) :
    Calls Tryz.prog 134 #[.string S, .int .i64 1] w fun e w' => e = .returned (.tuple #[.agg (boolC (abM 2)), .int .i64 4, .bool true]) ∧ Later w w' := by
  obtain ⟨hz, hsz⟩ := zero_set
  have HAB := Lib.hid hAb
  obtain ⟨sz, h1, h2, h3, e1, e2, e3⟩ := hAb
  obtain ⟨nt, hnt⟩ : ∃ nt : Bool, nt = false := ⟨_, rfl⟩
  have HNT := Lib.hid hnt
  clear hnt
  go_enter Tryz.func134, Tryz.ntmps134
  go_upto_region 4 with fail
  obtain ⟨W0, hW0⟩ : ∃ W0, W0 = (w.alloc (.cells (boolC mNone) 181)).alloc (.cells (boolC mNone) 181) := ⟨_, rfl⟩
  have B4 : Blk W0 w.heap.size 181 (boolC mNone) := by rw [hW0]; exact (Blk.new w _ _).alloc _
  have B7 : Blk W0 (w.heap.size + 1) 181 (boolC mNone) := by rw [hW0]; exact blk_at (by simp)
  have hl : Later w W0 := by rw [hW0]; exact ((Later.refl w).alloc _).alloc _
  rw [← hW0]
  clear hW0
  go_cut [8] (fun s8 wx => s8 = .bool nt ∧ wx = W0)
  case first =>
    go_wp2_with fail
    go_meet
    exact ⟨by rw [HNT.out], rfl⟩
  case rest =>
  obtain ⟨rfl, hwc⟩ := hcut
  subst hwc
  go_upto_if 38 with (fail)
  go_cut [1] (fun s1 wx => s1 = .int .i64 1 ∧ wx = wc)
  case first =>
    have hq1 := HNT.out
    subst hq1
    go_wp2_with fail
    go_meet
    exact ⟨rfl, rfl⟩
  case rest =>
  obtain ⟨rfl, hwd⟩ := hcut
  subst hwd
  go_wp2_with fail
  go_loopw [1, 9] (fun s1 s9 wr => ∃ j : Nat, j ≤ 2 ∧ s1 = .int .i64 ((j : Int) + 1) ∧ s9 = .bool (j == 0) ∧ Blk wr (w.heap.size + 1) 181 (boolC (abM j)) ∧ Blk wr w.heap.size 181 (boolC mNone) ∧ Later w wr) (fun s1 _ _ => 4 - (intOf s1).toNat)
  case atStart => exact ⟨0, by omega, rfl, rfl, B7, B4, hl⟩
  case round =>
    clear B7 B4 hl
    obtain ⟨j, hj, rfl, rfl, B7, B4, hl⟩ := hrel
    by_cases hj2 : j = 2
    · subst hj2
      go_wp2_with fail
      go_loopw [18] (fun s18 wr => ∃ k : Nat, k ≤ 256 ∧ s18 = .int .i64 (k : Int) ∧ Blk wr (w.heap.size + 1) 181 (boolC (mTurned (abM 2) nt k)) ∧ Blk wr w.heap.size 181 (boolC mNone) ∧ Later w wr) (fun s18 _ => 256 - (intOf s18).toNat)
      case atStart => exact ⟨0, Nat.zero_le _, rfl, by rw [boolC_ext (mTurned (abM 2) nt 0) (abM 2) (fun b _ => mTurned_zero (abM 2) nt b)]; exact B7, B4, hl⟩
      case round =>
        clear B7 B4 hl
        obtain ⟨k, hk, rfl, B7, B4, hl⟩ := hrel
        by_cases hlt : k < 256
        · have hlti : (k : Int) < 256 := by omega
          have hst := Lib.hid (mTurned_step (abM 2) nt k hlt)
          have f1 := B7.frozen k
          have c1 : wr.cell? ⟨w.heap.size + 1, k, none⟩ = some (.bool (abM 2 k)) := by rw [B7.cell, boolC_get _ hlt, mTurned_at]
          go_wp2_with fail
          go_roundw
          case rel => exact ⟨k + 1, by omega, by go_num, by rw [← hst.out]; exact B7.set_ k _, B4.far (by show w.heap.size ≠ w.heap.size + 1; omega) _, Later.setCell hl (Nat.le_succ _) _⟩
          case measure => simp [intOf]; omega
        · obtain rfl : k = 256 := by omega
          obtain ⟨z, hz9⟩ : ∃ z, Hid (z = abM 2) := ⟨_, rfl⟩
          rw [boolC_ext (mTurned (abM 2) nt 256) z (fun b hb => by rw [hz9.out, mTurned_all (abM 2) nt b hb, HNT.out]; rfl)] at B7
          have R7 : Hid (wr.rangeAt (w.heap.size + 1) 0 (boolC z).toList) := rangeB B7
          have R4 : Hid (wr.there w.heap.size 0 (boolC z).size) := thereB B4
          go_wp2_with (first
            | (refine wpList_load_mid (P := Tryz.prog) rfl 181 (.tmp 7) rfl (w.heap.size + 1) 0 rfl (boolC z).toList _ (by with_reducible exact R7.out) Tryz.underlying181 rfl (sizeB z) ?_)
            | (refine wpList_store_mid (P := Tryz.prog) rfl 181 (.tmp 4) (.tmp 158) rfl w.heap.size 0 (boolC z) rfl rfl (by with_reducible exact R4.out) (sizeB' z) (oneB z) ?_))
          have hld := run_loadVar_mid (P := Tryz.prog) _ w.heap.size 0 181 (boolC z).toList _ (World.rangeAt_setCells_same wr w.heap.size 0 (boolC z).toList (by rw [Array.length_toList]; exact R4.out)) Tryz.underlying181 rfl (sizeB z)
          rw [Array.toArray_toList] at hld
          refine bodyPost_ret (v := .tuple #[.agg (boolC z), .int .i64 4, .bool true]) ?_ rfl ⟨by rw [hz9.out], laterCells hl _ _⟩
          simp [results, Tryz.results134, asAddr, hld]
    · have hj1 : j < 2 := by omega
      have HST := Lib.hid (abM_step j hj1)
      obtain ⟨m, hm⟩ : ∃ m, Hid (m = abM j) := ⟨_, rfl⟩
      rw [← hm.out] at B7 HST
      obtain ⟨b0, hb0⟩ : ∃ b0, b0 = 97 + j := ⟨_, rfl⟩
      have u1 : b0 < 256 := by omega
      have hp : ((j : Int) + 1 = 1 ∧ (b0 : Int) = 97 ∨ (j : Int) + 1 = 2 ∧ (b0 : Int) = 98) := by omega
      have HOP := Lib.hid (fun wx => opens_ab S HAB.out ((j : Int) + 1) (by omega) wx)
      have HON := Lib.hid (fun wx => one_ab S HAB.out ((j : Int) + 1) (b0 : Int) hp wx)
      have HB0 := Lib.hid hb0
      clear hp hb0
      have hjj : j = 0 ∨ j = 1 := by omega
      rcases hjj with rfl | rfl
      all_goals
        go_wp2_with fail
        refine (HOP.out _).mono ?_
        rintro e w1 ⟨rfl, rfl⟩
        go_wp2_with fail
        refine (HON.out _).mono ?_
        rintro e w2 ⟨rfl, rfl⟩
        go_wp2_with fail
        go_loopw [17] (fun s17 wr => ∃ k : Nat, b0 ≤ k ∧ k ≤ b0 + 1 ∧ s17 = .int .i64 (k : Int) ∧ Blk wr (w.heap.size + 1) 181 (boolC (rUpto m b0 k)) ∧ Blk wr w.heap.size 181 (boolC mNone) ∧ Later w wr) (fun s17 _ => 300 - (intOf s17).toNat)
        case atStart => exact ⟨b0, Nat.le_refl _, by omega, by go_num, by rw [boolC_ext (rUpto m b0 b0) m (fun b _ => rUpto_zero m b0 b)]; exact B7, B4, hl⟩
        case round =>
          clear B7 B4 hl
          obtain ⟨k, hk1, hk2, rfl, B7, B4, hl⟩ := hrel
          by_cases hlt : k ≤ b0
          · have hki : (k : Int) ≤ (b0 : Int) := by omega
            have hk256 : k < 256 := by omega
            have hst := Lib.hid (rUpto_step m b0 k hk1 hk256)
            have f1 := B7.frozen k
            have c1 : wr.cell? ⟨w.heap.size + 1, k, none⟩ = some (.bool (rUpto m b0 k k)) := by rw [B7.cell, boolC_get _ hk256]
            go_wp2_with fail
            go_roundw
            case rel => exact ⟨k + 1, by omega, by omega, by go_num, by rw [← hst.out]; exact B7.set_ k _, B4.far (by show w.heap.size ≠ w.heap.size + 1; omega) _, Later.setCell hl (Nat.le_succ _) _⟩
            case measure => simp [intOf]; omega
          · have hkz : k = b0 + 1 := by omega
            have hki : ¬ (k : Int) ≤ (b0 : Int) := by omega
            rw [hkz, boolC_ext (rUpto m b0 (b0 + 1)) (mOr m (mOf [UInt8.ofNat b0])) (fun b hb => rUpto_one m b0 b u1), HB0.out, ← HST.out] at B7
            clear hkz hk1 hk2 hlt
            go_wp2_with fail
            go_roundw
            case rel => first | exact ⟨1, by omega, rfl, rfl, B7, B4, hl⟩ | exact ⟨2, by omega, rfl, rfl, B7, B4, hl⟩
            case measure => simp [intOf]
theorem brcon_ab : BrCon (bstr [91, 97, 98, 93]) := by
  intro p hp
  have hp : ([91, 97, 98, 93] : List UInt8)[p]? = some 91 := hp
  obtain rfl : p = 0 := by
    match p, hp with
    | 0, _ => rfl
    | 1, h => exact absurd h (by decide)
    | 2, h => exact absurd h (by decide)
    | 3, h => exact absurd h (by decide)
    | _ + 4, h => simp at h
  exact ⟨abM 2, 4, true, fun wx => bracket_ab _ ab_is wx, .inl ⟨rfl, rfl⟩⟩
end Go.Proofs.YtmkddhkpeiajhaaGreatDoor
