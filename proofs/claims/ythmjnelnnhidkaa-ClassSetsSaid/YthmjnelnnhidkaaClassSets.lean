/-
  The walk of ClassSets.
-/
import Derived.Test.YthmjnelnnhidkaaClsKnown
import Derived.Test.YthmjnelnnhidkaaLaterQ
import Derived.Test.YthmjnelnnhidkaaBoolRow2
import Derived.Test.YthmjnelnnhidkaaPlain
namespace Go.Proofs.Ythmjnelnnhidkaa
open Go.RowKit

theorem cntN_step (p : Mem) (k : Nat) : cntN p (k + 1) = cntN p k + (p k).toNat := rfl
theorem cntN_le (p : Mem) : ∀ k, cntN p k ≤ k
  | 0 => Nat.le_refl _
  | k + 1 => by rw [cntN_step]; have := cntN_le p k; cases p k <;> simp <;> omega
theorem packed_at (m : Mem) (w : World) :
    Calls Try.prog 22 #[.agg (boolC m).toList.toArray] w fun e w' => e = .returned (.agg #[.int .u64 (word (m) 0 : Nat), .int .u64 (word (m) 1 : Nat), .int .u64 (word (m) 2 : Nat), .int .u64 (word (m) 3 : Nat)]) ∧ Later w w' := by
  rw [Array.toArray_toList]
  exact packed_any m w
theorem plain_at (p : Mem) (w : World) :
    Calls Try.prog 21 #[.agg #[.int .u64 (word (p) 0 : Nat), .int .u64 (word (p) 1 : Nat), .int .u64 (word (p) 2 : Nat), .int .u64 (word (p) 3 : Nat)]] w fun e w' => e = .returned (.agg (boolC p)) ∧ Later w w' := plain_any p w
theorem seteq (p : Mem) (w : World) : (Op.equalIn 10000 24 (.agg #[.int .u64 (word (p) 0 : Nat), .int .u64 (word (p) 1 : Nat), .int .u64 (word (p) 2 : Nat), .int .u64 (word (p) 3 : Nat)]) (.agg #[.int .u64 (word (p) 0 : Nat), .int .u64 (word (p) 1 : Nat), .int .u64 (word (p) 2 : Nat), .int .u64 (word (p) 3 : Nat)])).run Try.prog w = .ok true w := by
  have h := run_eq_set (word p 0 : Nat) (word p 1 : Nat) (word p 2 : Nat) (word p 3 : Nat) (word p 0 : Nat) (word p 1 : Nat) (word p 2 : Nat) (word p 3 : Nat) w
  simpa using h
theorem has_u (p : Mem) (b : Nat) (hb : b < 256) (v : Bool) (h : p b = v) (w : World) :
    Calls Try.prog 20 #[.agg #[.int .u64 (word (p) 0 : Nat), .int .u64 (word (p) 1 : Nat), .int .u64 (word (p) 2 : Nat), .int .u64 (word (p) 3 : Nat)], .int .u8 (b : Int)] w fun e w' => e = .returned (.bool v) ∧ Later w w' := by
  subst h
  exact has_any p b hb w
theorem word_eqs {p q : Mem} (h : ∀ b, b < 256 → p b = q b) : setV p = setV q := by
  unfold setV setC
  rw [word_congr h (i := 0) (by omega), word_congr h (i := 1) (by omega), word_congr h (i := 2) (by omega), word_congr h (i := 3) (by omega)]

set_option maxRecDepth 100000 in
set_option maxHeartbeats 16000000 in
theorem sets_any (A : Option Addr) (n c : Nat) (l : List UInt8) (x y : Nat) (p q : Mem) (w : World) (hr : RdB w w.heap.size A n l) (hn : n ≤ 9223372036854775807) (hx : x < 256) (hy : y < 256) :
    Calls Try.prog 4 #[.slice A n c, .int .u8 (x : Int), .int .u8 (y : Int), setV p, setV q] w fun e w' => e = .returned (.bool true) ∧ Later w w' := by
  have hlen := hr.len
  have hx0 : (0 : Int) ≤ (x : Int) := by omega
  have hx5 : (x : Int) ≤ 255 := by omega
  have hy0 : (0 : Int) ≤ (y : Int) := by omega
  have hy5 : (y : Int) ≤ 255 := by omega
  obtain ⟨hz, hsz⟩ := zero_set
  unfold setV
  go_enter Try.func4, Try.ntmps4
  unfold setC
  go_wp2_with fail
  obtain ⟨w1, hw1⟩ : ∃ w1, w1 = ((w.alloc (.cells #[.int .u64 (word (p) 0 : Nat), .int .u64 (word (p) 1 : Nat), .int .u64 (word (p) 2 : Nat), .int .u64 (word (p) 3 : Nat)] 24)).alloc (.cells #[.int .u64 (word (q) 0 : Nat), .int .u64 (word (q) 1 : Nat), .int .u64 (word (q) 2 : Nat), .int .u64 (word (q) 3 : Nat)] 24)).alloc (.cells (boolC mNone) 36) := ⟨_, rfl⟩
  obtain ⟨g8, hg8⟩ : ∃ g, g = w.heap.size := ⟨_, rfl⟩
  obtain ⟨g9, hg9⟩ : ∃ g, g = w.heap.size + 1 := ⟨_, rfl⟩
  obtain ⟨g11, hg11⟩ : ∃ g, g = w.heap.size + 1 + 1 := ⟨_, rfl⟩
  have B8 : Blk w1 g8 24 #[.int .u64 (word (p) 0 : Nat), .int .u64 (word (p) 1 : Nat), .int .u64 (word (p) 2 : Nat), .int .u64 (word (p) 3 : Nat)] := by rw [hw1, hg8]; exact ((Blk.new w _ _).alloc _).alloc _
  have B9 : Blk w1 g9 24 #[.int .u64 (word (q) 0 : Nat), .int .u64 (word (q) 1 : Nat), .int .u64 (word (q) 2 : Nat), .int .u64 (word (q) 3 : Nat)] := by rw [hw1, hg9]; exact (blk_at (by simp)).alloc _
  have B11 : Blk w1 g11 36 (boolC mNone) := by rw [hw1, hg11]; exact blk_at (by simp)
  have L1 : Later w w1 := by rw [hw1]; exact (((Later.refl w).alloc _).alloc _).alloc _
  have n1 : g8 ≠ g11 := by omega
  have n2 : g9 ≠ g11 := by omega
  have n3 : w.heap.size ≤ g11 := by omega
  rw [← hw1, ← hg11, ← hg9, ← hg8]
  clear hw1 hg8 hg9 hg11
  go_loopw [12] (fun i wr => ∃ k : Nat, k ≤ n ∧ i = .int .i64 (k : Int) ∧ Blk wr g11 36 (boolC (mOf (l.take k))) ∧ Blk wr g8 24 #[.int .u64 (word (p) 0 : Nat), .int .u64 (word (p) 1 : Nat), .int .u64 (word (p) 2 : Nat), .int .u64 (word (p) 3 : Nat)] ∧ Blk wr g9 24 #[.int .u64 (word (q) 0 : Nat), .int .u64 (word (q) 1 : Nat), .int .u64 (word (q) 2 : Nat), .int .u64 (word (q) 3 : Nat)] ∧ Later w wr) (fun i _ => n - (intOf i).toNat)
  case atStart => exact ⟨0, by omega, rfl, by rw [List.take_zero, mOf_nil]; exact B11, B8, B9, L1⟩
  case round =>
    clear B8 B9 B11 L1
    obtain ⟨k, hk, rfl, B11, B8, B9, hl⟩ := hrel
    by_cases hlt : k < n
    · have hlti : (k : Int) < (n : Int) := by omega
      obtain ⟨b0, off, rfl, hb, hc1⟩ := (hr.below hl).at_ hlt
      obtain ⟨u, hu⟩ : ∃ u : UInt8, Hid (l[k]? = some u) := ⟨_, List.getElem?_eq_getElem (by rw [hlen]; exact hlt)⟩
      have hue : l[k]?.getD 0 = u := by rw [hu.out]; rfl
      rw [hue] at hc1
      have hu8 := u.toNat_lt
      have htk : boolC (mOf (l.take (k + 1))) = (boolC (mOf (l.take k))).setIfInBounds u.toNat (.bool true) := by
        obtain ⟨hkl, e⟩ := List.getElem?_eq_some_iff.1 hu.out
        rw [boolC_with _ _ (by omega), List.take_succ_eq_append_getElem hkl, e, mOf_snoc]
      have HT := Lib.hid htk
      have HL := Lib.hid hlen
      have c1 : wr.cell? ⟨g11, u.toNat, none⟩ = some (.bool (mOf (l.take k) u.toNat)) := by rw [B11.cell, boolC_get _ (by omega)]
      have f1 := B11.frozen u.toNat
      have hui : (u.toNat : Int) < 256 := by omega
      clear hue htk hlen hz
      go_wp2_with fail
      go_roundw
      case rel => exact ⟨k + 1, by omega, by go_num, by rw [HT.out]; exact B11.set_ _ _, B8.far n1 _, B9.far n2 _, Later.setCell hl n3 _⟩
      case measure => simp [intOf]; omega
    · obtain rfl : n = k := by omega
      rw [List.take_of_length_le (by omega)] at B11
      have HR := Lib.hid hr
      have HL := Lib.hid hlen
      clear hk hlt hlen hr
      go_wp2_with fail
      obtain ⟨w2, hw2⟩ : ∃ w2, w2 = wr.alloc (.cells (boolC mNone) 36) := ⟨_, rfl⟩
      obtain ⟨g13, hg13⟩ : ∃ g, g = wr.heap.size := ⟨_, rfl⟩
      have C8 : Blk w2 g8 24 #[.int .u64 (word (p) 0 : Nat), .int .u64 (word (p) 1 : Nat), .int .u64 (word (p) 2 : Nat), .int .u64 (word (p) 3 : Nat)] := by rw [hw2]; exact B8.alloc _
      have C9 : Blk w2 g9 24 #[.int .u64 (word (q) 0 : Nat), .int .u64 (word (q) 1 : Nat), .int .u64 (word (q) 2 : Nat), .int .u64 (word (q) 3 : Nat)] := by rw [hw2]; exact B9.alloc _
      have C11 : Blk w2 g11 36 (boolC (mOf l)) := by rw [hw2]; exact B11.alloc _
      have C13 : Blk w2 g13 36 (boolC mNone) := by rw [hw2, hg13]; exact Blk.new wr _ _
      have L2 : Later w w2 := by rw [hw2]; exact hl.alloc _
      have m1 : g8 ≠ g13 := by have := B8.lt; omega
      have m2 : g9 ≠ g13 := by have := B9.lt; omega
      have m3 : g11 ≠ g13 := by have := B11.lt; omega
      have m4 : w.heap.size ≤ g13 := by have := hl.size; omega
      rw [← hw2, ← hg13]
      clear hw2 hg13 B8 B9 B11 hl
      go_loopw [14] (fun i wr => ∃ k : Nat, x ≤ k ∧ (k = x ∨ k ≤ y + 1) ∧ i = .int .i64 (k : Int) ∧ Blk wr g13 36 (boolC (fun b => decide (x ≤ b) && decide (b < k))) ∧ Blk wr g8 24 #[.int .u64 (word (p) 0 : Nat), .int .u64 (word (p) 1 : Nat), .int .u64 (word (p) 2 : Nat), .int .u64 (word (p) 3 : Nat)] ∧ Blk wr g9 24 #[.int .u64 (word (q) 0 : Nat), .int .u64 (word (q) 1 : Nat), .int .u64 (word (q) 2 : Nat), .int .u64 (word (q) 3 : Nat)] ∧ Blk wr g11 36 (boolC (mOf l)) ∧ Later w wr) (fun i _ => y + 1 - (intOf i).toNat)
      case atStart => exact ⟨x, by omega, .inl rfl, rfl, by rw [boolC_ext _ mNone (fun b _ => by show (_ && _) = false; rw [Bool.and_eq_false_iff]; simp only [decide_eq_false_iff_not]; omega)]; exact C13, C8, C9, C11, L2⟩
      case round =>
        clear C8 C9 C11 C13 L2
        obtain ⟨k, hk, hk2, rfl, B13, B8, B9, B11, hl⟩ := hrel
        by_cases hlt : k ≤ y
        · have hlti : (k : Int) ≤ (y : Int) := by omega
          have hki : (k : Int) < 256 := by omega
          have HT := Lib.hid (boolC_with (fun b => decide (x ≤ b) && decide (b < k)) k (by omega))
          have HS := Lib.hid (mSpan_next x y k hk)
          have c1 : ∃ v, wr.cell? ⟨g13, k, none⟩ = some (.bool v) := ⟨_, by rw [B13.cell, boolC_get _ (by omega)]⟩
          obtain ⟨v1, c1⟩ := c1
          have f1 := B13.frozen k
          clear hz
          go_wp2_with fail
          go_roundw
          case rel => exact ⟨k + 1, by omega, .inr (by omega), by go_num, by rw [HS.out, ← HT.out]; exact B13.set_ _ _, B8.far m1 _, B9.far m2 _, B11.far m3 _, Later.setCell hl m4 _⟩
          case measure => simp [intOf]; omega
        · have hgti : ¬ (k : Int) ≤ (y : Int) := by omega
          have he : boolC (fun b => decide (x ≤ b) && decide (b < k)) = boolC (mSpan x y) := boolC_ext _ _ fun b _ => by
            show (_ && _) = (_ && _)
            rw [Bool.eq_iff_iff]
            simp only [Bool.and_eq_true, decide_eq_true_eq]
            omega
          rw [he] at B13
          clear he hk2
          obtain ⟨ms, hms⟩ : ∃ ms, ms = mSpan x y := ⟨_, rfl⟩
          obtain ⟨ml, hml⟩ : ∃ ml, ml = mOf l := ⟨_, rfl⟩
          rw [← hms] at B13
          rw [← hml] at B11
          have HMS := Lib.hid hms
          have HML := Lib.hid hml
          clear hms hml
          have d0 : wr.cell? ⟨g8, 0, none⟩ = some (.int .u64 (word p 0 : Nat)) := B8.cell 0
          have d1 : wr.cell? ⟨g8, 1, none⟩ = some (.int .u64 (word p 1 : Nat)) := B8.cell 1
          have d2 : wr.cell? ⟨g8, 2, none⟩ = some (.int .u64 (word p 2 : Nat)) := B8.cell 2
          have d3 : wr.cell? ⟨g8, 3, none⟩ = some (.int .u64 (word p 3 : Nat)) := B8.cell 3
          go_wp2_with fail
          refine (plain_at p _).mono ?_
          rintro e wa ⟨rfl, hla⟩
          clear d0 d1 d2 d3
          have B8 := blkLater hla B8
          have B9 := blkLater hla B9
          have B11 := blkLater hla B11
          have B13 := blkLater hla B13
          have hla : Later w wa := hl.trans hla
          clear hl
          have R15 : Hid ((wa.alloc (.cells (boolC mNone) 36)).there wa.heap.size 0 (boolC p).size) := thereB (Blk.new wa _ _)
          go_upto_region 12 with (refine wpList_store_mid (P := Try.prog) rfl 36 (.tmp 15) (.tmp 43) rfl wa.heap.size 0 (boolC p) rfl rfl R15.out (sizeB' _) (oneB _) ?_)
          obtain ⟨wb, hwb⟩ : ∃ wb, wb = (wa.alloc (.cells (boolC mNone) 36)).setCells wa.heap.size 0 (boolC p).toList := ⟨_, rfl⟩
          obtain ⟨g15, hg15⟩ : ∃ g, g = wa.heap.size := ⟨_, rfl⟩
          have C15 : Blk wb g15 36 (boolC p) := by rw [hwb, hg15]; exact (Blk.new wa _ _).setBools
          have C8 : Blk wb g8 24 #[.int .u64 (word (p) 0 : Nat), .int .u64 (word (p) 1 : Nat), .int .u64 (word (p) 2 : Nat), .int .u64 (word (p) 3 : Nat)] := by rw [hwb]; exact Blk.farCells _ (B8.alloc _) (Nat.ne_of_lt B8.lt) 0
          have C9 : Blk wb g9 24 #[.int .u64 (word (q) 0 : Nat), .int .u64 (word (q) 1 : Nat), .int .u64 (word (q) 2 : Nat), .int .u64 (word (q) 3 : Nat)] := by rw [hwb]; exact Blk.farCells _ (B9.alloc _) (Nat.ne_of_lt B9.lt) 0
          have C11 : Blk wb g11 36 (boolC ml) := by rw [hwb]; exact Blk.farCells _ (B11.alloc _) (Nat.ne_of_lt B11.lt) 0
          have C13 : Blk wb g13 36 (boolC ms) := by rw [hwb]; exact Blk.farCells _ (B13.alloc _) (Nat.ne_of_lt B13.lt) 0
          have Lb : Later w wb := by rw [hwb]; exact laterCellsG (hla.alloc _) hla.size 0 _
          rw [← hwb, ← hg15]
          clear hwb hg15 B8 B9 B11 B13 hla R15
          have d0 : wb.cell? ⟨g9, 0, none⟩ = some (.int .u64 (word q 0 : Nat)) := C9.cell 0
          have d1 : wb.cell? ⟨g9, 1, none⟩ = some (.int .u64 (word q 1 : Nat)) := C9.cell 1
          have d2 : wb.cell? ⟨g9, 2, none⟩ = some (.int .u64 (word q 2 : Nat)) := C9.cell 2
          have d3 : wb.cell? ⟨g9, 3, none⟩ = some (.int .u64 (word q 3 : Nat)) := C9.cell 3
          go_wp2_with fail
          refine (plain_at q _).mono ?_
          rintro e wa' ⟨rfl, hla⟩
          clear d0 d1 d2 d3
          have B8 := blkLater hla C8
          have B9 := blkLater hla C9
          have B11 := blkLater hla C11
          have B13 := blkLater hla C13
          have B15 := blkLater hla C15
          have hla : Later w wa' := Lb.trans hla
          clear Lb C8 C9 C11 C13 C15
          have R16 : Hid ((wa'.alloc (.cells (boolC mNone) 36)).there wa'.heap.size 0 (boolC q).size) := thereB (Blk.new wa' _ _)
          go_upto_region 13 with (refine wpList_store_mid (P := Try.prog) rfl 36 (.tmp 16) (.tmp 45) rfl wa'.heap.size 0 (boolC q) rfl rfl R16.out (sizeB' _) (oneB _) ?_)
          obtain ⟨wc, hwc⟩ : ∃ wc, wc = (wa'.alloc (.cells (boolC mNone) 36)).setCells wa'.heap.size 0 (boolC q).toList := ⟨_, rfl⟩
          obtain ⟨g16, hg16⟩ : ∃ g, g = wa'.heap.size := ⟨_, rfl⟩
          have C16 : Blk wc g16 36 (boolC q) := by rw [hwc, hg16]; exact (Blk.new wa' _ _).setBools
          have C8 : Blk wc g8 24 #[.int .u64 (word (p) 0 : Nat), .int .u64 (word (p) 1 : Nat), .int .u64 (word (p) 2 : Nat), .int .u64 (word (p) 3 : Nat)] := by rw [hwc]; exact Blk.farCells _ (B8.alloc _) (Nat.ne_of_lt B8.lt) 0
          have C9 : Blk wc g9 24 #[.int .u64 (word (q) 0 : Nat), .int .u64 (word (q) 1 : Nat), .int .u64 (word (q) 2 : Nat), .int .u64 (word (q) 3 : Nat)] := by rw [hwc]; exact Blk.farCells _ (B9.alloc _) (Nat.ne_of_lt B9.lt) 0
          have C11 : Blk wc g11 36 (boolC ml) := by rw [hwc]; exact Blk.farCells _ (B11.alloc _) (Nat.ne_of_lt B11.lt) 0
          have C13 : Blk wc g13 36 (boolC ms) := by rw [hwc]; exact Blk.farCells _ (B13.alloc _) (Nat.ne_of_lt B13.lt) 0
          have C15 : Blk wc g15 36 (boolC p) := by rw [hwc]; exact Blk.farCells _ (B15.alloc _) (Nat.ne_of_lt B15.lt) 0
          have Lc : Later w wc := by rw [hwc]; exact laterCellsG (hla.alloc _) hla.size 0 _
          rw [← hwc, ← hg16]
          clear hwc hg16 B8 B9 B11 B13 B15 hla R16
          go_wp2_with fail
          obtain ⟨wd, hwd⟩ : ∃ wd, wd = (wc.alloc (.cells (boolC mNone) 36)).alloc (.cells (boolC mNone) 36) := ⟨_, rfl⟩
          obtain ⟨g17, hg17⟩ : ∃ g, g = wc.heap.size := ⟨_, rfl⟩
          obtain ⟨g18, hg18⟩ : ∃ g, g = wc.heap.size + 1 := ⟨_, rfl⟩
          have D17 : Blk wd g17 36 (boolC mNone) := by rw [hwd, hg17]; exact (Blk.new wc _ _).alloc _
          have D18 : Blk wd g18 36 (boolC mNone) := by rw [hwd, hg18]; exact blk_at (by simp)
          have D8 : Blk wd g8 24 #[.int .u64 (word (p) 0 : Nat), .int .u64 (word (p) 1 : Nat), .int .u64 (word (p) 2 : Nat), .int .u64 (word (p) 3 : Nat)] := by rw [hwd]; exact (C8.alloc _).alloc _
          have D9 : Blk wd g9 24 #[.int .u64 (word (q) 0 : Nat), .int .u64 (word (q) 1 : Nat), .int .u64 (word (q) 2 : Nat), .int .u64 (word (q) 3 : Nat)] := by rw [hwd]; exact (C9.alloc _).alloc _
          have D11 : Blk wd g11 36 (boolC ml) := by rw [hwd]; exact (C11.alloc _).alloc _
          have D13 : Blk wd g13 36 (boolC ms) := by rw [hwd]; exact (C13.alloc _).alloc _
          have D15 : Blk wd g15 36 (boolC p) := by rw [hwd]; exact (C15.alloc _).alloc _
          have D16 : Blk wd g16 36 (boolC q) := by rw [hwd]; exact (C16.alloc _).alloc _
          have Ld : Later w wd := by rw [hwd]; exact (Lc.alloc _).alloc _
          have z1 : g8 < g17 := by rw [hg17]; exact C8.lt
          have z2 : g9 < g17 := by rw [hg17]; exact C9.lt
          have z3 : g11 < g17 := by rw [hg17]; exact C11.lt
          have z4 : g13 < g17 := by rw [hg17]; exact C13.lt
          have z5 : g15 < g17 := by rw [hg17]; exact C15.lt
          have z6 : g16 < g17 := by rw [hg17]; exact C16.lt
          have z7 : w.heap.size ≤ g17 := by rw [hg17]; exact Lc.size
          have z8 : g17 < g18 := by omega
          rw [← hwd, ← hg18, ← hg17]
          clear hwd hg17 hg18 C8 C9 C11 C13 C15 C16 Lc
          go_loopw [19, 20] (fun nn i wr => ∃ k : Nat, k ≤ 256 ∧ i = .int .i64 (k : Int) ∧ nn = .int .i64 (cntN p k : Nat) ∧ Blk wr g17 36 (boolC (mLow (mOr p q) k)) ∧ Blk wr g18 36 (boolC (mLow (mNot p) k)) ∧ Blk wr g8 24 #[.int .u64 (word (p) 0 : Nat), .int .u64 (word (p) 1 : Nat), .int .u64 (word (p) 2 : Nat), .int .u64 (word (p) 3 : Nat)] ∧ Blk wr g9 24 #[.int .u64 (word (q) 0 : Nat), .int .u64 (word (q) 1 : Nat), .int .u64 (word (q) 2 : Nat), .int .u64 (word (q) 3 : Nat)] ∧ Blk wr g11 36 (boolC ml) ∧ Blk wr g13 36 (boolC ms) ∧ Blk wr g15 36 (boolC p) ∧ Blk wr g16 36 (boolC q) ∧ Later w wr) (fun _ i _ => 256 - (intOf i).toNat)
          case atStart => exact ⟨0, by omega, rfl, rfl, by rw [boolC_ext (mLow (mOr p q) 0) mNone (fun b _ => rfl)]; exact D17, by rw [boolC_ext (mLow (mNot p) 0) mNone (fun b _ => rfl)]; exact D18, D8, D9, D11, D13, D15, D16, Ld⟩
          case round =>
            clear D8 D9 D11 D13 D15 D16 D17 D18 Ld
            obtain ⟨k, hk, rfl, rfl, B17, B18, B8, B9, B11, B13, B15, B16, hl⟩ := hrel
            by_cases hlt : k < 256
            · have hlti : (k : Int) < 256 := by omega
              have HT := Lib.hid (boolC_step (mOr p q) k hlt)
              have HU := Lib.hid (boolC_step (mNot p) k hlt)
              have hcn := cntN_le p k
              have hcs := cntN_step p k
              obtain ⟨cn, hcn'⟩ : ∃ cn, cn = cntN p k := ⟨_, rfl⟩
              rw [← hcn'] at hcn hcs ⊢
              have HCS := Lib.hid hcs
              clear hcs hcn'
              obtain ⟨qk, hqk⟩ : ∃ v, v = q k := ⟨_, rfl⟩
              have HQ : Hid (q k = qk) := Lib.hid hqk.symm
              clear hqk hz
              cases hpk : p k with
              | true =>
                have HPK := Lib.hid hpk
                clear hpk
                have e17 : mOr p q k = true := by show (p k || q k) = true; rw [HPK.out]; rfl
                rw [e17] at HT
                have e18 : mNot p k = false := by show (!p k) = _; rw [HPK.out]; rfl
                have HU2 : Hid ((boolC (mLow (mNot p) k)).setIfInBounds k (.bool false) = boolC (mLow (mNot p) (k + 1))) := by rw [← e18]; exact boolC_step (mNot p) k hlt
                clear e17 e18 HU
                have c15 : wr.cell? ⟨g15, k, none⟩ = some (.bool true) := by rw [B15.cell, boolC_get _ hlt, HPK.out]
                have c16 : wr.cell? ⟨g16, k, none⟩ = some (.bool qk) := by rw [B16.cell, boolC_get _ hlt, HQ.out]
                have c17 : wr.cell? ⟨g17, k, none⟩ = some (.bool (mLow (mOr p q) k k)) := by rw [B17.cell, boolC_get _ hlt]
                have f17 := B17.frozen k
                go_upto_region 19 with fail
                obtain ⟨wA, hwA⟩ : ∃ wA, wA = wr.setCell ⟨g17, k, none⟩ (.bool true) := ⟨_, rfl⟩
                have C17 : Blk wA g17 36 (boolC (mLow (mOr p q) (k + 1))) := by rw [hwA, ← HT.out]; exact B17.set_ _ _
                have C18 : Blk wA g18 36 (boolC (mLow (mNot p) k)) := by rw [hwA]; exact B18.far (Nat.ne_of_gt z8) _
                have C8 : Blk wA g8 24 #[.int .u64 (word (p) 0 : Nat), .int .u64 (word (p) 1 : Nat), .int .u64 (word (p) 2 : Nat), .int .u64 (word (p) 3 : Nat)] := by rw [hwA]; exact B8.far (Nat.ne_of_lt z1) _
                have C9 : Blk wA g9 24 #[.int .u64 (word (q) 0 : Nat), .int .u64 (word (q) 1 : Nat), .int .u64 (word (q) 2 : Nat), .int .u64 (word (q) 3 : Nat)] := by rw [hwA]; exact B9.far (Nat.ne_of_lt z2) _
                have C11 : Blk wA g11 36 (boolC ml) := by rw [hwA]; exact B11.far (Nat.ne_of_lt z3) _
                have C13 : Blk wA g13 36 (boolC ms) := by rw [hwA]; exact B13.far (Nat.ne_of_lt z4) _
                have C15 : Blk wA g15 36 (boolC p) := by rw [hwA]; exact B15.far (Nat.ne_of_lt z5) _
                have C16 : Blk wA g16 36 (boolC q) := by rw [hwA]; exact B16.far (Nat.ne_of_lt z6) _
                have LA : Later w wA := by rw [hwA]; exact Later.setCell hl z7 _
                rw [← hwA]
                clear hwA B8 B9 B11 B13 B15 B16 B17 B18 hl c15 c16 c17 f17 HT
                have c15 : wA.cell? ⟨g15, k, none⟩ = some (.bool true) := by rw [C15.cell, boolC_get _ hlt, HPK.out]
                have c18 : wA.cell? ⟨g18, k, none⟩ = some (.bool (mLow (mNot p) k k)) := by rw [C18.cell, boolC_get _ hlt]
                have f18 := C18.frozen k
                go_upto_region 20 with fail
                obtain ⟨wB, hwB⟩ : ∃ wB, wB = wA.setCell ⟨g18, k, none⟩ (.bool false) := ⟨_, rfl⟩
                have B18 : Blk wB g18 36 (boolC (mLow (mNot p) (k + 1))) := by rw [hwB, ← HU2.out]; exact C18.set_ _ _
                have B17 : Blk wB g17 36 (boolC (mLow (mOr p q) (k + 1))) := by rw [hwB]; exact C17.far (Nat.ne_of_lt z8) _
                have B8 : Blk wB g8 24 #[.int .u64 (word (p) 0 : Nat), .int .u64 (word (p) 1 : Nat), .int .u64 (word (p) 2 : Nat), .int .u64 (word (p) 3 : Nat)] := by rw [hwB]; exact C8.far (Nat.ne_of_lt (Nat.lt_trans z1 z8)) _
                have B9 : Blk wB g9 24 #[.int .u64 (word (q) 0 : Nat), .int .u64 (word (q) 1 : Nat), .int .u64 (word (q) 2 : Nat), .int .u64 (word (q) 3 : Nat)] := by rw [hwB]; exact C9.far (Nat.ne_of_lt (Nat.lt_trans z2 z8)) _
                have B11 : Blk wB g11 36 (boolC ml) := by rw [hwB]; exact C11.far (Nat.ne_of_lt (Nat.lt_trans z3 z8)) _
                have B13 : Blk wB g13 36 (boolC ms) := by rw [hwB]; exact C13.far (Nat.ne_of_lt (Nat.lt_trans z4 z8)) _
                have B15 : Blk wB g15 36 (boolC p) := by rw [hwB]; exact C15.far (Nat.ne_of_lt (Nat.lt_trans z5 z8)) _
                have B16 : Blk wB g16 36 (boolC q) := by rw [hwB]; exact C16.far (Nat.ne_of_lt (Nat.lt_trans z6 z8)) _
                have LB : Later w wB := by rw [hwB]; exact Later.setCell LA (Nat.le_trans z7 (Nat.le_of_lt z8)) _
                rw [← hwB]
                clear hwB C8 C9 C11 C13 C15 C16 C17 C18 LA c15 c18 f18 HU2
                have c15 : wB.cell? ⟨g15, k, none⟩ = some (.bool true) := by rw [B15.cell, boolC_get _ hlt, HPK.out]
                go_upto_region 22 with fail
                have k15 : ∀ x : LW wB, x.val.cell? ⟨g15, k, none⟩ = some (.bool true) := LW.cell_ c15
                have k80 : ∀ x : LW wB, x.val.cell? ⟨g8, 0, none⟩ = some (.int .u64 (word p 0 : Nat)) := LW.cell_ (B8.cell 0)
                have k81 : ∀ x : LW wB, x.val.cell? ⟨g8, 1, none⟩ = some (.int .u64 (word p 1 : Nat)) := LW.cell_ (B8.cell 1)
                have k82 : ∀ x : LW wB, x.val.cell? ⟨g8, 2, none⟩ = some (.int .u64 (word p 2 : Nat)) := LW.cell_ (B8.cell 2)
                have k83 : ∀ x : LW wB, x.val.cell? ⟨g8, 3, none⟩ = some (.int .u64 (word p 3 : Nat)) := LW.cell_ (B8.cell 3)
                refine wp_region_laterq (by kernel_rfl) (by kernel_rfl) ?_
                repeat (go_big_quiet_step (((go_at_call 20; (with_reducible refine Calls.laterq (has_u p k hlt true HPK.out _))))))
                refine wpQuiet_nil ?_
                intro _ hwq
                obtain ⟨xz, rfl⟩ := hwq
                clear k15 k80 k81 k82 k83 c15
                have hl : Later w xz.val := LB.trans xz.later
                go_wp2_with fail
                go_roundw
                case rel => exact ⟨k + 1, by omega, by go_num, by rw [HCS.out, HPK.out]; go_num, blkLater xz.later B17, blkLater xz.later B18, blkLater xz.later B8, blkLater xz.later B9, blkLater xz.later B11, blkLater xz.later B13, blkLater xz.later B15, blkLater xz.later B16, hl⟩
                case measure => simp [intOf]; omega
              | false =>
                have HPK := Lib.hid hpk
                clear hpk
                have e17 : mOr p q k = qk := by show (p k || q k) = _; rw [HPK.out, HQ.out]; rfl
                rw [e17] at HT
                have e18 : mNot p k = true := by show (!p k) = _; rw [HPK.out]; rfl
                have HU2 : Hid ((boolC (mLow (mNot p) k)).setIfInBounds k (.bool true) = boolC (mLow (mNot p) (k + 1))) := by rw [← e18]; exact boolC_step (mNot p) k hlt
                clear e17 e18 HU
                have c15 : wr.cell? ⟨g15, k, none⟩ = some (.bool false) := by rw [B15.cell, boolC_get _ hlt, HPK.out]
                have c16 : wr.cell? ⟨g16, k, none⟩ = some (.bool qk) := by rw [B16.cell, boolC_get _ hlt, HQ.out]
                have c17 : wr.cell? ⟨g17, k, none⟩ = some (.bool (mLow (mOr p q) k k)) := by rw [B17.cell, boolC_get _ hlt]
                have f17 := B17.frozen k
                go_upto_region 19 with fail
                obtain ⟨wA, hwA⟩ : ∃ wA, wA = wr.setCell ⟨g17, k, none⟩ (.bool qk) := ⟨_, rfl⟩
                have C17 : Blk wA g17 36 (boolC (mLow (mOr p q) (k + 1))) := by rw [hwA, ← HT.out]; exact B17.set_ _ _
                have C18 : Blk wA g18 36 (boolC (mLow (mNot p) k)) := by rw [hwA]; exact B18.far (Nat.ne_of_gt z8) _
                have C8 : Blk wA g8 24 #[.int .u64 (word (p) 0 : Nat), .int .u64 (word (p) 1 : Nat), .int .u64 (word (p) 2 : Nat), .int .u64 (word (p) 3 : Nat)] := by rw [hwA]; exact B8.far (Nat.ne_of_lt z1) _
                have C9 : Blk wA g9 24 #[.int .u64 (word (q) 0 : Nat), .int .u64 (word (q) 1 : Nat), .int .u64 (word (q) 2 : Nat), .int .u64 (word (q) 3 : Nat)] := by rw [hwA]; exact B9.far (Nat.ne_of_lt z2) _
                have C11 : Blk wA g11 36 (boolC ml) := by rw [hwA]; exact B11.far (Nat.ne_of_lt z3) _
                have C13 : Blk wA g13 36 (boolC ms) := by rw [hwA]; exact B13.far (Nat.ne_of_lt z4) _
                have C15 : Blk wA g15 36 (boolC p) := by rw [hwA]; exact B15.far (Nat.ne_of_lt z5) _
                have C16 : Blk wA g16 36 (boolC q) := by rw [hwA]; exact B16.far (Nat.ne_of_lt z6) _
                have LA : Later w wA := by rw [hwA]; exact Later.setCell hl z7 _
                rw [← hwA]
                clear hwA B8 B9 B11 B13 B15 B16 B17 B18 hl c15 c16 c17 f17 HT
                have c15 : wA.cell? ⟨g15, k, none⟩ = some (.bool false) := by rw [C15.cell, boolC_get _ hlt, HPK.out]
                have c18 : wA.cell? ⟨g18, k, none⟩ = some (.bool (mLow (mNot p) k k)) := by rw [C18.cell, boolC_get _ hlt]
                have f18 := C18.frozen k
                go_upto_region 20 with fail
                obtain ⟨wB, hwB⟩ : ∃ wB, wB = wA.setCell ⟨g18, k, none⟩ (.bool true) := ⟨_, rfl⟩
                have B18 : Blk wB g18 36 (boolC (mLow (mNot p) (k + 1))) := by rw [hwB, ← HU2.out]; exact C18.set_ _ _
                have B17 : Blk wB g17 36 (boolC (mLow (mOr p q) (k + 1))) := by rw [hwB]; exact C17.far (Nat.ne_of_lt z8) _
                have B8 : Blk wB g8 24 #[.int .u64 (word (p) 0 : Nat), .int .u64 (word (p) 1 : Nat), .int .u64 (word (p) 2 : Nat), .int .u64 (word (p) 3 : Nat)] := by rw [hwB]; exact C8.far (Nat.ne_of_lt (Nat.lt_trans z1 z8)) _
                have B9 : Blk wB g9 24 #[.int .u64 (word (q) 0 : Nat), .int .u64 (word (q) 1 : Nat), .int .u64 (word (q) 2 : Nat), .int .u64 (word (q) 3 : Nat)] := by rw [hwB]; exact C9.far (Nat.ne_of_lt (Nat.lt_trans z2 z8)) _
                have B11 : Blk wB g11 36 (boolC ml) := by rw [hwB]; exact C11.far (Nat.ne_of_lt (Nat.lt_trans z3 z8)) _
                have B13 : Blk wB g13 36 (boolC ms) := by rw [hwB]; exact C13.far (Nat.ne_of_lt (Nat.lt_trans z4 z8)) _
                have B15 : Blk wB g15 36 (boolC p) := by rw [hwB]; exact C15.far (Nat.ne_of_lt (Nat.lt_trans z5 z8)) _
                have B16 : Blk wB g16 36 (boolC q) := by rw [hwB]; exact C16.far (Nat.ne_of_lt (Nat.lt_trans z6 z8)) _
                have LB : Later w wB := by rw [hwB]; exact Later.setCell LA (Nat.le_trans z7 (Nat.le_of_lt z8)) _
                rw [← hwB]
                clear hwB C8 C9 C11 C13 C15 C16 C17 C18 LA c15 c18 f18 HU2
                have c15 : wB.cell? ⟨g15, k, none⟩ = some (.bool false) := by rw [B15.cell, boolC_get _ hlt, HPK.out]
                go_upto_region 22 with fail
                have k15 : ∀ x : LW wB, x.val.cell? ⟨g15, k, none⟩ = some (.bool false) := LW.cell_ c15
                have k80 : ∀ x : LW wB, x.val.cell? ⟨g8, 0, none⟩ = some (.int .u64 (word p 0 : Nat)) := LW.cell_ (B8.cell 0)
                have k81 : ∀ x : LW wB, x.val.cell? ⟨g8, 1, none⟩ = some (.int .u64 (word p 1 : Nat)) := LW.cell_ (B8.cell 1)
                have k82 : ∀ x : LW wB, x.val.cell? ⟨g8, 2, none⟩ = some (.int .u64 (word p 2 : Nat)) := LW.cell_ (B8.cell 2)
                have k83 : ∀ x : LW wB, x.val.cell? ⟨g8, 3, none⟩ = some (.int .u64 (word p 3 : Nat)) := LW.cell_ (B8.cell 3)
                refine wp_region_laterq (by kernel_rfl) (by kernel_rfl) ?_
                repeat (go_big_quiet_step (((go_at_call 20; (with_reducible refine Calls.laterq (has_u p k hlt false HPK.out _))))))
                refine wpQuiet_nil ?_
                intro _ hwq
                obtain ⟨xz, rfl⟩ := hwq
                clear k15 k80 k81 k82 k83 c15
                have hl : Later w xz.val := LB.trans xz.later
                go_wp2_with fail
                go_roundw
                case rel => exact ⟨k + 1, by omega, by go_num, by rw [HCS.out, HPK.out]; go_num, blkLater xz.later B17, blkLater xz.later B18, blkLater xz.later B8, blkLater xz.later B9, blkLater xz.later B11, blkLater xz.later B13, blkLater xz.later B15, blkLater xz.later B16, hl⟩
                case measure => simp [intOf]; omega
            · obtain rfl : k = 256 := by omega
              rw [boolC_ext (mLow (mOr p q) 256) (mOr p q) (fun b hb => by unfold mLow; rw [decide_eq_true hb, Bool.true_and])] at B17
              rw [boolC_ext (mLow (mNot p) 256) (mNot p) (fun b hb => by unfold mLow; rw [decide_eq_true hb, Bool.true_and])] at B18
              clear hz hk hlt
              have k80 : ∀ x : LW wr, x.val.cell? ⟨g8, 0, none⟩ = some (.int .u64 (word p 0 : Nat)) := LW.cell_ (B8.cell 0)
              have k81 : ∀ x : LW wr, x.val.cell? ⟨g8, 1, none⟩ = some (.int .u64 (word p 1 : Nat)) := LW.cell_ (B8.cell 1)
              have k82 : ∀ x : LW wr, x.val.cell? ⟨g8, 2, none⟩ = some (.int .u64 (word p 2 : Nat)) := LW.cell_ (B8.cell 2)
              have k83 : ∀ x : LW wr, x.val.cell? ⟨g8, 3, none⟩ = some (.int .u64 (word p 3 : Nat)) := LW.cell_ (B8.cell 3)
              have k90 : ∀ x : LW wr, x.val.cell? ⟨g9, 0, none⟩ = some (.int .u64 (word q 0 : Nat)) := LW.cell_ (B9.cell 0)
              have k91 : ∀ x : LW wr, x.val.cell? ⟨g9, 1, none⟩ = some (.int .u64 (word q 1 : Nat)) := LW.cell_ (B9.cell 1)
              have k92 : ∀ x : LW wr, x.val.cell? ⟨g9, 2, none⟩ = some (.int .u64 (word q 2 : Nat)) := LW.cell_ (B9.cell 2)
              have k93 : ∀ x : LW wr, x.val.cell? ⟨g9, 3, none⟩ = some (.int .u64 (word q 3 : Nat)) := LW.cell_ (B9.cell 3)
              have R11 := rangeB B11
              have R13 := rangeB B13
              have R17 := rangeB B17
              have R18 := rangeB B18
              have e1 := seteq ml
              have e2 := seteq ms
              have e3 := seteq (mOr p q)
              have e4 := seteq (mNot p)
              have KOF : Hid (∀ xw : LW wr, Calls Try.prog 17 #[.slice A n c] xw.val fun e w' => e = .returned (.agg #[.int .u64 (word (ml) 0 : Nat), .int .u64 (word (ml) 1 : Nat), .int .u64 (word (ml) 2 : Nat), .int .u64 (word (ml) 3 : Nat)]) ∧ Later xw.val w') := Lib.hid fun xw => by rw [HML.out]; exact of_at _ _ _ l _ ((HR.out.below (hl.trans xw.later)).more (hl.trans xw.later).size) hn
              have KSP : Hid (∀ xw : LW wr, Calls Try.prog 23 #[.int .u8 (x : Int), .int .u8 (y : Int)] xw.val fun e w' => e = .returned (.agg #[.int .u64 (word (ms) 0 : Nat), .int .u64 (word (ms) 1 : Nat), .int .u64 (word (ms) 2 : Nat), .int .u64 (word (ms) 3 : Nat)]) ∧ Later xw.val w') := Lib.hid fun xw => by rw [HMS.out]; exact span_at x y _ rfl hx hy _
              clear B8 B9 B11 B13 B15 B16 B17 B18
              go_wp2_with fail
              refine wp_region_laterq (by kernel_rfl) (by kernel_rfl) ?_
              repeat (first
                | (go_big_quiet_want; (first
                    | refine quiet_load_long 36 (.tmp 11) rfl g11 0 rfl _ _ R11.out Try.underlying36 rfl (sizeB _) ?_
                    | refine quiet_load_long 36 (.tmp 13) rfl g13 0 rfl _ _ R13.out Try.underlying36 rfl (sizeB _) ?_
                    | refine quiet_load_long 36 (.tmp 17) rfl g17 0 rfl _ _ R17.out Try.underlying36 rfl (sizeB _) ?_
                    | refine quiet_load_long 36 (.tmp 18) rfl g18 0 rfl _ _ R18.out Try.underlying36 rfl (sizeB _) ?_); (simp only [Act.put, List.setIfInBounds_toArray, List.set_cons_zero, List.set_cons_succ]); go_big_quiet_on)
                | go_big_quiet_step ((first
                    | (go_at_call 16; (with_reducible refine Calls.laterq (clsKnown_any _)))
                    | (go_at_call 17; (with_reducible refine Calls.laterq (KOF.out _)))
                    | (go_at_call 23; (with_reducible refine Calls.laterq (KSP.out _)))
                    | (go_at_call 22; (first | (with_reducible refine Calls.laterq (packed_at ml _)) | (with_reducible refine Calls.laterq (packed_at ms _)) | (with_reducible refine Calls.laterq (packed_at (mOr p q) _)) | (with_reducible refine Calls.laterq (packed_at (mNot p) _))))
                    | (go_at_call 24; (with_reducible refine Calls.laterq (or_at p q _)))
                    | (go_at_call 18; (with_reducible refine Calls.laterq (not_at p _)))
                    | (go_at_call 19; (with_reducible refine Calls.laterq (count_at p _ rfl _))))))
              refine wpQuiet_nil ?_
              intro _ hwq
              obtain ⟨xz, rfl⟩ := hwq
              have hl : Later w xz.val := hl.trans xz.later
              go_wp2_with fail
              go_ret
              exact ⟨rfl, hl⟩

end Go.Proofs.Ythmjnelnnhidkaa
