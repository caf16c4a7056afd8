/-
  The walk of ClassNamed.
-/
import Derived.Test.YthmjnelnnhidkaaDoorClsKnown
import Derived.Test.YthmjnelnnhidkaaDoorRefNamed2
import Derived.Test.YthmjnelnnhidkaaDoorNames
import Derived.Test.YthmjnelnnhidkaaDoorPick
import Derived.Test.YthmjnelnnhidkaaDoorLaterQ
import Derived.Test.YthmjnelnnhidkaaDoorBoolRow2
namespace Go.Proofs.YthmjnelnnhidkaaDoor
open Go.RowKit

theorem named_none (s : ByteArray) (w : World) (hs : s.size ≤ 140737488355328) (hm : classOf s.data.toList = none) :
    Calls Tryd.prog 5 #[.string s] w fun e w' => e = .returned (.tuple #[.agg #[.int .u64 0, .int .u64 0, .int .u64 0, .int .u64 0], .bool false]) ∧ Later w w' :=
  (named_any s w hs).mono fun e w' h => ⟨by rw [h.1, hm]; show Ending.returned (.tuple #[.agg (setC mNone), .bool false]) = _; rw [setC_none], h.2⟩

theorem setL4 {w : World} {b : Nat} {t : TypeId} {x0 x1 x2 x3 : Value} (h : Blk w b t #[x0, x1, x2, x3]) : w.cell? ⟨b, 0, none⟩ = some x0 ∧ w.cell? ⟨b, 1, none⟩ = some x1 ∧ w.cell? ⟨b, 2, none⟩ = some x2 ∧ w.cell? ⟨b, 3, none⟩ = some x3 := ⟨h.cell 0, h.cell 1, h.cell 2, h.cell 3⟩
theorem rangeLater {w w' : World} {g : Nat} {cs : List Value} (hl : Later w w') (hg : g < w.heap.size) (h : w.rangeAt g 0 cs) : w'.rangeAt g 0 cs := fun j v hv => (hl.cell (p := ⟨g, 0 + j, none⟩) hg).trans (h j v hv)
theorem ltLater {w w' : World} {n : Nat} (hl : Later w w') (h : n < w.heap.size) : n < w'.heap.size := Nat.lt_of_lt_of_le h (Later.size hl)
theorem sizeCells : ∀ (l : List Value) (w : World) (g o : Nat), w.heap.size ≤ (w.setCells g o l).heap.size
  | [], _, _, _ => Nat.le_refl _
  | v :: l, w, g, o => Nat.le_trans (by simp) (sizeCells l (w.setCell ⟨g, o, none⟩ v) g (o + 1))
theorem refNamed_some (s : ByteArray) (m : Mem) (h : classOf s.data.toList = some m) (w : World) :
    Calls Tryd.prog 6 #[.string s] w fun e w' => e = .returned (.tuple #[.agg (boolC m), .bool true]) ∧ Later w w' := by
  have hh := refNamed_any s w
  rw [h] at hh
  exact hh
theorem refNamed_none (s : ByteArray) (h : classOf s.data.toList = none) (w : World) :
    Calls Tryd.prog 6 #[.string s] w fun e w' => e = .returned (.tuple #[.agg (boolC mNone), .bool false]) ∧ Later w w' := by
  have hh := refNamed_any s w
  rw [h] at hh
  exact hh
theorem packed_l (m : Mem) (w : World) :
    Calls Tryd.prog 8 #[.agg (boolC m).toList.toArray] w fun e w' => e = .returned (.agg #[.int .u64 (word (m) 0 : Nat), .int .u64 (word (m) 1 : Nat), .int .u64 (word (m) 2 : Nat), .int .u64 (word (m) 3 : Nat)]) ∧ Later w w' := by
  rw [Array.toArray_toList]
  exact packed_any m w

set_option maxRecDepth 100000 in
set_option maxHeartbeats 8000000 in
theorem classNamed_own (s : ByteArray) (k : Int) (w : World) (hs : s.size ≤ 140737488355328) (hk : (k.tmod 2 == 0) = false) :
    Calls Tryd.prog 3 #[.string s, .int .i64 k] w fun e w' => e = .returned (.bool true) ∧ Later w w' := by
  obtain ⟨hz, hsz⟩ := zero_set
  cases hc : classOf s.data.toList with
  | none =>
    have keq : ∀ w, (Op.equalIn 10000 26 (.agg #[.int .u64 0, .int .u64 0, .int .u64 0, .int .u64 0]) (.agg #[.int .u64 0, .int .u64 0, .int .u64 0, .int .u64 0])).run Tryd.prog w = .ok true w := fun w => run_eq_set 0 0 0 0 0 0 0 0 w
    have HC := Lib.hid hc
    clear hc
    go_enter Tryd.func3, Tryd.ntmps3
    go_wp2_with fail
    refine (named_none s _ hs HC.out).mono ?_
    rintro e wa ⟨rfl, hla⟩
    go_wp2_with fail
    refine (refNamed_none s HC.out _).mono ?_
    rintro e wb ⟨rfl, hlb⟩
    have B5 : Blk wb wa.heap.size 26 #[.int .u64 0, .int .u64 0, .int .u64 0, .int .u64 0] := blkLater hlb (Blk.new wa _ _)
    have hlb : Later w wb := (hla.alloc _).trans hlb
    have R2 : Hid ((wb.alloc (.cells (boolC mNone) 30)).there wb.heap.size 0 (boolC mNone).size) := thereB (Blk.new wb _ _)
    go_wp2_with (refine wpList_store_mid (P := Tryd.prog) rfl 30 (.tmp 7) (.tmp 25) rfl wb.heap.size 0 (boolC mNone) rfl rfl R2.out (sizeB' _) (oneB _) ?_)
    obtain ⟨wf, hwf⟩ : ∃ wf, wf = (wb.alloc (.cells (boolC mNone) 30)).setCells wb.heap.size 0 (boolC mNone).toList := ⟨_, rfl⟩
    have R7 : wf.rangeAt wb.heap.size 0 (boolC mNone).toList := by rw [hwf]; exact World.rangeAt_setCells_same _ _ _ _ (by rw [Array.length_toList]; exact R2.out)
    have hwb : Later wb wf := by rw [hwf]; exact laterCells ((Later.refl wb).alloc _) _ _
    have B5 : Blk wf wa.heap.size 26 #[.int .u64 0, .int .u64 0, .int .u64 0, .int .u64 0] := blkLater hwb B5
    have hlf : Later w wf := hlb.trans hwb
    rw [← hwf]
    clear hwf R2 hwb hla hlb hz hsz
    have hz0 := B5.cell 0
    have k50 : ∀ x : LW wf, x.val.cell? ⟨wa.heap.size, 0, none⟩ = some (.int .u64 0) := LW.cell_ (B5.cell 0)
    have k51 : ∀ x : LW wf, x.val.cell? ⟨wa.heap.size, 1, none⟩ = some (.int .u64 0) := LW.cell_ (B5.cell 1)
    have k52 : ∀ x : LW wf, x.val.cell? ⟨wa.heap.size, 2, none⟩ = some (.int .u64 0) := LW.cell_ (B5.cell 2)
    have k53 : ∀ x : LW wf, x.val.cell? ⟨wa.heap.size, 3, none⟩ = some (.int .u64 0) := LW.cell_ (B5.cell 3)
    have hR7 := Lib.hid R7
    clear hz0 B5 R7
    refine wp_region_laterq (by kernel_rfl) (by kernel_rfl) ?_
    repeat (first
      | (go_big_quiet_want; (refine quiet_load_long 30 (.tmp 7) rfl wb.heap.size 0 rfl _ _ hR7.out Tryd.underlying30 rfl (sizeB _) ?_); (simp only [Act.put, List.setIfInBounds_toArray, List.set_cons_zero, List.set_cons_succ]); go_big_quiet_on)
      | go_big_quiet_step ((first
          | (go_at_call 7; (with_reducible refine Calls.laterq (clsKnown_any _)))
          | (go_at_call 8; (with_reducible refine Calls.laterq (packed_l mNone _))))))
    refine wpQuiet_nil ?_
    intro _ hwq
    obtain ⟨xz, rfl⟩ := hwq
    have hlf : Later w xz.val := hlf.trans xz.later
    go_wp2_with fail
    go_ret
    exact ⟨rfl, hlf⟩
  | some m =>
    have keq := run_eq_set
    have HC := Lib.hid hc
    clear hc
    go_enter Tryd.func3, Tryd.ntmps3
    go_wp2_with fail
    refine (named_set s m _ hs HC.out).mono ?_
    rintro e wa ⟨rfl, hla⟩
    go_wp2_with fail
    refine (refNamed_some s m HC.out _).mono ?_
    rintro e wb ⟨rfl, hlb⟩
    have B5 : Blk wb wa.heap.size 26 #[.int .u64 (word (m) 0 : Nat), .int .u64 (word (m) 1 : Nat), .int .u64 (word (m) 2 : Nat), .int .u64 (word (m) 3 : Nat)] := blkLater hlb (Blk.new wa _ _)
    have hlb : Later w wb := (hla.alloc _).trans hlb
    have R2 : Hid ((wb.alloc (.cells (boolC mNone) 30)).there wb.heap.size 0 (boolC m).size) := thereB (Blk.new wb _ _)
    go_wp2_with (refine wpList_store_mid (P := Tryd.prog) rfl 30 (.tmp 7) (.tmp 25) rfl wb.heap.size 0 (boolC m) rfl rfl R2.out (sizeB' _) (oneB _) ?_)
    obtain ⟨wf, hwf⟩ : ∃ wf, wf = (wb.alloc (.cells (boolC mNone) 30)).setCells wb.heap.size 0 (boolC m).toList := ⟨_, rfl⟩
    have R7 : wf.rangeAt wb.heap.size 0 (boolC m).toList := by rw [hwf]; exact World.rangeAt_setCells_same _ _ _ _ (by rw [Array.length_toList]; exact R2.out)
    have hwb : Later wb wf := by rw [hwf]; exact laterCells ((Later.refl wb).alloc _) _ _
    have B5 : Blk wf wa.heap.size 26 #[.int .u64 (word (m) 0 : Nat), .int .u64 (word (m) 1 : Nat), .int .u64 (word (m) 2 : Nat), .int .u64 (word (m) 3 : Nat)] := blkLater hwb B5
    have hlf : Later w wf := hlb.trans hwb
    rw [← hwf]
    clear hwf R2 hwb hla hlb hz hsz
    have hz0 := B5.cell 0
    have k50 : ∀ x : LW wf, x.val.cell? ⟨wa.heap.size, 0, none⟩ = some (.int .u64 (word (m) 0 : Nat)) := LW.cell_ (B5.cell 0)
    have k51 : ∀ x : LW wf, x.val.cell? ⟨wa.heap.size, 1, none⟩ = some (.int .u64 (word (m) 1 : Nat)) := LW.cell_ (B5.cell 1)
    have k52 : ∀ x : LW wf, x.val.cell? ⟨wa.heap.size, 2, none⟩ = some (.int .u64 (word (m) 2 : Nat)) := LW.cell_ (B5.cell 2)
    have k53 : ∀ x : LW wf, x.val.cell? ⟨wa.heap.size, 3, none⟩ = some (.int .u64 (word (m) 3 : Nat)) := LW.cell_ (B5.cell 3)
    have hR7 := Lib.hid R7
    clear hz0 B5 R7
    refine wp_region_laterq (by kernel_rfl) (by kernel_rfl) ?_
    repeat (first
      | (go_big_quiet_want; (refine quiet_load_long 30 (.tmp 7) rfl wb.heap.size 0 rfl _ _ hR7.out Tryd.underlying30 rfl (sizeB _) ?_); (simp only [Act.put, List.setIfInBounds_toArray, List.set_cons_zero, List.set_cons_succ]); go_big_quiet_on)
      | go_big_quiet_step ((first
          | (go_at_call 7; (with_reducible refine Calls.laterq (clsKnown_any _)))
          | (go_at_call 8; (with_reducible refine Calls.laterq (packed_l m _))))))
    refine wpQuiet_nil ?_
    intro _ hwq
    obtain ⟨xz, rfl⟩ := hwq
    have hlf : Later w xz.val := hlf.trans xz.later
    go_wp2_with fail
    go_ret
    exact ⟨rfl, hlf⟩

set_option maxRecDepth 100000 in
set_option maxHeartbeats 8000000 in
theorem classNamed_name (s0 : ByteArray) (k : Int) (w : World) (hN : NamesAt w) (hk : (k.tmod 2 == 0) = true) :
    Calls Tryd.prog 3 #[.string s0, .int .i64 k] w fun e w' => e = .returned (.bool true) ∧ Later w w' := by
  obtain ⟨j, hj, hj13⟩ := pick_nat (wrap64 (k.tdiv 2)) 13 (by decide)
  obtain ⟨sn, hsn, hcell⟩ := hN.at_ (k := j) (by omega)
  obtain ⟨s, hse⟩ : ∃ s, s = bstr sn := ⟨_, rfl⟩
  have hs : s.size ≤ 140737488355328 := by rw [hse]; show sn.toArray.size ≤ _; rw [List.size_toArray]; omega
  rw [← hse] at hcell
  have hji : (j : Int) < 13 := by omega
  clear hse hsn hj13
  obtain ⟨hz, hsz⟩ := zero_set
  cases hc : classOf s.data.toList with
  | none =>
    have keq : ∀ w, (Op.equalIn 10000 26 (.agg #[.int .u64 0, .int .u64 0, .int .u64 0, .int .u64 0]) (.agg #[.int .u64 0, .int .u64 0, .int .u64 0, .int .u64 0])).run Tryd.prog w = .ok true w := fun w => run_eq_set 0 0 0 0 0 0 0 0 w
    have HC := Lib.hid hc
    clear hc
    go_enter Tryd.func3, Tryd.ntmps3
    go_wp2_with fail
    refine (pick_at (wrap64 (k.tdiv 2)) 13 (j : Int) _ (by decide) (by decide) hj).mono ?_
    rintro e w' ⟨rfl, rfl⟩
    go_wp2_with fail
    refine (named_none s _ hs HC.out).mono ?_
    rintro e wa ⟨rfl, hla⟩
    go_wp2_with fail
    refine (refNamed_none s HC.out _).mono ?_
    rintro e wb ⟨rfl, hlb⟩
    have B5 : Blk wb wa.heap.size 26 #[.int .u64 0, .int .u64 0, .int .u64 0, .int .u64 0] := blkLater hlb (Blk.new wa _ _)
    have hlb : Later w wb := (hla.alloc _).trans hlb
    have R2 : Hid ((wb.alloc (.cells (boolC mNone) 30)).there wb.heap.size 0 (boolC mNone).size) := thereB (Blk.new wb _ _)
    go_wp2_with (refine wpList_store_mid (P := Tryd.prog) rfl 30 (.tmp 7) (.tmp 25) rfl wb.heap.size 0 (boolC mNone) rfl rfl R2.out (sizeB' _) (oneB _) ?_)
    obtain ⟨wf, hwf⟩ : ∃ wf, wf = (wb.alloc (.cells (boolC mNone) 30)).setCells wb.heap.size 0 (boolC mNone).toList := ⟨_, rfl⟩
    have R7 : wf.rangeAt wb.heap.size 0 (boolC mNone).toList := by rw [hwf]; exact World.rangeAt_setCells_same _ _ _ _ (by rw [Array.length_toList]; exact R2.out)
    have hwb : Later wb wf := by rw [hwf]; exact laterCells ((Later.refl wb).alloc _) _ _
    have B5 : Blk wf wa.heap.size 26 #[.int .u64 0, .int .u64 0, .int .u64 0, .int .u64 0] := blkLater hwb B5
    have hlf : Later w wf := hlb.trans hwb
    rw [← hwf]
    clear hwf R2 hwb hla hlb hz hsz
    have hz0 := B5.cell 0
    have k50 : ∀ x : LW wf, x.val.cell? ⟨wa.heap.size, 0, none⟩ = some (.int .u64 0) := LW.cell_ (B5.cell 0)
    have k51 : ∀ x : LW wf, x.val.cell? ⟨wa.heap.size, 1, none⟩ = some (.int .u64 0) := LW.cell_ (B5.cell 1)
    have k52 : ∀ x : LW wf, x.val.cell? ⟨wa.heap.size, 2, none⟩ = some (.int .u64 0) := LW.cell_ (B5.cell 2)
    have k53 : ∀ x : LW wf, x.val.cell? ⟨wa.heap.size, 3, none⟩ = some (.int .u64 0) := LW.cell_ (B5.cell 3)
    have hR7 := Lib.hid R7
    clear hz0 B5 R7
    refine wp_region_laterq (by kernel_rfl) (by kernel_rfl) ?_
    repeat (first
      | (go_big_quiet_want; (refine quiet_load_long 30 (.tmp 7) rfl wb.heap.size 0 rfl _ _ hR7.out Tryd.underlying30 rfl (sizeB _) ?_); (simp only [Act.put, List.setIfInBounds_toArray, List.set_cons_zero, List.set_cons_succ]); go_big_quiet_on)
      | go_big_quiet_step ((first
          | (go_at_call 7; (with_reducible refine Calls.laterq (clsKnown_any _)))
          | (go_at_call 8; (with_reducible refine Calls.laterq (packed_l mNone _))))))
    refine wpQuiet_nil ?_
    intro _ hwq
    obtain ⟨xz, rfl⟩ := hwq
    have hlf : Later w xz.val := hlf.trans xz.later
    go_wp2_with fail
    go_ret
    exact ⟨rfl, hlf⟩
  | some m =>
    have keq := run_eq_set
    have HC := Lib.hid hc
    clear hc
    go_enter Tryd.func3, Tryd.ntmps3
    go_wp2_with fail
    refine (pick_at (wrap64 (k.tdiv 2)) 13 (j : Int) _ (by decide) (by decide) hj).mono ?_
    rintro e w' ⟨rfl, rfl⟩
    go_wp2_with fail
    refine (named_set s m _ hs HC.out).mono ?_
    rintro e wa ⟨rfl, hla⟩
    go_wp2_with fail
    refine (refNamed_some s m HC.out _).mono ?_
    rintro e wb ⟨rfl, hlb⟩
    have B5 : Blk wb wa.heap.size 26 #[.int .u64 (word (m) 0 : Nat), .int .u64 (word (m) 1 : Nat), .int .u64 (word (m) 2 : Nat), .int .u64 (word (m) 3 : Nat)] := blkLater hlb (Blk.new wa _ _)
    have hlb : Later w wb := (hla.alloc _).trans hlb
    have R2 : Hid ((wb.alloc (.cells (boolC mNone) 30)).there wb.heap.size 0 (boolC m).size) := thereB (Blk.new wb _ _)
    go_wp2_with (refine wpList_store_mid (P := Tryd.prog) rfl 30 (.tmp 7) (.tmp 25) rfl wb.heap.size 0 (boolC m) rfl rfl R2.out (sizeB' _) (oneB _) ?_)
    obtain ⟨wf, hwf⟩ : ∃ wf, wf = (wb.alloc (.cells (boolC mNone) 30)).setCells wb.heap.size 0 (boolC m).toList := ⟨_, rfl⟩
    have R7 : wf.rangeAt wb.heap.size 0 (boolC m).toList := by rw [hwf]; exact World.rangeAt_setCells_same _ _ _ _ (by rw [Array.length_toList]; exact R2.out)
    have hwb : Later wb wf := by rw [hwf]; exact laterCells ((Later.refl wb).alloc _) _ _
    have B5 : Blk wf wa.heap.size 26 #[.int .u64 (word (m) 0 : Nat), .int .u64 (word (m) 1 : Nat), .int .u64 (word (m) 2 : Nat), .int .u64 (word (m) 3 : Nat)] := blkLater hwb B5
    have hlf : Later w wf := hlb.trans hwb
    rw [← hwf]
    clear hwf R2 hwb hla hlb hz hsz
    have hz0 := B5.cell 0
    have k50 : ∀ x : LW wf, x.val.cell? ⟨wa.heap.size, 0, none⟩ = some (.int .u64 (word (m) 0 : Nat)) := LW.cell_ (B5.cell 0)
    have k51 : ∀ x : LW wf, x.val.cell? ⟨wa.heap.size, 1, none⟩ = some (.int .u64 (word (m) 1 : Nat)) := LW.cell_ (B5.cell 1)
    have k52 : ∀ x : LW wf, x.val.cell? ⟨wa.heap.size, 2, none⟩ = some (.int .u64 (word (m) 2 : Nat)) := LW.cell_ (B5.cell 2)
    have k53 : ∀ x : LW wf, x.val.cell? ⟨wa.heap.size, 3, none⟩ = some (.int .u64 (word (m) 3 : Nat)) := LW.cell_ (B5.cell 3)
    have hR7 := Lib.hid R7
    clear hz0 B5 R7
    refine wp_region_laterq (by kernel_rfl) (by kernel_rfl) ?_
    repeat (first
      | (go_big_quiet_want; (refine quiet_load_long 30 (.tmp 7) rfl wb.heap.size 0 rfl _ _ hR7.out Tryd.underlying30 rfl (sizeB _) ?_); (simp only [Act.put, List.setIfInBounds_toArray, List.set_cons_zero, List.set_cons_succ]); go_big_quiet_on)
      | go_big_quiet_step ((first
          | (go_at_call 7; (with_reducible refine Calls.laterq (clsKnown_any _)))
          | (go_at_call 8; (with_reducible refine Calls.laterq (packed_l m _))))))
    refine wpQuiet_nil ?_
    intro _ hwq
    obtain ⟨xz, rfl⟩ := hwq
    have hlf : Later w xz.val := hlf.trans xz.later
    go_wp2_with fail
    go_ret
    exact ⟨rfl, hlf⟩

theorem classNamed_any (s : ByteArray) (k : Int) (w : World) (hs : s.size ≤ 140737488355328) (hN : NamesAt w) :
    Calls Tryd.prog 3 #[.string s, .int .i64 k] w fun e w' => e = .returned (.bool true) ∧ Later w w' := by
  cases hk : (k.tmod 2 == 0) with
  | true => exact classNamed_name s k w hN hk
  | false => exact classNamed_own s k w hs hk

end Go.Proofs.YthmjnelnnhidkaaDoor
