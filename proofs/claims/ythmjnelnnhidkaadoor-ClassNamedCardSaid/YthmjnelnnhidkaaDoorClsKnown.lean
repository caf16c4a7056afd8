/-
  Law 8's known, and the contracts of package class's functions as the laws meet them.
-/
import Derived.Test.YthmjnelnnhidkaaDoorBrk5
import Derived.Test.YthmjnelnnhidkaaDoorClsFacts
import Derived.Test.YthmjnelnnhidkaaDoorSetEq
namespace Go.Proofs.YthmjnelnnhidkaaDoor
open Go.RowKit

theorem bracket_set (s : ByteArray) (a : Int) (m m' : Mem) (e : Nat) (w : World) (hs : s.size ≤ 140737488355328) (h : bracketF s.data.toList a = some (m, e)) (hm : ∀ b, b < 256 → m b = m' b) :
    Calls Tryd.prog 13 #[.string s, .int .i64 a] w fun r w' => r = .returned (.tuple #[.agg #[.int .u64 (word (m') 0 : Nat), .int .u64 (word (m') 1 : Nat), .int .u64 (word (m') 2 : Nat), .int .u64 (word (m') 3 : Nat)], .int .i64 (e : Int), .bool true]) ∧ Later w w' :=
  (bracket_any s a w hs).mono fun r w' hr => by
    rw [h] at hr
    refine ⟨?_, hr.2⟩
    have h0 := word_congr hm (i := 0) (by omega)
    have h1 := word_congr hm (i := 1) (by omega)
    have h2 := word_congr hm (i := 2) (by omega)
    have h3 := word_congr hm (i := 3) (by omega)
    rw [← h0, ← h1, ← h2, ← h3]
    exact hr.1
theorem bracket_no (s : ByteArray) (a : Int) (w : World) (hs : s.size ≤ 140737488355328) (h : bracketF s.data.toList a = none) :
    Calls Tryd.prog 13 #[.string s, .int .i64 a] w fun r w' => r = .returned (.tuple #[.agg #[.int .u64 0, .int .u64 0, .int .u64 0, .int .u64 0], .int .i64 0, .bool false]) ∧ Later w w' :=
  (bracket_any s a w hs).mono fun r w' hr => by
    rw [h] at hr
    exact hr
theorem count_at (p : Mem) (n : Int) (h : ((cntN p 256 : Nat) : Int) = n) (w : World) :
    Calls Tryd.prog 14 #[.agg #[.int .u64 (word (p) 0 : Nat), .int .u64 (word (p) 1 : Nat), .int .u64 (word (p) 2 : Nat), .int .u64 (word (p) 3 : Nat)]] w fun e w' => e = .returned (.int .i64 n) ∧ Later w w' := by
  subst h
  exact count_any p w
theorem has_at (p : Mem) (x : Int) (b : Bool) (h0 : 0 ≤ x) (h1 : x < 256) (h : p x.toNat = b) (w : World) :
    Calls Tryd.prog 15 #[.agg #[.int .u64 (word (p) 0 : Nat), .int .u64 (word (p) 1 : Nat), .int .u64 (word (p) 2 : Nat), .int .u64 (word (p) 3 : Nat)], .int .u8 x] w fun e w' => e = .returned (.bool b) ∧ Later w w' := by
  have hh := has_any p x.toNat (by omega) w
  rw [Int.toNat_of_nonneg h0, h] at hh
  exact hh
theorem named_set (s : ByteArray) (m : Mem) (w : World) (hs : s.size ≤ 140737488355328) (hm : classOf s.data.toList = some m) :
    Calls Tryd.prog 5 #[.string s] w fun e w' => e = .returned (.tuple #[.agg #[.int .u64 (word (m) 0 : Nat), .int .u64 (word (m) 1 : Nat), .int .u64 (word (m) 2 : Nat), .int .u64 (word (m) 3 : Nat)], .bool true]) ∧ Later w w' := named_at s w hs m true (by rw [hm]; rfl)
/-- a list of bytes that a statement has written out -/
theorem of_list (l : List UInt8) (n : Nat) (xs : Array Value) (hn : n = l.length) (hx : (bv l).toArray = xs) (hl : n ≤ 9223372036854775807) (w : World) :
    Calls Tryd.prog 11 #[.slice (some ⟨w.heap.size, 0, none⟩) n n] (w.alloc (.cells xs 5)) fun e w' => e = .returned (.agg #[.int .u64 (word (mOf l) 0 : Nat), .int .u64 (word (mOf l) 1 : Nat), .int .u64 (word (mOf l) 2 : Nat), .int .u64 (word (mOf l) 3 : Nat)]) ∧ Later w w' :=
  (of_at _ n n l _ (RdB.lit (by simp) hn hx) hl).mono fun e w' h => ⟨h.1, ((Later.refl w).alloc _).trans h.2⟩

theorem setS {w : World} {b : Nat} {p : Mem} (h : Blk w b 26 (setC p)) : w.cell? ⟨b, 0, none⟩ = some (.int .u64 (word (p) 0 : Nat)) ∧ w.cell? ⟨b, 1, none⟩ = some (.int .u64 (word (p) 1 : Nat)) ∧ w.cell? ⟨b, 2, none⟩ = some (.int .u64 (word (p) 2 : Nat)) ∧ w.cell? ⟨b, 3, none⟩ = some (.int .u64 (word (p) 3 : Nat)) := ⟨h.cell 0, h.cell 1, h.cell 2, h.cell 3⟩

theorem asBelow {P : Program} {f : Nat} {args : Array Value} {w : World} {v : Ending} (h : Calls P f args w fun e w' => e = v ∧ Later w w') : Calls P f args w fun e w' => e = v ∧ Below w.heap.size w w' := h
theorem hs53 : mSpan 48 57 (53 : Int).toNat = true := rfl
theorem hs97 : mSpan 48 57 (97 : Int).toNat = false := rfl
theorem of3 (w : World) : Calls Tryd.prog 11 #[.slice (some ⟨w.heap.size, 0, none⟩) 3 3] (w.alloc (.cells #[.int .u8 97, .int .u8 98, .int .u8 99] 5)) fun e w' => e = .returned (.agg #[.int .u64 (word (mOf [97, 98, 99]) 0 : Nat), .int .u64 (word (mOf [97, 98, 99]) 1 : Nat), .int .u64 (word (mOf [97, 98, 99]) 2 : Nat), .int .u64 (word (mOf [97, 98, 99]) 3 : Nat)]) ∧ Later w w' := of_list [97, 98, 99] 3 _ rfl rfl (by decide) w

set_option maxRecDepth 100000 in
set_option maxHeartbeats 4000000 in
theorem clsKnown_any (w : World) : Calls Tryd.prog 7 #[] w fun e w' => e = .returned (.bool true) ∧ Later w w' := by
  have keq := run_eq_set
  go_enter Tryd.func7, Tryd.ntmps7
  go_wp2_with fail
  refine (named_set ⟨#[100, 105, 103, 105, 116]⟩ (mSpan 48 57) _ (by decide) nm1).mono ?_
  rintro e wa ⟨rfl, hla⟩
  go_wp2_with fail
  refine (bracket_set ⟨#[97, 45, 99, 93, 120]⟩ 0 (mOr mNone (mSpan 97 99)) (mOf [97, 98, 99]) 4 _ (by decide) bk1 bq1).mono ?_
  rintro e wb ⟨rfl, hlb⟩
  have B1 : Blk wb wa.heap.size 26 (setC (mSpan 48 57)) := blkLater hlb (Blk.new wa _ _)
  have hs1 := B1.lt
  have hlb : Later wa wb := ((Later.refl wa).alloc _).trans hlb
  go_wp2_with fail
  obtain ⟨wc, hwc⟩ : ∃ wc, wc = wb.alloc (.cells #[.int .u64 (word (mOf [97, 98, 99]) 0 : Nat), .int .u64 (word (mOf [97, 98, 99]) 1 : Nat), .int .u64 (word (mOf [97, 98, 99]) 2 : Nat), .int .u64 (word (mOf [97, 98, 99]) 3 : Nat)] 26) := ⟨_, rfl⟩
  have B1 : Blk wc wa.heap.size 26 (setC (mSpan 48 57)) := by rw [hwc]; exact B1.alloc _
  have B3 : Blk wc wb.heap.size 26 (setC (mOf [97, 98, 99])) := by rw [hwc]; exact Blk.new wb _ _
  have hlc : Later w wc := by rw [hwc]; exact (hla.trans hlb).alloc _
  rw [← hwc]
  clear hwc hla hlb
  go_region_held_law (fun w' => (w'.cell? ⟨wa.heap.size, 0, none⟩ = some (.int .u64 (word (mSpan 48 57) 0 : Nat)) ∧ w'.cell? ⟨wa.heap.size, 1, none⟩ = some (.int .u64 (word (mSpan 48 57) 1 : Nat)) ∧ w'.cell? ⟨wa.heap.size, 2, none⟩ = some (.int .u64 (word (mSpan 48 57) 2 : Nat)) ∧ w'.cell? ⟨wa.heap.size, 3, none⟩ = some (.int .u64 (word (mSpan 48 57) 3 : Nat))) ∧ (w'.cell? ⟨wb.heap.size, 0, none⟩ = some (.int .u64 (word (mOf [97, 98, 99]) 0 : Nat)) ∧ w'.cell? ⟨wb.heap.size, 1, none⟩ = some (.int .u64 (word (mOf [97, 98, 99]) 1 : Nat)) ∧ w'.cell? ⟨wb.heap.size, 2, none⟩ = some (.int .u64 (word (mOf [97, 98, 99]) 2 : Nat)) ∧ w'.cell? ⟨wb.heap.size, 3, none⟩ = some (.int .u64 (word (mOf [97, 98, 99]) 3 : Nat)))) (exact ⟨setS (by repeat (first | (with_reducible assumption) | apply Blk.drew | apply Blk.alloc)), setS (by repeat (first | (with_reducible assumption) | apply Blk.drew | apply Blk.alloc))⟩)
    (((first
      | ((go_at_call 9; (with_reducible refine (span_int 97 99 (by decide) (by decide) (by decide) (by decide) _).mono ?_)); rintro e w1 ⟨rfl, hl1⟩)
      | ((go_at_call 14; (with_reducible refine (count_at (mSpan 97 99) 3 cn1 _).mono ?_)); rintro e w1 ⟨rfl, hl1⟩)
      | ((go_at_call 15; (first | (with_reducible refine (has_at (mSpan 48 57) 53 true (by decide) (by decide) hs53 _).mono ?_) | (with_reducible refine (has_at (mSpan 48 57) 97 false (by decide) (by decide) hs97 _).mono ?_))); rintro e w1 ⟨rfl, hl1⟩)
      | ((go_at_call 11; (with_reducible refine (of3 _).mono ?_)); rintro e w1 ⟨rfl, hl1⟩)); have B1 := blkLater hl1 (by repeat (first | exact B1 | apply Blk.drew | apply Blk.alloc)); have B3 := blkLater hl1 (by repeat (first | exact B3 | apply Blk.drew | apply Blk.alloc)); have hlc : Later w w1 := Later.trans (by repeat (first | exact hlc | apply Later.drew | apply Later.alloc)) hl1))
  all_goals
    go_wp2_with fail
    go_ret
    exact ⟨rfl, (by repeat (first | exact hlc | apply Later.drew | apply Later.alloc))⟩

end Go.Proofs.YthmjnelnnhidkaaDoor
