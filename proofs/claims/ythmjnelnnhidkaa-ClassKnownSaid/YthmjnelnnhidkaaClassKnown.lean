/-
  Chapter 8's examples, by the contracts.
-/
import Derived.Test.YthmjnelnnhidkaaClsKnown
namespace Go.Proofs.Ythmjnelnnhidkaa
open Go.RowKit

theorem named_none (s : ByteArray) (w : World) (hs : s.size ≤ 140737488355328) (hm : classOf s.data.toList = none) :
    Calls Try.prog 14 #[.string s] w fun e w' => e = .returned (.tuple #[.agg #[.int .u64 0, .int .u64 0, .int .u64 0, .int .u64 0], .bool false]) ∧ Later w w' :=
  (named_any s w hs).mono fun e w' h => ⟨by rw [h.1, hm]; show Ending.returned (.tuple #[.agg (setC mNone), .bool false]) = _; rw [setC_none], h.2⟩
theorem hs45 : (mOr (mOr mNone (mSpan 48 57)) (mOf [45])) (45 : Int).toNat = true := rfl
theorem of2 (w : World) : Calls Try.prog 17 #[.slice (some ⟨w.heap.size, 0, none⟩) 2 2] (w.alloc (.cells #[.int .u8 93, .int .u8 97] 5)) fun e w' => e = .returned (.agg #[.int .u64 (word (mOf [93, 97]) 0 : Nat), .int .u64 (word (mOf [93, 97]) 1 : Nat), .int .u64 (word (mOf [93, 97]) 2 : Nat), .int .u64 (word (mOf [93, 97]) 3 : Nat)]) ∧ Later w w' := of_list [93, 97] 2 _ rfl rfl (by decide) w
theorem of1 (w : World) : Calls Try.prog 17 #[.slice (some ⟨w.heap.size, 0, none⟩) 1 1] (w.alloc (.cells #[.int .u8 93] 5)) fun e w' => e = .returned (.agg #[.int .u64 (word (mOf [93]) 0 : Nat), .int .u64 (word (mOf [93]) 1 : Nat), .int .u64 (word (mOf [93]) 2 : Nat), .int .u64 (word (mOf [93]) 3 : Nat)]) ∧ Later w w' := of_list [93] 1 _ rfl rfl (by decide) w

set_option maxRecDepth 100000 in
set_option maxHeartbeats 8000000 in
theorem classKnown_any (w : World) : Calls Try.prog 3 #[] w fun e w' => e = .returned (.bool true) ∧ Later w w' := by
  have keq := run_eq_set
  go_enter Try.func3, Try.ntmps3
  go_wp2_with fail
  refine (named_none ⟨#[119, 111, 114, 100]⟩ _ (by decide) nm2).mono ?_
  rintro e w1 ⟨rfl, hl1⟩
  go_wp2_with fail
  refine (bracket_set ⟨#[94, 93, 97, 93]⟩ 0 _ (mNot (mOf [93, 97])) 4 _ (by decide) bk2 bq2).mono ?_
  rintro e wa ⟨rfl, hla⟩
  have hla : Later w wa := (hl1.alloc _).trans hla
  go_wp2_with fail
  refine (bracket_set ⟨#[93, 93]⟩ 0 _ (mOf [93]) 2 _ (by decide) bk3 bq3).mono ?_
  rintro e wb ⟨rfl, hlb⟩
  have B1 : Blk wb wa.heap.size 24 (setC (mNot (mOf [93, 97]))) := blkLater hlb (Blk.new wa _ _)
  have hlb : Later w wb := (hla.alloc _).trans hlb
  go_wp2_with fail
  refine (bracket_set ⟨#[91, 58, 100, 105, 103, 105, 116, 58, 93, 45, 93]⟩ 0 _ (mOr (mOr mNone (mSpan 48 57)) (mOf [45])) 11 _ (by decide) bk4 (fun _ _ => rfl)).mono ?_
  rintro e wc ⟨rfl, hlc⟩
  have B1 : Blk wc wa.heap.size 24 (setC (mNot (mOf [93, 97]))) := blkLater hlc (B1.alloc _)
  have B2 : Blk wc wb.heap.size 24 (setC (mOf [93])) := blkLater hlc (Blk.new wb _ _)
  have hlc : Later w wc := (hlb.alloc _).trans hlc
  go_wp2_with fail
  refine (bracket_no ⟨#[122, 45, 97, 93]⟩ 0 _ (by decide) bk5).mono ?_
  rintro e wd ⟨rfl, hld⟩
  have B1 : Blk wd wa.heap.size 24 (setC (mNot (mOf [93, 97]))) := blkLater hld (B1.alloc _)
  have B2 : Blk wd wb.heap.size 24 (setC (mOf [93])) := blkLater hld (B2.alloc _)
  have B3 : Blk wd wc.heap.size 24 (setC (mOr (mOr mNone (mSpan 48 57)) (mOf [45]))) := blkLater hld (Blk.new wc _ _)
  have hld : Later w wd := (hlc.alloc _).trans hld
  go_wp2_with fail
  refine (bracket_no ⟨#[97, 98]⟩ 0 _ (by decide) bk6).mono ?_
  rintro e we ⟨rfl, hle⟩
  have B1 : Blk we wa.heap.size 24 (setC (mNot (mOf [93, 97]))) := blkLater hle (B1.alloc _)
  have B2 : Blk we wb.heap.size 24 (setC (mOf [93])) := blkLater hle (B2.alloc _)
  have B3 : Blk we wc.heap.size 24 (setC (mOr (mOr mNone (mSpan 48 57)) (mOf [45]))) := blkLater hle (B3.alloc _)
  have hle : Later w we := (hld.alloc _).trans hle
  go_wp2_with fail
  obtain ⟨wf, hwf⟩ : ∃ wf, wf = we.alloc (.cells #[.int .u64 0, .int .u64 0, .int .u64 0, .int .u64 0] 24) := ⟨_, rfl⟩
  have B1 : Blk wf wa.heap.size 24 (setC (mNot (mOf [93, 97]))) := by rw [hwf]; exact B1.alloc _
  have B2 : Blk wf wb.heap.size 24 (setC (mOf [93])) := by rw [hwf]; exact B2.alloc _
  have B3 : Blk wf wc.heap.size 24 (setC (mOr (mOr mNone (mSpan 48 57)) (mOf [45]))) := by rw [hwf]; exact B3.alloc _
  have hlf : Later w wf := by rw [hwf]; exact hle.alloc _
  rw [← hwf]
  clear hwf hla hlb hlc hld hle hl1
  go_region_held_law (fun w' => (w'.cell? ⟨wa.heap.size, 0, none⟩ = some (.int .u64 (word (mNot (mOf [93, 97])) 0 : Nat)) ∧ w'.cell? ⟨wa.heap.size, 1, none⟩ = some (.int .u64 (word (mNot (mOf [93, 97])) 1 : Nat)) ∧ w'.cell? ⟨wa.heap.size, 2, none⟩ = some (.int .u64 (word (mNot (mOf [93, 97])) 2 : Nat)) ∧ w'.cell? ⟨wa.heap.size, 3, none⟩ = some (.int .u64 (word (mNot (mOf [93, 97])) 3 : Nat))) ∧ (w'.cell? ⟨wb.heap.size, 0, none⟩ = some (.int .u64 (word (mOf [93]) 0 : Nat)) ∧ w'.cell? ⟨wb.heap.size, 1, none⟩ = some (.int .u64 (word (mOf [93]) 1 : Nat)) ∧ w'.cell? ⟨wb.heap.size, 2, none⟩ = some (.int .u64 (word (mOf [93]) 2 : Nat)) ∧ w'.cell? ⟨wb.heap.size, 3, none⟩ = some (.int .u64 (word (mOf [93]) 3 : Nat))) ∧ (w'.cell? ⟨wc.heap.size, 0, none⟩ = some (.int .u64 (word (mOr (mOr mNone (mSpan 48 57)) (mOf [45])) 0 : Nat)) ∧ w'.cell? ⟨wc.heap.size, 1, none⟩ = some (.int .u64 (word (mOr (mOr mNone (mSpan 48 57)) (mOf [45])) 1 : Nat)) ∧ w'.cell? ⟨wc.heap.size, 2, none⟩ = some (.int .u64 (word (mOr (mOr mNone (mSpan 48 57)) (mOf [45])) 2 : Nat)) ∧ w'.cell? ⟨wc.heap.size, 3, none⟩ = some (.int .u64 (word (mOr (mOr mNone (mSpan 48 57)) (mOf [45])) 3 : Nat)))) (exact ⟨setS (by repeat (first | (with_reducible assumption) | apply Blk.drew | apply Blk.alloc)), setS (by repeat (first | (with_reducible assumption) | apply Blk.drew | apply Blk.alloc)), setS (by repeat (first | (with_reducible assumption) | apply Blk.drew | apply Blk.alloc))⟩)
    (((first
      | ((go_at_call 16; (with_reducible refine (clsKnown_any _).mono ?_)); rintro e w1 ⟨rfl, hl1⟩)
      | ((go_at_call 19; (with_reducible refine (count_at (mOr (mOr mNone (mSpan 48 57)) (mOf [45])) 11 cn2 _).mono ?_)); rintro e w1 ⟨rfl, hl1⟩)
      | ((go_at_call 20; (with_reducible refine (has_at (mOr (mOr mNone (mSpan 48 57)) (mOf [45])) 45 true (by decide) (by decide) hs45 _).mono ?_)); rintro e w1 ⟨rfl, hl1⟩)
      | ((go_at_call 18; (with_reducible refine (not_at (mOf [93, 97]) _).mono ?_)); rintro e w1 ⟨rfl, hl1⟩)
      | ((go_at_call 17; (first | (with_reducible refine (of2 _).mono ?_) | (with_reducible refine (of1 _).mono ?_))); rintro e w1 ⟨rfl, hl1⟩)); have B1 := blkLater hl1 (by repeat (first | exact B1 | apply Blk.drew | apply Blk.alloc)); have B2 := blkLater hl1 (by repeat (first | exact B2 | apply Blk.drew | apply Blk.alloc)); have B3 := blkLater hl1 (by repeat (first | exact B3 | apply Blk.drew | apply Blk.alloc)); have hlf : Later w w1 := Later.trans (by repeat (first | exact hlf | apply Later.drew | apply Later.alloc)) hl1))
  all_goals
    go_wp2_with fail
    go_ret
    exact ⟨rfl, (by repeat (first | exact hlf | apply Later.drew | apply Later.alloc))⟩

end Go.Proofs.Ythmjnelnnhidkaa
