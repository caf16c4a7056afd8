/-
  The document's Named: a set as 256 bools.
-/
import Derived.Test.YthmjnelnnhidkaaDoorRefNamed
import Derived.Test.YthmjnelnnhidkaaDoorBoolRow
namespace Go.Proofs.YthmjnelnnhidkaaDoor
open Go.RowKit

theorem blkLat {w w' : World} {g : Nat} {t : TypeId} {cs : Array Value} (hl : Later w w') (h : Blk w g t cs) : Blk w' g t cs := h.below hl h.lt

set_option maxHeartbeats 1000000 in
theorem refNamed_any (s : ByteArray) (w : World) :
    Calls Tryd.prog 6 #[.string s] w fun e w' => e = .returned (.tuple #[.agg (boolC ((classOf s.data.toList).getD mNone)), .bool (classOf s.data.toList).isSome]) ∧ Later w w' := by
  obtain ⟨hz, hsz⟩ := zero_set
  obtain ⟨m, hm⟩ : ∃ m, m = (classOf s.data.toList).getD mNone := ⟨_, rfl⟩
  obtain ⟨ok, hok⟩ : ∃ ok, ok = (classOf s.data.toList).isSome := ⟨_, rfl⟩
  have hI : ∀ (b : Nat) (_hb : b < 256) (w : World), Calls Tryd.prog 12 #[.string s, .int .i64 (b : Int)] w fun e w' => e = .returned (.tuple #[.bool (m b), .bool ok]) ∧ Later w w' := fun b hb w => by rw [hm, hok]; exact is_any s b hb w
  rw [← hm, ← hok]
  have HI := Lib.hid hI
  clear hm hok hI
  go_enter Tryd.func6, Tryd.ntmps6
  go_wp2_with fail
  go_loopw [5, 6] (fun x i wr => ∃ (k : Nat) (o : Bool), k ≤ 256 ∧ i = .int .i64 (k : Int) ∧ x = .bool o ∧ (0 < k → Hid (o = ok)) ∧ Blk wr (w.heap.size + 1) 30 (boolC (mLow m k)) ∧ Blk wr w.heap.size 30 (boolC mNone) ∧ Later w wr) (fun _ i _ => 256 - (intOf i).toNat)
  case atStart => exact ⟨0, false, by omega, rfl, rfl, fun h => absurd h (by omega), by rw [boolC_ext (mLow m 0) mNone (fun b _ => by unfold mLow; rfl)]; exact blk_at (by simp), (Blk.new w _ _).alloc _, ((Later.refl w).alloc _).alloc _⟩
  case round =>
    obtain ⟨k, o, hk, rfl, rfl, ho, h1, h3, hl⟩ := hrel
    by_cases hlt : k < 256
    · have hlti : (k : Int) < 256 := by omega
      have hst := Lib.hid (boolC_step m k hlt)
      clear ho
      go_wp2_with fail
      refine (HI.out k hlt _).mono ?_
      rintro e w1 ⟨rfl, hl1⟩
      have h1 := blkLat hl1 h1
      have h3 := blkLat hl1 h3
      have hl := hl.trans hl1
      have c1 : w1.cell? ⟨w.heap.size + 1, k, none⟩ = some (.bool (mLow m k k)) := by rw [h1.cell, boolC_get _ hlt]
      have f1 := h1.frozen k
      go_wp2_with fail
      go_roundw
      case rel => exact ⟨k + 1, ok, by omega, by go_num, rfl, fun _ => rfl, by rw [← hst.out]; exact h1.set_ k _, h3.far (by simp) _, Later.setCell hl (Nat.le_succ _) _⟩
      case measure => simp [intOf]; omega
    · obtain rfl : k = 256 := by omega
      have he : boolC (mLow m 256) = boolC m := boolC_ext _ _ fun b hb => by unfold mLow; rw [decide_eq_true hb, Bool.true_and]
      rw [he] at h1
      obtain rfl : o = ok := (ho (by omega)).out
      clear he ho
      have R1 : Hid (wr.rangeAt (w.heap.size + 1) 0 (boolC m).toList) := rangeB h1
      have R2 : Hid (wr.there w.heap.size 0 (boolC m).size) := thereB h3
      go_wp2_with (first
        | (refine wpList_load_mid (P := Tryd.prog) rfl 30 (.tmp 4) rfl (w.heap.size + 1) 0 rfl (boolC m).toList _ R1.out Tryd.underlying30 rfl (sizeB m) ?_)
        | (refine wpList_store_mid (P := Tryd.prog) rfl 30 (.tmp 2) (.tmp 19) rfl w.heap.size 0 (boolC m) rfl rfl R2.out (sizeB' m) (oneB m) ?_))
      have hld := run_loadVar_mid (P := Tryd.prog) _ w.heap.size 0 30 (boolC m).toList _ (World.rangeAt_setCells_same wr w.heap.size 0 (boolC m).toList (by rw [Array.length_toList]; exact R2.out)) Tryd.underlying30 rfl (sizeB m)
      rw [Array.toArray_toList] at hld
      refine bodyPost_ret (v := .tuple #[.agg (boolC m), .bool o]) ?_ rfl ⟨rfl, laterCells hl _ _⟩
      simp [results, Tryd.results6, asAddr, hld]

end Go.Proofs.YthmjnelnnhidkaaDoor
