/-
  The document's Plain: a set's 256 bools.
-/
import Derived.Test.YthmjnelnnhidkaaBoolRow
namespace Go.Proofs.Ythmjnelnnhidkaa
open Go.RowKit

theorem plain_bit (p : Mem) (b r : Nat) (hr : b % 64 = r) (i : Nat) (hi : b / 64 = i) : (((word p i : Int) / 2 ^ r).tmod 2 == 1) = p b := by
  have h := word_has p b
  rw [hr, hi] at h
  obtain ⟨m, hm⟩ : ∃ m : Nat, m = word p i / 2 ^ r := ⟨_, rfl⟩
  have e : ((word p i : Int) / 2 ^ r) = (m : Int) := by rw [hm, Int.natCast_ediv, Int.natCast_pow]; rfl
  rw [← hm] at h
  rw [e, Int.tmod_eq_emod_of_nonneg (by omega)]
  cases hp : p b
  · rw [hp] at h
    have : (m : Int) % 2 = 0 := by simp only [Bool.toNat_false] at h; omega
    rw [this]
    rfl
  · rw [hp] at h
    have : (m : Int) % 2 = 1 := by simp only [Bool.toNat_true] at h; omega
    rw [this]
    rfl

set_option maxHeartbeats 2000000 in
theorem plain_any (p : Mem) (w : World) :
    Calls Try.prog 21 #[setV p] w fun e w' => e = .returned (.agg (boolC p)) ∧ Later w w' := by
  obtain ⟨hz, hsz⟩ := zero_set
  unfold setV
  go_enter Try.func21, Try.ntmps21
  unfold setC
  go_wp2_with fail
  go_loopw [4] (fun i wr => ∃ k : Nat, k ≤ 256 ∧ i = .int .i64 (k : Int) ∧ Blk wr w.heap.size 24 (setC p) ∧ Blk wr (w.heap.size + 2) 36 (boolC (mLow p k)) ∧ Blk wr (w.heap.size + 1) 36 (boolC mNone) ∧ Later w wr) (fun i _ => 256 - (intOf i).toNat)
  case atStart => exact ⟨0, by omega, rfl, ((Blk.new w _ _).alloc _).alloc _, by rw [boolC_ext (mLow p 0) mNone (fun b _ => by unfold mLow; rfl)]; exact blk_at (by simp), (blk_at (by simp)).alloc _, (((Later.refl w).alloc _).alloc _).alloc _⟩
  case round =>
    obtain ⟨k, hk, rfl, h0, h1, h3, hl⟩ := hrel
    by_cases hlt : k < 256
    · have hlti : (k : Int) < 256 := by omega
      have hst := Lib.hid (boolC_step p k hlt)
      have c1 : wr.cell? ⟨w.heap.size + 2, k, none⟩ = some (.bool (mLow p k k)) := by rw [h1.cell, boolC_get _ hlt]
      have f1 := h1.frozen k
      obtain ⟨r, hr⟩ : ∃ r, k % 64 = r := ⟨_, rfl⟩
      have hr1 : (k : Int) % 64 = (r : Int) := by omega
      have hrl : r < 64 := by omega
      have h4 : k / 64 = 0 ∨ k / 64 = 1 ∨ k / 64 = 2 ∨ k / 64 = 3 := by omega
      rcases h4 with h4 | h4 | h4 | h4
      · have hq : (k : Int) / 64 = 0 := by omega
        have E := Lib.hid (plain_bit p k r hr 0 h4)
        have c0 : wr.cell? ⟨w.heap.size, 0, none⟩ = some (.int .u64 (word p 0 : Nat)) := h0.cell 0
        have E := E.out
        clear h4 hr
        go_wp2_with fail
        go_roundw
        case rel => exact ⟨k + 1, by omega, by go_num, h0.far (by show w.heap.size ≠ w.heap.size + 2; omega) _, by rw [← hst.out]; exact h1.set_ k _, h3.far (by show w.heap.size + 1 ≠ w.heap.size + 2; omega) _, Later.setCell hl (by show w.heap.size ≤ w.heap.size + 2; omega) _⟩
        case measure => simp [intOf]; omega
      · have hq : (k : Int) / 64 = 1 := by omega
        have E := Lib.hid (plain_bit p k r hr 1 h4)
        have c0 : wr.cell? ⟨w.heap.size, 1, none⟩ = some (.int .u64 (word p 1 : Nat)) := h0.cell 1
        have E := E.out
        clear h4 hr
        go_wp2_with fail
        go_roundw
        case rel => exact ⟨k + 1, by omega, by go_num, h0.far (by show w.heap.size ≠ w.heap.size + 2; omega) _, by rw [← hst.out]; exact h1.set_ k _, h3.far (by show w.heap.size + 1 ≠ w.heap.size + 2; omega) _, Later.setCell hl (by show w.heap.size ≤ w.heap.size + 2; omega) _⟩
        case measure => simp [intOf]; omega
      · have hq : (k : Int) / 64 = 2 := by omega
        have E := Lib.hid (plain_bit p k r hr 2 h4)
        have c0 : wr.cell? ⟨w.heap.size, 2, none⟩ = some (.int .u64 (word p 2 : Nat)) := h0.cell 2
        have E := E.out
        clear h4 hr
        go_wp2_with fail
        go_roundw
        case rel => exact ⟨k + 1, by omega, by go_num, h0.far (by show w.heap.size ≠ w.heap.size + 2; omega) _, by rw [← hst.out]; exact h1.set_ k _, h3.far (by show w.heap.size + 1 ≠ w.heap.size + 2; omega) _, Later.setCell hl (by show w.heap.size ≤ w.heap.size + 2; omega) _⟩
        case measure => simp [intOf]; omega
      · have hq : (k : Int) / 64 = 3 := by omega
        have E := Lib.hid (plain_bit p k r hr 3 h4)
        have c0 : wr.cell? ⟨w.heap.size, 3, none⟩ = some (.int .u64 (word p 3 : Nat)) := h0.cell 3
        have E := E.out
        clear h4 hr
        go_wp2_with fail
        go_roundw
        case rel => exact ⟨k + 1, by omega, by go_num, h0.far (by show w.heap.size ≠ w.heap.size + 2; omega) _, by rw [← hst.out]; exact h1.set_ k _, h3.far (by show w.heap.size + 1 ≠ w.heap.size + 2; omega) _, Later.setCell hl (by show w.heap.size ≤ w.heap.size + 2; omega) _⟩
        case measure => simp [intOf]; omega
    · obtain rfl : k = 256 := by omega
      have he : boolC (mLow p 256) = boolC p := boolC_ext _ _ fun b hb => by unfold mLow; rw [decide_eq_true hb, Bool.true_and]
      rw [he] at h1
      clear he
      have R1 : Hid (wr.rangeAt (w.heap.size + 2) 0 (boolC p).toList) := rangeB h1
      have R2 : Hid (wr.there (w.heap.size + 1) 0 (boolC p).size) := thereB h3
      go_wp2_with (first
        | (refine wpList_load_mid (P := Try.prog) rfl 36 (.tmp 3) rfl (w.heap.size + 2) 0 rfl (boolC p).toList _ R1.out Try.underlying36 rfl (sizeB p) ?_)
        | (refine wpList_store_mid (P := Try.prog) rfl 36 (.tmp 2) (.tmp 21) rfl (w.heap.size + 1) 0 (boolC p) rfl rfl R2.out (sizeB' p) (oneB p) ?_))
      have hld := run_loadVar_mid (P := Try.prog) _ (w.heap.size + 1) 0 36 (boolC p).toList _ (World.rangeAt_setCells_same wr (w.heap.size + 1) 0 (boolC p).toList (by rw [Array.length_toList]; exact R2.out)) Try.underlying36 rfl (sizeB p)
      rw [Array.toArray_toList] at hld
      refine bodyPost_ret (v := .agg (boolC p)) ?_ rfl ⟨rfl, laterCellsG hl (Nat.le_succ _) _ _⟩
      simp [results, Try.results21, Act.put, asAddr, hld]

end Go.Proofs.Ythmjnelnnhidkaa
