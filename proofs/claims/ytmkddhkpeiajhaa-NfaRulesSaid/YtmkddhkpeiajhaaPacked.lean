/-
  The document's sets: 256 bools; packed into four words.
-/
import Derived.Test.YtmkddhkpeiajhaaSetWalk2
import Derived.Deep.MidRow
import Derived.Deep.WholeRow
namespace Go.Proofs.Ytmkddhkpeiajhaa
open Go.RowKit

/-- a set as 256 bools -/
def boolC (p : Mem) : Array Value := ((List.range 256).map fun b => Value.bool (p b)).toArray
theorem boolC_size (p : Mem) : (boolC p).size = 256 := by simp [boolC]
theorem boolC_get (p : Mem) {k : Nat} (hk : k < 256) : (boolC p)[k]? = some (.bool (p k)) := by
  unfold boolC
  rw [List.getElem?_toArray, List.getElem?_map, List.getElem?_range hk]
  rfl

/-- the first k of a set -/
def mLow (p : Mem) (k : Nat) : Mem := fun b => decide (b < k) && p b
theorem mLow_yes (p : Mem) (k : Nat) (h : p k = true) : mLow p (k + 1) = mWith (mLow p k) k := by
  funext b
  unfold mLow mWith
  rw [Bool.eq_iff_iff]
  simp only [Bool.and_eq_true, Bool.or_eq_true, decide_eq_true_eq, beq_iff_eq]
  constructor
  · rintro ⟨h1, h2⟩
    by_cases e : b = k
    · exact .inr e
    · exact .inl ⟨by omega, h2⟩
  · rintro (⟨h1, h2⟩ | rfl)
    · exact ⟨by omega, h2⟩
    · exact ⟨by omega, h⟩
theorem mLow_no (p : Mem) (k : Nat) (h : p k = false) : mLow p (k + 1) = mLow p k := by
  funext b
  unfold mLow
  rw [Bool.eq_iff_iff]
  simp only [Bool.and_eq_true, decide_eq_true_eq]
  constructor
  · rintro ⟨h1, h2⟩
    refine ⟨?_, h2⟩
    by_cases e : b = k
    · subst e; rw [h] at h2; cases h2
    · omega
  · rintro ⟨h1, h2⟩
    exact ⟨by omega, h2⟩
theorem mLow_zero (p : Mem) : setC (mLow p 0) = #[.int .u64 0, .int .u64 0, .int .u64 0, .int .u64 0] := by
  rw [← setC_none]
  exact setC_ext _ _ fun i _ => nbits_congr fun j _ => by show (_ && _) = false; simp
theorem mLow_all (p : Mem) : setC (mLow p 256) = setC p := setC_ext _ _ fun i _ => nbits_congr fun j _ => by
  show (decide _ && _) = _
  rw [decide_eq_true (by omega), Bool.true_and]

theorem with_set {w : World} {g : Nat} {t : TypeId} (p : Mem) (b i : Nat) (hi : b / 64 = i) (h : Blk w g t (setC p)) : Blk (w.setCell ⟨g, i, none⟩ (.int .u64 (word (mWith p b) i : Nat))) g t (setC (mWith p b)) := by
  have hs := h.set_ i (.int .u64 (word (mWith p b) i : Nat))
  have e : (setC p).setIfInBounds i (.int .u64 (word (mWith p b) i : Nat)) = setC (mWith p b) := by
    have ho : ∀ j, j ≠ i → word (mWith p b) j = word p j := fun j hj => word_other p b j (by rw [hi]; exact hj)
    unfold setC
    by_cases h0 : i = 0
    · subst h0; rw [ho 1 (by omega), ho 2 (by omega), ho 3 (by omega)]; rfl
    · by_cases h1 : i = 1
      · subst h1; rw [ho 0 (by omega), ho 2 (by omega), ho 3 (by omega)]; rfl
      · by_cases h2 : i = 2
        · subst h2; rw [ho 0 (by omega), ho 1 (by omega), ho 3 (by omega)]; rfl
        · by_cases h3 : i = 3
          · subst h3; rw [ho 0 (by omega), ho 1 (by omega), ho 2 (by omega)]; rfl
          · rw [ho 0 (by omega), ho 1 (by omega), ho 2 (by omega), ho 3 (by omega)]
            apply Array.ext'
            rw [Array.toList_setIfInBounds, List.set_eq_of_length_le (by simp; omega)]
  rwa [e] at hs

set_option maxHeartbeats 2000000 in
theorem packed_any (p : Mem) (w : World) :
    Calls Try.prog 20 #[.agg (boolC p)] w fun e w' => e = .returned (setV p) ∧ Later w w' := by
  go_enter Try.func20, Try.ntmps20
  go_wp2
  go_loopw [4] (fun i wr => ∃ k : Nat, k ≤ 256 ∧ i = .int .i64 (k : Int) ∧ Blk wr w.heap.size 58 (boolC p) ∧ Blk wr (w.heap.size + 2) 27 (setC (mLow p k)) ∧ Blk wr (w.heap.size + 1) 27 #[.int .u64 0, .int .u64 0, .int .u64 0, .int .u64 0] ∧ Later w wr) (fun i _ => 256 - (intOf i).toNat)
  case atStart => exact ⟨0, by omega, rfl, ((Blk.new w _ _).alloc _).alloc _, by rw [mLow_zero]; exact blk_at (by simp), (blk_at (by simp)).alloc _, (((Later.refl w).alloc _).alloc _).alloc _⟩
  case round =>
    obtain ⟨k, hk, rfl, h0, h1, h3, hl⟩ := hrel
    by_cases hlt : k < 256
    · have hlti : (k : Int) < 256 := by omega
      have c0 : wr.cell? ⟨w.heap.size, k, none⟩ = some (.bool (p k)) := by rw [h0.cell, boolC_get p hlt]
      obtain ⟨r, hr⟩ : ∃ r, k % 64 = r := ⟨_, rfl⟩
      have hr1 : (k : Int) % 64 = (r : Int) := by omega
      have hrl : r < 64 := by omega
      have hwd := word_with (mLow p k) k
      rw [hr] at hwd
      clear hr
      cases hpk : p k with
      | true =>
        rw [hpk] at c0
        have hpk' := Lib.hid hpk
        clear hpk
        have h4 : k / 64 = 0 ∨ k / 64 = 1 ∨ k / 64 = 2 ∨ k / 64 = 3 := by omega
        rcases h4 with h4 | h4 | h4 | h4
        · have hq : (k : Int) / 64 = 0 := by omega
          have hqn : k / 64 = 0 := h4
          rw [hqn] at hwd
          have E := or_bit _ r _ (word_lt (mLow p k) 0) hrl hwd
          have cx : wr.cell? ⟨w.heap.size + 2, 0, none⟩ = some (.int .u64 (word (mLow p k) 0 : Nat)) := h1.cell 0
          have fx := h1.frozen 0
          have hs := with_set (mLow p k) k 0 hqn h1
          clear hqn h4 hwd
          go_wp2
          go_roundw
          case rel => exact ⟨k + 1, by omega, by go_num, h0.far (by show w.heap.size ≠ w.heap.size + 2; omega) _, by rw [mLow_yes p k hpk'.out]; exact hs, h3.far (by show w.heap.size + 1 ≠ w.heap.size + 2; omega) _, Later.setCell hl (by show w.heap.size ≤ w.heap.size + 2; omega) _⟩
          case measure => simp [intOf]; omega
        · have hq : (k : Int) / 64 = 1 := by omega
          have hqn : k / 64 = 1 := h4
          rw [hqn] at hwd
          have E := or_bit _ r _ (word_lt (mLow p k) 1) hrl hwd
          have cx : wr.cell? ⟨w.heap.size + 2, 1, none⟩ = some (.int .u64 (word (mLow p k) 1 : Nat)) := h1.cell 1
          have fx := h1.frozen 1
          have hs := with_set (mLow p k) k 1 hqn h1
          clear hqn h4 hwd
          go_wp2
          go_roundw
          case rel => exact ⟨k + 1, by omega, by go_num, h0.far (by show w.heap.size ≠ w.heap.size + 2; omega) _, by rw [mLow_yes p k hpk'.out]; exact hs, h3.far (by show w.heap.size + 1 ≠ w.heap.size + 2; omega) _, Later.setCell hl (by show w.heap.size ≤ w.heap.size + 2; omega) _⟩
          case measure => simp [intOf]; omega
        · have hq : (k : Int) / 64 = 2 := by omega
          have hqn : k / 64 = 2 := h4
          rw [hqn] at hwd
          have E := or_bit _ r _ (word_lt (mLow p k) 2) hrl hwd
          have cx : wr.cell? ⟨w.heap.size + 2, 2, none⟩ = some (.int .u64 (word (mLow p k) 2 : Nat)) := h1.cell 2
          have fx := h1.frozen 2
          have hs := with_set (mLow p k) k 2 hqn h1
          clear hqn h4 hwd
          go_wp2
          go_roundw
          case rel => exact ⟨k + 1, by omega, by go_num, h0.far (by show w.heap.size ≠ w.heap.size + 2; omega) _, by rw [mLow_yes p k hpk'.out]; exact hs, h3.far (by show w.heap.size + 1 ≠ w.heap.size + 2; omega) _, Later.setCell hl (by show w.heap.size ≤ w.heap.size + 2; omega) _⟩
          case measure => simp [intOf]; omega
        · have hq : (k : Int) / 64 = 3 := by omega
          have hqn : k / 64 = 3 := h4
          rw [hqn] at hwd
          have E := or_bit _ r _ (word_lt (mLow p k) 3) hrl hwd
          have cx : wr.cell? ⟨w.heap.size + 2, 3, none⟩ = some (.int .u64 (word (mLow p k) 3 : Nat)) := h1.cell 3
          have fx := h1.frozen 3
          have hs := with_set (mLow p k) k 3 hqn h1
          clear hqn h4 hwd
          go_wp2
          go_roundw
          case rel => exact ⟨k + 1, by omega, by go_num, h0.far (by show w.heap.size ≠ w.heap.size + 2; omega) _, by rw [mLow_yes p k hpk'.out]; exact hs, h3.far (by show w.heap.size + 1 ≠ w.heap.size + 2; omega) _, Later.setCell hl (by show w.heap.size ≤ w.heap.size + 2; omega) _⟩
          case measure => simp [intOf]; omega
      | false =>
        rw [hpk] at c0
        have hpk' := Lib.hid hpk
        clear hpk hwd
        go_wp2
        go_roundw
        case rel => exact ⟨k + 1, by omega, by go_num, h0, by rw [mLow_no p k hpk'.out]; exact h1, h3, hl⟩
        case measure => simp [intOf]; omega
    · obtain rfl : k = 256 := by omega
      rw [mLow_all] at h1
      have g0 : wr.cell? ⟨w.heap.size + 2, 0, none⟩ = some (.int .u64 (word p 0 : Nat)) := h1.cell 0
      have g1 : wr.cell? ⟨w.heap.size + 2, 1, none⟩ = some (.int .u64 (word p 1 : Nat)) := h1.cell 1
      have g2 : wr.cell? ⟨w.heap.size + 2, 2, none⟩ = some (.int .u64 (word p 2 : Nat)) := h1.cell 2
      have g3 : wr.cell? ⟨w.heap.size + 2, 3, none⟩ = some (.int .u64 (word p 3 : Nat)) := h1.cell 3
      have e0 : wr.cell? ⟨w.heap.size + 1, 0, none⟩ = some (.int .u64 0) := h3.cell 0
      have e1 : wr.cell? ⟨w.heap.size + 1, 1, none⟩ = some (.int .u64 0) := h3.cell 1
      have e2 : wr.cell? ⟨w.heap.size + 1, 2, none⟩ = some (.int .u64 0) := h3.cell 2
      have e3 : wr.cell? ⟨w.heap.size + 1, 3, none⟩ = some (.int .u64 0) := h3.cell 3
      have f0 := h3.frozen 0
      have f1 := h3.frozen 1
      have f2 := h3.frozen 2
      have f3 := h3.frozen 3
      go_wp2
      exact bodyPost_ret (v := .agg (setC p)) (by simp [results, Try.results20, go_sem, setC, e0, e1, e2, e3]) rfl ⟨rfl, (by repeat (first | exact hl | (refine Later.setCell ?_ (by show w.heap.size ≤ w.heap.size + 1; omega) _)))⟩

end Go.Proofs.Ytmkddhkpeiajhaa
