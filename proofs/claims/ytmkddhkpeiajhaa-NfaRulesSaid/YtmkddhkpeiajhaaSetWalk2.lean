/-
  The contracts of package class's sets: Not, Count, Of, Span.
-/
import Derived.Test.YtmkddhkpeiajhaaSetWalk
import Derived.LoopTactic
namespace Go.Proofs.Ytmkddhkpeiajhaa
open Go.RowKit

theorem bits_not_word (p : Mem) (i : Nat) : bits .xor .u64 18446744073709551615 (word p i : Int) = ((word (mNot p) i : Nat) : Int) := by
  have h := bits_xor_u64_nat 18446744073709551615 (word p i) (by omega) (word_lt p i)
  rw [word_not] at h
  exact h

theorem not_any (p : Mem) (w : World) :
    Calls Try.prog 51 #[setV p] w fun e w' => e = .returned (setV (mNot p)) ∧ Later w w' := by
  unfold setV
  go_enter Try.func51, Try.ntmps51
  unfold setC
  go_wp2
  go_loopw [4] (fun i wr => ∃ k : Nat, k ≤ 4 ∧ i = .int .i64 (k : Int) ∧ Blk wr w.heap.size 27 (setC (mUpto p (mNot p) k)) ∧ Blk wr (w.heap.size + 1) 27 #[.int .u64 0, .int .u64 0, .int .u64 0, .int .u64 0] ∧ Later w wr) (fun i _ => 4 - (intOf i).toNat)
  case atStart => exact ⟨0, by omega, rfl, by rw [upto_none]; exact (Blk.new w _ _).alloc _, blk_at (by simp), ((Later.refl w).alloc _).alloc _⟩
  case round =>
    obtain ⟨k, hk, rfl, h1, h3, hl⟩ := hrel
    by_cases hlt : k < 4
    · have hlti : (k : Int) < 4 := by omega
      have c1 : wr.cell? ⟨w.heap.size, k, none⟩ = some (.int .u64 (word p k : Nat)) := by rw [h1.cell, setC_get _ hlt, upto_word, if_neg (by omega)]
      have f1 := h1.frozen k
      have E : bits .xor .u64 (if IntKind.u64.signed = true then -1 else IntKind.u64.max) (word p k : Int) = ((word (mNot p) k : Nat) : Int) := bits_not_word p k
      go_wp2
      go_roundw
      case rel => exact ⟨k + 1, by omega, by go_num, by rw [← upto_step p (mNot p) hlt]; exact h1.set_ k _, h3.far (by simp) _, Later.setCell hl (Nat.le_refl _) _⟩
      case measure => simp [intOf]; omega
    · obtain rfl : k = 4 := by omega
      rw [upto_all] at h1
      have g0 := h1.cell 0
      have g1 := h1.cell 1
      have g2 := h1.cell 2
      have g3 := h1.cell 3
      rw [setC_get _ (by omega)] at g0 g1 g2 g3
      have e0 : wr.cell? ⟨w.heap.size + 1, 0, none⟩ = some (.int .u64 0) := h3.cell 0
      have e1 : wr.cell? ⟨w.heap.size + 1, 1, none⟩ = some (.int .u64 0) := h3.cell 1
      have e2 : wr.cell? ⟨w.heap.size + 1, 2, none⟩ = some (.int .u64 0) := h3.cell 2
      have e3 : wr.cell? ⟨w.heap.size + 1, 3, none⟩ = some (.int .u64 0) := h3.cell 3
      have f0 := h3.frozen 0
      have f1 := h3.frozen 1
      have f2 := h3.frozen 2
      have f3 := h3.frozen 3
      go_wp2
      exact bodyPost_ret (v := .agg (setC (mNot p))) (by simp [results, Try.results51, go_sem, setC, e0, e1, e2, e3]) rfl ⟨rfl, (by repeat (first | exact hl | (refine Later.setCell ?_ (by show w.heap.size ≤ w.heap.size + 1; omega) _)))⟩

def cntW (p : Mem) (i : Nat) : Nat := cntN (fun j => (word p i).testBit j) 64
theorem cntW_le (p : Mem) (i : Nat) : cntW p i ≤ 64 := by
  have := sumN_le (fun j => ((word p i).testBit j).toNat) 1 64 (fun j _ => by cases (word p i).testBit j <;> simp)
  unfold cntW cntN
  omega
theorem cntW_sum (p : Mem) : sumN (cntW p) 4 = cntN p 256 := by
  have := cnt_words p
  show 0 + cntW p 0 + cntW p 1 + cntW p 2 + cntW p 3 = _
  unfold cntW
  omega

theorem with_at (p : Mem) (b : Nat) (hb : b < 256) (w : World) :
    Calls Try.prog 60 #[.agg #[.int .u64 (word p 0 : Nat), .int .u64 (word p 1 : Nat), .int .u64 (word p 2 : Nat), .int .u64 (word p 3 : Nat)], .int .u8 (b : Int)] w fun e w' => e = .returned (.agg #[.int .u64 (word (mWith p b) 0 : Nat), .int .u64 (word (mWith p b) 1 : Nat), .int .u64 (word (mWith p b) 2 : Nat), .int .u64 (word (mWith p b) 3 : Nat)]) ∧ Later w w' := with_any p b hb w

theorem mOf_snoc (l : List UInt8) (x : UInt8) : mOf (l ++ [x]) = mWith (mOf l) x.toNat := by
  funext b
  unfold mOf mWith
  rw [List.any_append]
  simp
theorem mOf_nil : mOf [] = mNone := rfl
theorem word_none (i : Nat) : word mNone i = 0 := by
  apply Nat.eq_of_testBit_eq
  intro j
  show (nbits _ 64).testBit j = _
  rw [nbits_bit]
  simp [mNone]
theorem setC_none : setC mNone = #[.int .u64 0, .int .u64 0, .int .u64 0, .int .u64 0] := by unfold setC; rw [word_none, word_none, word_none, word_none]; rfl

theorem of_any (A : Option Addr) (n c : Nat) (l : List UInt8) (w : World) (hr : RdB w w.heap.size A n l) (hn : n ≤ 9223372036854775807) :
    Calls Try.prog 53 #[.slice A n c] w fun e w' => e = .returned (setV (mOf l)) ∧ Later w w' := by
  have hlen := hr.len
  go_enter Try.func53, Try.ntmps53
  go_wp2
  go_loopw [8] (fun i wr => ∃ k : Nat, k ≤ n ∧ i = .int .i64 (k : Int) ∧ Blk wr (w.heap.size + 1) 27 (setC (mOf (l.take k))) ∧ Blk wr w.heap.size 27 #[.int .u64 0, .int .u64 0, .int .u64 0, .int .u64 0] ∧ Later w wr) (fun i _ => n - (intOf i).toNat)
  case atStart => exact ⟨0, by omega, rfl, by rw [List.take_zero, mOf_nil, setC_none]; exact blk_at (by simp), (Blk.new w _ _).alloc _, ((Later.refl w).alloc _).alloc _⟩
  case round =>
    obtain ⟨k, hk, rfl, h1, h3, hl⟩ := hrel
    by_cases hlt : k < n
    · have hlti : (k : Int) < (n : Int) := by omega
      obtain ⟨b0, off, rfl, hb, hc1⟩ := (hr.below hl).at_ hlt
      obtain ⟨x, hx⟩ : ∃ x : UInt8, Hid (l[k]? = some x) := ⟨_, List.getElem?_eq_getElem (by rw [hlen]; exact hlt)⟩
      have hxe : l[k]?.getD 0 = x := by rw [hx.out]; rfl
      rw [hxe] at hc1
      have htk : mOf (l.take (k + 1)) = mWith (mOf (l.take k)) x.toNat := by
        obtain ⟨hkl, e⟩ := List.getElem?_eq_some_iff.1 hx.out
        rw [List.take_succ_eq_append_getElem hkl, e, mOf_snoc]
      obtain ⟨m, hm⟩ : ∃ m, m = mOf (l.take k) := ⟨_, rfl⟩
      rw [← hm] at htk h1
      have HT := Lib.hid htk
      have HL := Lib.hid hlen
      have hx0 := x.toNat_lt
      clear hxe htk hm hlen
      have g0 : wr.cell? ⟨w.heap.size + 1, 0, none⟩ = some (.int .u64 (word m 0 : Nat)) := h1.cell 0
      have g1 : wr.cell? ⟨w.heap.size + 1, 1, none⟩ = some (.int .u64 (word m 1 : Nat)) := h1.cell 1
      have g2 : wr.cell? ⟨w.heap.size + 1, 2, none⟩ = some (.int .u64 (word m 2 : Nat)) := h1.cell 2
      have g3 : wr.cell? ⟨w.heap.size + 1, 3, none⟩ = some (.int .u64 (word m 3 : Nat)) := h1.cell 3
      go_wp2_with ((with_reducible refine (with_at m x.toNat (by omega) _).mono ?_); rintro e w1 ⟨rfl, hl1⟩; have h1' := h1.below hl1 h1.lt; have k0 : w1.cell? ⟨w.heap.size + 1, 0, none⟩ = some (.int .u64 (word m 0 : Nat)) := h1'.cell 0; have k1 : w1.cell? ⟨w.heap.size + 1, 1, none⟩ = some (.int .u64 (word m 1 : Nat)) := h1'.cell 1; have k2 : w1.cell? ⟨w.heap.size + 1, 2, none⟩ = some (.int .u64 (word m 2 : Nat)) := h1'.cell 2; have k3 : w1.cell? ⟨w.heap.size + 1, 3, none⟩ = some (.int .u64 (word m 3 : Nat)) := h1'.cell 3; have f0 := h1'.frozen 0; have f1 := h1'.frozen 1; have f2 := h1'.frozen 2; have f3 := h1'.frozen 3)
      go_roundw
      case rel => exact ⟨k + 1, by omega, by go_num, by rw [HT.out]; exact (((h1'.set_ 0 _).set_ 1 _).set_ 2 _).set_ 3 _, ((((h3.below hl1 h3.lt).far (by simp) _).far (by simp) _).far (by simp) _).far (by simp) _, (by repeat (first | exact Later.trans hl hl1 | (refine Later.setCell ?_ (by show w.heap.size ≤ w.heap.size + 1; omega) _)))⟩
      case measure => simp [intOf]; omega
    · obtain rfl : k = n := by omega
      rw [List.take_of_length_le (by omega)] at h1
      have g0 : wr.cell? ⟨w.heap.size + 1, 0, none⟩ = some (.int .u64 (word (mOf l) 0 : Nat)) := h1.cell 0
      have g1 : wr.cell? ⟨w.heap.size + 1, 1, none⟩ = some (.int .u64 (word (mOf l) 1 : Nat)) := h1.cell 1
      have g2 : wr.cell? ⟨w.heap.size + 1, 2, none⟩ = some (.int .u64 (word (mOf l) 2 : Nat)) := h1.cell 2
      have g3 : wr.cell? ⟨w.heap.size + 1, 3, none⟩ = some (.int .u64 (word (mOf l) 3 : Nat)) := h1.cell 3
      have e0 : wr.cell? ⟨w.heap.size, 0, none⟩ = some (.int .u64 0) := h3.cell 0
      have e1 : wr.cell? ⟨w.heap.size, 1, none⟩ = some (.int .u64 0) := h3.cell 1
      have e2 : wr.cell? ⟨w.heap.size, 2, none⟩ = some (.int .u64 0) := h3.cell 2
      have e3 : wr.cell? ⟨w.heap.size, 3, none⟩ = some (.int .u64 0) := h3.cell 3
      have f0 := h3.frozen 0
      have f1 := h3.frozen 1
      have f2 := h3.frozen 2
      have f3 := h3.frozen 3
      go_wp2
      exact bodyPost_ret (v := .agg (setC (mOf l))) (by simp [results, Try.results53, go_sem, setC, e0, e1, e2, e3]) rfl ⟨rfl, (by repeat (first | exact hl | (refine Later.setCell ?_ (Nat.le_refl _) _)))⟩

theorem mSpan_next (a _z k : Nat) (h : a ≤ k) : (fun b => decide (a ≤ b) && decide (b < k + 1) : Mem) = mWith (fun b => decide (a ≤ b) && decide (b < k)) k := by
  funext b
  show _ = (_ || _)
  rw [Bool.eq_iff_iff]
  simp only [Bool.and_eq_true, Bool.or_eq_true, decide_eq_true_eq, beq_iff_eq]
  omega

theorem span_any (a z : Nat) (ha : a < 256) (hz : z < 256) (w : World) :
    Calls Try.prog 64 #[.int .u8 (a : Int), .int .u8 (z : Int)] w fun e w' => e = .returned (setV (mSpan a z)) ∧ Later w w' := by
  have ha0 : (a : Int) ≤ 255 := by omega
  have hz0 : (z : Int) ≤ 255 := by omega
  go_enter Try.func64, Try.ntmps64
  go_wp2
  go_loopw [6] (fun i wr => ∃ k : Nat, a ≤ k ∧ (k = a ∨ k ≤ z + 1) ∧ i = .int .i64 (k : Int) ∧ Blk wr (w.heap.size + 1) 27 (setC (fun b => decide (a ≤ b) && decide (b < k))) ∧ Blk wr w.heap.size 27 #[.int .u64 0, .int .u64 0, .int .u64 0, .int .u64 0] ∧ Later w wr) (fun i _ => z + 1 - (intOf i).toNat)
  case atStart => exact ⟨a, by omega, .inl rfl, rfl, by rw [setC_ext _ mNone (fun i _ => nbits_congr fun j _ => by show (_ && _) = false; rw [Bool.and_eq_false_iff]; simp only [decide_eq_false_iff_not]; omega), setC_none]; exact blk_at (by simp), (Blk.new w _ _).alloc _, ((Later.refl w).alloc _).alloc _⟩
  case round =>
    obtain ⟨k, hk, hk2, rfl, h1, h3, hl⟩ := hrel
    by_cases hlt : k ≤ z
    · have hlti : (k : Int) ≤ (z : Int) := by omega
      have hk5 : (k : Int) ≤ 255 := by omega
      have htk := mSpan_next a z k hk
      obtain ⟨m, hm⟩ : ∃ m : Mem, m = (fun b => decide (a ≤ b) && decide (b < k)) := ⟨_, rfl⟩
      rw [← hm] at htk h1
      have HT := Lib.hid htk
      clear htk hm
      have g0 : wr.cell? ⟨w.heap.size + 1, 0, none⟩ = some (.int .u64 (word m 0 : Nat)) := h1.cell 0
      have g1 : wr.cell? ⟨w.heap.size + 1, 1, none⟩ = some (.int .u64 (word m 1 : Nat)) := h1.cell 1
      have g2 : wr.cell? ⟨w.heap.size + 1, 2, none⟩ = some (.int .u64 (word m 2 : Nat)) := h1.cell 2
      have g3 : wr.cell? ⟨w.heap.size + 1, 3, none⟩ = some (.int .u64 (word m 3 : Nat)) := h1.cell 3
      go_wp2_with ((with_reducible refine (with_at m k (by omega) _).mono ?_); rintro e w1 ⟨rfl, hl1⟩; have h1' := h1.below hl1 h1.lt; have k0 : w1.cell? ⟨w.heap.size + 1, 0, none⟩ = some (.int .u64 (word m 0 : Nat)) := h1'.cell 0; have k1 : w1.cell? ⟨w.heap.size + 1, 1, none⟩ = some (.int .u64 (word m 1 : Nat)) := h1'.cell 1; have k2 : w1.cell? ⟨w.heap.size + 1, 2, none⟩ = some (.int .u64 (word m 2 : Nat)) := h1'.cell 2; have k3 : w1.cell? ⟨w.heap.size + 1, 3, none⟩ = some (.int .u64 (word m 3 : Nat)) := h1'.cell 3; have f0 := h1'.frozen 0; have f1 := h1'.frozen 1; have f2 := h1'.frozen 2; have f3 := h1'.frozen 3)
      go_roundw
      case rel => exact ⟨k + 1, by omega, .inr (by omega), by go_num, by rw [HT.out]; exact (((h1'.set_ 0 _).set_ 1 _).set_ 2 _).set_ 3 _, ((((h3.below hl1 h3.lt).far (by simp) _).far (by simp) _).far (by simp) _).far (by simp) _, (by repeat (first | exact Later.trans hl hl1 | (refine Later.setCell ?_ (by show w.heap.size ≤ w.heap.size + 1; omega) _)))⟩
      case measure => simp [intOf]; omega
    · have hgti : ¬ (k : Int) ≤ (z : Int) := by omega
      have he : setC (fun b => decide (a ≤ b) && decide (b < k)) = setC (mSpan a z) := setC_ext _ _ fun i _ => nbits_congr fun j _ => by
        show (_ && _) = (_ && _)
        rw [Bool.eq_iff_iff]
        simp only [Bool.and_eq_true, decide_eq_true_eq]
        omega
      rw [he] at h1
      clear he
      have g0 : wr.cell? ⟨w.heap.size + 1, 0, none⟩ = some (.int .u64 (word (mSpan a z) 0 : Nat)) := h1.cell 0
      have g1 : wr.cell? ⟨w.heap.size + 1, 1, none⟩ = some (.int .u64 (word (mSpan a z) 1 : Nat)) := h1.cell 1
      have g2 : wr.cell? ⟨w.heap.size + 1, 2, none⟩ = some (.int .u64 (word (mSpan a z) 2 : Nat)) := h1.cell 2
      have g3 : wr.cell? ⟨w.heap.size + 1, 3, none⟩ = some (.int .u64 (word (mSpan a z) 3 : Nat)) := h1.cell 3
      have e0 : wr.cell? ⟨w.heap.size, 0, none⟩ = some (.int .u64 0) := h3.cell 0
      have e1 : wr.cell? ⟨w.heap.size, 1, none⟩ = some (.int .u64 0) := h3.cell 1
      have e2 : wr.cell? ⟨w.heap.size, 2, none⟩ = some (.int .u64 0) := h3.cell 2
      have e3 : wr.cell? ⟨w.heap.size, 3, none⟩ = some (.int .u64 0) := h3.cell 3
      have f0 := h3.frozen 0
      have f1 := h3.frozen 1
      have f2 := h3.frozen 2
      have f3 := h3.frozen 3
      go_wp2
      exact bodyPost_ret (v := .agg (setC (mSpan a z))) (by simp [results, Try.results64, go_sem, setC, e0, e1, e2, e3]) rfl ⟨rfl, (by repeat (first | exact hl | (refine Later.setCell ?_ (Nat.le_refl _) _)))⟩

end Go.Proofs.Ytmkddhkpeiajhaa
