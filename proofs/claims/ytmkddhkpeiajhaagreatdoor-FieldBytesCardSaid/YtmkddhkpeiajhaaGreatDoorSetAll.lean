import Derived.Test.YtmkddhkpeiajhaaGreatDoorSetLaw
import Derived.Laws.Bits64b
import Derived.Test.YtmkddhkpeiajhaaGreatDoorBytes
import Derived.Outline
import Derived.Laws.BitsLemmas
import Derived.Test.YtmkddhkpeiajhaaGreatDoorChecked
import Derived.LoopTactic
namespace Go.Proofs.YtmkddhkpeiajhaaGreatDoor
open Go.RowKit
def setC (p : Mem) : Array Value := #[.int .u64 (word p 0 : Nat), .int .u64 (word p 1 : Nat), .int .u64 (word p 2 : Nat), .int .u64 (word p 3 : Nat)]
def setV (p : Mem) : Value := .agg (setC p)
theorem or_bit (x r y : Nat) (hx : x < 18446744073709551616) (hr : r < 64) (h : x ||| 2 ^ r = y) : bits .or .u64 (x : Int) (IntKind.u64.wrap (2 ^ r)) = (y : Int) := by
 have h2 : 2 ^ r < 18446744073709551616 := Nat.lt_of_lt_of_le (Nat.pow_lt_pow_right (by omega) hr) (by decide)
 have hi : (2 : Int) ^ r = ((2 ^ r : Nat) : Int) := by simp
 obtain ⟨m, hm⟩ : ∃ m : Nat, m = 2 ^ r := ⟨_, rfl⟩
 rw [← hm] at h h2 hi
 have e : IntKind.u64.wrap (m : Int) = (m : Int) := by rw [IntKind.wrap_u64]; omega
 rw [hi, e, bits_or_u64_nat x m hx h2, h]
theorem with_any (p : Mem) (b : Nat) (hb : b < 256) (w : World) :
  Calls Tryz.prog 141 #[setV p, .int .u8 (b : Int)] w fun e w' => e = .returned (setV (mWith p b)) ∧ Later w w' := by
 obtain ⟨r, hr⟩ : ∃ r, r = b % 64 := ⟨_, rfl⟩
 have hb0 : (0 : Int) ≤ (b : Int) := by omega
 have hb1 : (b : Int) ≤ 255 := by omega
 have hrl : r < 64 := by omega
 have hr1 : (b : Int) % 64 = (r : Int) := by omega
 have hw := word_with p b
 rw [← hr] at hw
 unfold setV setC
 have h4 : b / 64 = 0 ∨ b / 64 = 1 ∨ b / 64 = 2 ∨ b / 64 = 3 := by omega
 rcases h4 with h | h | h | h
 ·have hq : (b : Int) / 64 = 0 := by omega
  rw [h] at hw
  have E := or_bit _ r _ (word_lt p 0) hrl hw
  rw [word_other p b 1 (by omega), word_other p b 2 (by omega), word_other p b 3 (by omega)]
  clear h hr hw hb
  go_enter Tryz.func141, Tryz.ntmps141
  go_wp2
  exact bodyPost_ret (v := .agg #[.int .u64 (word (mWith p b) 0 : Nat), .int .u64 (word p 1 : Nat), .int .u64 (word p 2 : Nat), .int .u64 (word p 3 : Nat)]) (by simp [results, Tryz.results141, go_sem]) rfl ⟨rfl, ((Later.refl w).alloc _).alloc _⟩
 ·have hq : (b : Int) / 64 = 1 := by omega
  rw [h] at hw
  have E := or_bit _ r _ (word_lt p 1) hrl hw
  rw [word_other p b 0 (by omega), word_other p b 2 (by omega), word_other p b 3 (by omega)]
  clear h hr hw hb
  go_enter Tryz.func141, Tryz.ntmps141
  go_wp2
  exact bodyPost_ret (v := .agg #[.int .u64 (word p 0 : Nat), .int .u64 (word (mWith p b) 1 : Nat), .int .u64 (word p 2 : Nat), .int .u64 (word p 3 : Nat)]) (by simp [results, Tryz.results141, go_sem]) rfl ⟨rfl, ((Later.refl w).alloc _).alloc _⟩
 ·have hq : (b : Int) / 64 = 2 := by omega
  rw [h] at hw
  have E := or_bit _ r _ (word_lt p 2) hrl hw
  rw [word_other p b 0 (by omega), word_other p b 1 (by omega), word_other p b 3 (by omega)]
  clear h hr hw hb
  go_enter Tryz.func141, Tryz.ntmps141
  go_wp2
  exact bodyPost_ret (v := .agg #[.int .u64 (word p 0 : Nat), .int .u64 (word p 1 : Nat), .int .u64 (word (mWith p b) 2 : Nat), .int .u64 (word p 3 : Nat)]) (by simp [results, Tryz.results141, go_sem]) rfl ⟨rfl, ((Later.refl w).alloc _).alloc _⟩
 ·have hq : (b : Int) / 64 = 3 := by omega
  rw [h] at hw
  have E := or_bit _ r _ (word_lt p 3) hrl hw
  rw [word_other p b 0 (by omega), word_other p b 1 (by omega), word_other p b 2 (by omega)]
  clear h hr hw hb
  go_enter Tryz.func141, Tryz.ntmps141
  go_wp2
  exact bodyPost_ret (v := .agg #[.int .u64 (word p 0 : Nat), .int .u64 (word p 1 : Nat), .int .u64 (word p 2 : Nat), .int .u64 (word (mWith p b) 3 : Nat)]) (by simp [results, Tryz.results141, go_sem]) rfl ⟨rfl, ((Later.refl w).alloc _).alloc _⟩
theorem has_bit (p : Mem) (b r : Nat) (hr : r = b % 64) (i : Nat) (hi : b / 64 = i) : (bits .and .u64 ((word p i : Int) / 2 ^ r) 1 == 1) = p b := by
 have h := word_has p b
 rw [← hr, hi] at h
 obtain ⟨m, hm⟩ : ∃ m : Nat, m = word p i / 2 ^ r := ⟨_, rfl⟩
 have e : ((word p i : Int) / 2 ^ r) = (m : Int) := by rw [hm, Int.natCast_ediv, Int.natCast_pow]; rfl
 have hl : m < 18446744073709551616 := by rw [hm]; exact Nat.lt_of_le_of_lt (Nat.div_le_self _ _) (word_lt p i)
 rw [← hm] at h
 rw [e, and_one_u64 _ (by omega) (by omega)]
 cases hp : p b
 ·rw [hp] at h
  have : (m : Int) % 2 = 0 := by simp only [Bool.toNat_false] at h; omega
  rw [this]
  rfl
 ·rw [hp] at h
  have : (m : Int) % 2 = 1 := by simp only [Bool.toNat_true] at h; omega
  rw [this]
  rfl
theorem has_any (p : Mem) (b : Nat) (hb : b < 256) (w : World) :
  Calls Tryz.prog 86 #[setV p, .int .u8 (b : Int)] w fun e w' => e = .returned (.bool (p b)) ∧ Later w w' := by
 obtain ⟨r, hr⟩ : ∃ r, r = b % 64 := ⟨_, rfl⟩
 have hb0 : (0 : Int) ≤ (b : Int) := by omega
 have hb1 : (b : Int) ≤ 255 := by omega
 have hrl : r < 64 := by omega
 have hr1 : (b : Int) % 64 = (r : Int) := by omega
 unfold setV setC
 have h4 : b / 64 = 0 ∨ b / 64 = 1 ∨ b / 64 = 2 ∨ b / 64 = 3 := by omega
 rcases h4 with h | h | h | h
 ·have hq : (b : Int) / 64 = 0 := by omega
  have E := has_bit p b r hr 0 h
  clear h hr hb
  go_enter Tryz.func86, Tryz.ntmps86
  go_wp2
  go_ret
  exact ⟨rfl, (Later.refl w).alloc _⟩
 ·have hq : (b : Int) / 64 = 1 := by omega
  have E := has_bit p b r hr 1 h
  clear h hr hb
  go_enter Tryz.func86, Tryz.ntmps86
  go_wp2
  go_ret
  exact ⟨rfl, (Later.refl w).alloc _⟩
 ·have hq : (b : Int) / 64 = 2 := by omega
  have E := has_bit p b r hr 2 h
  clear h hr hb
  go_enter Tryz.func86, Tryz.ntmps86
  go_wp2
  go_ret
  exact ⟨rfl, (Later.refl w).alloc _⟩
 ·have hq : (b : Int) / 64 = 3 := by omega
  have E := has_bit p b r hr 3 h
  clear h hr hb
  go_enter Tryz.func86, Tryz.ntmps86
  go_wp2
  go_ret
  exact ⟨rfl, (Later.refl w).alloc _⟩
def mUpto (p q : Mem) (k : Nat) : Mem := fun b => if b < 64 * k then q b else p b
theorem upto_word (p q : Mem) (k i : Nat) : word (mUpto p q k) i = if i < k then word q i else word p i := by
 by_cases h : i < k
 ·rw [if_pos h]
  exact nbits_congr fun j hj => if_pos (by omega)
 ·rw [if_neg h]
  exact nbits_congr fun j hj => if_neg (by omega)
theorem setC_get (p : Mem) {k : Nat} (hk : k < 4) : (setC p)[k]? = some (.int .u64 (word p k : Nat)) := by
 have : k = 0 ∨ k = 1 ∨ k = 2 ∨ k = 3 := by omega
 rcases this with rfl | rfl | rfl | rfl <;> rfl
theorem setC_ext (p q : Mem) (h : ∀ i, i < 4 → word p i = word q i) : setC p = setC q := by
 unfold setC
 rw [h 0 (by omega), h 1 (by omega), h 2 (by omega), h 3 (by omega)]
theorem upto_none (p q : Mem) : setC (mUpto p q 0) = setC p := setC_ext _ _ fun i _ => by rw [upto_word, if_neg (by omega)]
theorem upto_all (p q : Mem) : setC (mUpto p q 4) = setC q := setC_ext _ _ fun i hi => by rw [upto_word, if_pos hi]
theorem upto_step (p q : Mem) {k : Nat} (hk : k < 4) : (setC (mUpto p q k)).setIfInBounds k (.int .u64 (word q k : Nat)) = setC (mUpto p q (k + 1)) := by
 have h : ∀ i, word (mUpto p q (k + 1)) i = if i = k then word q k else word (mUpto p q k) i := fun i => by
  rw [upto_word, upto_word]
  by_cases e : i = k
  ·subst e
   rw [if_pos (by omega), if_pos rfl]
  ·rw [if_neg e]
   by_cases e2 : i < k
   ·rw [if_pos (by omega), if_pos e2]
   ·rw [if_neg (by omega), if_neg e2]
 have : k = 0 ∨ k = 1 ∨ k = 2 ∨ k = 3 := by omega
 unfold setC
 rw [h, h, h, h]
 rcases this with rfl | rfl | rfl | rfl <;> rfl
theorem bits_or_word (p q : Mem) (i : Nat) : bits .or .u64 (word p i : Int) (word q i : Int) = ((word (mOr p q) i : Nat) : Int) := by
 rw [bits_or_u64_nat _ _ (word_lt p i) (word_lt q i), word_or]
theorem blk_at {w : World} {g : Nat} {t : TypeId} {cs : Array Value} (hg : g = w.heap.size) : Blk (w.alloc (.cells cs t)) g t cs := by subst hg; exact Blk.new _ _ _
theorem Later.setCell {w w1 : World} (h : Later w w1) {p : Addr} (hp : w.heap.size ≤ p.block) (v : Value) : Later w (w1.setCell p v) := Below.setCell h hp v
theorem or_any (p q : Mem) (w : World) :
  Calls Tryz.prog 140 #[setV p, setV q] w fun e w' => e = .returned (setV (mOr p q)) ∧ Later w w' := by
 unfold setV
 go_enter Tryz.func140, Tryz.ntmps140
 unfold setC
 go_wp2
 go_loopw [6] (fun i wr => ∃ k : Nat, k ≤ 4 ∧ i = .int .i64 (k : Int) ∧ Blk wr w.heap.size 95 (setC (mUpto p (mOr p q) k)) ∧ Blk wr (w.heap.size + 1) 95 (setC q) ∧ Blk wr (w.heap.size + 2) 95 #[.int .u64 0, .int .u64 0, .int .u64 0, .int .u64 0] ∧ Later w wr) (fun i _ => 4 - (intOf i).toNat)
 case atStart => exact ⟨0, by omega, rfl, by rw [upto_none]; exact ((Blk.new w _ _).alloc _).alloc _, (blk_at (by simp)).alloc _, blk_at (by simp), (((Later.refl w).alloc _).alloc _).alloc _⟩
 case round =>
  obtain ⟨k, hk, rfl, h1, h2, h3, hl⟩ := hrel
  by_cases hlt : k < 4
  ·have hlti : (k : Int) < 4 := by omega
   have c1 : wr.cell? ⟨w.heap.size, k, none⟩ = some (.int .u64 (word p k : Nat)) := by rw [h1.cell, setC_get _ hlt, upto_word, if_neg (by omega)]
   have c2 : wr.cell? ⟨w.heap.size + 1, k, none⟩ = some (.int .u64 (word q k : Nat)) := by rw [h2.cell, setC_get _ hlt]
   have f1 := h1.frozen k
   have E := bits_or_word p q k
   go_wp2
   go_region
   all_goals
    go_wp2
    go_roundw
    case rel => exact ⟨k + 1, by omega, by go_num, by rw [← upto_step p (mOr p q) hlt]; exact h1.set_ k _, h2.far (by simp) _, h3.far (by simp) _, (Later.setCell hl (Nat.le_refl _) _).drew⟩
    case measure => simp [intOf]; omega
  ·obtain rfl : k = 4 := by omega
   rw [upto_all] at h1
   have g0 := h1.cell 0
   have g1 := h1.cell 1
   have g2 := h1.cell 2
   have g3 := h1.cell 3
   rw [setC_get _ (by omega)] at g0 g1 g2 g3
   have e0 : wr.cell? ⟨w.heap.size + 2, 0, none⟩ = some (.int .u64 0) := h3.cell 0
   have e1 : wr.cell? ⟨w.heap.size + 2, 1, none⟩ = some (.int .u64 0) := h3.cell 1
   have e2 : wr.cell? ⟨w.heap.size + 2, 2, none⟩ = some (.int .u64 0) := h3.cell 2
   have e3 : wr.cell? ⟨w.heap.size + 2, 3, none⟩ = some (.int .u64 0) := h3.cell 3
   have f0 := h3.frozen 0
   have f1 := h3.frozen 1
   have f2 := h3.frozen 2
   have f3 := h3.frozen 3
   go_wp2
   exact bodyPost_ret (v := .agg (setC (mOr p q))) (by simp [results, Tryz.results140, go_sem, setC, e0, e1, e2, e3]) rfl ⟨rfl, (by repeat (first | exact hl | (refine Later.setCell ?_ (by show w.heap.size ≤ w.heap.size + 1 + 1; omega) _)))⟩
end Go.Proofs.YtmkddhkpeiajhaaGreatDoor
namespace Go.Proofs.YtmkddhkpeiajhaaGreatDoor
open Go.RowKit
theorem bits_not_word (p : Mem) (i : Nat) : bits .xor .u64 18446744073709551615 (word p i : Int) = ((word (mNot p) i : Nat) : Int) := by
 have h := bits_xor_u64_nat 18446744073709551615 (word p i) (by omega) (word_lt p i)
 rw [word_not] at h
 exact h
theorem not_any (p : Mem) (w : World) :
  Calls Tryz.prog 127 #[setV p] w fun e w' => e = .returned (setV (mNot p)) ∧ Later w w' := by
 unfold setV
 go_enter Tryz.func127, Tryz.ntmps127
 unfold setC
 go_wp2
 go_loopw [4] (fun i wr => ∃ k : Nat, k ≤ 4 ∧ i = .int .i64 (k : Int) ∧ Blk wr w.heap.size 95 (setC (mUpto p (mNot p) k)) ∧ Blk wr (w.heap.size + 1) 95 #[.int .u64 0, .int .u64 0, .int .u64 0, .int .u64 0] ∧ Later w wr) (fun i _ => 4 - (intOf i).toNat)
 case atStart => exact ⟨0, by omega, rfl, by rw [upto_none]; exact (Blk.new w _ _).alloc _, blk_at (by simp), ((Later.refl w).alloc _).alloc _⟩
 case round =>
  obtain ⟨k, hk, rfl, h1, h3, hl⟩ := hrel
  by_cases hlt : k < 4
  ·have hlti : (k : Int) < 4 := by omega
   have c1 : wr.cell? ⟨w.heap.size, k, none⟩ = some (.int .u64 (word p k : Nat)) := by rw [h1.cell, setC_get _ hlt, upto_word, if_neg (by omega)]
   have f1 := h1.frozen k
   have E : bits .xor .u64 (if IntKind.u64.signed = true then -1 else IntKind.u64.max) (word p k : Int) = ((word (mNot p) k : Nat) : Int) := bits_not_word p k
   go_wp2
   go_roundw
   case rel => exact ⟨k + 1, by omega, by go_num, by rw [← upto_step p (mNot p) hlt]; exact h1.set_ k _, h3.far (by simp) _, Later.setCell hl (Nat.le_refl _) _⟩
   case measure => simp [intOf]; omega
  ·obtain rfl : k = 4 := by omega
   rw [upto_all] at h1
   have g0 := h1.cell 0
   have g1 := h1.cell 1
   have g2 := h1.cell 2
   have g3 := h1.cell 3
   rw [setC_get _ (by omega)] at g0 g1 g2 g3
   have e0 : wr.cell? ⟨w.heap.size + 1, 0, none⟩ = some (.int .u64 0) := h3.cell 0
   have e1 : wr.cell? ⟨w.heap.size + 1, 1, none⟩ = some (.int .u64 0) := h3.cell 1
   have e2 : wr.cell? ⟨w.heap.size + 1, 2, none⟩ = some (.int .u64 0) := h3.cell 2
   have e3 : wr.cell? ⟨w.heap.size + 1, 3, none⟩ = some (.int .u64 0) := h3.cell 3
   have f0 := h3.frozen 0
   have f1 := h3.frozen 1
   have f2 := h3.frozen 2
   have f3 := h3.frozen 3
   go_wp2
   exact bodyPost_ret (v := .agg (setC (mNot p))) (by simp [results, Tryz.results127, go_sem, setC, e0, e1, e2, e3]) rfl ⟨rfl, (by repeat (first | exact hl | (refine Later.setCell ?_ (by show w.heap.size ≤ w.heap.size + 1; omega) _)))⟩
theorem with_at (p : Mem) (b : Nat) (hb : b < 256) (w : World) :
  Calls Tryz.prog 141 #[.agg #[.int .u64 (word p 0 : Nat), .int .u64 (word p 1 : Nat), .int .u64 (word p 2 : Nat), .int .u64 (word p 3 : Nat)], .int .u8 (b : Int)] w fun e w' => e = .returned (.agg #[.int .u64 (word (mWith p b) 0 : Nat), .int .u64 (word (mWith p b) 1 : Nat), .int .u64 (word (mWith p b) 2 : Nat), .int .u64 (word (mWith p b) 3 : Nat)]) ∧ Later w w' := with_any p b hb w
theorem mOf_snoc (l : List UInt8) (x : UInt8) : mOf (l ++ [x]) = mWith (mOf l) x.toNat := by
 funext b
 unfold mOf mWith
 rw [List.any_append]
 simp
theorem mOf_nil : mOf [] = mNone := rfl
theorem word_none (i : Nat) : word mNone i = 0 := by
 apply Nat.eq_of_testBit_eq
 intro j
 show (nbits _ 64).testBit j = _
 rw [nbits_bit]
 simp [mNone]
theorem setC_none : setC mNone = #[.int .u64 0, .int .u64 0, .int .u64 0, .int .u64 0] := by unfold setC; rw [word_none, word_none, word_none, word_none]; rfl
theorem of_any (A : Option Addr) (n c : Nat) (l : List UInt8) (w : World) (hr : RdB w w.heap.size A n l) (hn : n ≤ 9223372036854775807) :
  Calls Tryz.prog 129 #[.slice A n c] w fun e w' => e = .returned (setV (mOf l)) ∧ Later w w' := by
 have hlen := hr.len
 go_enter Tryz.func129, Tryz.ntmps129
 go_wp2
 go_loopw [8] (fun i wr => ∃ k : Nat, k ≤ n ∧ i = .int .i64 (k : Int) ∧ Blk wr (w.heap.size + 1) 95 (setC (mOf (l.take k))) ∧ Blk wr w.heap.size 95 #[.int .u64 0, .int .u64 0, .int .u64 0, .int .u64 0] ∧ Later w wr) (fun i _ => n - (intOf i).toNat)
 case atStart => exact ⟨0, by omega, rfl, by rw [List.take_zero, mOf_nil, setC_none]; exact blk_at (by simp), (Blk.new w _ _).alloc _, ((Later.refl w).alloc _).alloc _⟩
 case round =>
  obtain ⟨k, hk, rfl, h1, h3, hl⟩ := hrel
  by_cases hlt : k < n
  ·have hlti : (k : Int) < (n : Int) := by omega
   obtain ⟨b0, off, rfl, hb, hc1⟩ := (hr.below hl).at_ hlt
   obtain ⟨x, hx⟩ : ∃ x : UInt8, Hid (l[k]? = some x) := ⟨_, List.getElem?_eq_getElem (by rw [hlen]; exact hlt)⟩
   have hxe : l[k]?.getD 0 = x := by rw [hx.out]; rfl
   rw [hxe] at hc1
   have htk : mOf (l.take (k + 1)) = mWith (mOf (l.take k)) x.toNat := by
    obtain ⟨hkl, e⟩ := List.getElem?_eq_some_iff.1 hx.out
    rw [List.take_succ_eq_append_getElem hkl, e, mOf_snoc]
   obtain ⟨m, hm⟩ : ∃ m, m = mOf (l.take k) := ⟨_, rfl⟩
   rw [← hm] at htk h1
   have HT := Lib.hid htk
   have HL := Lib.hid hlen
   have hx0 := x.toNat_lt
   clear hxe htk hm hlen
   have g0 : wr.cell? ⟨w.heap.size + 1, 0, none⟩ = some (.int .u64 (word m 0 : Nat)) := h1.cell 0
   have g1 : wr.cell? ⟨w.heap.size + 1, 1, none⟩ = some (.int .u64 (word m 1 : Nat)) := h1.cell 1
   have g2 : wr.cell? ⟨w.heap.size + 1, 2, none⟩ = some (.int .u64 (word m 2 : Nat)) := h1.cell 2
   have g3 : wr.cell? ⟨w.heap.size + 1, 3, none⟩ = some (.int .u64 (word m 3 : Nat)) := h1.cell 3
   go_wp2_with ((with_reducible refine (with_at m x.toNat (by omega) _).mono ?_); rintro e w1 ⟨rfl, hl1⟩; have h1' := h1.below hl1 h1.lt; have k0 : w1.cell? ⟨w.heap.size + 1, 0, none⟩ = some (.int .u64 (word m 0 : Nat)) := h1'.cell 0; have k1 : w1.cell? ⟨w.heap.size + 1, 1, none⟩ = some (.int .u64 (word m 1 : Nat)) := h1'.cell 1; have k2 : w1.cell? ⟨w.heap.size + 1, 2, none⟩ = some (.int .u64 (word m 2 : Nat)) := h1'.cell 2; have k3 : w1.cell? ⟨w.heap.size + 1, 3, none⟩ = some (.int .u64 (word m 3 : Nat)) := h1'.cell 3; have f0 := h1'.frozen 0; have f1 := h1'.frozen 1; have f2 := h1'.frozen 2; have f3 := h1'.frozen 3)
   go_roundw
   case rel => exact ⟨k + 1, by omega, by go_num, by rw [HT.out]; exact (((h1'.set_ 0 _).set_ 1 _).set_ 2 _).set_ 3 _, ((((h3.below hl1 h3.lt).far (by simp) _).far (by simp) _).far (by simp) _).far (by simp) _, (by repeat (first | exact Later.trans hl hl1 | (refine Later.setCell ?_ (by show w.heap.size ≤ w.heap.size + 1; omega) _)))⟩
   case measure => simp [intOf]; omega
  ·obtain rfl : k = n := by omega
   rw [List.take_of_length_le (by omega)] at h1
   have g0 : wr.cell? ⟨w.heap.size + 1, 0, none⟩ = some (.int .u64 (word (mOf l) 0 : Nat)) := h1.cell 0
   have g1 : wr.cell? ⟨w.heap.size + 1, 1, none⟩ = some (.int .u64 (word (mOf l) 1 : Nat)) := h1.cell 1
   have g2 : wr.cell? ⟨w.heap.size + 1, 2, none⟩ = some (.int .u64 (word (mOf l) 2 : Nat)) := h1.cell 2
   have g3 : wr.cell? ⟨w.heap.size + 1, 3, none⟩ = some (.int .u64 (word (mOf l) 3 : Nat)) := h1.cell 3
   have e0 : wr.cell? ⟨w.heap.size, 0, none⟩ = some (.int .u64 0) := h3.cell 0
   have e1 : wr.cell? ⟨w.heap.size, 1, none⟩ = some (.int .u64 0) := h3.cell 1
   have e2 : wr.cell? ⟨w.heap.size, 2, none⟩ = some (.int .u64 0) := h3.cell 2
   have e3 : wr.cell? ⟨w.heap.size, 3, none⟩ = some (.int .u64 0) := h3.cell 3
   have f0 := h3.frozen 0
   have f1 := h3.frozen 1
   have f2 := h3.frozen 2
   have f3 := h3.frozen 3
   go_wp2
   exact bodyPost_ret (v := .agg (setC (mOf l))) (by simp [results, Tryz.results129, go_sem, setC, e0, e1, e2, e3]) rfl ⟨rfl, (by repeat (first | exact hl | (refine Later.setCell ?_ (Nat.le_refl _) _)))⟩
theorem mSpan_next (a _z k : Nat) (h : a ≤ k) : (fun b => decide (a ≤ b) && decide (b < k + 1) : Mem) = mWith (fun b => decide (a ≤ b) && decide (b < k)) k := by
 funext b
 show _ = (_ || _)
 rw [Bool.eq_iff_iff]
 simp only [Bool.and_eq_true, Bool.or_eq_true, decide_eq_true_eq, beq_iff_eq]
 omega
theorem span_any (a z : Nat) (ha : a < 256) (hz : z < 256) (w : World) :
  Calls Tryz.prog 150 #[.int .u8 (a : Int), .int .u8 (z : Int)] w fun e w' => e = .returned (setV (mSpan a z)) ∧ Later w w' := by
 have ha0 : (a : Int) ≤ 255 := by omega
 have hz0 : (z : Int) ≤ 255 := by omega
 go_enter Tryz.func150, Tryz.ntmps150
 go_wp2
 go_loopw [6] (fun i wr => ∃ k : Nat, a ≤ k ∧ (k = a ∨ k ≤ z + 1) ∧ i = .int .i64 (k : Int) ∧ Blk wr (w.heap.size + 1) 95 (setC (fun b => decide (a ≤ b) && decide (b < k))) ∧ Blk wr w.heap.size 95 #[.int .u64 0, .int .u64 0, .int .u64 0, .int .u64 0] ∧ Later w wr) (fun i _ => z + 1 - (intOf i).toNat)
 case atStart => exact ⟨a, by omega, .inl rfl, rfl, by rw [setC_ext _ mNone (fun i _ => nbits_congr fun j _ => by show (_ && _) = false; rw [Bool.and_eq_false_iff]; simp only [decide_eq_false_iff_not]; omega), setC_none]; exact blk_at (by simp), (Blk.new w _ _).alloc _, ((Later.refl w).alloc _).alloc _⟩
 case round =>
  obtain ⟨k, hk, hk2, rfl, h1, h3, hl⟩ := hrel
  by_cases hlt : k ≤ z
  ·have hlti : (k : Int) ≤ (z : Int) := by omega
   have hk5 : (k : Int) ≤ 255 := by omega
   have htk := mSpan_next a z k hk
   obtain ⟨m, hm⟩ : ∃ m : Mem, m = (fun b => decide (a ≤ b) && decide (b < k)) := ⟨_, rfl⟩
   rw [← hm] at htk h1
   have HT := Lib.hid htk
   clear htk hm
   have g0 : wr.cell? ⟨w.heap.size + 1, 0, none⟩ = some (.int .u64 (word m 0 : Nat)) := h1.cell 0
   have g1 : wr.cell? ⟨w.heap.size + 1, 1, none⟩ = some (.int .u64 (word m 1 : Nat)) := h1.cell 1
   have g2 : wr.cell? ⟨w.heap.size + 1, 2, none⟩ = some (.int .u64 (word m 2 : Nat)) := h1.cell 2
   have g3 : wr.cell? ⟨w.heap.size + 1, 3, none⟩ = some (.int .u64 (word m 3 : Nat)) := h1.cell 3
   go_wp2_with ((with_reducible refine (with_at m k (by omega) _).mono ?_); rintro e w1 ⟨rfl, hl1⟩; have h1' := h1.below hl1 h1.lt; have k0 : w1.cell? ⟨w.heap.size + 1, 0, none⟩ = some (.int .u64 (word m 0 : Nat)) := h1'.cell 0; have k1 : w1.cell? ⟨w.heap.size + 1, 1, none⟩ = some (.int .u64 (word m 1 : Nat)) := h1'.cell 1; have k2 : w1.cell? ⟨w.heap.size + 1, 2, none⟩ = some (.int .u64 (word m 2 : Nat)) := h1'.cell 2; have k3 : w1.cell? ⟨w.heap.size + 1, 3, none⟩ = some (.int .u64 (word m 3 : Nat)) := h1'.cell 3; have f0 := h1'.frozen 0; have f1 := h1'.frozen 1; have f2 := h1'.frozen 2; have f3 := h1'.frozen 3)
   go_roundw
   case rel => exact ⟨k + 1, by omega, .inr (by omega), by go_num, by rw [HT.out]; exact (((h1'.set_ 0 _).set_ 1 _).set_ 2 _).set_ 3 _, ((((h3.below hl1 h3.lt).far (by simp) _).far (by simp) _).far (by simp) _).far (by simp) _, (by repeat (first | exact Later.trans hl hl1 | (refine Later.setCell ?_ (by show w.heap.size ≤ w.heap.size + 1; omega) _)))⟩
   case measure => simp [intOf]; omega
  ·have hgti : ¬ (k : Int) ≤ (z : Int) := by omega
   have he : setC (fun b => decide (a ≤ b) && decide (b < k)) = setC (mSpan a z) := setC_ext _ _ fun i _ => nbits_congr fun j _ => by
    show (_ && _) = (_ && _)
    rw [Bool.eq_iff_iff]
    simp only [Bool.and_eq_true, decide_eq_true_eq]
    omega
   rw [he] at h1
   clear he
   have g0 : wr.cell? ⟨w.heap.size + 1, 0, none⟩ = some (.int .u64 (word (mSpan a z) 0 : Nat)) := h1.cell 0
   have g1 : wr.cell? ⟨w.heap.size + 1, 1, none⟩ = some (.int .u64 (word (mSpan a z) 1 : Nat)) := h1.cell 1
   have g2 : wr.cell? ⟨w.heap.size + 1, 2, none⟩ = some (.int .u64 (word (mSpan a z) 2 : Nat)) := h1.cell 2
   have g3 : wr.cell? ⟨w.heap.size + 1, 3, none⟩ = some (.int .u64 (word (mSpan a z) 3 : Nat)) := h1.cell 3
   have e0 : wr.cell? ⟨w.heap.size, 0, none⟩ = some (.int .u64 0) := h3.cell 0
   have e1 : wr.cell? ⟨w.heap.size, 1, none⟩ = some (.int .u64 0) := h3.cell 1
   have e2 : wr.cell? ⟨w.heap.size, 2, none⟩ = some (.int .u64 0) := h3.cell 2
   have e3 : wr.cell? ⟨w.heap.size, 3, none⟩ = some (.int .u64 0) := h3.cell 3
   have f0 := h3.frozen 0
   have f1 := h3.frozen 1
   have f2 := h3.frozen 2
   have f3 := h3.frozen 3
   go_wp2
   exact bodyPost_ret (v := .agg (setC (mSpan a z))) (by simp [results, Tryz.results150, go_sem, setC, e0, e1, e2, e3]) rfl ⟨rfl, (by repeat (first | exact hl | (refine Later.setCell ?_ (Nat.le_refl _) _)))⟩
end Go.Proofs.YtmkddhkpeiajhaaGreatDoor
namespace Go.Proofs.YtmkddhkpeiajhaaGreatDoor
open Go.RowKit
theorem run_eq_set (x0 x1 x2 x3 y0 y1 y2 y3 : Int) (w : World) : (Op.equalIn 10000 95 (.agg #[.int .u64 x0, .int .u64 x1, .int .u64 x2, .int .u64 x3]) (.agg #[.int .u64 y0, .int .u64 y1, .int .u64 y2, .int .u64 y3])).run Tryz.prog w = .ok ((x0 == y0) && ((x1 == y1) && ((x2 == y2) && (x3 == y3)))) w := by
 have hs : ∀ w : World, (sizeOf 70).run Tryz.prog w = .ok 1 w := fun _ => by kernel_rfl
 have hp0 : ∀ (a b c d : Value) (w : World), (part 70 #[a, b, c, d] 0).run Tryz.prog w = .ok a w := fun _ _ _ _ _ => by kernel_rfl
 have hp1 : ∀ (a b c d : Value) (w : World), (part 70 #[a, b, c, d] 1).run Tryz.prog w = .ok b w := fun _ _ _ _ _ => by kernel_rfl
 have hp2 : ∀ (a b c d : Value) (w : World), (part 70 #[a, b, c, d] 2).run Tryz.prog w = .ok c w := fun _ _ _ _ _ => by kernel_rfl
 have hp3 : ∀ (a b c d : Value) (w : World), (part 70 #[a, b, c, d] 3).run Tryz.prog w = .ok d w := fun _ _ _ _ _ => by kernel_rfl
 have he : ∀ (a b : Int) (w : World), (Op.equalIn 9999 70 (.int .u64 a) (.int .u64 b)).run Tryz.prog w = .ok (a == b) w := fun a b w => run_equalIn_int w 9998 _ .u64 .u64 a b Tryz.underlying70
 rw [Op.equalIn]
 simp only [Sem.run_bind, run_underlying Tryz.underlying95, Result.andThen_ok, hs]
 rw [Std.Legacy.Range.forIn_eq_forIn_range']
 rw [show List.range' [:4].start [:4].size [:4].step = [0, 1, 2, 3] from rfl]
 simp only [List.forIn_cons, List.forIn_nil, Sem.run_bind, Nat.mul_one, hp0, he, Result.andThen_ok]
 by_cases h0 : x0 = y0 <;> by_cases h1 : x1 = y1 <;> by_cases h2 : x2 = y2 <;> by_cases h3 : x3 = y3 <;> simp [h0, h1, h2, h3, hp1, hp2, hp3, he]
end Go.Proofs.YtmkddhkpeiajhaaGreatDoor
