/-
  The contracts of package class's sets: with, Of, Span, Has, Or, Not, Count.
-/
import Derived.Test.YtmkddhkpeiajhaaKit
import Derived.Test.YtmkddhkpeiajhaaBrkLaw
import Derived.Laws.Bits64b
import Derived.Test.YtmkddhkpeiajhaaLater
import Derived.Outline
import Derived.Laws.BitsLemmas
import Derived.Test.YtmkddhkpeiajhaaChecked
namespace Go.Proofs.Ytmkddhkpeiajhaa
open Go.RowKit

theorem and_u64 {a b r : Nat} (h : a &&& b = r) (ha : a < 18446744073709551616) (hb : b < 18446744073709551616) : bits .and .u64 (a : Int) (b : Int) = (r : Int) := by
  rw [bits_and_u64_nat a b ha hb, h]
theorem wrap_u64_of {a b r : Nat} (h : a + b = r) (hr : r < 18446744073709551616) : IntKind.u64.wrap ((a : Int) + (b : Int)) = (r : Int) := by
  rw [IntKind.wrap_u64]; omega
theorem and_i64_127 (x : Nat) (hx : x < 9223372036854775808) : bits .and .i64 (x : Int) 127 = ((x % 128 : Nat) : Int) := by
  have h := bits_mask .i64 63 (by decide) (fun n h0 h1 => by rw [IntKind.wrap_i64]; omega) 7 (by omega) (x : Int) (by omega) (by omega)
  rw [show ((2 : Int) ^ 7 - 1) = 127 by decide, show ((2 : Int) ^ 7) = 128 by decide] at h
  omega

/-- a set's cells, and its value -/
def setC (p : Mem) : Array Value := #[.int .u64 (word p 0 : Nat), .int .u64 (word p 1 : Nat), .int .u64 (word p 2 : Nat), .int .u64 (word p 3 : Nat)]
def setV (p : Mem) : Value := .agg (setC p)

theorem or_bit (x r y : Nat) (hx : x < 18446744073709551616) (hr : r < 64) (h : x ||| 2 ^ r = y) : bits .or .u64 (x : Int) (IntKind.u64.wrap (2 ^ r)) = (y : Int) := by
  have h2 : 2 ^ r < 18446744073709551616 := Nat.lt_of_lt_of_le (Nat.pow_lt_pow_right (by omega) hr) (by decide)
  have hi : (2 : Int) ^ r = ((2 ^ r : Nat) : Int) := by simp
  obtain ⟨m, hm⟩ : ∃ m : Nat, m = 2 ^ r := ⟨_, rfl⟩
  rw [← hm] at h h2 hi
  have e : IntKind.u64.wrap (m : Int) = (m : Int) := by rw [IntKind.wrap_u64]; omega
  rw [hi, e, bits_or_u64_nat x m hx h2, h]

theorem with_any (p : Mem) (b : Nat) (hb : b < 256) (w : World) :
    Calls Try.prog 60 #[setV p, .int .u8 (b : Int)] w fun e w' => e = .returned (setV (mWith p b)) ∧ Later w w' := by
  obtain ⟨r, hr⟩ : ∃ r, r = b % 64 := ⟨_, rfl⟩
  have hb0 : (0 : Int) ≤ (b : Int) := by omega
  have hb1 : (b : Int) ≤ 255 := by omega
  have hrl : r < 64 := by omega
  have hr1 : (b : Int) % 64 = (r : Int) := by omega
  have hw := word_with p b
  rw [← hr] at hw
  unfold setV setC
  have h4 : b / 64 = 0 ∨ b / 64 = 1 ∨ b / 64 = 2 ∨ b / 64 = 3 := by omega
  rcases h4 with h | h | h | h
  · have hq : (b : Int) / 64 = 0 := by omega
    rw [h] at hw
    have E := or_bit _ r _ (word_lt p 0) hrl hw
    rw [word_other p b 1 (by omega), word_other p b 2 (by omega), word_other p b 3 (by omega)]
    clear h hr hw hb
    go_enter Try.func60, Try.ntmps60
    go_wp2
    exact bodyPost_ret (v := .agg #[.int .u64 (word (mWith p b) 0 : Nat), .int .u64 (word p 1 : Nat), .int .u64 (word p 2 : Nat), .int .u64 (word p 3 : Nat)]) (by simp [results, Try.results60, go_sem]) rfl ⟨rfl, ((Later.refl w).alloc _).alloc _⟩
  · have hq : (b : Int) / 64 = 1 := by omega
    rw [h] at hw
    have E := or_bit _ r _ (word_lt p 1) hrl hw
    rw [word_other p b 0 (by omega), word_other p b 2 (by omega), word_other p b 3 (by omega)]
    clear h hr hw hb
    go_enter Try.func60, Try.ntmps60
    go_wp2
    exact bodyPost_ret (v := .agg #[.int .u64 (word p 0 : Nat), .int .u64 (word (mWith p b) 1 : Nat), .int .u64 (word p 2 : Nat), .int .u64 (word p 3 : Nat)]) (by simp [results, Try.results60, go_sem]) rfl ⟨rfl, ((Later.refl w).alloc _).alloc _⟩
  · have hq : (b : Int) / 64 = 2 := by omega
    rw [h] at hw
    have E := or_bit _ r _ (word_lt p 2) hrl hw
    rw [word_other p b 0 (by omega), word_other p b 1 (by omega), word_other p b 3 (by omega)]
    clear h hr hw hb
    go_enter Try.func60, Try.ntmps60
    go_wp2
    exact bodyPost_ret (v := .agg #[.int .u64 (word p 0 : Nat), .int .u64 (word p 1 : Nat), .int .u64 (word (mWith p b) 2 : Nat), .int .u64 (word p 3 : Nat)]) (by simp [results, Try.results60, go_sem]) rfl ⟨rfl, ((Later.refl w).alloc _).alloc _⟩
  · have hq : (b : Int) / 64 = 3 := by omega
    rw [h] at hw
    have E := or_bit _ r _ (word_lt p 3) hrl hw
    rw [word_other p b 0 (by omega), word_other p b 1 (by omega), word_other p b 2 (by omega)]
    clear h hr hw hb
    go_enter Try.func60, Try.ntmps60
    go_wp2
    exact bodyPost_ret (v := .agg #[.int .u64 (word p 0 : Nat), .int .u64 (word p 1 : Nat), .int .u64 (word p 2 : Nat), .int .u64 (word (mWith p b) 3 : Nat)]) (by simp [results, Try.results60, go_sem]) rfl ⟨rfl, ((Later.refl w).alloc _).alloc _⟩

theorem has_bit (p : Mem) (b r : Nat) (hr : r = b % 64) (i : Nat) (hi : b / 64 = i) : (bits .and .u64 ((word p i : Int) / 2 ^ r) 1 == 1) = p b := by
  have h := word_has p b
  rw [← hr, hi] at h
  obtain ⟨m, hm⟩ : ∃ m : Nat, m = word p i / 2 ^ r := ⟨_, rfl⟩
  have e : ((word p i : Int) / 2 ^ r) = (m : Int) := by rw [hm, Int.natCast_ediv, Int.natCast_pow]; rfl
  have hl : m < 18446744073709551616 := by rw [hm]; exact Nat.lt_of_le_of_lt (Nat.div_le_self _ _) (word_lt p i)
  rw [← hm] at h
  rw [e, and_one_u64 _ (by omega) (by omega)]
  cases hp : p b
  · rw [hp] at h
    have : (m : Int) % 2 = 0 := by simp only [Bool.toNat_false] at h; omega
    rw [this]
    rfl
  · rw [hp] at h
    have : (m : Int) % 2 = 1 := by simp only [Bool.toNat_true] at h; omega
    rw [this]
    rfl

theorem has_any (p : Mem) (b : Nat) (hb : b < 256) (w : World) :
    Calls Try.prog 38 #[setV p, .int .u8 (b : Int)] w fun e w' => e = .returned (.bool (p b)) ∧ Later w w' := by
  obtain ⟨r, hr⟩ : ∃ r, r = b % 64 := ⟨_, rfl⟩
  have hb0 : (0 : Int) ≤ (b : Int) := by omega
  have hb1 : (b : Int) ≤ 255 := by omega
  have hrl : r < 64 := by omega
  have hr1 : (b : Int) % 64 = (r : Int) := by omega
  unfold setV setC
  have h4 : b / 64 = 0 ∨ b / 64 = 1 ∨ b / 64 = 2 ∨ b / 64 = 3 := by omega
  rcases h4 with h | h | h | h
  · have hq : (b : Int) / 64 = 0 := by omega
    have E := has_bit p b r hr 0 h
    clear h hr hb
    go_enter Try.func38, Try.ntmps38
    go_wp2
    go_ret
    exact ⟨rfl, (Later.refl w).alloc _⟩
  · have hq : (b : Int) / 64 = 1 := by omega
    have E := has_bit p b r hr 1 h
    clear h hr hb
    go_enter Try.func38, Try.ntmps38
    go_wp2
    go_ret
    exact ⟨rfl, (Later.refl w).alloc _⟩
  · have hq : (b : Int) / 64 = 2 := by omega
    have E := has_bit p b r hr 2 h
    clear h hr hb
    go_enter Try.func38, Try.ntmps38
    go_wp2
    go_ret
    exact ⟨rfl, (Later.refl w).alloc _⟩
  · have hq : (b : Int) / 64 = 3 := by omega
    have E := has_bit p b r hr 3 h
    clear h hr hb
    go_enter Try.func38, Try.ntmps38
    go_wp2
    go_ret
    exact ⟨rfl, (Later.refl w).alloc _⟩

/-- the first k words are the second set's, the others the first one's -/
def mUpto (p q : Mem) (k : Nat) : Mem := fun b => if b < 64 * k then q b else p b
theorem upto_word (p q : Mem) (k i : Nat) : word (mUpto p q k) i = if i < k then word q i else word p i := by
  by_cases h : i < k
  · rw [if_pos h]
    exact nbits_congr fun j hj => if_pos (by omega)
  · rw [if_neg h]
    exact nbits_congr fun j hj => if_neg (by omega)

theorem setC_get (p : Mem) {k : Nat} (hk : k < 4) : (setC p)[k]? = some (.int .u64 (word p k : Nat)) := by
  have : k = 0 ∨ k = 1 ∨ k = 2 ∨ k = 3 := by omega
  rcases this with rfl | rfl | rfl | rfl <;> rfl
theorem setC_ext (p q : Mem) (h : ∀ i, i < 4 → word p i = word q i) : setC p = setC q := by
  unfold setC
  rw [h 0 (by omega), h 1 (by omega), h 2 (by omega), h 3 (by omega)]
theorem upto_none (p q : Mem) : setC (mUpto p q 0) = setC p := setC_ext _ _ fun i _ => by rw [upto_word, if_neg (by omega)]
theorem upto_all (p q : Mem) : setC (mUpto p q 4) = setC q := setC_ext _ _ fun i hi => by rw [upto_word, if_pos hi]
theorem upto_step (p q : Mem) {k : Nat} (hk : k < 4) : (setC (mUpto p q k)).setIfInBounds k (.int .u64 (word q k : Nat)) = setC (mUpto p q (k + 1)) := by
  have h : ∀ i, word (mUpto p q (k + 1)) i = if i = k then word q k else word (mUpto p q k) i := fun i => by
    rw [upto_word, upto_word]
    by_cases e : i = k
    · subst e
      rw [if_pos (by omega), if_pos rfl]
    · rw [if_neg e]
      by_cases e2 : i < k
      · rw [if_pos (by omega), if_pos e2]
      · rw [if_neg (by omega), if_neg e2]
  have : k = 0 ∨ k = 1 ∨ k = 2 ∨ k = 3 := by omega
  unfold setC
  rw [h, h, h, h]
  rcases this with rfl | rfl | rfl | rfl <;> rfl
theorem bits_or_word (p q : Mem) (i : Nat) : bits .or .u64 (word p i : Int) (word q i : Int) = ((word (mOr p q) i : Nat) : Int) := by
  rw [bits_or_u64_nat _ _ (word_lt p i) (word_lt q i), word_or]

theorem blk_at {w : World} {g : Nat} {t : TypeId} {cs : Array Value} (hg : g = w.heap.size) : Blk (w.alloc (.cells cs t)) g t cs := by subst hg; exact Blk.new _ _ _
theorem Later.setCell {w w1 : World} (h : Later w w1) {p : Addr} (hp : w.heap.size ≤ p.block) (v : Value) : Later w (w1.setCell p v) := Below.setCell h hp v

theorem or_any (p q : Mem) (w : World) :
    Calls Try.prog 59 #[setV p, setV q] w fun e w' => e = .returned (setV (mOr p q)) ∧ Later w w' := by
  unfold setV
  go_enter Try.func59, Try.ntmps59
  unfold setC
  go_wp2
  go_loopw [6] (fun i wr => ∃ k : Nat, k ≤ 4 ∧ i = .int .i64 (k : Int) ∧ Blk wr w.heap.size 27 (setC (mUpto p (mOr p q) k)) ∧ Blk wr (w.heap.size + 1) 27 (setC q) ∧ Blk wr (w.heap.size + 2) 27 #[.int .u64 0, .int .u64 0, .int .u64 0, .int .u64 0] ∧ Later w wr) (fun i _ => 4 - (intOf i).toNat)
  case atStart => exact ⟨0, by omega, rfl, by rw [upto_none]; exact ((Blk.new w _ _).alloc _).alloc _, (blk_at (by simp)).alloc _, blk_at (by simp), (((Later.refl w).alloc _).alloc _).alloc _⟩
  case round =>
    obtain ⟨k, hk, rfl, h1, h2, h3, hl⟩ := hrel
    by_cases hlt : k < 4
    · have hlti : (k : Int) < 4 := by omega
      have c1 : wr.cell? ⟨w.heap.size, k, none⟩ = some (.int .u64 (word p k : Nat)) := by rw [h1.cell, setC_get _ hlt, upto_word, if_neg (by omega)]
      have c2 : wr.cell? ⟨w.heap.size + 1, k, none⟩ = some (.int .u64 (word q k : Nat)) := by rw [h2.cell, setC_get _ hlt]
      have f1 := h1.frozen k
      have E := bits_or_word p q k
      go_wp2
      go_region
      all_goals
        go_wp2
        go_roundw
        case rel => exact ⟨k + 1, by omega, by go_num, by rw [← upto_step p (mOr p q) hlt]; exact h1.set_ k _, h2.far (by simp) _, h3.far (by simp) _, (Later.setCell hl (Nat.le_refl _) _).drew⟩
        case measure => simp [intOf]; omega
    · obtain rfl : k = 4 := by omega
      rw [upto_all] at h1
      have g0 := h1.cell 0
      have g1 := h1.cell 1
      have g2 := h1.cell 2
      have g3 := h1.cell 3
      rw [setC_get _ (by omega)] at g0 g1 g2 g3
      have e0 : wr.cell? ⟨w.heap.size + 2, 0, none⟩ = some (.int .u64 0) := h3.cell 0
      have e1 : wr.cell? ⟨w.heap.size + 2, 1, none⟩ = some (.int .u64 0) := h3.cell 1
      have e2 : wr.cell? ⟨w.heap.size + 2, 2, none⟩ = some (.int .u64 0) := h3.cell 2
      have e3 : wr.cell? ⟨w.heap.size + 2, 3, none⟩ = some (.int .u64 0) := h3.cell 3
      have f0 := h3.frozen 0
      have f1 := h3.frozen 1
      have f2 := h3.frozen 2
      have f3 := h3.frozen 3
      go_wp2
      exact bodyPost_ret (v := .agg (setC (mOr p q))) (by simp [results, Try.results59, go_sem, setC, e0, e1, e2, e3]) rfl ⟨rfl, (by repeat (first | exact hl | (refine Later.setCell ?_ (by show w.heap.size ≤ w.heap.size + 1 + 1; omega) _)))⟩

end Go.Proofs.Ytmkddhkpeiajhaa
