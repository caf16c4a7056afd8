/-
  Plain laws on words of 64 bits: the number whose bits are given, or, not, shifts, and the count of bits as package math/bits reckons it.
-/
import Derived.IntWalk
namespace Go.Proofs.YtmkddhkpeiajhaaDoor

/-- digits of w bits each, the lowest first -/
def packs (w : Nat) (d : Nat → Nat) : Nat → Nat
  | 0 => 0
  | n + 1 => 2 ^ w * packs w (fun j => d (j + 1)) n + d 0
theorem packs_lt {w : Nat} : ∀ (n : Nat) {d : Nat → Nat}, (∀ j, d j < 2 ^ w) → packs w d n < 2 ^ (w * n)
  | 0, _, _ => by simp [packs]
  | n + 1, d, hd => by
    have h1 := packs_lt n (fun j => hd (j + 1))
    have h2 := hd 0
    have h3 : 2 ^ w * (packs w (fun j => d (j + 1)) n + 1) ≤ 2 ^ w * 2 ^ (w * n) := Nat.mul_le_mul_left _ h1
    rw [packs, Nat.mul_succ w n, Nat.add_comm (w * n) w, Nat.pow_add]
    rw [Nat.mul_succ] at h3
    omega
theorem packs_congr {w : Nat} : ∀ (n : Nat) {d e : Nat → Nat}, (∀ j, j < n → d j = e j) → packs w d n = packs w e n
  | 0, _, _, _ => rfl
  | n + 1, d, e, h => by rw [packs, packs, packs_congr n (d := fun j => d (j + 1)) (e := fun j => e (j + 1)) (fun j hj => h (j + 1) (by omega)), h 0 (by omega)]
theorem packs_add {w : Nat} : ∀ (n : Nat) (d e : Nat → Nat), packs w d n + packs w e n = packs w (fun j => d j + e j) n
  | 0, _, _ => rfl
  | n + 1, d, e => by
    rw [packs, packs, packs, ← packs_add n (fun j => d (j + 1)) (fun j => e (j + 1)), Nat.mul_add]
    omega
theorem packs_top {w : Nat} : ∀ (n : Nat) (d : Nat → Nat), d n = 0 → packs w d (n + 1) = packs w d n
  | 0, d, h => by simp [packs, h]
  | n + 1, d, h => by rw [packs, packs_top n (fun j => d (j + 1)) h, packs]
theorem packs_shift {w : Nat} (n : Nat) (d : Nat → Nat) (hd : d 0 < 2 ^ w) : packs w d (n + 1) / 2 ^ w = packs w (fun j => d (j + 1)) n := by
  rw [packs, Nat.mul_add_div (Nat.two_pow_pos w), Nat.div_eq_of_lt hd, Nat.add_zero]
theorem packs_shift0 {w : Nat} (n : Nat) (d : Nat → Nat) (hd : d 0 < 2 ^ w) (ht : d n = 0) : packs w d n / 2 ^ w = packs w (fun j => d (j + 1)) n := by
  rw [← packs_top n d ht, packs_shift n d hd]
theorem and_split {i a b a' b' : Nat} (hb : b < 2 ^ i) (hb' : b' < 2 ^ i) : (2 ^ i * a + b) &&& (2 ^ i * a' + b') = 2 ^ i * (a &&& a') + (b &&& b') := by
  apply Nat.eq_of_testBit_eq
  intro j
  rw [Nat.testBit_and, Nat.testBit_two_pow_mul_add _ hb, Nat.testBit_two_pow_mul_add _ hb', Nat.testBit_two_pow_mul_add _ (Nat.lt_of_le_of_lt Nat.and_le_left hb), Nat.testBit_and, Nat.testBit_and]
  split <;> rfl
theorem packs_two {w : Nat} (n : Nat) (d : Nat → Nat) : packs w d (n + 2) = 2 ^ (2 * w) * packs w (fun j => d (j + 2)) n + (2 ^ w * d 1 + d 0) := by
  show 2 ^ w * (2 ^ w * packs w (fun j => d (j + 2)) n + d 1) + d 0 = _
  rw [Nat.two_mul, Nat.pow_add, Nat.mul_add, Nat.mul_assoc, Nat.add_assoc]
/-- of digits the even ones alone -/
theorem packs_even {w : Nat} : ∀ (n : Nat) (d : Nat → Nat), (∀ j, d j < 2 ^ w) → packs w d (2 * n) &&& packs (2 * w) (fun _ => 2 ^ w - 1) n = packs (2 * w) (fun j => d (2 * j)) n
  | 0, _, _ => by simp [packs]
  | n + 1, d, hd => by
    have hp : 0 < 2 ^ w := Nat.two_pow_pos w
    have h0 := hd 0
    have h1 := hd 1
    have h2 : 2 ^ w * d 1 + d 0 < 2 ^ (2 * w) := by
      have : 2 ^ w * (d 1 + 1) ≤ 2 ^ w * 2 ^ w := Nat.mul_le_mul_left _ h1
      rw [Nat.two_mul, Nat.pow_add]
      rw [Nat.mul_succ] at this
      omega
    have h3 : 2 ^ w - 1 < 2 ^ (2 * w) := by have : 2 ^ w ≤ 2 ^ (2 * w) := Nat.pow_le_pow_right (by omega) (by omega); omega
    rw [show 2 * (n + 1) = 2 * n + 2 by omega, packs_two, packs, and_split h2 h3, packs_even n (fun j => d (j + 2)) (fun j => hd (j + 2)), Nat.and_two_pow_sub_one_eq_mod, Nat.mul_add_mod, Nat.mod_eq_of_lt h0]
    rfl
/-- of digits the odd ones alone -/
theorem packs_odd {w : Nat} (n : Nat) (d : Nat → Nat) (hd : ∀ j, d j < 2 ^ w) (ht : d (2 * n) = 0) : packs w d (2 * n) / 2 ^ w &&& packs (2 * w) (fun _ => 2 ^ w - 1) n = packs (2 * w) (fun j => d (2 * j + 1)) n := by
  rw [packs_shift0 (2 * n) d (hd 0) ht, packs_even n _ (fun j => hd (j + 1))]
theorem packs_low {w : Nat} (n : Nat) (d : Nat → Nat) (hd : d 0 < 2 ^ w) : packs w d (n + 1) % 2 ^ w = d 0 := by
  rw [packs, Nat.mul_add_mod, Nat.mod_eq_of_lt hd]

theorem packs_snoc {w : Nat} : ∀ (n : Nat) (d : Nat → Nat), packs w d (n + 1) = packs w d n + 2 ^ (w * n) * d n
  | 0, d => by simp [packs]
  | n + 1, d => by
    rw [packs, packs_snoc n (fun j => d (j + 1)), packs, Nat.mul_add, ← Nat.mul_assoc, ← Nat.pow_add, Nat.mul_succ w n, Nat.add_comm w (w * n)]
    omega

def sumN (d : Nat → Nat) : Nat → Nat
  | 0 => 0
  | n + 1 => sumN d n + d n
theorem sumN_congr {d e : Nat → Nat} : ∀ n, (∀ j, j < n → d j = e j) → sumN d n = sumN e n
  | 0, _ => rfl
  | n + 1, h => by rw [sumN, sumN, sumN_congr n (fun j hj => h j (by omega)), h n (by omega)]
theorem sumN_pair (d : Nat → Nat) : ∀ n, sumN (fun j => d (2 * j) + d (2 * j + 1)) n = sumN d (2 * n)
  | 0 => rfl
  | n + 1 => by rw [sumN, sumN_pair d n, show 2 * (n + 1) = 2 * n + 1 + 1 by omega, sumN, sumN]; omega
theorem sumN_pairs (d e : Nat → Nat) (n : Nat) (h : ∀ j, e j = d (2 * j) + d (2 * j + 1)) : sumN e n = sumN d (2 * n) := by
  rw [← sumN_pair d n]
  exact sumN_congr n fun j _ => h j
theorem sumN_add (d e : Nat → Nat) : ∀ n, sumN (fun j => d j + e j) n = sumN d n + sumN e n
  | 0 => rfl
  | n + 1 => by rw [sumN, sumN, sumN, sumN_add d e n]; omega
theorem sumN_le (d : Nat → Nat) (b : Nat) : ∀ n, (∀ j, j < n → d j ≤ b) → sumN d n ≤ b * n
  | 0, _ => Nat.le_refl _
  | n + 1, h => by
    have h1 := sumN_le d b n (fun j hj => h j (by omega))
    have h2 := h n (by omega)
    rw [sumN, Nat.mul_succ]
    omega
theorem sumN_split (d : Nat → Nat) (m : Nat) : ∀ n, sumN d (m + n) = sumN d m + sumN (fun j => d (m + j)) n
  | 0 => rfl
  | n + 1 => by rw [← Nat.add_assoc, sumN, sumN_split d m n, sumN]; omega

/-- the number whose bits below k are f's -/
def nbits (f : Nat → Bool) (k : Nat) : Nat := packs 1 (fun j => (f j).toNat) k
theorem toNat_lt2 (b : Bool) : b.toNat < 2 ^ 1 := by cases b <;> simp
theorem nbits_lt (f : Nat → Bool) (k : Nat) : nbits f k < 2 ^ k := by
  have := packs_lt (w := 1) k (d := fun j => (f j).toNat) (fun j => toNat_lt2 _)
  rwa [Nat.one_mul] at this
theorem nbits_bit : ∀ (k : Nat) (f : Nat → Bool) (j : Nat), (nbits f k).testBit j = (decide (j < k) && f j)
  | 0, f, j => by simp [nbits, packs]
  | k + 1, f, j => by
    have h : nbits f (k + 1) = 2 ^ 1 * nbits (fun j => f (j + 1)) k + (f 0).toNat := rfl
    rw [h, Nat.testBit_two_pow_mul_add _ (toNat_lt2 _), nbits_bit k (fun j => f (j + 1)) (j - 1)]
    rcases Nat.eq_zero_or_pos j with rfl | hj
    · cases f 0 <;> simp
    · have e1 : ¬ j < 1 := by omega
      have e2 : j - 1 + 1 = j := by omega
      rw [if_neg e1, e2]
      by_cases hk : j < k + 1
      · have e3 : j - 1 < k := by omega
        simp [hk, e3]
      · have e3 : ¬ j - 1 < k := by omega
        simp [hk, e3]
theorem nbits_of (x k : Nat) (h : x < 2 ^ k) : nbits (fun j => x.testBit j) k = x := by
  apply Nat.eq_of_testBit_eq
  intro j
  rw [nbits_bit]
  by_cases hj : j < k
  · simp [hj]
  · rw [Nat.testBit_lt_two_pow (Nat.lt_of_lt_of_le h (Nat.pow_le_pow_right (by omega) (by omega)))]
    simp
theorem nbits_congr {f g : Nat → Bool} {k : Nat} (h : ∀ j, j < k → f j = g j) : nbits f k = nbits g k :=
  packs_congr k fun j hj => by rw [h j hj]
theorem nbits_inj {f g : Nat → Bool} {k : Nat} (h : nbits f k = nbits g k) {j : Nat} (hj : j < k) : f j = g j := by
  have := congrArg (fun x => Nat.testBit x j) h
  simpa [nbits_bit, hj] using this
theorem nbits_or (f g : Nat → Bool) (k : Nat) : nbits f k ||| nbits g k = nbits (fun j => f j || g j) k := by
  apply Nat.eq_of_testBit_eq
  intro j
  rw [Nat.testBit_or, nbits_bit, nbits_bit, nbits_bit]
  cases decide (j < k) <;> rfl
theorem nbits_not (f : Nat → Bool) (k : Nat) : (2 ^ k - 1) ^^^ nbits f k = nbits (fun j => !f j) k := by
  apply Nat.eq_of_testBit_eq
  intro j
  rw [Nat.testBit_xor, Nat.testBit_two_pow_sub_one, nbits_bit, nbits_bit]
  cases decide (j < k) <;> cases f j <;> rfl
theorem nbits_set (f : Nat → Bool) (k i : Nat) (hi : i < k) : nbits f k ||| 2 ^ i = nbits (fun j => f j || j == i) k := by
  apply Nat.eq_of_testBit_eq
  intro j
  rw [Nat.testBit_or, Nat.testBit_two_pow, nbits_bit, nbits_bit]
  by_cases h : i = j
  · subst h; simp [hi]
  · have h2 : (j == i) = false := by rw [beq_eq_false_iff_ne]; exact fun e => h e.symm
    simp [h, h2]
theorem nbits_has (f : Nat → Bool) (k i : Nat) (hi : i < k) : nbits f k / 2 ^ i % 2 = (f i).toNat := by
  have h := nbits_bit k f i
  rw [Nat.testBit_eq_decide_div_mod_eq] at h
  simp only [hi, decide_true, Bool.true_and] at h
  have h2 := Nat.mod_lt (nbits f k / 2 ^ i) (show 0 < 2 by omega)
  cases hf : f i
  · rw [hf, decide_eq_false_iff_not] at h
    simp only [Bool.toNat_false]
    omega
  · rw [hf, decide_eq_true_iff] at h
    exact h

/-- how many of the first k -/
def cntN (f : Nat → Bool) (k : Nat) : Nat := sumN (fun j => (f j).toNat) k

theorem mask1 : packs 2 (fun _ => 2 ^ 1 - 1) 32 = 6148914691236517205 := by decide
theorem mask2 : packs 4 (fun _ => 2 ^ 2 - 1) 16 = 3689348814741910323 := by decide
theorem mask3 : packs 8 (fun _ => 2 ^ 4 - 1) 8 = 1085102592571150095 := by decide

/-- the count of bits, as package math/bits reckons it -/
theorem swar (x : Nat) (hx : x < 2 ^ 64) : ∃ x1 x2 x3 x4 x5 x6 : Nat,
    (x / 2 ^ 1 &&& 6148914691236517205) + (x &&& 6148914691236517205) = x1 ∧ x1 < 2 ^ 64 ∧
    (x1 / 2 ^ 2 &&& 3689348814741910323) + (x1 &&& 3689348814741910323) = x2 ∧ x2 < 2 ^ 64 ∧
    x2 / 2 ^ 4 + x2 < 2 ^ 64 ∧ (x2 / 2 ^ 4 + x2 &&& 1085102592571150095) = x3 ∧ x3 < 2 ^ 64 ∧
    x3 + x3 / 2 ^ 8 = x4 ∧ x4 < 2 ^ 64 ∧ x4 + x4 / 2 ^ 16 = x5 ∧ x5 < 2 ^ 64 ∧ x5 + x5 / 2 ^ 32 = x6 ∧ x6 < 2 ^ 63 ∧ x6 % 128 = cntN (fun j => x.testBit j) 64 := by
  have hb : ∀ j, 64 ≤ j → x.testBit j = false := fun j hj => Nat.testBit_lt_two_pow (Nat.lt_of_lt_of_le hx (Nat.pow_le_pow_right (by omega) hj))
  obtain ⟨b, hbe⟩ : ∃ b : Nat → Nat, b = fun j => (x.testBit j).toNat := ⟨_, rfl⟩
  have hb1 : ∀ j, b j ≤ 1 := fun j => by rw [hbe]; dsimp only; cases x.testBit j <;> simp
  have hb0 : ∀ j, 64 ≤ j → b j = 0 := fun j hj => by rw [hbe]; dsimp only; rw [hb j hj]; rfl
  have hxb : x = packs 1 b 64 := by rw [hbe]; exact (nbits_of x 64 hx).symm
  have hcn : cntN (fun j => x.testBit j) 64 = sumN b 64 := by rw [hbe]; rfl
  -- pairs
  obtain ⟨c, hce⟩ : ∃ c : Nat → Nat, c = fun j => b (2 * j + 1) + b (2 * j) := ⟨_, rfl⟩
  have hc : ∀ j, c j ≤ 2 := fun j => by rw [hce]; have := hb1 (2 * j); have := hb1 (2 * j + 1); dsimp only; omega
  have hc0 : ∀ j, 32 ≤ j → c j = 0 := fun j hj => by rw [hce]; dsimp only; rw [hb0 _ (by omega), hb0 _ (by omega)]
  have h1 : (x / 2 ^ 1 &&& 6148914691236517205) + (x &&& 6148914691236517205) = packs 2 c 32 := by
    rw [hxb, ← mask1]
    have e1 := packs_odd (w := 1) 32 b (fun j => by have := hb1 j; omega) (hb0 _ (by omega))
    have e2 := packs_even (w := 1) 32 b (fun j => by have := hb1 j; omega)
    rw [show 2 * 32 = 64 from rfl, show 2 * 1 = 2 from rfl] at e1 e2
    rw [e1, e2, packs_add, hce]
  have h1l : packs 2 c 32 < 2 ^ 64 := packs_lt (w := 2) 32 (fun j => by have := hc j; omega)
  -- fours
  obtain ⟨d, hde⟩ : ∃ d : Nat → Nat, d = fun j => c (2 * j + 1) + c (2 * j) := ⟨_, rfl⟩
  have hd : ∀ j, d j ≤ 4 := fun j => by rw [hde]; have := hc (2 * j); have := hc (2 * j + 1); dsimp only; omega
  have hd0 : ∀ j, 16 ≤ j → d j = 0 := fun j hj => by rw [hde]; dsimp only; rw [hc0 _ (by omega), hc0 _ (by omega)]
  have h2 : (packs 2 c 32 / 2 ^ 2 &&& 3689348814741910323) + (packs 2 c 32 &&& 3689348814741910323) = packs 4 d 16 := by
    rw [← mask2]
    have e1 := packs_odd (w := 2) 16 c (fun j => by have := hc j; omega) (hc0 _ (by omega))
    have e2 := packs_even (w := 2) 16 c (fun j => by have := hc j; omega)
    rw [show 2 * 16 = 32 from rfl, show 2 * 2 = 4 from rfl] at e1 e2
    rw [e1, e2, packs_add, hde]
  have h2l : packs 4 d 16 < 2 ^ 64 := packs_lt (w := 4) 16 (fun j => by have := hd j; omega)
  -- bytes
  obtain ⟨s, hse⟩ : ∃ s : Nat → Nat, s = fun j => d (j + 1) + d j := ⟨_, rfl⟩
  have hs : ∀ j, s j ≤ 8 := fun j => by rw [hse]; have := hd j; have := hd (j + 1); dsimp only; omega
  have h3a : packs 4 d 16 / 2 ^ 4 + packs 4 d 16 = packs 4 s 16 := by
    rw [packs_shift0 16 d (by have := hd 0; omega) (hd0 _ (by omega)), packs_add, hse]
  have h3al : packs 4 s 16 < 2 ^ 64 := packs_lt (w := 4) 16 (fun j => by have := hs j; omega)
  obtain ⟨g, hge⟩ : ∃ g : Nat → Nat, g = fun j => s (2 * j) := ⟨_, rfl⟩
  have hg : ∀ j, g j ≤ 8 := fun j => by rw [hge]; exact hs _
  have hg0 : ∀ j, 8 ≤ j → g j = 0 := fun j hj => by rw [hge, hse]; dsimp only; rw [hd0 _ (by omega), hd0 _ (by omega)]
  have h3 : (packs 4 s 16 &&& 1085102592571150095) = packs 8 g 8 := by
    rw [← mask3]
    have e2 := packs_even (w := 4) 8 s (fun j => by have := hs j; omega)
    rw [show 2 * 8 = 16 from rfl, show 2 * 4 = 8 from rfl] at e2
    rw [e2, hge]
  have h3l : packs 8 g 8 < 2 ^ 64 := packs_lt (w := 8) 8 (fun j => by have := hg j; omega)
  -- sums of bytes
  have stepS : ∀ (k : Nat) (e : Nat → Nat), (∀ j, e j < 2 ^ 8) → (∀ j, 8 ≤ j → e j = 0) → packs 8 e 8 / 2 ^ (8 * k) = packs 8 (fun j => e (j + k)) 8 := by
    intro k
    induction k with
    | zero => intro e _ _; simp
    | succ k ih =>
      intro e he h0
      rw [Nat.mul_succ, Nat.pow_add, ← Nat.div_div_eq_div_mul, ih e he h0, packs_shift0 8 (fun j => e (j + k)) (he _) (h0 _ (by omega))]
      exact packs_congr 8 fun j _ => by rw [Nat.add_right_comm, Nat.add_assoc]
  obtain ⟨g2, hg2e⟩ : ∃ g2 : Nat → Nat, g2 = fun j => g j + g (j + 1) := ⟨_, rfl⟩
  have hg2 : ∀ j, g2 j ≤ 16 := fun j => by rw [hg2e]; have := hg j; have := hg (j + 1); dsimp only; omega
  have hg20 : ∀ j, 8 ≤ j → g2 j = 0 := fun j hj => by rw [hg2e]; dsimp only; rw [hg0 _ (by omega), hg0 _ (by omega)]
  have h4 : packs 8 g 8 + packs 8 g 8 / 2 ^ 8 = packs 8 g2 8 := by
    have := stepS 1 g (fun j => by have := hg j; omega) hg0
    rw [show 8 * 1 = 8 from rfl] at this
    rw [this, packs_add, hg2e]
  have h4l : packs 8 g2 8 < 2 ^ 64 := packs_lt (w := 8) 8 (fun j => by have := hg2 j; omega)
  obtain ⟨g4, hg4e⟩ : ∃ g4 : Nat → Nat, g4 = fun j => g2 j + g2 (j + 2) := ⟨_, rfl⟩
  have hg4 : ∀ j, g4 j ≤ 32 := fun j => by rw [hg4e]; have := hg2 j; have := hg2 (j + 2); dsimp only; omega
  have hg40 : ∀ j, 8 ≤ j → g4 j = 0 := fun j hj => by rw [hg4e]; dsimp only; rw [hg20 _ (by omega), hg20 _ (by omega)]
  have h5 : packs 8 g2 8 + packs 8 g2 8 / 2 ^ 16 = packs 8 g4 8 := by
    have := stepS 2 g2 (fun j => by have := hg2 j; omega) hg20
    rw [show 8 * 2 = 16 from rfl] at this
    rw [this, packs_add, hg4e]
  have h5l : packs 8 g4 8 < 2 ^ 64 := packs_lt (w := 8) 8 (fun j => by have := hg4 j; omega)
  obtain ⟨g8, hg8e⟩ : ∃ g8 : Nat → Nat, g8 = fun j => g4 j + g4 (j + 4) := ⟨_, rfl⟩
  have hg8 : ∀ j, g8 j ≤ 64 := fun j => by rw [hg8e]; have := hg4 j; have := hg4 (j + 4); dsimp only; omega
  have h6 : packs 8 g4 8 + packs 8 g4 8 / 2 ^ 32 = packs 8 g8 8 := by
    have := stepS 4 g4 (fun j => by have := hg4 j; omega) hg40
    rw [show 8 * 4 = 32 from rfl] at this
    rw [this, packs_add, hg8e]
  have h6l : packs 8 g8 8 < 2 ^ 63 := by
    have e1 := packs_snoc (w := 8) 7 g8
    have e2 : packs 8 g8 7 < 2 ^ 56 := packs_lt (w := 8) 7 (fun j => by have := hg8 j; omega)
    have e3 : g8 7 ≤ 8 := by
      rw [hg8e, hg4e, hg2e]
      have := hg0 8 (by omega); have := hg0 9 (by omega); have := hg0 10 (by omega); have := hg0 11 (by omega); have := hg0 12 (by omega); have := hg0 13 (by omega); have := hg0 14 (by omega); have := hg 7
      show g 7 + g 8 + (g 9 + g 10) + (g 11 + g 12 + (g 13 + g 14)) ≤ 8
      omega
    rw [show 7 + 1 = 8 from rfl, show 8 * 7 = 56 from rfl] at e1
    have e4 : 2 ^ 56 * g8 7 ≤ 2 ^ 56 * 8 := Nat.mul_le_mul_left _ e3
    omega
  refine ⟨packs 2 c 32, packs 4 d 16, packs 8 g 8, packs 8 g2 8, packs 8 g4 8, packs 8 g8 8, h1, h1l, h2, h2l, by rw [h3a]; exact h3al, by rw [h3a, h3], h3l, h4, h4l, h5, h5l, h6, h6l, ?_⟩
  have h7 : packs 8 g8 8 % 128 = g8 0 := by
    have e := packs_low (w := 8) 7 g8 (by have := hg8 0; omega)
    have hle := hg8 0
    rw [show (2 : Nat) ^ 8 = 256 from rfl, show 7 + 1 = 8 from rfl] at e
    clear h1 h2 h3 h3a h4 h5 h6
    omega
  have q8 : sumN g 8 = sumN d 16 := sumN_pairs d g 8 (fun j => by rw [hge, hse]; dsimp only; omega)
  have q16 : sumN d 16 = sumN c 32 := sumN_pairs c d 16 (fun j => by rw [hde]; dsimp only; omega)
  have q32 : sumN c 32 = sumN b 64 := sumN_pairs b c 32 (fun j => by rw [hce]; dsimp only; omega)
  rw [hcn, ← q32, ← q16, ← q8, h7, hg8e, hg4e, hg2e]
  show g 0 + g 1 + (g 2 + g 3) + (g 4 + g 5 + (g 6 + g 7)) = 0 + g 0 + g 1 + g 2 + g 3 + g 4 + g 5 + g 6 + g 7
  omega

end Go.Proofs.YtmkddhkpeiajhaaDoor
