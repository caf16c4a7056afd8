/-
  The plain laws behind PackBack and PackCut: what was laid is read again by the same calls; what was cut off ends too early. No program in sight.
-/
import Derived.Test.YtbeaacchhaipjaaText
import Derived.Test.YtbeaacchhaipjaaReader3
import Derived.Test.YtbeaacchhaipjaaLay
namespace Go.Proofs.Ytbeaacchhaipjaa
open Go.RowKit

theorem drop_head {l r : List UInt8} {k : Nat} {x : UInt8} (h : l.drop k = x :: r) : k < l.length ∧ l[k]?.getD 0 = x ∧ l.drop (k + 1) = r := by
  have hk : k < l.length := by
    rcases Nat.lt_or_ge k l.length with h1 | h1
    · exact h1
    · rw [List.drop_eq_nil_of_le h1] at h; cases h
  rw [List.drop_eq_getElem_cons hk] at h
  injection h with h1 h2
  exact ⟨hk, by rw [List.getElem?_eq_getElem hk]; exact h1, h2⟩

theorem byt_nat {m : Nat} (h : m < 256) : (byt (m : Int)).toNat = m := by
  have := byt_toNat (x := (m : Int)) (by omega) (by omega)
  omega

/-- digits that were laid are read -/
theorem numG_nm {l : List UInt8} {at_ : Nat} : ∀ (f i acc m : Nat) (post : List UInt8), i + f = 9 → acc < 128 ^ i → m < 128 ^ (f + 1) → (i = 0 ∨ m ≠ 0) → (i = 9 → m ≤ 1) → (i + f = 9 → m * 128 ^ i < 2 * 128 ^ 9) →
    l.drop (at_ + i) = nmF f m ++ post → numG l at_ (f + 1) i acc = (acc + m * 128 ^ i, 0, at_ + i + (nmF f m).length)
  | 0, i, acc, m, post, hi, _, hm, h0, h9, _, hd => by
    have hi9 : i = 9 := by omega
    have hm1 := h9 hi9
    have hd' : l.drop (at_ + i) = byt (m : Int) :: post := hd
    obtain ⟨hk, hx, _⟩ := drop_head hd'
    have hb := byt_nat (m := m) (by omega)
    rw [numG_some hk, hx, hb, if_neg (by omega), if_neg (by omega), if_neg (by omega)]
    rw [Nat.mod_eq_of_lt (by omega)]
    rfl
  | f + 1, i, acc, m, post, hi, ha, hm, h0, h9, hlt, hd => by
    by_cases hs : m < 128
    · rw [nmF_small hs] at hd ⊢
      obtain ⟨hk, hx, _⟩ := drop_head hd
      have hb := byt_nat (m := m) (by omega)
      rw [numG_some hk, hx, hb, if_neg (by omega), if_neg (by omega), if_neg (by omega)]
      rw [Nat.mod_eq_of_lt hs]
      rfl
    · rw [nmF_great hs] at hd ⊢
      obtain ⟨hk, hx, hd2⟩ := drop_head hd
      have hb := byt_nat (m := m % 128 + 128) (by omega)
      have hmm : m * 128 ^ i = m % 128 * 128 ^ i + m / 128 * 128 ^ (i + 1) := by
        have e : m = m % 128 + m / 128 * 128 := by omega
        have e2 : m / 128 * 128 ^ (i + 1) = m / 128 * 128 * 128 ^ i := by rw [Nat.pow_succ, Nat.mul_assoc, Nat.mul_comm 128]
        rw [e2, ← Nat.add_mul, ← e]
      have hmod : (m % 128 + 128) % 128 = m % 128 := by omega
      have hih := numG_nm (l := l) (at_ := at_) f (i + 1) (acc + m % 128 * 128 ^ i) (m / 128) post (by omega) (digit_pow ha).out
        (by rw [Nat.pow_succ] at hm; exact Nat.div_lt_of_lt_mul (by rw [Nat.mul_comm]; exact hm)) (.inr (by omega))
        (by
          intro e
          have h2 := hlt hi
          rw [hmm, e] at h2
          have : m / 128 * 128 ^ 9 < 2 * 128 ^ 9 := by omega
          have := Nat.lt_of_mul_lt_mul_right this
          omega)
        (by intro _; have h2 := hlt hi; omega) (by rw [← Nat.add_assoc]; exact hd2)
      rw [numG_some hk, hx, hb, if_neg (by omega), if_pos (by omega), hmod, hih]
      rw [hmm]
      simp only [List.length_cons, Prod.mk.injEq, true_and]
      omega

theorem numAt_nm {l post : List UInt8} {p n : Nat} (hn : n < 18446744073709551616) (hd : l.drop p = nm n ++ post) : numAt l p = (n, 0, p + (nm n).length) := by
  have e1 : (128 : Nat) ^ (9 + 1) = 1180591620717411303424 := by decide
  have e2 : (2 : Nat) * 128 ^ 9 = 18446744073709551616 := by decide
  have := numG_nm (l := l) (at_ := p) 9 0 0 n post rfl (by decide) (by rw [e1]; omega) (.inl rfl) (by omega) (by intro _; rw [e2]; simpa using hn) hd
  simpa [numAt, nm] using this

/-- digits that are cut off end too early -/
theorem numG_cut {l : List UInt8} {at_ : Nat} : ∀ (f i acc m j : Nat), i + f ≤ 9 → j < (nmF f m).length → l.drop (at_ + i) = (nmF f m).take j → numG l at_ (f + 1) i acc = (0, 10, 0)
  | f, i, acc, m, 0, _, _, hd => by
    have : l.length ≤ at_ + i := by
      rcases Nat.lt_or_ge (at_ + i) l.length with h | h
      · rw [List.take_zero, List.drop_eq_getElem_cons h] at hd; cases hd
      · exact h
    exact numG_none this
  | 0, i, acc, m, j + 1, _, hj, _ => by simp [nmF] at hj
  | f + 1, i, acc, m, j + 1, hi, hj, hd => by
    by_cases hs : m < 128
    · rw [nmF_small hs] at hj; simp at hj
    · rw [nmF_great hs] at hd hj
      rw [List.take_succ_cons] at hd
      obtain ⟨hk, hx, hd2⟩ := drop_head hd
      have hb := byt_nat (m := m % 128 + 128) (by omega)
      rw [numG_some hk, hx, hb, if_neg (by omega), if_pos (by omega)]
      exact numG_cut f (i + 1) _ (m / 128) j (by omega) (by simpa using hj) (by rw [← Nat.add_assoc]; exact hd2)

theorem numAt_cut {l : List UInt8} {p n j : Nat} (hj : j < (nm n).length) (hd : l.drop p = (nm n).take j) : numAt l p = (0, 10, 0) := numG_cut 9 0 0 n j (by omega) hj hd

theorem leVal_leB (k m : Nat) (h : m < 256 ^ k) : leVal (leB k m) = m := by
  induction k generalizing m with
  | zero => simp at h; subst h; rfl
  | succ k ih =>
    have h2 : m / 256 < 256 ^ k := Nat.div_lt_of_lt_mul (by rw [Nat.pow_succ] at h; rw [Nat.mul_comm]; exact h)
    show (byt ((m % 256 : Nat) : Int)).toNat + 256 * leVal (leB k (m / 256)) = m
    rw [ih _ h2, byt_nat (by omega)]
    omega
theorem le8_leB {l post : List UInt8} {p m : Nat} (hm : m < 18446744073709551616) (hd : l.drop p = leB 8 m ++ post) : le8 l p 0 = m := by
  unfold le8
  rw [Nat.add_zero, hd, List.take_left' (by rw [leB_len])]
  exact leVal_leB 8 m hm
theorem nan_const : nanB 9221120237041090561 = true := by decide +kernel
theorem bitsOf_idem (x : Nat) : bitsOf (bitsOf x) = bitsOf x := by
  unfold bitsOf
  by_cases h : nanB x = true
  · rw [if_pos h, if_pos nan_const]
  · rw [if_neg h, if_neg h]

theorem len_of_drop {l a post : List UInt8} {p : Nat} (hd : l.drop p = a ++ post) (ha : a ≠ []) : l.length = p + a.length + post.length := by
  have hp : p < l.length := by
    rcases Nat.lt_or_ge p l.length with h | h
    · exact h
    · rw [List.drop_eq_nil_of_le h] at hd
      have := congrArg List.length hd
      simp only [List.length_nil, List.length_append] at this
      exact absurd (List.eq_nil_of_length_eq_zero (by omega)) ha
  have := congrArg List.length hd
  rw [List.length_drop, List.length_append] at this
  omega

theorem nm_ne (n : Nat) : nm n ≠ [] := by
  intro h
  unfold nm at h
  by_cases hs : n < 128
  · rw [nmF_small hs] at h; cases h
  · rw [nmF_great hs] at h; cases h

/-- what was laid, read by the same calls -/
theorem back_byte {l post : List UInt8} {p : Nat} {b : UInt8} {most : Int} (hd : l.drop p = [b] ++ post) (hm : (b.toNat : Int) ≤ most) : rByte l (p, 0) most = ((b.toNat : Int), p + 1, 0) := by
  obtain ⟨hk, hx, _⟩ := drop_head hd
  unfold rByte
  rw [if_neg (by simp), if_neg (by simp only; omega), hx, if_neg (by omega)]
theorem back_num {l post : List UInt8} {p n most : Nat} (hn : n < 18446744073709551616) (hm : n ≤ most) (hd : l.drop p = nm n ++ post) : rNum l (p, 0) most = (n, p + (nm n).length, 0) := by
  unfold rNum
  simp only [numAt_nm hn hd]
  rw [if_neg (by simp), if_neg (by simp), if_neg (by omega)]
theorem back_float {l post : List UInt8} {p x : Nat} (hx : x < 18446744073709551616) (hd : l.drop p = leB 8 (bitsOf x) ++ post) : rFloat l (p, 0) = (bitsOf x, p + 8, 0) := by
  have hb := bitsOf_lt hx
  have hv := le8_leB hb hd
  have hl := len_of_drop hd (by intro h; have := leB_len 8 (bitsOf x); rw [h] at this; simp at this)
  rw [leB_len] at hl
  unfold rFloat
  simp only [hv]
  rw [if_neg (by simp), if_neg (by omega), if_neg (fun h => h.2 (bitsOf_idem x).symm)]
theorem back_text {l post : List UInt8} {p : Nat} {t : ByteArray} (ht : t.size < 18446744073709551616) {most : Int} (hm : (t.size : Int) ≤ most) (hd : l.drop p = (nm t.size ++ t.data.toList) ++ post) :
    rText l (p, 0) most = (t.data.toList, p + (nm t.size ++ t.data.toList).length, 0) := by
  rw [List.append_assoc] at hd
  have h1 := back_num ht (most := most.toNat) (by omega) hd
  have hl := len_of_drop hd (nm_ne _)
  rw [List.length_append, data_len] at hl
  unfold rText
  simp only [h1]
  rw [if_neg (by simp), if_neg (by omega)]
  have hd2 : l.drop (p + (nm t.size).length) = t.data.toList ++ post := by rw [← List.drop_drop, hd, List.drop_left']; rfl
  rw [hd2, List.take_left' (data_len t), List.length_append, data_len]
  simp only [Prod.mk.injEq, true_and, and_true]
  omega

/-- what is cut off, read by the same calls -/
theorem len_of_drop' {l a : List UInt8} {p : Nat} (hp : p ≤ l.length) (hd : l.drop p = a) : l.length = p + a.length := by
  have := congrArg List.length hd
  rw [List.length_drop] at this
  omega
theorem cut_byte {l : List UInt8} {p : Nat} {most : Int} (hp : l.length ≤ p) : rByte l (p, 0) most = (0, p, 10) := by
  unfold rByte; rw [if_neg (by simp), if_pos (by simpa using hp)]
theorem cut_num {l : List UInt8} {p n j most : Nat} (hj : j < (nm n).length) (hd : l.drop p = (nm n).take j) : rNum l (p, 0) most = (0, p, 10) := by
  unfold rNum; simp only [numAt_cut hj hd]; rw [if_neg (by simp), if_pos (by simp)]
theorem cut_float {l : List UInt8} {p : Nat} (h : l.length - p < 8) : rFloat l (p, 0) = (0, p, 10) := by
  unfold rFloat; rw [if_neg (by simp), if_pos (by simpa using h)]
theorem cut_text {l : List UInt8} {p j : Nat} {t : ByteArray} (ht : t.size < 18446744073709551616) {most : Int} (hm : (t.size : Int) ≤ most) (hp : p ≤ l.length) (hj : j < (nm t.size ++ t.data.toList).length) (hd : l.drop p = (nm t.size ++ t.data.toList).take j) :
    rText l (p, 0) most = ([], p, 10) := by
  by_cases hc : j < (nm t.size).length
  · rw [List.take_append_of_le_length (by omega)] at hd
    unfold rText
    simp only [cut_num hc hd]
    rw [if_pos (by simp)]
  · have e : (nm t.size ++ t.data.toList).take j = nm t.size ++ t.data.toList.take (j - (nm t.size).length) := by
      rw [List.take_append, List.take_of_length_le (by omega)]
    have hl := len_of_drop' hp hd
    rw [e] at hd hl
    rw [List.length_append, data_len] at hj
    rw [List.length_append, List.length_take, data_len] at hl
    have h1 := back_num ht (most := most.toNat) (by omega) hd
    unfold rText
    simp only [h1]
    rw [if_neg (by simp), if_pos (by omega)]

/-- where a Reader stands behind the first k calls of those that laid what was cut off at c -/
def CutInv (ls : List LayV) (c k p : Nat) (bad : Int) : Prop := bad = 10 ∨ (bad = 0 ∧ p = (laidB (ls.take k)).length ∧ p ≤ c)

theorem laid_split {ls : List LayV} {k : Nat} {y : LayV} (hy : ls[k]? = some y) : laidB ls = laidB (ls.take k) ++ (layB y ++ laidB (ls.drop (k + 1))) := by
  obtain ⟨hk, rfl⟩ := List.getElem?_eq_some_iff.1 hy
  have e : ls = ls.take k ++ ls[k] :: ls.drop (k + 1) := by rw [← List.drop_eq_getElem_cons hk, List.take_append_drop]
  conv => lhs; rw [e]
  unfold laidB
  rw [List.flatMap_append, List.flatMap_cons]
theorem laid_drop {ls : List LayV} {k : Nat} {y : LayV} (hy : ls[k]? = some y) : (laidB ls).drop (laidB (ls.take k)).length = layB y ++ laidB (ls.drop (k + 1)) := by
  rw [laid_split hy, List.drop_left']; rfl
/-- at a call: what is left holds the whole of what it laid, or a part of it -/
theorem cut_cases {ls : List LayV} {c k p : Nat} {y : LayV} (hy : ls[k]? = some y) (hp : p = (laidB (ls.take k)).length) (hpc : p ≤ c) :
    (∃ post, ((laidB ls).take c).drop p = layB y ++ post ∧ p + (layB y).length ≤ c) ∨ (c - p < (layB y).length ∧ ((laidB ls).take c).drop p = (layB y).take (c - p)) := by
  have hd : ((laidB ls).take c).drop p = (layB y ++ laidB (ls.drop (k + 1))).take (c - p) := by rw [List.drop_take, hp, laid_drop hy]
  by_cases hf : (layB y).length ≤ c - p
  · left
    refine ⟨(laidB (ls.drop (k + 1))).take (c - p - (layB y).length), ?_, by omega⟩
    rw [hd, List.take_append, List.take_of_length_le hf]
  · right
    refine ⟨by omega, ?_⟩
    rw [hd, List.take_append_of_le_length (by omega)]
theorem cut_next {ls : List LayV} {c k p p' : Nat} {y : LayV} (hy : ls[k]? = some y) (hp : p = (laidB (ls.take k)).length) (hp' : p' = p + (layB y).length) (hc : p' ≤ c) : CutInv ls c (k + 1) p' 0 :=
  .inr ⟨rfl, by rw [laid_take hy, List.length_append, hp', hp], hc⟩

theorem cut_step0 {ls : List LayV} {c k p : Nat} {bad : Int} {y : LayV} (hy : ls[k]? = some y) (hw : Hid (y.what % 4 = 0)) (_hpl : p ≤ ((laidB ls).take c).length) (h : CutInv ls c k p bad) :
    CutInv ls c (k + 1) (rByte ((laidB ls).take c) (p, bad) 255).2.1 (rByte ((laidB ls).take c) (p, bad) 255).2.2 := by
  rcases h with rfl | ⟨rfl, hp, hpc⟩
  · exact .inl rfl
  · have hl := layB0 hw
    rw [byt_of] at hl
    rcases cut_cases hy hp hpc with ⟨post, hd, hc⟩ | ⟨hj, hd⟩
    · rw [hl] at hd hc
      have hb : (y.b.toNat : Int) ≤ 255 := by have := y.b.toNat_lt; omega
      rw [back_byte hd hb]
      exact cut_next hy hp (by rw [hl]; rfl) hc
    · rw [hl] at hj hd
      have e : c - p = 0 := by simp at hj; omega
      rw [e, List.take_zero] at hd
      rw [cut_byte (List.drop_eq_nil_iff.1 hd)]
      exact .inl rfl
theorem cut_step1 {ls : List LayV} {c k p : Nat} {bad : Int} {y : LayV} (hy : ls[k]? = some y) (hn : y.n < 18446744073709551616) (hw : Hid (y.what % 4 = 1)) (h : CutInv ls c k p bad) :
    CutInv ls c (k + 1) (rNum ((laidB ls).take c) (p, bad) 18446744073709551615).2.1 (rNum ((laidB ls).take c) (p, bad) 18446744073709551615).2.2 := by
  rcases h with rfl | ⟨rfl, hp, hpc⟩
  · exact .inl rfl
  · have hl := layB1 hw
    rcases cut_cases hy hp hpc with ⟨post, hd, hc⟩ | ⟨hj, hd⟩
    · rw [hl] at hd hc
      rw [back_num hn (by omega) hd]
      exact cut_next hy hp (by rw [hl]) hc
    · rw [hl] at hj hd
      rw [cut_num hj hd]
      exact .inl rfl
theorem cut_step3 {ls : List LayV} {c k p : Nat} {bad : Int} {y : LayV} (hy : ls[k]? = some y) (hx : y.x < 18446744073709551616) (hw : Hid (y.what % 4 = 3)) (hpl : p ≤ ((laidB ls).take c).length) (h : CutInv ls c k p bad) :
    CutInv ls c (k + 1) (rFloat ((laidB ls).take c) (p, bad)).2.1 (rFloat ((laidB ls).take c) (p, bad)).2.2 := by
  rcases h with rfl | ⟨rfl, hp, hpc⟩
  · exact .inl rfl
  · have hl := layB3 hw
    rcases cut_cases hy hp hpc with ⟨post, hd, hc⟩ | ⟨hj, hd⟩
    · rw [hl] at hd hc
      rw [back_float hx hd]
      exact cut_next hy hp (by rw [hl, leB_len]) (by rw [leB_len] at hc; exact hc)
    · have h2 := len_of_drop' hpl hd
      rw [hl] at hj h2
      rw [leB_len] at hj
      have h3 := List.length_take_le (c - p) (leB 8 (bitsOf y.x))
      rw [cut_float (by omega)]
      exact .inl rfl
theorem cut_step2 {ls : List LayV} {c k p : Nat} {bad : Int} {y : LayV} (hy : ls[k]? = some y) (ht : y.t.size < 18446744073709551616) (hw : Hid (y.what % 4 = 2)) (hpl : p ≤ ((laidB ls).take c).length) (h : CutInv ls c k p bad) :
    CutInv ls c (k + 1) (rText ((laidB ls).take c) (p, bad) (y.t.size : Int)).2.1 (rText ((laidB ls).take c) (p, bad) (y.t.size : Int)).2.2 := by
  rcases h with rfl | ⟨rfl, hp, hpc⟩
  · exact .inl rfl
  · have hl := layB2 hw
    rcases cut_cases hy hp hpc with ⟨post, hd, hc⟩ | ⟨hj, hd⟩
    · rw [hl] at hd hc
      rw [back_text ht (Int.le_refl _) hd]
      exact cut_next hy hp (by rw [hl]) hc
    · rw [hl] at hj hd
      rw [cut_text ht (Int.le_refl _) hpl hj hd]
      exact .inl rfl

end Go.Proofs.Ytbeaacchhaipjaa
