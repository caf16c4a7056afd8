/-
  A right tree's text is read as that very tree, or its brackets are too deep: plain.
-/
import Derived.Test.YtmkddhkpeiajhaaRxs
import Derived.Test.YtmkddhkpeiajhaaQuoteLaw
namespace Go.Proofs.Ytmkddhkpeiajhaa

/-- this text stands there -/
def Sub (s : List UInt8) (p : Nat) (T : List UInt8) : Prop := ∀ k, k < T.length → s[p + k]? = T[k]?
section
variable {s : List UInt8} {p : Nat}
theorem Sub.app {A B : List UInt8} (h : Sub s p (A ++ B)) : Sub s p A ∧ Sub s (p + A.length) B :=
  ⟨fun k hk => by rw [h k (by rw [List.length_append]; omega), List.getElem?_append_left hk], fun k hk => by
    rw [Nat.add_assoc, h _ (by rw [List.length_append]; omega), List.getElem?_append_right (by omega), show A.length + k - A.length = k by omega]⟩
theorem Sub.cons {c : UInt8} {T : List UInt8} (h : Sub s p (c :: T)) : s[p]? = some c ∧ Sub s (p + 1) T :=
  ⟨h 0 (by simp), fun k hk => by rw [show p + 1 + k = p + (k + 1) by omega, h (k + 1) (by simp; omega)]; rfl⟩
theorem isAt_this {c : UInt8} {n : Nat} (h : s[p]? = some c) : isAt s p n = (c.toNat == n) := by unfold isAt; rw [h]
theorem isAt_gone {n : Nat} (h : s[p]? = none) : isAt s p n = false := by unfold isAt; rw [h]

/-! ### sets -/
theorem end_oct {b : Nat} (hb : b < 256) (h : Sub s p (octD b)) : endF s p = some (b, p + 4) := by
  obtain ⟨A, hA⟩ : ∃ A : UInt8, UInt8.ofNat (48 + b / 64) = A := ⟨_, rfl⟩
  obtain ⟨B, hB⟩ : ∃ A : UInt8, UInt8.ofNat (48 + b / 8 % 8) = A := ⟨_, rfl⟩
  obtain ⟨C, hC⟩ : ∃ A : UInt8, UInt8.ofNat (48 + b % 8) = A := ⟨_, rfl⟩
  have eA : A.toNat = 48 + b / 64 := by rw [← hA, UInt8.toNat_ofNat', Nat.mod_eq_of_lt (by omega)]
  have eB : B.toNat = 48 + b / 8 % 8 := by rw [← hB, UInt8.toNat_ofNat', Nat.mod_eq_of_lt (by omega)]
  have eC : C.toNat = 48 + b % 8 := by rw [← hC, UInt8.toNat_ofNat', Nat.mod_eq_of_lt (by omega)]
  unfold octD at h
  rw [hA, hB, hC] at h
  obtain ⟨q0, h⟩ := h.cons
  obtain ⟨q1, h⟩ := h.cons
  obtain ⟨q2, h⟩ := h.cons
  obtain ⟨q3, _⟩ := h.cons
  have n1 : A ≠ 110 := fun e => by rw [e] at eA; have : (110 : UInt8).toNat = 110 := rfl; omega
  have n2 : A ≠ 116 := fun e => by rw [e] at eA; have : (116 : UInt8).toNat = 116 := rfl; omega
  unfold endF
  rw [q0]
  simp only
  rw [if_neg (by decide), q1]
  simp only
  rw [if_neg n1, if_neg n2, if_pos (isOct_of (by omega) (by omega)), show p + 2 = p + 1 + 1 by omega, octF_ok _ _ _ _ B q2 (by omega) (by omega), octF_ok _ _ _ _ C q3 (by omega) (by omega), octF]
  simp only
  rw [show (8 * (8 * (A.toNat - 48) + (B.toNat - 48)) + (C.toNat - 48)) % 256 = b by omega]
theorem item_oct {b : Nat} (hb : b < 256) (h : Sub s p (octD b)) {c : UInt8} (hn : s[p + 4]? = some c) (hc : c ≠ 45) : itemF s p = some (mOf [UInt8.ofNat b], p + 4) := by
  have q0 : s[p]? = some 92 := (Sub.cons h).1
  unfold itemF opensF
  rw [q0, end_oct hb h]
  simp only
  rw [if_neg (by simp), if_neg]
  rw [hn]
  rintro ⟨h1, _⟩
  injection h1 with h1
  exact hc h1

/-- the bytes of a set from j on, so many -/
def setFrom (m : Mem) : Nat → Nat → List UInt8
  | _, 0 => []
  | j, n + 1 => (if m j then octD j else []) ++ setFrom m (j + 1) n
theorem setFrom_snoc (m : Mem) : ∀ (n j : Nat), setFrom m j (n + 1) = setFrom m j n ++ (if m (j + n) then octD (j + n) else [])
  | 0, j => by simp [setFrom]
  | n + 1, j => by
    rw [setFrom, setFrom_snoc m n (j + 1), setFrom, List.append_assoc, show j + 1 + n = j + (n + 1) by omega]
theorem setUp_from (m : Mem) : ∀ j, setUp m j = setFrom m 0 j
  | 0 => rfl
  | j + 1 => by rw [setUp_succ, setUp_from m j, setFrom_snoc, Nat.zero_add]
/-- what stands behind the bytes from j on is one of them, or the bracket that closes -/
theorem from_next (m : Mem) : ∀ (n j : Nat), (∃ T, setFrom m j n ++ [93] = 92 :: T) ∨ setFrom m j n = []
  | 0, j => .inr rfl
  | n + 1, j => by
    by_cases h : m j = true
    · left
      rw [setFrom, if_pos h]
      exact ⟨_, rfl⟩
    · rw [setFrom, if_neg h, List.nil_append]
      exact from_next m n (j + 1)
theorem items_from (m : Mem) : ∀ (n j p f : Nat) (first : Bool) (q : Mem), j + n = 256 → Sub s p (setFrom m j n ++ [93]) → (first = true → setFrom m j n ≠ []) → (setFrom m j n).length < 4 * f →
    ∃ q', itemsF s f p first q = some (q', p + (setFrom m j n).length) ∧ ∀ b, b < 256 → q' b = (q b || (decide (j ≤ b) && m b))
  | 0, j, p, f, first, q, hj, h, hf, hlt => by
    obtain ⟨f, rfl⟩ : ∃ g, f = g + 1 := ⟨f - 1, by omega⟩
    cases first with
    | true => exact absurd rfl (hf rfl)
    | false =>
      have q0 : s[p]? = some 93 := (Sub.cons h).1
      refine ⟨q, ?_, fun b hb => ?_⟩
      · rw [itemsF, q0]; rfl
      · rw [decide_eq_false (by omega : ¬ j ≤ b)]; simp
  | n + 1, j, p, f, first, q, hj, h, hf, hlt => by
    obtain ⟨f, rfl⟩ : ∃ g, f = g + 1 := ⟨f - 1, by omega⟩
    by_cases hm : m j = true
    · rw [setFrom, if_pos hm, List.length_append, octD_len] at hlt
      rw [setFrom, if_pos hm, List.append_assoc] at h
      obtain ⟨h1, h2⟩ := h.app
      rw [octD_len] at h2
      have q0 : s[p]? = some 92 := (Sub.cons h1).1
      have q4 : ∃ c, s[p + 4]? = some c ∧ c ≠ 45 := by
        rcases from_next m n (j + 1) with ⟨T, hT⟩ | hT
        · rw [hT] at h2; exact ⟨92, h2.cons.1, by decide⟩
        · rw [hT] at h2; exact ⟨93, (Sub.cons h2).1, by decide⟩
      obtain ⟨c, hc, hc'⟩ := q4
      have hit : itemsF s (f + 1) p first q = itemsF s f (p + 4) false (mOr q (mOf [UInt8.ofNat j])) := by
        rw [itemsF, q0, if_neg (by simp), item_oct (by omega) h1 hc hc']
      obtain ⟨q', hq', hb'⟩ := items_from m n (j + 1) (p + 4) f false (mOr q (mOf [UInt8.ofNat j])) (by omega) h2 (by simp) (by omega)
      refine ⟨q', ?_, fun b hb => ?_⟩
      · rw [hit, hq', setFrom, if_pos hm, List.length_append, octD_len, Nat.add_assoc]
      · rw [hb' b hb]
        unfold mOr mOf
        rw [List.any_cons, List.any_nil, Bool.or_false, UInt8.toNat_ofNat', Nat.mod_eq_of_lt (by omega : j < 2 ^ 8)]
        by_cases hbj : b = j
        · subst hbj; rw [hm]; simp
        · rw [show (b == j) = false by rw [beq_eq_false_iff_ne]; exact hbj]
          by_cases hle : j + 1 ≤ b
          · rw [decide_eq_true hle, decide_eq_true (by omega : j ≤ b)]; simp
          · rw [decide_eq_false hle, decide_eq_false (by omega : ¬ j ≤ b)]; simp
    · rw [setFrom, if_neg hm, List.nil_append] at h hf hlt
      obtain ⟨q', hq', hb'⟩ := items_from m n (j + 1) p (f + 1) first q (by omega) h hf (by omega)
      refine ⟨q', ?_, fun b hb => ?_⟩
      · rw [hq', setFrom, if_neg hm, List.nil_append]
      · rw [hb' b hb]
        by_cases hbj : b = j
        · subst hbj
          rw [decide_eq_false (by omega : ¬ b + 1 ≤ b)]
          simp only [Bool.not_eq_true] at hm
          rw [hm]; simp
        · by_cases hle : j + 1 ≤ b
          · rw [decide_eq_true hle, decide_eq_true (by omega : j ≤ b)]
          · rw [decide_eq_false hle, decide_eq_false (by omega : ¬ j ≤ b)]
end
theorem w4_congr {p q : Mem} (h : ∀ b, b < 256 → p b = q b) : w4 p = w4 q := by
  unfold w4
  rw [word_congr h (by omega : 0 < 4), word_congr h (by omega : 1 < 4), word_congr h (by omega : 2 < 4), word_congr h (by omega : 3 < 4)]
theorem cntN_succ (m : Mem) (n : Nat) : cntN m (n + 1) = cntN m n + (m n).toNat := rfl
theorem cnt_le (m : Mem) : ∀ n, cntN m n ≤ n
  | 0 => Nat.le_refl _
  | n + 1 => by have := cnt_le m n; rw [cntN_succ]; cases m n <;> simp <;> omega
theorem cnt_all (m : Mem) : ∀ n, cntN m n = n → ∀ b, b < n → m b = true
  | 0, _, b, hb => by omega
  | n + 1, h, b, hb => by
    have := cnt_le m n
    rw [cntN_succ] at h
    cases hm : m n with
    | false => rw [hm] at h; simp at h; omega
    | true =>
      by_cases hbn : b = n
      · rw [hbn, hm]
      · refine cnt_all m n ?_ b (by omega)
        rw [hm] at h; simp at h; omega
theorem cnt_zero (m : Mem) : ∀ n, cntN m n = 0 → ∀ b, b < n → m b = false
  | 0, _, b, hb => by omega
  | n + 1, h, b, hb => by
    rw [cntN_succ] at h
    cases hm : m n with
    | true => rw [hm] at h; simp at h
    | false =>
      by_cases hbn : b = n
      · rw [hbn, hm]
      · refine cnt_zero m n ?_ b (by omega)
        rw [hm] at h; simp at h; omega
theorem from_nil (m : Mem) : ∀ (n j : Nat), setFrom m j n = [] → ∀ b, j ≤ b → b < j + n → m b = false
  | 0, j, _, b, h1, h2 => by omega
  | n + 1, j, h, b, h1, h2 => by
    rw [setFrom] at h
    by_cases hm : m j = true
    · rw [if_pos hm] at h; cases h
    · rw [if_neg hm, List.nil_append] at h
      by_cases hb : b = j
      · rw [hb]; simpa using hm
      · exact from_nil m n (j + 1) h b (by omega) (by omega)
theorem cnt_none (m : Mem) : ∀ n, (∀ b, b < n → m b = false) → cntN m n = 0
  | 0, _ => rfl
  | n + 1, h => by
    rw [cntN_succ, h n (by omega), cnt_none m n fun b hb => h b (by omega)]
    rfl

theorem atom_set (s : List UInt8) (alt : St → Pc × St) (p o fr : Nat) (m : Mem) (h : Sub s p (setL m)) : atomF s alt ⟨p, o, 0, fr⟩ = (pcLeaf 1 (w4 m), ⟨p + (setL m).length, o, 0, fr⟩) := by
  unfold setL at h ⊢
  by_cases h1 : cntN m 256 = 256
  · rw [if_pos h1] at h ⊢
    have q0 : s[p]? = some 46 := (Sub.cons h).1
    unfold atomF
    simp only
    rw [q0]
    simp only
    rw [if_neg (by decide), if_pos (by decide), w4_congr (p := mNot mNone) (q := m) (fun b hb => by rw [cnt_all m 256 h1 b hb]; rfl)]
    rfl
  · rw [if_neg h1] at h ⊢
    by_cases h2 : cntN m 256 = 0
    · rw [if_pos h2] at h ⊢
      obtain ⟨q0, h⟩ := h.cons
      obtain ⟨q1, h⟩ := h.cons
      have ho : Sub s (p + 1 + 1) (octD 0) := fun k hk => by rw [h k (by rw [octD_len] at hk; simp; omega)]; rw [octD_len] at hk; match k, hk with | 0, _ => rfl | 1, _ => rfl | 2, _ => rfl | 3, _ => rfl
      have h45 : s[p + 1 + 1 + 4]? = some 45 := h 4 (by simp)
      have ho2 : Sub s (p + 1 + 1 + 5) (octD 255) := fun k hk => by
        rw [show p + 1 + 1 + 5 + k = p + 1 + 1 + (5 + k) by omega, h (5 + k) (by rw [octD_len] at hk; simp; omega)]; rw [octD_len] at hk; match k, hk with | 0, _ => rfl | 1, _ => rfl | 2, _ => rfl | 3, _ => rfl
      have h93 : s[p + 1 + 1 + 9]? = some 93 := h 9 (by simp)
      have hl5 : s[p + 1 + 1 + 5]? = some 92 := (Sub.cons ho2).1
      have hlen : p + 1 + 1 + 9 < s.length := (List.getElem?_eq_some_iff.1 h93).1
      have h92 : s[p + 1 + 1]? = some 92 := (Sub.cons ho).1
      have hit : itemF s (p + 1 + 1) = some (mSpan 0 255, p + 1 + 1 + 9) := by
        unfold itemF opensF
        rw [h92, end_oct (by omega) ho]
        simp only
        rw [if_neg (by simp), if_pos ⟨h45, by omega, by rw [hl5]; decide⟩, hl5, if_neg (by simp), end_oct (by omega) ho2]
        simp
      have hbr : bracketF s ((p + 1 : Nat) : Int) = some (mNot (mOr mNone (mSpan 0 255)), p + 12) := by
        unfold bracketF
        rw [if_neg (by omega)]
        simp only [Int.toNat_natCast, q1, beq_self_eq_true, if_true]
        obtain ⟨f, hf⟩ : ∃ f, s.length = f + 1 := ⟨s.length - 1, by omega⟩
        rw [hf, itemsF, hit]
        simp only [Bool.not_true, Bool.false_and, Bool.false_eq_true, if_false]
        rw [itemsF, h93]
        simp
      unfold atomF
      simp only
      rw [q0]
      simp only
      rw [if_neg (by decide), if_neg (by decide), if_pos (by decide), hbr]
      simp only
      rw [w4_congr (p := mNot (mOr mNone (mSpan 0 255))) (q := m) (fun b hb => by
        rw [cnt_zero m 256 h2 b hb]
        unfold mNot mOr mNone mSpan
        rw [decide_eq_true (Nat.zero_le b), decide_eq_true (by omega : b ≤ 255)]; rfl)]
      rfl
    · rw [if_neg h2] at h ⊢
      obtain ⟨q0, h⟩ := h.cons
      rw [setUp_from] at h ⊢
      have hne : setFrom m 0 256 ≠ [] := fun e => h2 (cnt_none m 256 fun b hb => from_nil m 256 0 e b (Nat.zero_le _) (by omega))
      obtain ⟨T, hT⟩ : ∃ T, setFrom m 0 256 ++ [93] = 92 :: T := (from_next m 256 0).elim id (fun e => absurd e hne)
      have q1 : s[p + 1]? = some 92 := by have h' := h; rw [hT] at h'; exact h'.cons.1
      have hlast : s[p + 1 + (setFrom m 0 256).length]? = some 93 := (Sub.cons h.app.2).1
      have hlen := (List.getElem?_eq_some_iff.1 hlast).1
      have hcnt : ∃ q', itemsF s (s.length + 1) (p + 1) true mNone = some (q', p + 1 + (setFrom m 0 256).length) ∧ ∀ b, b < 256 → q' b = (mNone b || (decide (0 ≤ b) && m b)) :=
        items_from m 256 0 (p + 1) (s.length + 1) true mNone rfl h (fun _ => hne) (by omega)
      obtain ⟨q', hq', hb'⟩ := hcnt
      have hbr : bracketF s ((p + 1 : Nat) : Int) = some (q', p + 1 + (setFrom m 0 256).length + 1) := by
        unfold bracketF
        rw [if_neg (by omega)]
        simp only [Int.toNat_natCast, q1, show ((some (92 : UInt8) : Option UInt8) == some 94) = false from rfl, Bool.false_eq_true, if_false]
        rw [hq']
      unfold atomF
      simp only
      rw [q0]
      simp only
      rw [if_neg (by decide), if_neg (by decide), if_pos (by decide), hbr]
      simp only
      rw [w4_congr (p := q') (q := m) (fun b hb => by rw [hb' b hb]; unfold mNone; simp)]
      simp only [stAt, List.length_cons, List.length_append, List.length_nil]
      rw [show p + 1 + (setFrom m 0 256).length + 1 = p + ((setFrom m 0 256).length + (0 + 1) + 1) by omega]

end Go.Proofs.Ytmkddhkpeiajhaa
