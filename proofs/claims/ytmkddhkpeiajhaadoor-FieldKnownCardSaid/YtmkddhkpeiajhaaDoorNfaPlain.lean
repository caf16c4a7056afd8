/-
  What the statements of chapter 10 ask of the machine, plain: the rules; quoted texts; the four that take ages elsewhere.
-/
import Derived.Test.YtmkddhkpeiajhaaDoorRxs
import Derived.Test.YtmkddhkpeiajhaaDoorPrintAll
namespace Go.Proofs.YtmkddhkpeiajhaaDoor

/-- where a match from a place ends: as At answers it -/
def endO : Option (Nat × Nat) → Nat
  | some h => h.2
  | none => 0
theorem best_at {R : Nat → Nat → Prop} {f : Nat} {o : Option (Nat × Nat)} (h : Best R f f o) : (o.isSome = true ↔ ∃ j, R f j) ∧ (o.isSome = true → R f (endO o) ∧ ∀ j, R f j → j ≤ endO o) := by
  cases o with
  | none =>
    refine ⟨⟨fun h => (by cases h), fun ⟨j, hj⟩ => absurd hj (h f j (Nat.le_refl _) (Nat.le_refl _))⟩, fun h => (by cases h)⟩
  | some g =>
    obtain ⟨h1, h2, h3, h4, h5⟩ := h
    obtain ⟨i, j⟩ := g
    simp only at h1 h2 h3 h5
    obtain rfl : i = f := by omega
    exact ⟨⟨fun _ => ⟨j, h3⟩, fun _ => rfl⟩, fun _ => ⟨h3, h5⟩⟩

/-- NfaRules' arithmetic -/
theorem rules_law (x : List UInt8) (a b : Rx) (f : Nat) (hf : f ≤ x.length) (o : Rx → Option (Nat × Nat)) (ho : ∀ r, Best (Mt x r) f f (o r)) :
    ((o (.alt a b)).isSome = ((o a).isSome || (o b).isSome)) ∧ (o (.star a)).isSome = true ∧ (o (.opt a)).isSome = true ∧ (o (.plus a)).isSome = (o a).isSome ∧
    ((o a).isSome = true → (o b).isSome = true → endO (o (.alt a b)) = max (endO (o a)) (endO (o b))) ∧ ((o a).isSome = true → (o b).isSome = false → endO (o (.alt a b)) = endO (o a)) ∧
    ((o a).isSome = false → (o b).isSome = true → endO (o (.alt a b)) = endO (o b)) ∧
    f ≤ endO (o (.star a)) ∧ ((o a).isSome = true → endO (o a) ≤ endO (o (.star a)) ∧ endO (o (.plus a)) = endO (o (.star a)) ∧ endO (o (.opt a)) = max f (endO (o a))) ∧
    ((o a).isSome = false → endO (o (.star a)) = f ∧ endO (o (.opt a)) = f) := by
  obtain ⟨a1, a2⟩ := best_at (ho a)
  obtain ⟨b1, b2⟩ := best_at (ho b)
  obtain ⟨l1, l2⟩ := best_at (ho (.alt a b))
  obtain ⟨s1, s2⟩ := best_at (ho (.star a))
  obtain ⟨p1, p2⟩ := best_at (ho (.plus a))
  obtain ⟨q1, q2⟩ := best_at (ho (.opt a))
  have hs : (o (.star a)).isSome = true := s1.2 ⟨f, .nil f⟩
  have hq : (o (.opt a)).isSome = true := q1.2 ⟨f, .inl rfl⟩
  obtain ⟨s3, s4⟩ := s2 hs
  obtain ⟨q3, q4⟩ := q2 hq
  have hsf := s4 f (.nil f)
  have hl : (o (.alt a b)).isSome = ((o a).isSome || (o b).isSome) := by
    rw [Bool.eq_iff_iff, Bool.or_eq_true, l1, a1, b1]
    exact ⟨fun ⟨j, h⟩ => h.elim (fun h => .inl ⟨j, h⟩) (fun h => .inr ⟨j, h⟩), fun h => h.elim (fun ⟨j, h⟩ => ⟨j, .inl h⟩) (fun ⟨j, h⟩ => ⟨j, .inr h⟩)⟩
  have hp : (o (.plus a)).isSome = (o a).isSome := by
    rw [Bool.eq_iff_iff, p1, a1]
    exact ⟨fun ⟨j, k, h, _⟩ => ⟨k, h⟩, fun ⟨j, h⟩ => ⟨j, j, h, .nil j⟩⟩
  refine ⟨hl, hs, hq, hp, fun ha hb => ?_, fun ha hb => ?_, fun ha hb => ?_, hsf, fun ha => ?_, fun ha => ?_⟩
  · obtain ⟨a3, a4⟩ := a2 ha
    obtain ⟨b3, b4⟩ := b2 hb
    obtain ⟨l3, l4⟩ := l2 (by rw [hl, ha]; rfl)
    have := l4 _ (.inl a3)
    have := l4 _ (.inr b3)
    rcases l3 with h | h
    · have := a4 _ h; omega
    · have := b4 _ h; omega
  · obtain ⟨a3, a4⟩ := a2 ha
    obtain ⟨l3, l4⟩ := l2 (by rw [hl, ha]; rfl)
    have := l4 _ (.inl a3)
    rcases l3 with h | h
    · have := a4 _ h; omega
    · exact absurd (b1.2 ⟨_, h⟩) (by rw [hb]; decide)
  · obtain ⟨b3, b4⟩ := b2 hb
    obtain ⟨l3, l4⟩ := l2 (by rw [hl, hb, Bool.or_true])
    have := l4 _ (.inr b3)
    rcases l3 with h | h
    · exact absurd (a1.2 ⟨_, h⟩) (by rw [ha]; decide)
    · have := b4 _ h; omega
  · obtain ⟨a3, a4⟩ := a2 ha
    obtain ⟨p3, p4⟩ := p2 (by rw [hp, ha])
    have haf := Mt.mono x a a3 hf
    have h1 := s4 _ (.cons a3 (.nil _))
    refine ⟨h1, ?_, ?_⟩
    · obtain ⟨k, hk, hm⟩ := p3
      have h2 := s4 _ (.cons hk hm)
      have h3 : endO (o (.star a)) ≤ endO (o (.plus a)) := by
        cases s3 with
        | nil => have := p4 _ ⟨_, a3, .nil _⟩; omega
        | cons h t => exact p4 _ ⟨_, h, t⟩
      omega
    · have := q4 _ (.inl rfl)
      have := q4 _ (.inr a3)
      rcases q3 with h | h
      · omega
      · have := a4 _ h; omega
  · have hn : ∀ j, ¬ Mt x a f j := fun j h => by have := a1.2 ⟨j, h⟩; rw [ha] at this; cases this
    constructor
    · generalize endO (o (.star a)) = e at s3
      have s3 : Many (Mt x a) f e := s3
      cases s3 with
      | nil => rfl
      | cons h t => exact absurd h (hn _)
    · rcases q3 with h | h
      · exact h.symm
      · exact absurd h (hn _)

/-! ### quoted texts -/
def byteRx (c : UInt8) : Rx := .set (w4 (mOf [c]))
def qRx : List UInt8 → Rx
  | [] => .eps
  | [c] => byteRx c
  | c :: d :: l => .cat (byteRx c) (qRx (d :: l))
theorem qRx_tree : ∀ l : List UInt8, qTree l = rxT (qRx l)
  | [] => rfl
  | [c] => rfl
  | c :: d :: l => by
    show Tree.node 2 z4 [tByte c, qTree (d :: l)] = Tree.node 2 z4 [rxT (byteRx c), rxT (qRx (d :: l))]
    rw [qRx_tree (d :: l)]
    rfl
theorem has_byte (c d : UInt8) : w4has (w4 (mOf [c])) d.toNat = decide (d = c) := by
  rw [w4has_w4 _ d.toNat_lt]
  unfold mOf
  rw [List.any_cons, List.any_nil, Bool.or_false]
  by_cases h : d = c
  · rw [h]; simp
  · rw [decide_eq_false h, beq_eq_false_iff_ne]
    exact fun e => h (UInt8.toNat_inj.1 e)
theorem hasAt_byte (x : List UInt8) (c : UInt8) (p : Nat) : hasAt x (w4 (mOf [c])) p = true ↔ x[p]? = some c := by
  unfold hasAt
  cases h : x[p]? with
  | none => exact ⟨fun h => (by cases h), fun h => (by cases h)⟩
  | some d =>
    simp only
    rw [has_byte, decide_eq_true_eq]
    exact ⟨fun h => by rw [h], fun h => by injection h⟩
theorem quote_match (x : List UInt8) : ∀ (l : List UInt8) (i j : Nat), Mt x (qRx l) i j ↔ j = i + l.length ∧ ∀ k, k < l.length → x[i + k]? = l[k]?
  | [], i, j => by
    show i = j ↔ _
    exact ⟨fun h => ⟨by simp [h], fun k hk => by simp at hk⟩, fun h => by have := h.1; simp at this; exact this.symm⟩
  | [c], i, j => by
    show hasAt x (w4 (mOf [c])) i = true ∧ j = i + 1 ↔ _
    rw [hasAt_byte]
    constructor
    · rintro ⟨h1, h2⟩
      refine ⟨h2, fun k hk => ?_⟩
      have : k = 0 := by simp at hk; exact hk
      subst this
      exact h1
    · rintro ⟨h1, h2⟩
      exact ⟨h2 0 (by simp), h1⟩
  | c :: d :: l, i, j => by
    show (∃ k, (hasAt x (w4 (mOf [c])) i = true ∧ k = i + 1) ∧ Mt x (qRx (d :: l)) k j) ↔ _
    constructor
    · rintro ⟨k, ⟨h1, rfl⟩, h2⟩
      obtain ⟨h3, h4⟩ := (quote_match x (d :: l) (i + 1) j).1 h2
      refine ⟨by rw [h3]; simp only [List.length_cons]; omega, fun k hk => ?_⟩
      cases k with
      | zero => exact (hasAt_byte x c i).1 h1
      | succ k =>
        have := h4 k (by simp only [List.length_cons] at hk ⊢; omega)
        rw [show i + (k + 1) = i + 1 + k by omega, this]
        rfl
    · rintro ⟨h1, h2⟩
      refine ⟨i + 1, ⟨(hasAt_byte x c i).2 (h2 0 (by simp)), rfl⟩, (quote_match x (d :: l) (i + 1) j).2 ⟨by rw [h1]; simp only [List.length_cons]; omega, fun k hk => ?_⟩⟩
      have := h2 (k + 1) (by simp only [List.length_cons] at hk ⊢; omega)
      rw [show i + 1 + k = i + (k + 1) by omega, this]
      rfl

/-! ### the four that take ages elsewhere -/
def repRx (r : Rx) : Nat → Rx
  | 0 => r
  | n + 1 => .cat r (repRx r n)
def aRx : Rx := byteRx 97
def longRx : Nat → Rx
  | 0 => .cat (.star (.star aRx)) (byteRx 98)
  | 1 => .cat (.star (.alt aRx (.alt aRx (.cat aRx aRx)))) (byteRx 99)
  | 2 => .cat (repRx (.opt aRx) 19) (.cat (repRx aRx 19) (byteRx 100))
  | _ => .cat (.plus (.plus (.plus aRx))) (byteRx 98)
def longLast : Nat → UInt8
  | 0 => 98
  | 1 => 99
  | 2 => 100
  | _ => 98
def longLeast : Nat → Nat
  | 2 => 20
  | 3 => 1
  | _ => 0
theorem byte_match (x : List UInt8) (c : UInt8) (i j : Nat) : Mt x (byteRx c) i j ↔ x[i]? = some c ∧ j = i + 1 := by
  show hasAt x (w4 (mOf [c])) i = true ∧ j = i + 1 ↔ _
  rw [hasAt_byte]
/-- a match ends behind its last byte -/
theorem long_ends (x : List UInt8) (k : Nat) (hk : k < 4) (i j : Nat) (h : Mt x (longRx k) i j) : ∃ p, x[p]? = some (longLast k) ∧ j = p + 1 := by
  have : k = 0 ∨ k = 1 ∨ k = 2 ∨ k = 3 := by omega
  rcases this with rfl | rfl | rfl | rfl
  · obtain ⟨p, _, h⟩ := h; exact ⟨p, (byte_match x _ _ _).1 h⟩
  · obtain ⟨p, _, h⟩ := h; exact ⟨p, (byte_match x _ _ _).1 h⟩
  · obtain ⟨_, _, p, _, h⟩ := h; exact ⟨p, (byte_match x _ _ _).1 h⟩
  · obtain ⟨p, _, h⟩ := h; exact ⟨p, (byte_match x _ _ _).1 h⟩
theorem rep_a (x : List UInt8) : ∀ (n i j : Nat), Mt x (repRx aRx n) i j ↔ j = i + (n + 1) ∧ ∀ k, k < n + 1 → x[i + k]? = some 97
  | 0, i, j => by
    show Mt x (byteRx 97) i j ↔ _
    rw [byte_match]
    constructor
    · rintro ⟨h1, h2⟩
      refine ⟨h2, fun k hk => ?_⟩
      have : k = 0 := by omega
      subst this; exact h1
    · rintro ⟨h1, h2⟩
      exact ⟨h2 0 (by omega), h1⟩
  | n + 1, i, j => by
    show (∃ k, Mt x (byteRx 97) i k ∧ Mt x (repRx aRx n) k j) ↔ _
    constructor
    · rintro ⟨k, h1, h2⟩
      obtain ⟨h0, rfl⟩ := (byte_match x _ _ _).1 h1
      obtain ⟨h3, h4⟩ := (rep_a x n _ _).1 h2
      refine ⟨by omega, fun k hk => ?_⟩
      cases k with
      | zero => exact h0
      | succ k => rw [show i + (k + 1) = i + 1 + k by omega]; exact h4 k (by omega)
    · rintro ⟨h1, h2⟩
      exact ⟨i + 1, (byte_match x _ _ _).2 ⟨h2 0 (by omega), rfl⟩, (rep_a x n _ _).2 ⟨by omega, fun k hk => by rw [show i + 1 + k = i + (k + 1) by omega]; exact h2 _ (by omega)⟩⟩
theorem rep_opt (x : List UInt8) (r : Rx) (i : Nat) : ∀ n, Mt x (repRx (.opt r) n) i i
  | 0 => .inl rfl
  | n + 1 => ⟨i, .inl rfl, rep_opt x r i n⟩
theorem rep_opt_le (x : List UInt8) (r : Rx) (i j : Nat) (h : Mt x r i j) (hi : i ≤ x.length) : i ≤ j := (Mt.mono x r h hi).1

theorem get_as (n : Nat) (c : UInt8) (p : Nat) : (List.replicate n (97 : UInt8) ++ [c])[p]? = if p < n then some 97 else if p = n then some c else none := by
  by_cases h : p < n
  · rw [if_pos h, List.getElem?_append_left (by simpa using h), List.getElem?_replicate, if_pos h]
  · rw [if_neg h, List.getElem?_append_right (by simpa using h), List.length_replicate]
    by_cases h2 : p = n
    · subst h2; rw [if_pos rfl, Nat.sub_self]; rfl
    · rw [if_neg h2, List.getElem?_eq_none (by simp; omega)]

/-- in a row of a none of them is found -/
theorem long_no (n k : Nat) (hk : k < 4) : findF (machF (longRx k)) (List.replicate n 97) 0 n = none := by
  have h := find_law (longRx k) (List.replicate n 97) 0 n (Nat.zero_le _) (by simp)
  cases ho : findF (machF (longRx k)) (List.replicate n 97) 0 n with
  | none => rfl
  | some g =>
    rw [ho] at h
    obtain ⟨p, h1, _⟩ := long_ends _ k hk _ _ h.2.2.1
    rw [List.getElem?_replicate] at h1
    split at h1
    · injection h1 with h1
      have : k = 0 ∨ k = 1 ∨ k = 2 ∨ k = 3 := by omega
      rcases this with rfl | rfl | rfl | rfl <;> exact absurd h1 (by decide)
    · cases h1
/-- with the last byte behind it is, from so many on -/
theorem long_yes (n k : Nat) (hk : k < 4) : ((findF (machF (longRx k)) (List.replicate n 97 ++ [longLast k]) 0 (n + 1)).isSome = decide (longLeast k ≤ n)) ∧ ((findF (machF (longRx k)) (List.replicate n 97 ++ [longLast k]) 0 (n + 1)).isSome = true → endO (findF (machF (longRx k)) (List.replicate n 97 ++ [longLast k]) 0 (n + 1)) = n + 1) := by
  have h := find_law (longRx k) (List.replicate n 97 ++ [longLast k]) 0 (n + 1) (Nat.zero_le _) (by simp)
  have hc : longLast k ≠ 97 := by
    have : k = 0 ∨ k = 1 ∨ k = 2 ∨ k = 3 := by omega
    rcases this with rfl | rfl | rfl | rfl <;> decide
  have hend : ∀ i j, Mt (List.replicate n 97 ++ [longLast k]) (longRx k) i j → j = n + 1 := fun i j hm => by
    obtain ⟨p, h1, h2⟩ := long_ends _ k hk _ _ hm
    rw [get_as] at h1
    split at h1
    · injection h1 with h1; exact absurd h1.symm hc
    · split at h1
      · omega
      · cases h1
  have hlt : ∀ p, p < n → (List.replicate n 97 ++ [longLast k])[p]? = some 97 := fun p hp => by rw [get_as, if_pos hp]
  have hn : (List.replicate n 97 ++ [longLast k])[n]? = some (longLast k) := by rw [get_as, if_neg (by omega), if_pos rfl]
  have hex : longLeast k ≤ n → ∃ i, i ≤ n + 1 ∧ Mt (List.replicate n 97 ++ [longLast k]) (longRx k) i (n + 1) := fun hle => by
    have : k = 0 ∨ k = 1 ∨ k = 2 ∨ k = 3 := by omega
    rcases this with rfl | rfl | rfl | rfl
    · exact ⟨n, by omega, n, .nil n, (byte_match _ _ _ _).2 ⟨hn, rfl⟩⟩
    · exact ⟨n, by omega, n, .nil n, (byte_match _ _ _ _).2 ⟨hn, rfl⟩⟩
    · have hle : 20 ≤ n := hle
      exact ⟨n - 20, by omega, n - 20, rep_opt _ _ _ _, n, (rep_a _ 19 _ _).2 ⟨by omega, fun q hq => hlt _ (by omega)⟩, (byte_match _ _ _ _).2 ⟨hn, rfl⟩⟩
    · have hle : 1 ≤ n := hle
      exact ⟨n - 1, by omega, n, ⟨n, ⟨n, ⟨n, (byte_match _ _ _ _).2 ⟨hlt _ (by omega), by omega⟩, .nil _⟩, .nil _⟩, .nil _⟩, (byte_match _ _ _ _).2 ⟨hn, rfl⟩⟩
  have hno : n < longLeast k → ∀ i j, i ≤ n + 1 → ¬ Mt (List.replicate n 97 ++ [longLast k]) (longRx k) i j := fun hl i j hi hm => by
    have : k = 0 ∨ k = 1 ∨ k = 2 ∨ k = 3 := by omega
    rcases this with rfl | rfl | rfl | rfl
    · exact absurd hl (Nat.not_lt_zero _)
    · exact absurd hl (Nat.not_lt_zero _)
    · have hl : n < 20 := hl
      obtain ⟨a, _, b, h2, h3⟩ := hm
      obtain ⟨h4, _⟩ := (rep_a _ 19 _ _).1 h2
      obtain ⟨h5, _⟩ := (byte_match _ _ _ _).1 h3
      rw [get_as] at h5
      split at h5
      · omega
      · split at h5
        · omega
        · cases h5
    · have hl : n < 1 := hl
      obtain ⟨a, ⟨b, ⟨c, ⟨d, h1, _⟩, _⟩, _⟩, h3⟩ := hm
      obtain ⟨h5, _⟩ := (byte_match _ _ _ _).1 h1
      rw [get_as, if_neg (by omega)] at h5
      split at h5
      · injection h5 with h5; exact absurd h5 hc
      · cases h5
  cases ho : findF (machF (longRx k)) (List.replicate n 97 ++ [longLast k]) 0 (n + 1) with
  | none =>
    rw [ho] at h
    refine ⟨?_, fun h => by cases h⟩
    rw [eq_comm]
    show decide _ = false
    rw [decide_eq_false_iff_not]
    intro hle
    obtain ⟨i, hi, hm⟩ := hex hle
    exact h i _ (Nat.zero_le _) hi hm
  | some g =>
    rw [ho] at h
    refine ⟨?_, fun _ => hend _ _ h.2.2.1⟩
    rw [eq_comm]
    show decide _ = true
    rw [decide_eq_true_eq]
    refine Classical.byContradiction fun hle => ?_
    exact hno (by omega) _ _ h.2.1 h.2.2.1

end Go.Proofs.YtmkddhkpeiajhaaDoor
