import Derived.Test.YtmkddhkpeiajhaaDoorRightLaw
import Derived.Test.YtmkddhkpeiajhaaDoorRxs
import Derived.Test.YtmkddhkpeiajhaaDoorParser
/-
  A text that is quoted is read as a row of its bytes: plain.
-/
namespace Go.Proofs.YtmkddhkpeiajhaaDoor

/-- a byte as a piece -/
def leafQ (c : UInt8) : Pc := pcLeaf 1 (w4 (mOf [c]))
def tByte (c : UInt8) : Tree := .node 1 (w4 (mOf [c])) []
/-- a row of bytes -/
def qTree : List UInt8 → Tree
  | [] => tEmpty
  | [c] => tByte c
  | c :: d :: l => .node 2 z4 [tByte c, qTree (d :: l)]

theorem quote_at : ∀ (l : List UInt8) (i k : Nat) (c : UInt8), l[i]? = some c → k < 4 → (quoteL l)[4 * i + k]? = (octD c.toNat)[k]?
  | [], _, _, _, h, _ => by cases h
  | d :: l, 0, k, c, h, hk => by
    injection h with h
    subst h
    have e : quoteL (d :: l) = octD d.toNat ++ quoteL l := by unfold quoteL; rw [List.flatMap_cons]
    rw [e, Nat.mul_zero, Nat.zero_add, List.getElem?_append_left (by rw [octD_len]; exact hk)]
  | d :: l, i + 1, k, c, h, hk => by
    have e : quoteL (d :: l) = octD d.toNat ++ quoteL l := by unfold quoteL; rw [List.flatMap_cons]
    rw [e, List.getElem?_append_right (by rw [octD_len]; omega), octD_len, show 4 * (i + 1) + k - 4 = 4 * i + k by omega]
    exact quote_at l i k c h hk

theorem isOct_of {d : UInt8} (h1 : 48 ≤ d.toNat) (h2 : d.toNat ≤ 55) : isOct d = true := by
  unfold isOct
  simp [h1, h2]
theorem octF_ok (l : List UInt8) (k a n : Nat) (d : UInt8) (h : l[a]? = some d) (h1 : 48 ≤ d.toNat) (h2 : d.toNat ≤ 55) : octF l (k + 1) a n = octF l k (a + 1) (8 * n + (d.toNat - 48)) := by
  rw [octF, h]
  simp only
  rw [if_pos (isOct_of h1 h2)]

theorem esc_quote (l : List UInt8) (i : Nat) (c : UInt8) (h : l[i]? = some c) : escF (quoteL l) ⟨4 * i + 1, 0, 0, 0⟩ = (c.toNat, ⟨4 * (i + 1), 0, 0, 0⟩) := by
  have hc := c.toNat_lt
  have q1 := quote_at l i 1 c h (by omega)
  have q2 := quote_at l i 2 c h (by omega)
  have q3 := quote_at l i 3 c h (by omega)
  obtain ⟨A, hA⟩ : ∃ A : UInt8, UInt8.ofNat (48 + c.toNat / 64) = A := ⟨_, rfl⟩
  obtain ⟨B, hB⟩ : ∃ A : UInt8, UInt8.ofNat (48 + c.toNat / 8 % 8) = A := ⟨_, rfl⟩
  obtain ⟨C, hC⟩ : ∃ A : UInt8, UInt8.ofNat (48 + c.toNat % 8) = A := ⟨_, rfl⟩
  have eA : A.toNat = 48 + c.toNat / 64 := by rw [← hA, UInt8.toNat_ofNat', Nat.mod_eq_of_lt (by omega)]
  have eB : B.toNat = 48 + c.toNat / 8 % 8 := by rw [← hB, UInt8.toNat_ofNat', Nat.mod_eq_of_lt (by omega)]
  have eC : C.toNat = 48 + c.toNat % 8 := by rw [← hC, UInt8.toNat_ofNat', Nat.mod_eq_of_lt (by omega)]
  unfold octD at q1 q2 q3
  rw [hA, hB, hC] at q1 q2 q3
  have q1 : (quoteL l)[4 * i + 1]? = some A := q1
  have q2 : (quoteL l)[4 * i + 2]? = some B := q2
  have q3 : (quoteL l)[4 * i + 3]? = some C := q3
  have hl : escLetter A.toNat = none := by
    have h4 : c.toNat / 64 = 0 ∨ c.toNat / 64 = 1 ∨ c.toNat / 64 = 2 ∨ c.toNat / 64 = 3 := by omega
    rw [eA]
    rcases h4 with e | e | e | e <;> rw [e] <;> decide
  unfold escF
  simp only
  rw [q1]
  simp only
  rw [hl]
  simp only
  rw [if_neg (by omega), show 4 * i + 1 + 1 = 4 * i + 2 by omega, octF_ok _ _ _ _ B q2 (by omega) (by omega), show 4 * i + 2 + 1 = 4 * i + 3 by omega, octF_ok _ _ _ _ C q3 (by omega) (by omega), octF]
  unfold stAt
  simp only
  rw [show 4 * i + 3 + 1 = 4 * (i + 1) by omega, show (8 * (8 * (A.toNat - 48) + (B.toNat - 48)) + (C.toNat - 48)) % 256 = c.toNat by omega]

theorem atom_quote (l : List UInt8) (alt : St → Pc × St) (i : Nat) (c : UInt8) (h : l[i]? = some c) : atomF (quoteL l) alt ⟨4 * i, 0, 0, 0⟩ = (leafQ c, ⟨4 * (i + 1), 0, 0, 0⟩) := by
  have q0 : (quoteL l)[4 * i]? = some 92 := quote_at l i 0 c h (by omega)
  unfold atomF
  simp only
  rw [q0]
  simp only
  rw [if_neg (by decide), if_neg (by decide), if_neg (by decide), if_neg (by decide), if_neg (by decide), if_pos (by decide)]
  have e : stAt ⟨4 * i, 0, 0, 0⟩ (4 * i + 1) = ⟨4 * i + 1, 0, 0, 0⟩ := rfl
  rw [e, esc_quote l i c h]
  simp only
  rw [UInt8.ofNat_toNat]
  rfl
theorem quote_next (l : List UInt8) (i : Nat) (k : Nat) (hk : k ≠ 92) : isAt (quoteL l) (4 * i) k = false := by
  unfold isAt
  by_cases h : i < l.length
  · have q0 : (quoteL l)[4 * i]? = some 92 := quote_at l i 0 l[i] (List.getElem?_eq_getElem h) (by omega)
    rw [q0]
    simp only [beq_eq_false_iff_ne]
    exact fun e => hk e.symm
  · rw [List.getElem?_eq_none (by rw [quoteL_len]; omega)]
theorem piece_quote (l : List UInt8) (alt : St → Pc × St) (i : Nat) (c : UInt8) (h : l[i]? = some c) : pieceF (quoteL l) alt ⟨4 * i, 0, 0, 0⟩ = (leafQ c, ⟨4 * (i + 1), 0, 0, 0⟩) := by
  unfold pieceF
  rw [atom_quote l alt i c h]
  simp only
  rw [signsF]
  simp only [quote_next l (i + 1) 42 (by decide), quote_next l (i + 1) 43 (by decide), quote_next l (i + 1) 63 (by decide), quote_next l (i + 1) 123 (by decide), Bool.false_eq_true, if_false, ite_self]
theorem pieces_quote (l : List UInt8) (alt : St → Pc × St) : ∀ (m i f : Nat) (acc : List Pc), i + m = l.length → m < f →
    piecesL (quoteL l) (pieceF (quoteL l) alt) f acc ⟨4 * i, 0, 0, 0⟩ = (acc ++ (l.drop i).map leafQ, ⟨4 * l.length, 0, 0, 0⟩)
  | 0, i, f, acc, hi, hf => by
    obtain ⟨f', rfl⟩ : ∃ f', f = f' + 1 := ⟨f - 1, by omega⟩
    obtain rfl : i = l.length := by omega
    rw [piecesL, if_neg (by rw [quoteL_len]; simp), List.drop_of_length_le (Nat.le_refl _)]
    simp
  | m + 1, i, f, acc, hi, hf => by
    obtain ⟨f', rfl⟩ : ∃ f', f = f' + 1 := ⟨f - 1, by omega⟩
    have hc : l[i]? = some l[i] := List.getElem?_eq_getElem (by omega)
    rw [piecesL, if_pos ⟨rfl, by rw [quoteL_len]; show 4 * i < _; omega, quote_next l i 124 (by decide), quote_next l i 41 (by decide)⟩, piece_quote l alt i _ hc]
    simp only
    rw [pieces_quote l alt m (i + 1) f' _ (by omega) (by omega), List.drop_eq_getElem_cons (show i < l.length by omega), List.map_cons, List.append_assoc]
    rfl

theorem fold_quote : ∀ (r m : List UInt8) (p : Pc), m ≠ [] → p.re = qTree m → p.deep ≤ 2 → p.leaves = m.length → p.big = false → r.length + m.length ≤ 400 →
    (pcFold 2 (r.map leafQ) p).re = qTree (r.reverse ++ m) ∧ (pcFold 2 (r.map leafQ) p).big = false
  | [], m, p, _, h1, _, _, h4, _ => ⟨h1, h4⟩
  | c :: r, m, p, hm, h1, h2, h3, h4, h5 => by
    simp only [List.length_cons] at h5
    have e : pcTwo 2 (leafQ c) p = ⟨.node 2 z4 [tByte c, p.re], max 2 p.deep, 1 + p.leaves, false⟩ := by
      unfold pcTwo pcFits
      rw [if_neg]
      · rw [h4]; rfl
      · rw [h4]
        have d1 : max ((leafQ c).deep + 1) p.deep ≤ 40 := by show max 2 p.deep ≤ 40; omega
        have d2 : (leafQ c).leaves + p.leaves ≤ 400 := by show 1 + p.leaves ≤ 400; omega
        simp only [Bool.or_eq_true, decide_eq_true_eq]
        rintro (((h | h) | h) | h)
        · cases h
        · cases h
        · omega
        · omega
    rw [List.map_cons, pcFold, e]
    have ih := fold_quote r (c :: m) ⟨.node 2 z4 [tByte c, p.re], max 2 p.deep, 1 + p.leaves, false⟩ (by simp) (by
      show Tree.node 2 z4 [tByte c, p.re] = _
      cases m with
      | nil => exact absurd rfl hm
      | cons d m => rw [h1, qTree]) (by show max 2 p.deep ≤ 2; omega) (by show 1 + p.leaves = _; rw [h3, List.length_cons]; omega) rfl (by rw [List.length_cons]; omega)
    rw [List.reverse_cons, List.append_assoc]
    exact ih
theorem row_quote (l : List UInt8) (hl : l ≠ []) (h : l.length ≤ 400) : (pcRow 2 (l.map leafQ)).re = qTree l ∧ (pcRow 2 (l.map leafQ)).big = false := by
  obtain ⟨l', c, rfl⟩ : ∃ l' c, l = l' ++ [c] := ⟨l.dropLast, l.getLast hl, (List.dropLast_concat_getLast hl).symm⟩
  unfold pcRow
  rw [List.map_append, List.map_cons, List.map_nil, List.reverse_append, List.reverse_singleton, ← List.map_reverse]
  have := fold_quote l'.reverse [c] (leafQ c) (by simp) rfl (by show 1 ≤ 2; omega) rfl rfl (by rw [List.length_reverse]; simp at h ⊢; omega)
  rw [List.reverse_reverse] at this
  exact this

theorem shaped_byte (c : UInt8) (D : Nat) (hD : 1 ≤ D) : shapedT (tByte c) (D : Int) = some 1 :=
  (shaped_iff _ (tByte c) D 1 (Nat.le_refl _)).2 ⟨by unfold tByte; rw [shapedR, shapedRL]; rfl, by unfold tByte; rw [deepR, deepRL]; simp; omega, by unfold tByte; rw [setsR]; rfl, by omega⟩
theorem shaped_row : ∀ (l : List UInt8), l ≠ [] → l.length ≤ 400 → shapedT (qTree l) (40 : Int) = some l.length
  | [], h, _ => absurd rfl h
  | [c], _, _ => shaped_byte c 40 (by omega)
  | c :: d :: l, _, h => by
    have ih := shaped_row (d :: l) (by simp) (by simp at h ⊢; omega)
    have i1 := (shaped_iff _ (qTree (d :: l)) 40 _ (Nat.le_refl _)).1 ih
    have i2 := (shaped_iff _ (tByte c) 39 _ (Nat.le_refl _)).1 (shaped_byte c 39 (by omega))
    refine (shaped_iff _ (qTree (c :: d :: l)) 40 _ (Nat.le_refl _)).2 ⟨?_, ?_, ?_, h⟩
    · rw [qTree, shapedR, shapedRL, shapedRL, shapedRL, i1.1, i2.1]
      rfl
    · rw [qTree, deepR, deepRL, deepRL, deepRL, if_neg (by omega), if_pos ⟨rfl, .inl rfl⟩, i2.2.1, i1.2.1]
      rfl
    · rw [qTree, setsR, if_neg (by simp), setsRL, setsRL, setsRL, i2.2.2.1, i1.2.2.1]
      simp only [List.length_cons]
      omega

theorem parse_quote (l : List UInt8) (h : l.length ≤ 400) : parseF (quoteL l) = (qTree l, 0, 0) := by
  cases l with
  | nil => exact parse_nil rfl
  | cons c l =>
    obtain ⟨L, hL⟩ : ∃ L, L = c :: l := ⟨_, rfl⟩
    rw [← hL] at h ⊢
    have hne : L ≠ [] := by rw [hL]; simp
    have h0 : L[0]? = some c := by rw [hL]; rfl
    have hpos : 0 < L.length := by rw [hL]; simp
    have hpl : piecesL (quoteL L) (pieceF (quoteL L) (altF (quoteL L) 10)) ((quoteL L).length + 2) [leafQ c] ⟨4 * 1, 0, 0, 0⟩ = (L.map leafQ, ⟨4 * L.length, 0, 0, 0⟩) := by
      rw [pieces_quote L _ (L.length - 1) 1 _ _ (by omega) (by rw [quoteL_len]; omega), hL]
      rfl
    have hps : piecesF (quoteL L) (pieceF (quoteL L) (altF (quoteL L) 10)) st0 = (pcRow 2 (L.map leafQ), ⟨4 * L.length, 0, 0, 0⟩) := by
      unfold piecesF
      have e : pieceF (quoteL L) (altF (quoteL L) 10) st0 = (leafQ c, ⟨4 * 1, 0, 0, 0⟩) := piece_quote L _ 0 c h0
      rw [e]
      simp only
      rw [hpl]
    have hal : altF (quoteL L) 11 st0 = (pcRow 2 (L.map leafQ), ⟨4 * L.length, 0, 0, 0⟩) := by
      rw [altF]
      unfold altG
      rw [hps]
      simp only
      rw [altL, if_neg (by rw [quote_next L L.length 124 (by decide)]; simp)]
      rfl
    obtain ⟨r1, r2⟩ := row_quote L hne h
    have hr : rightT (pcRow 2 (L.map leafQ)).re = true := by
      rw [r1]
      unfold rightT
      rw [shaped_row L hne h]
      rfl
    have := parse_yes (by rw [quoteL_len]; omega) hal rfl (by rw [quoteL_len]; show ¬ 4 * _ < _; omega) r2 hr
    rw [this, r1]

end Go.Proofs.YtmkddhkpeiajhaaDoor

/-
  A right tree's text is read as that very tree, or its brackets are too deep: plain.
-/
namespace Go.Proofs.YtmkddhkpeiajhaaDoor

/-- this text stands there -/
def Sub (s : List UInt8) (p : Nat) (T : List UInt8) : Prop := ∀ k, k < T.length → s[p + k]? = T[k]?
section
variable {s : List UInt8} {p : Nat}
theorem Sub.app {A B : List UInt8} (h : Sub s p (A ++ B)) : Sub s p A ∧ Sub s (p + A.length) B :=
  ⟨fun k hk => by rw [h k (by rw [List.length_append]; omega), List.getElem?_append_left hk], fun k hk => by
    rw [Nat.add_assoc, h _ (by rw [List.length_append]; omega), List.getElem?_append_right (by omega), show A.length + k - A.length = k by omega]⟩
theorem Sub.cons {c : UInt8} {T : List UInt8} (h : Sub s p (c :: T)) : s[p]? = some c ∧ Sub s (p + 1) T :=
  ⟨h 0 (by simp), fun k hk => by rw [show p + 1 + k = p + (k + 1) by omega, h (k + 1) (by simp; omega)]; rfl⟩
theorem isAt_this {c : UInt8} {n : Nat} (h : s[p]? = some c) : isAt s p n = (c.toNat == n) := by unfold isAt; rw [h]
theorem isAt_gone {n : Nat} (h : s[p]? = none) : isAt s p n = false := by unfold isAt; rw [h]

/-! ### sets -/
theorem end_oct {b : Nat} (hb : b < 256) (h : Sub s p (octD b)) : endF s p = some (b, p + 4) := by
  obtain ⟨A, hA⟩ : ∃ A : UInt8, UInt8.ofNat (48 + b / 64) = A := ⟨_, rfl⟩
  obtain ⟨B, hB⟩ : ∃ A : UInt8, UInt8.ofNat (48 + b / 8 % 8) = A := ⟨_, rfl⟩
  obtain ⟨C, hC⟩ : ∃ A : UInt8, UInt8.ofNat (48 + b % 8) = A := ⟨_, rfl⟩
  have eA : A.toNat = 48 + b / 64 := by rw [← hA, UInt8.toNat_ofNat', Nat.mod_eq_of_lt (by omega)]
  have eB : B.toNat = 48 + b / 8 % 8 := by rw [← hB, UInt8.toNat_ofNat', Nat.mod_eq_of_lt (by omega)]
  have eC : C.toNat = 48 + b % 8 := by rw [← hC, UInt8.toNat_ofNat', Nat.mod_eq_of_lt (by omega)]
  unfold octD at h
  rw [hA, hB, hC] at h
  obtain ⟨q0, h⟩ := h.cons
  obtain ⟨q1, h⟩ := h.cons
  obtain ⟨q2, h⟩ := h.cons
  obtain ⟨q3, _⟩ := h.cons
  have n1 : A ≠ 110 := fun e => by rw [e] at eA; have : (110 : UInt8).toNat = 110 := rfl; omega
  have n2 : A ≠ 116 := fun e => by rw [e] at eA; have : (116 : UInt8).toNat = 116 := rfl; omega
  unfold endF
  rw [q0]
  simp only
  rw [if_neg (by decide), q1]
  simp only
  rw [if_neg n1, if_neg n2, if_pos (isOct_of (by omega) (by omega)), show p + 2 = p + 1 + 1 by omega, octF_ok _ _ _ _ B q2 (by omega) (by omega), octF_ok _ _ _ _ C q3 (by omega) (by omega), octF]
  simp only
  rw [show (8 * (8 * (A.toNat - 48) + (B.toNat - 48)) + (C.toNat - 48)) % 256 = b by omega]
theorem item_oct {b : Nat} (hb : b < 256) (h : Sub s p (octD b)) {c : UInt8} (hn : s[p + 4]? = some c) (hc : c ≠ 45) : itemF s p = some (mOf [UInt8.ofNat b], p + 4) := by
  have q0 : s[p]? = some 92 := (Sub.cons h).1
  unfold itemF opensF
  rw [q0, end_oct hb h]
  simp only
  rw [if_neg (by simp), if_neg]
  rw [hn]
  rintro ⟨h1, _⟩
  injection h1 with h1
  exact hc h1

/-- the bytes of a set from j on, so many -/
def setFrom (m : Mem) : Nat → Nat → List UInt8
  | _, 0 => []
  | j, n + 1 => (if m j then octD j else []) ++ setFrom m (j + 1) n
theorem setFrom_snoc (m : Mem) : ∀ (n j : Nat), setFrom m j (n + 1) = setFrom m j n ++ (if m (j + n) then octD (j + n) else [])
  | 0, j => by simp [setFrom]
  | n + 1, j => by
    rw [setFrom, setFrom_snoc m n (j + 1), setFrom, List.append_assoc, show j + 1 + n = j + (n + 1) by omega]
theorem setUp_from (m : Mem) : ∀ j, setUp m j = setFrom m 0 j
  | 0 => rfl
  | j + 1 => by rw [setUp_succ, setUp_from m j, setFrom_snoc, Nat.zero_add]
/-- what stands behind the bytes from j on is one of them, or the bracket that closes -/
theorem from_next (m : Mem) : ∀ (n j : Nat), (∃ T, setFrom m j n ++ [93] = 92 :: T) ∨ setFrom m j n = []
  | 0, j => .inr rfl
  | n + 1, j => by
    by_cases h : m j = true
    · left
      rw [setFrom, if_pos h]
      exact ⟨_, rfl⟩
    · rw [setFrom, if_neg h, List.nil_append]
      exact from_next m n (j + 1)
theorem items_from (m : Mem) : ∀ (n j p f : Nat) (first : Bool) (q : Mem), j + n = 256 → Sub s p (setFrom m j n ++ [93]) → (first = true → setFrom m j n ≠ []) → (setFrom m j n).length < 4 * f →
    ∃ q', itemsF s f p first q = some (q', p + (setFrom m j n).length) ∧ ∀ b, b < 256 → q' b = (q b || (decide (j ≤ b) && m b))
  | 0, j, p, f, first, q, hj, h, hf, hlt => by
    obtain ⟨f, rfl⟩ : ∃ g, f = g + 1 := ⟨f - 1, by omega⟩
    cases first with
    | true => exact absurd rfl (hf rfl)
    | false =>
      have q0 : s[p]? = some 93 := (Sub.cons h).1
      refine ⟨q, ?_, fun b hb => ?_⟩
      · rw [itemsF, q0]; rfl
      · rw [decide_eq_false (by omega : ¬ j ≤ b)]; simp
  | n + 1, j, p, f, first, q, hj, h, hf, hlt => by
    obtain ⟨f, rfl⟩ : ∃ g, f = g + 1 := ⟨f - 1, by omega⟩
    by_cases hm : m j = true
    · rw [setFrom, if_pos hm, List.length_append, octD_len] at hlt
      rw [setFrom, if_pos hm, List.append_assoc] at h
      obtain ⟨h1, h2⟩ := h.app
      rw [octD_len] at h2
      have q0 : s[p]? = some 92 := (Sub.cons h1).1
      have q4 : ∃ c, s[p + 4]? = some c ∧ c ≠ 45 := by
        rcases from_next m n (j + 1) with ⟨T, hT⟩ | hT
        · rw [hT] at h2; exact ⟨92, h2.cons.1, by decide⟩
        · rw [hT] at h2; exact ⟨93, (Sub.cons h2).1, by decide⟩
      obtain ⟨c, hc, hc'⟩ := q4
      have hit : itemsF s (f + 1) p first q = itemsF s f (p + 4) false (mOr q (mOf [UInt8.ofNat j])) := by
        rw [itemsF, q0, if_neg (by simp), item_oct (by omega) h1 hc hc']
      obtain ⟨q', hq', hb'⟩ := items_from m n (j + 1) (p + 4) f false (mOr q (mOf [UInt8.ofNat j])) (by omega) h2 (by simp) (by omega)
      refine ⟨q', ?_, fun b hb => ?_⟩
      · rw [hit, hq', setFrom, if_pos hm, List.length_append, octD_len, Nat.add_assoc]
      · rw [hb' b hb]
        unfold mOr mOf
        rw [List.any_cons, List.any_nil, Bool.or_false, UInt8.toNat_ofNat', Nat.mod_eq_of_lt (by omega : j < 2 ^ 8)]
        by_cases hbj : b = j
        · subst hbj; rw [hm]; simp
        · rw [show (b == j) = false by rw [beq_eq_false_iff_ne]; exact hbj]
          by_cases hle : j + 1 ≤ b
          · rw [decide_eq_true hle, decide_eq_true (by omega : j ≤ b)]; simp
          · rw [decide_eq_false hle, decide_eq_false (by omega : ¬ j ≤ b)]; simp
    · rw [setFrom, if_neg hm, List.nil_append] at h hf hlt
      obtain ⟨q', hq', hb'⟩ := items_from m n (j + 1) p (f + 1) first q (by omega) h hf (by omega)
      refine ⟨q', ?_, fun b hb => ?_⟩
      · rw [hq', setFrom, if_neg hm, List.nil_append]
      · rw [hb' b hb]
        by_cases hbj : b = j
        · subst hbj
          rw [decide_eq_false (by omega : ¬ b + 1 ≤ b)]
          simp only [Bool.not_eq_true] at hm
          rw [hm]; simp
        · by_cases hle : j + 1 ≤ b
          · rw [decide_eq_true hle, decide_eq_true (by omega : j ≤ b)]
          · rw [decide_eq_false hle, decide_eq_false (by omega : ¬ j ≤ b)]
end
theorem w4_congr {p q : Mem} (h : ∀ b, b < 256 → p b = q b) : w4 p = w4 q := by
  unfold w4
  rw [word_congr h (by omega : 0 < 4), word_congr h (by omega : 1 < 4), word_congr h (by omega : 2 < 4), word_congr h (by omega : 3 < 4)]
theorem cntN_succ (m : Mem) (n : Nat) : cntN m (n + 1) = cntN m n + (m n).toNat := rfl
theorem cnt_le (m : Mem) : ∀ n, cntN m n ≤ n
  | 0 => Nat.le_refl _
  | n + 1 => by have := cnt_le m n; rw [cntN_succ]; cases m n <;> simp <;> omega
theorem cnt_all (m : Mem) : ∀ n, cntN m n = n → ∀ b, b < n → m b = true
  | 0, _, b, hb => by omega
  | n + 1, h, b, hb => by
    have := cnt_le m n
    rw [cntN_succ] at h
    cases hm : m n with
    | false => rw [hm] at h; simp at h; omega
    | true =>
      by_cases hbn : b = n
      · rw [hbn, hm]
      · refine cnt_all m n ?_ b (by omega)
        rw [hm] at h; simp at h; omega
theorem cnt_zero (m : Mem) : ∀ n, cntN m n = 0 → ∀ b, b < n → m b = false
  | 0, _, b, hb => by omega
  | n + 1, h, b, hb => by
    rw [cntN_succ] at h
    cases hm : m n with
    | true => rw [hm] at h; simp at h
    | false =>
      by_cases hbn : b = n
      · rw [hbn, hm]
      · refine cnt_zero m n ?_ b (by omega)
        rw [hm] at h; simp at h; omega
theorem from_nil (m : Mem) : ∀ (n j : Nat), setFrom m j n = [] → ∀ b, j ≤ b → b < j + n → m b = false
  | 0, j, _, b, h1, h2 => by omega
  | n + 1, j, h, b, h1, h2 => by
    rw [setFrom] at h
    by_cases hm : m j = true
    · rw [if_pos hm] at h; cases h
    · rw [if_neg hm, List.nil_append] at h
      by_cases hb : b = j
      · rw [hb]; simpa using hm
      · exact from_nil m n (j + 1) h b (by omega) (by omega)
theorem cnt_none (m : Mem) : ∀ n, (∀ b, b < n → m b = false) → cntN m n = 0
  | 0, _ => rfl
  | n + 1, h => by
    rw [cntN_succ, h n (by omega), cnt_none m n fun b hb => h b (by omega)]
    rfl

theorem atom_set (s : List UInt8) (alt : St → Pc × St) (p o fr : Nat) (m : Mem) (h : Sub s p (setL m)) : atomF s alt ⟨p, o, 0, fr⟩ = (pcLeaf 1 (w4 m), ⟨p + (setL m).length, o, 0, fr⟩) := by
  unfold setL at h ⊢
  by_cases h1 : cntN m 256 = 256
  · rw [if_pos h1] at h ⊢
    have q0 : s[p]? = some 46 := (Sub.cons h).1
    unfold atomF
    simp only
    rw [q0]
    simp only
    rw [if_neg (by decide), if_pos (by decide), w4_congr (p := mNot mNone) (q := m) (fun b hb => by rw [cnt_all m 256 h1 b hb]; rfl)]
    rfl
  · rw [if_neg h1] at h ⊢
    by_cases h2 : cntN m 256 = 0
    · rw [if_pos h2] at h ⊢
      obtain ⟨q0, h⟩ := h.cons
      obtain ⟨q1, h⟩ := h.cons
      have ho : Sub s (p + 1 + 1) (octD 0) := fun k hk => by rw [h k (by rw [octD_len] at hk; simp; omega)]; rw [octD_len] at hk; match k, hk with | 0, _ => rfl | 1, _ => rfl | 2, _ => rfl | 3, _ => rfl
      have h45 : s[p + 1 + 1 + 4]? = some 45 := h 4 (by simp)
      have ho2 : Sub s (p + 1 + 1 + 5) (octD 255) := fun k hk => by
        rw [show p + 1 + 1 + 5 + k = p + 1 + 1 + (5 + k) by omega, h (5 + k) (by rw [octD_len] at hk; simp; omega)]; rw [octD_len] at hk; match k, hk with | 0, _ => rfl | 1, _ => rfl | 2, _ => rfl | 3, _ => rfl
      have h93 : s[p + 1 + 1 + 9]? = some 93 := h 9 (by simp)
      have hl5 : s[p + 1 + 1 + 5]? = some 92 := (Sub.cons ho2).1
      have hlen : p + 1 + 1 + 9 < s.length := (List.getElem?_eq_some_iff.1 h93).1
      have h92 : s[p + 1 + 1]? = some 92 := (Sub.cons ho).1
      have hit : itemF s (p + 1 + 1) = some (mSpan 0 255, p + 1 + 1 + 9) := by
        unfold itemF opensF
        rw [h92, end_oct (by omega) ho]
        simp only
        rw [if_neg (by simp), if_pos ⟨h45, by omega, by rw [hl5]; decide⟩, hl5, if_neg (by simp), end_oct (by omega) ho2]
        simp
      have hbr : bracketF s ((p + 1 : Nat) : Int) = some (mNot (mOr mNone (mSpan 0 255)), p + 12) := by
        unfold bracketF
        rw [if_neg (by omega)]
        simp only [Int.toNat_natCast, q1, beq_self_eq_true, if_true]
        obtain ⟨f, hf⟩ : ∃ f, s.length = f + 1 := ⟨s.length - 1, by omega⟩
        rw [hf, itemsF, hit]
        simp only [Bool.not_true, Bool.false_and, Bool.false_eq_true, if_false]
        rw [itemsF, h93]
        simp
      unfold atomF
      simp only
      rw [q0]
      simp only
      rw [if_neg (by decide), if_neg (by decide), if_pos (by decide), hbr]
      simp only
      rw [w4_congr (p := mNot (mOr mNone (mSpan 0 255))) (q := m) (fun b hb => by
        rw [cnt_zero m 256 h2 b hb]
        unfold mNot mOr mNone mSpan
        rw [decide_eq_true (Nat.zero_le b), decide_eq_true (by omega : b ≤ 255)]; rfl)]
      rfl
    · rw [if_neg h2] at h ⊢
      obtain ⟨q0, h⟩ := h.cons
      rw [setUp_from] at h ⊢
      have hne : setFrom m 0 256 ≠ [] := fun e => h2 (cnt_none m 256 fun b hb => from_nil m 256 0 e b (Nat.zero_le _) (by omega))
      obtain ⟨T, hT⟩ : ∃ T, setFrom m 0 256 ++ [93] = 92 :: T := (from_next m 256 0).elim id (fun e => absurd e hne)
      have q1 : s[p + 1]? = some 92 := by have h' := h; rw [hT] at h'; exact h'.cons.1
      have hlast : s[p + 1 + (setFrom m 0 256).length]? = some 93 := (Sub.cons h.app.2).1
      have hlen := (List.getElem?_eq_some_iff.1 hlast).1
      have hcnt : ∃ q', itemsF s (s.length + 1) (p + 1) true mNone = some (q', p + 1 + (setFrom m 0 256).length) ∧ ∀ b, b < 256 → q' b = (mNone b || (decide (0 ≤ b) && m b)) :=
        items_from m 256 0 (p + 1) (s.length + 1) true mNone rfl h (fun _ => hne) (by omega)
      obtain ⟨q', hq', hb'⟩ := hcnt
      have hbr : bracketF s ((p + 1 : Nat) : Int) = some (q', p + 1 + (setFrom m 0 256).length + 1) := by
        unfold bracketF
        rw [if_neg (by omega)]
        simp only [Int.toNat_natCast, q1, show ((some (92 : UInt8) : Option UInt8) == some 94) = false from rfl, Bool.false_eq_true, if_false]
        rw [hq']
      unfold atomF
      simp only
      rw [q0]
      simp only
      rw [if_neg (by decide), if_neg (by decide), if_pos (by decide), hbr]
      simp only
      rw [w4_congr (p := q') (q := m) (fun b hb => by rw [hb' b hb]; unfold mNone; simp)]
      simp only [stAt, List.length_cons, List.length_append, List.length_nil]
      rw [show p + 1 + (setFrom m 0 256).length + 1 = p + ((setFrom m 0 256).length + (0 + 1) + 1) by omega]

end Go.Proofs.YtmkddhkpeiajhaaDoor

/-
  A right tree's text is read as that very tree, or its brackets are too deep: plain.
-/
namespace Go.Proofs.YtmkddhkpeiajhaaDoor

def dpR : Rx → Nat
  | .eps => 1
  | .set _ => 1
  | .cat a b => max (dpR a + 1) (dpR b)
  | .alt a b => max (dpR a + 1) (dpR b)
  | .star a => dpR a + 1
  | .plus a => dpR a + 1
  | .opt a => dpR a + 1
  | .first => 1
  | .last => 1
def lvR : Rx → Nat
  | .eps => 1
  | .set _ => 1
  | .cat a b => lvR a + lvR b
  | .alt a b => lvR a + lvR b
  | .star a => lvR a
  | .plus a => lvR a
  | .opt a => lvR a
  | .first => 1
  | .last => 1
def okR : Rx → Prop
  | .eps => True
  | .set s => okW s
  | .cat a b => okR a ∧ okR b
  | .alt a b => okR a ∧ okR b
  | .star a => okR a
  | .plus a => okR a
  | .opt a => okR a
  | .first => True
  | .last => True
theorem ok_of_wT : ∀ (r : Rx), wT (rxT r) → okR r
  | .eps, _ => trivial
  | .set s, h => by unfold rxT wT at h; exact h.1
  | .cat a b, h => by unfold rxT wT wL wL at h; exact ⟨ok_of_wT a h.2.1, ok_of_wT b h.2.2.1⟩
  | .alt a b, h => by unfold rxT wT wL wL at h; exact ⟨ok_of_wT a h.2.1, ok_of_wT b h.2.2.1⟩
  | .star a, h => by unfold rxT wT wL at h; exact ok_of_wT a h.2.1
  | .plus a, h => by unfold rxT wT wL at h; exact ok_of_wT a h.2.1
  | .opt a, h => by unfold rxT wT wL at h; exact ok_of_wT a h.2.1
  | .first, _ => trivial
  | .last, _ => trivial

/-- right: no deeper than 40, no more than 400 leaves -/
def fitR (r : Rx) : Prop := dpR r ≤ 40 ∧ lvR r ≤ 400
theorem shaped_two {k : Int} {a b : Tree} {d : Int} {n : Nat} (h : shapedT (.node k z4 [a, b]) d = some n) : ∃ x y, shapedT a (d - 1) = some x ∧ shapedT b d = some y ∧ x + y = n ∧ n ≤ 400 := by
  rw [shapedT] at h
  split at h
  · cases h
  · simp only [List.length_cons, List.length_nil] at h
    rw [if_neg (by omega), shapedL] at h
    cases hx : shapedT a (d - 1 + ((0 : Nat) : Int)) with
    | none => rw [hx] at h; cases h
    | some x =>
      rw [hx] at h
      simp only at h
      split at h
      · cases h
      · rw [shapedL] at h
        cases hy : shapedT b (d - 1 + ((0 + 1 : Nat) : Int)) with
        | none => rw [hy] at h; cases h
        | some y =>
          rw [hy] at h
          simp only at h
          split at h
          · cases h
          · rw [shapedL] at h
            injection h with h
            refine ⟨x, y, ?_, ?_, by omega, by omega⟩
            · rw [← hx]; congr 1; omega
            · rw [← hy]; congr 1; omega
theorem shaped_one {k : Int} {a : Tree} {d : Int} {n : Nat} (h : shapedT (.node k z4 [a]) d = some n) : shapedT a (d - 1) = some n ∧ n ≤ 400 := by
  rw [shapedT] at h
  split at h
  · cases h
  · simp only [List.length_cons, List.length_nil] at h
    rw [if_neg (by omega), shapedL] at h
    cases hx : shapedT a (d - 1 + ((0 : Nat) : Int)) with
    | none => rw [hx] at h; cases h
    | some x =>
      rw [hx] at h
      simp only at h
      split at h
      · cases h
      · rw [shapedL] at h
        injection h with h
        refine ⟨?_, by omega⟩
        rw [show d - 1 + ((0 : Nat) : Int) = d - 1 by omega] at hx
        rw [hx]; congr 1; omega
theorem shaped_zero {k : Int} {s : W4} {d : Int} {n : Nat} (h : shapedT (.node k s []) d = some n) : 1 ≤ d ∧ n = 1 := by
  rw [shapedT] at h
  split at h
  · cases h
  · rename_i hc
    simp only [List.length_nil, if_true] at h
    rw [shapedL] at h
    injection h with h
    exact ⟨by omega, by omega⟩
theorem fit_of_shaped : ∀ (r : Rx) (d : Int) (n : Nat), shapedT (rxT r) d = some n → (dpR r : Int) ≤ d ∧ lvR r = n ∧ n ≤ 400
  | .eps, d, n, h => by have := shaped_zero h; unfold dpR lvR; omega
  | .set s, d, n, h => by have := shaped_zero h; unfold dpR lvR; omega
  | .first, d, n, h => by have := shaped_zero h; unfold dpR lvR; omega
  | .last, d, n, h => by have := shaped_zero h; unfold dpR lvR; omega
  | .cat a b, d, n, h => by
    obtain ⟨x, y, h1, h2, h3, h4⟩ := shaped_two h
    have := fit_of_shaped a _ _ h1
    have := fit_of_shaped b _ _ h2
    unfold dpR lvR
    omega
  | .alt a b, d, n, h => by
    obtain ⟨x, y, h1, h2, h3, h4⟩ := shaped_two h
    have := fit_of_shaped a _ _ h1
    have := fit_of_shaped b _ _ h2
    unfold dpR lvR
    omega
  | .star a, d, n, h => by
    obtain ⟨h1, h2⟩ := shaped_one h
    have := fit_of_shaped a _ _ h1
    unfold dpR lvR
    omega
  | .plus a, d, n, h => by
    obtain ⟨h1, h2⟩ := shaped_one h
    have := fit_of_shaped a _ _ h1
    unfold dpR lvR
    omega
  | .opt a, d, n, h => by
    obtain ⟨h1, h2⟩ := shaped_one h
    have := fit_of_shaped a _ _ h1
    unfold dpR lvR
    omega
theorem fit_of_right {r : Rx} (h : rightT (rxT r) = true) : fitR r := by
  unfold rightT at h
  obtain ⟨n, hn⟩ := Option.isSome_iff_exists.1 h
  have := fit_of_shaped r 40 n hn
  unfold fitR
  omega

def pcR (r : Rx) : Pc := ⟨rxT r, dpR r, lvR r, false⟩
theorem fits_eq {p : Pc} (hb : p.big = false) (h1 : p.deep ≤ 40) (h2 : p.leaves ≤ 400) : pcFits p = p := by
  unfold pcFits
  rw [if_neg]
  rw [hb]
  simp only [Bool.or_eq_true, decide_eq_true_eq, Bool.false_eq_true, false_or]
  omega
theorem two_eq (k : Int) (a b : Rx) (h1 : max (dpR a + 1) (dpR b) ≤ 40) (h2 : lvR a + lvR b ≤ 400) : pcTwo k (pcR a) (pcR b) = ⟨.node k z4 [rxT a, rxT b], max (dpR a + 1) (dpR b), lvR a + lvR b, false⟩ := fits_eq rfl h1 h2
theorem one_eq (k : Int) (a : Rx) (h1 : dpR a + 1 ≤ 40) (h2 : lvR a ≤ 400) : pcOne k (pcR a) = ⟨.node k z4 [rxT a], dpR a + 1, lvR a, false⟩ := fits_eq rfl h1 h2

def textR (r : Rx) : List UInt8 := textT (rxT r)
theorem textR_cat (a b : Rx) : textR (.cat a b) = [40] ++ textR a ++ [41, 40] ++ textR b ++ [41] := by
  show textT (.node 2 z4 [rxT a, rxT b]) = [40] ++ textT (rxT a) ++ [41, 40] ++ textT (rxT b) ++ [41]
  rw [textT, if_pos rfl]
theorem textR_alt (a b : Rx) : textR (.alt a b) = [40, 40] ++ textR a ++ [41, 124, 40] ++ textR b ++ [41, 41] := by
  show textT (.node 3 z4 [rxT a, rxT b]) = [40, 40] ++ textT (rxT a) ++ [41, 124, 40] ++ textT (rxT b) ++ [41, 41]
  rw [textT, if_neg (by decide)]
theorem textR_star (a : Rx) : textR (.star a) = [40] ++ textR a ++ [41, 42] := by
  show textT (.node 4 z4 [rxT a]) = [40] ++ textT (rxT a) ++ [41, 42]
  rw [textT, if_pos rfl]
theorem textR_plus (a : Rx) : textR (.plus a) = [40] ++ textR a ++ [41, 43] := by
  show textT (.node 5 z4 [rxT a]) = [40] ++ textT (rxT a) ++ [41, 43]
  rw [textT, if_neg (by decide), if_pos rfl]
theorem textR_opt (a : Rx) : textR (.opt a) = [40] ++ textR a ++ [41, 63] := by
  show textT (.node 6 z4 [rxT a]) = [40] ++ textT (rxT a) ++ [41, 63]
  rw [textT, if_neg (by decide), if_neg (by decide)]
theorem textR_eps : textR .eps = [40, 46, 63, 41, 123, 48, 125] := by unfold textR rxT textT; rfl
theorem textR_set (s : W4) : textR (.set s) = setL (memW s) := by unfold textR rxT textT; rfl
theorem textR_first : textR .first = [94] := by unfold textR rxT textT; rfl
theorem textR_last : textR .last = [36] := by unfold textR rxT textT; rfl

section
variable (s : List UInt8)
/-- no sign stands there -/
def NoSign (p : Nat) : Prop := isAt s p 42 = false ∧ isAt s p 43 = false ∧ isAt s p 63 = false ∧ isAt s p 123 = false
/-- a row of pieces ends there -/
def Stops (p : Nat) : Prop := s[p]? = none ∨ s[p]? = some 124 ∨ s[p]? = some 41
end
section
variable {s : List UInt8}
theorem Stops.noSign {p : Nat} (h : Stops s p) : NoSign s p := by
  unfold NoSign
  rcases h with h | h | h
  · simp only [isAt_gone h, and_self]
  · rw [isAt_this h, isAt_this h, isAt_this h, isAt_this h]; decide
  · rw [isAt_this h, isAt_this h, isAt_this h, isAt_this h]; decide
theorem noSign_open {p : Nat} (h : s[p]? = some 40) : NoSign s p := by
  unfold NoSign
  rw [isAt_this h, isAt_this h, isAt_this h, isAt_this h]; decide
theorem signs_none (f : Nat) (q : Pc) (st : St) (h : NoSign s st.at_) : signsF s f q st = (q, st) := by
  cases f with
  | zero => rfl
  | succ f =>
    rw [signsF, h.1, h.2.1, h.2.2.1, h.2.2.2]
    simp
theorem signs_halt (f : Nat) (q : Pc) (st : St) (h : st.bad ≠ 0) : signsF s f q st = (q, st) := by
  cases f with
  | zero => rfl
  | succ f => rw [signsF, if_neg h]
/-- a piece is read, or brackets are too deep -/
def Got (q : Pc) (e o fr : Nat) (res : Pc × St) : Prop := res = (q, ⟨e, o, 0, fr⟩) ∨ res.2.bad = 26

theorem got_piece {alt : St → Pc × St} {p o fr e : Nat} {q : Pc} (h : Got q e o fr (atomF s alt ⟨p, o, 0, fr⟩)) (hn : NoSign s e) : Got q e o fr (pieceF s alt ⟨p, o, 0, fr⟩) := by
  unfold pieceF
  rcases h with h | h
  · rw [h]; simp only; rw [signs_none _ _ _ hn]; exact .inl rfl
  · rw [signs_halt _ _ _ (by rw [h]; decide)]; exact .inr h
theorem got_sign {alt : St → Pc × St} {p o fr e : Nat} {q q' : Pc} (h : Got q e o fr (atomF s alt ⟨p, o, 0, fr⟩)) (hn : NoSign s (e + 1)) (c : UInt8) (hc : s[e]? = some c)
    (hq : (c = 42 ∧ q' = pcOne 4 q) ∨ (c = 43 ∧ q' = pcOne 5 q) ∨ (c = 63 ∧ q' = pcOne 6 q)) : Got q' (e + 1) o fr (pieceF s alt ⟨p, o, 0, fr⟩) := by
  unfold pieceF
  rcases h with h | h
  · rw [h]
    simp only
    rw [signsF]
    simp only [isAt_this hc]
    rcases hq with ⟨rfl, rfl⟩ | ⟨rfl, rfl⟩ | ⟨rfl, rfl⟩
    · simp only [show ((42 : UInt8).toNat == 42) = true from rfl, if_true]
      rw [signs_none _ _ _ hn]; exact .inl rfl
    · simp only [show ((43 : UInt8).toNat == 42) = false from rfl, show ((43 : UInt8).toNat == 43) = true from rfl, if_true, Bool.false_eq_true, if_false]
      rw [signs_none _ _ _ hn]; exact .inl rfl
    · simp only [show ((63 : UInt8).toNat == 42) = false from rfl, show ((63 : UInt8).toNat == 43) = false from rfl, show ((63 : UInt8).toNat == 63) = true from rfl, if_true, Bool.false_eq_true, if_false]
      rw [signs_none _ _ _ hn]; exact .inl rfl
  · rw [signs_halt _ _ _ (by rw [h]; decide)]; exact .inr h

theorem pl_stop {piece : St → Pc × St} {f : Nat} {l : List Pc} {st : St} (h : Stops s st.at_) : piecesL s piece f l st = (l, st) := by
  cases f with
  | zero => rfl
  | succ f =>
    rw [piecesL, if_neg]
    rintro ⟨_, h1, h2, h3⟩
    rcases h with h | h | h
    · rw [List.getElem?_eq_none_iff] at h; omega
    · rw [isAt_this h] at h2; exact absurd h2 (by decide)
    · rw [isAt_this h] at h3; exact absurd h3 (by decide)
theorem pl_bad {piece : St → Pc × St} {f : Nat} {l : List Pc} {st : St} (h : st.bad ≠ 0) : piecesL s piece f l st = (l, st) := by
  cases f with
  | zero => rfl
  | succ f => rw [piecesL, if_neg fun hh => h hh.1]
theorem row1 (k : Int) (q : Pc) : pcRow k [q] = q := rfl
theorem row2 (k : Int) (a b : Pc) : pcRow k [a, b] = pcTwo k a b := rfl
theorem got_pieces {piece : St → Pc × St} {p o fr e : Nat} {q : Pc} (h : Got q e o fr (piece ⟨p, o, 0, fr⟩)) (hs : Stops s e) : Got q e o fr (piecesF s piece ⟨p, o, 0, fr⟩) := by
  unfold piecesF
  rcases h with h | h
  · rw [h]; simp only; rw [pl_stop hs]; exact .inl rfl
  · rw [pl_bad (by rw [h]; decide)]; exact .inr h
theorem got_two {piece : St → Pc × St} {p o fr e1 e : Nat} {a b : Pc} (h1 : Got a e1 o fr (piece ⟨p, o, 0, fr⟩)) (ho : s[e1]? = some 40) (h2 : Got b e o fr (piece ⟨e1, o, 0, fr⟩)) (hs : Stops s e) : Got (pcTwo 2 a b) e o fr (piecesF s piece ⟨p, o, 0, fr⟩) := by
  unfold piecesF
  rcases h1 with h1 | h1
  · rw [h1]
    simp only
    have hl := (List.getElem?_eq_some_iff.1 ho).1
    rw [show s.length + 2 = s.length + 1 + 1 from rfl, piecesL, if_pos ⟨rfl, hl, by rw [isAt_this ho]; decide, by rw [isAt_this ho]; decide⟩]
    rcases h2 with h2 | h2
    · rw [h2]; simp only; rw [pl_stop hs]; exact .inl rfl
    · rw [pl_bad (by rw [h2]; decide)]; exact .inr h2
  · rw [pl_bad (by rw [h1]; decide)]; exact .inr h1
theorem got_alt1 {pieces : St → Pc × St} {p o fr e : Nat} {q : Pc} (h : Got q e o fr (pieces ⟨p, o, 0, fr⟩)) (hs : s[e]? ≠ some 124) : Got q e o fr (altG s pieces ⟨p, o, 0, fr⟩) := by
  have hno : isAt s e 124 = false := by
    unfold isAt
    cases hc : s[e]? with
    | none => rfl
    | some c =>
      simp only [beq_eq_false_iff_ne]
      intro h'
      apply hs
      rw [hc]
      congr 1
      exact UInt8.toNat_inj.1 h'
  unfold altG
  rcases h with h | h
  · rw [h]; simp only; rw [show s.length + 2 = s.length + 1 + 1 from rfl, altL, if_neg (fun hh => by rw [hno] at hh; cases hh.2)]; exact .inl rfl
  · rw [show s.length + 2 = s.length + 1 + 1 from rfl, altL, if_neg (fun hh => by have := hh.1; omega)]; exact .inr h
theorem got_alt2 {pieces : St → Pc × St} {p o fr e1 e : Nat} {a b : Pc} (h1 : Got a e1 o fr (pieces ⟨p, o, 0, fr⟩)) (ho : s[e1]? = some 124) (h2 : Got b e o fr (pieces ⟨e1 + 1, o, 0, fr⟩)) (hs : s[e]? = some 41) : Got (pcTwo 3 a b) e o fr (altG s pieces ⟨p, o, 0, fr⟩) := by
  unfold altG
  rcases h1 with h1 | h1
  · rw [h1]
    simp only
    rw [show s.length + 2 = s.length + 1 + 1 from rfl, altL, if_pos ⟨rfl, by rw [isAt_this ho]; rfl⟩]
    simp only [stAt]
    rcases h2 with h2 | h2
    · rw [h2]; simp only; rw [altL, if_neg (fun hh => by have := hh.2; rw [isAt_this hs] at this; exact absurd this (by decide))]; exact .inl rfl
    · rw [altL, if_neg (fun hh => by have := hh.1; omega)]; exact .inr h2
  · rw [show s.length + 2 = s.length + 1 + 1 from rfl, altL, if_neg (fun hh => by have := hh.1; omega)]; exact .inr h1
theorem group_deep {alt : St → Pc × St} {st : St} {f : Nat} (h : 10 < st.op + 1) : groupF s alt st f = (pcLeaf 0 z4, stFault 26 f (stOp st (st.op + 1))) := by
  unfold groupF
  rw [if_pos h]
theorem group_read {alt : St → Pc × St} {st : St} {f e o fr : Nat} {q : Pc} (h : ¬ 10 < st.op + 1) (ha : alt (stOp st (st.op + 1)) = (q, ⟨e, o + 1, 0, fr⟩)) (hc : s[e]? = some 41) : groupF s alt st f = (q, ⟨e + 1, o, 0, fr⟩) := by
  unfold groupF
  rw [if_neg h, ha]
  have h0 : ¬ ((stOp ⟨e, o + 1, 0, fr⟩ (o + 1 - 1)).bad = 0 ∧ isAt s (stOp ⟨e, o + 1, 0, fr⟩ (o + 1 - 1)).at_ 41 = false) := by
    rintro ⟨_, h2⟩
    have h2 : isAt s e 41 = false := h2
    rw [isAt_this hc] at h2
    exact absurd h2 (by decide)
  show (q, stAt (if (stOp ⟨e, o + 1, 0, fr⟩ (o + 1 - 1)).bad = 0 ∧ isAt s (stOp ⟨e, o + 1, 0, fr⟩ (o + 1 - 1)).at_ 41 = false then _ else _) ((if (stOp ⟨e, o + 1, 0, fr⟩ (o + 1 - 1)).bad = 0 ∧ isAt s (stOp ⟨e, o + 1, 0, fr⟩ (o + 1 - 1)).at_ 41 = false then _ else _ : St).at_ + 1)) = _
  rw [if_neg h0]
  rfl
theorem group_bad {alt : St → Pc × St} {st : St} {f : Nat} (h : ¬ 10 < st.op + 1) (ha : (alt (stOp st (st.op + 1))).2.bad = 26) : (groupF s alt st f).2.bad = 26 := by
  unfold groupF
  rw [if_neg h]
  have h0 : ¬ ((stOp (alt (stOp st (st.op + 1))).2 ((alt (stOp st (st.op + 1))).2.op - 1)).bad = 0 ∧ isAt s (stOp (alt (stOp st (st.op + 1))).2 ((alt (stOp st (st.op + 1))).2.op - 1)).at_ 41 = false) := by
    rintro ⟨h1, _⟩
    have h1 : (alt (stOp st (st.op + 1))).2.bad = 0 := h1
    omega
  show (if _ then _ else _ : St).bad = 26
  rw [if_neg h0]
  exact ha
/-- brackets -/
theorem got_group {alt : St → Pc × St} {p o fr e : Nat} {q : Pc} (ho : s[p]? = some 40) (h : o < 10 → Got q e (o + 1) fr (alt ⟨p + 1, o + 1, 0, fr⟩)) (hc : s[e]? = some 41) : Got q (e + 1) o fr (atomF s alt ⟨p, o, 0, fr⟩) := by
  have e0 : atomF s alt ⟨p, o, 0, fr⟩ = groupF s alt ⟨p + 1, o, 0, fr⟩ p := by
    unfold atomF
    simp only
    rw [ho]
    simp only
    rw [if_pos (by decide)]
    rfl
  rw [e0]
  by_cases h10 : 10 < o + 1
  · rw [group_deep (st := ⟨p + 1, o, 0, fr⟩) h10]
    exact .inr rfl
  · rcases h (by omega) with h | h
    · rw [group_read (st := ⟨p + 1, o, 0, fr⟩) h10 h hc]; exact .inl rfl
    · exact .inr (group_bad (st := ⟨p + 1, o, 0, fr⟩) h10 h)
theorem alt_succ (d : Nat) (st : St) : altF s (d + 1) st = altG s (piecesF s (pieceF s (altF s d))) st := rfl

/-- the piece of a bracket around a text that is read -/
theorem group_text {r : Rx} {d o fr p : Nat} (hdo : d + o = 10) (ho : s[p]? = some 40) (hc : s[p + 1 + (textR r).length]? = some 41)
    (ih : ∀ d o, d + o = 10 → Got (pcR r) (p + 1 + (textR r).length) o fr (piecesF s (pieceF s (altF s d)) ⟨p + 1, o, 0, fr⟩)) :
    Got (pcR r) (p + 1 + (textR r).length + 1) o fr (atomF s (altF s d) ⟨p, o, 0, fr⟩) := by
  refine got_group ho (fun h10 => ?_) hc
  obtain ⟨d', rfl⟩ : ∃ d', d = d' + 1 := ⟨d - 1, by omega⟩
  rw [alt_succ]
  exact got_alt1 (ih d' (o + 1) (by omega)) (by rw [hc]; decide)

theorem sub_at {p : Nat} {A : List UInt8} {c : UInt8} {B : List UInt8} (h : Sub s p (A ++ c :: B)) : s[p + A.length]? = some c := h.app.2.cons.1

theorem read_text : ∀ (r : Rx), okR r → dpR r ≤ 40 → lvR r ≤ 400 → ∀ (d o fr p : Nat), d + o = 10 → Sub s p (textR r) → Stops s (p + (textR r).length) →
    Got (pcR r) (p + (textR r).length) o fr (piecesF s (pieceF s (altF s d)) ⟨p, o, 0, fr⟩)
  | .first, _, _, _, d, o, fr, p, hdo, h, hs => by
    rw [textR_first] at h hs ⊢
    have q0 : s[p]? = some 94 := (Sub.cons h).1
    refine got_pieces (got_piece (.inl ?_) hs.noSign) hs
    unfold atomF
    simp only
    rw [q0]
    rfl
  | .last, _, _, _, d, o, fr, p, hdo, h, hs => by
    rw [textR_last] at h hs ⊢
    have q0 : s[p]? = some 36 := (Sub.cons h).1
    refine got_pieces (got_piece (.inl ?_) hs.noSign) hs
    unfold atomF
    simp only
    rw [q0]
    rfl
  | .set w, hk, _, _, d, o, fr, p, hdo, h, hs => by
    rw [textR_set] at h hs ⊢
    refine got_pieces (got_piece (.inl ?_) hs.noSign) hs
    rw [atom_set s _ p o fr (memW w) h, w4_mem hk]
    rfl
  | .eps, _, _, _, d, o, fr, p, hdo, h, hs => by
    rw [textR_eps] at h hs ⊢
    obtain ⟨q0, h⟩ := h.cons
    obtain ⟨q1, h⟩ := h.cons
    obtain ⟨q2, h⟩ := h.cons
    obtain ⟨q3, h⟩ := h.cons
    obtain ⟨q4, h⟩ := h.cons
    obtain ⟨q5, h⟩ := h.cons
    obtain ⟨q6, h⟩ := h.cons
    have ha : Got (pcOne 6 (pcLeaf 1 (w4 (mNot mNone)))) (p + 1 + 1 + 1 + 1) o fr (atomF s (altF s d) ⟨p, o, 0, fr⟩) := by
      refine got_group q0 (fun h10 => ?_) q3
      obtain ⟨d', rfl⟩ : ∃ d', d = d' + 1 := ⟨d - 1, by omega⟩
      rw [alt_succ]
      refine got_alt1 (got_pieces (got_sign (q := pcLeaf 1 (w4 (mNot mNone))) (.inl ?_) (Stops.noSign (.inr (.inr q3))) 63 q2 (.inr (.inr ⟨rfl, rfl⟩))) (.inr (.inr q3))) (by rw [q3]; decide)
      unfold atomF
      simp only
      rw [q1]
      rfl
    refine got_pieces ?_ hs
    unfold pieceF
    rcases ha with ha | ha
    · rw [ha]
      simp only
      have hlen : p + 1 + 1 + 1 + 1 + 1 + 1 < s.length := (List.getElem?_eq_some_iff.1 q6).1
      have hdig : digitsF s (p + 1 + 1 + 1 + 1 + 1) = (0, p + 1 + 1 + 1 + 1 + 1 + 1) := by
        unfold digitsF
        have e : digF s 2 (p + 1 + 1 + 1 + 1 + 1) 0 = (0, p + 1 + 1 + 1 + 1 + 1 + 1) := by
          rw [digF, q5]
          simp only
          rw [if_pos (by decide), digF, q6]
          simp only
          rw [if_neg (by decide)]
          rfl
        rw [e]
        simp only
        rw [if_neg (by omega)]
        rfl
      have hr : rangeF s (p + 1 + 1 + 1 + 1 + 1) = (0, 0, false, p + 1 + 1 + 1 + 1 + 1 + 1) := by
        unfold rangeF
        rw [hdig]
        simp only
        rw [if_neg (by rw [isAt_this q6]; decide)]
      have ht : timesF s (pcOne 6 (pcLeaf 1 (w4 (mNot mNone)))) ⟨p + 1 + 1 + 1 + 1, o, 0, fr⟩ = (pcLeaf 0 z4, ⟨p + 1 + 1 + 1 + 1 + 1 + 1 + 1, o, 0, fr⟩) := by
        unfold timesF
        simp only
        rw [hr]
        have hok : rangeOk s (0, 0, false, p + 1 + 1 + 1 + 1 + 1 + 1) = true := by
          unfold rangeOk
          simp only
          rw [isAt_this q6]
          simp
        rw [hok, if_pos rfl]
        rfl
      rw [signsF]
      simp only [isAt_this q4, show ((123 : UInt8).toNat == 42) = false from rfl, show ((123 : UInt8).toNat == 43) = false from rfl, show ((123 : UInt8).toNat == 63) = false from rfl, show ((123 : UInt8).toNat == 123) = true from rfl, if_true, Bool.false_eq_true, if_false]
      rw [ht]
      simp only
      rw [signs_none _ _ _ hs.noSign]
      exact .inl rfl
    · rw [signs_halt _ _ _ (by rw [ha]; decide)]; exact .inr ha
  | .star a, hk, h1, h2, d, o, fr, p, hdo, h, hs => by
    unfold dpR at h1
    unfold lvR at h2
    have he : pcR (.star a) = pcOne 4 (pcR a) := by rw [one_eq 4 a h1 h2]; rfl
    rw [textR_star] at h hs ⊢
    rw [List.append_assoc] at h
    obtain ⟨q0, h⟩ := h.cons
    obtain ⟨ht, h⟩ := Sub.app (A := textR a) h
    obtain ⟨qc, h⟩ := h.cons
    obtain ⟨qs, _⟩ := h.cons
    have hlen : p + ([40] ++ textR a ++ [41, 42]).length = p + 1 + (textR a).length + 1 + 1 := by simp; omega
    rw [hlen] at hs ⊢
    rw [he]
    exact got_pieces (got_sign (group_text hdo q0 qc fun d' o' h' => read_text a hk (by omega) h2 d' o' fr (p + 1) h' ht (.inr (.inr qc))) hs.noSign 42 qs (.inl ⟨rfl, rfl⟩)) hs
  | .plus a, hk, h1, h2, d, o, fr, p, hdo, h, hs => by
    unfold dpR at h1
    unfold lvR at h2
    have he : pcR (.plus a) = pcOne 5 (pcR a) := by rw [one_eq 5 a h1 h2]; rfl
    rw [textR_plus] at h hs ⊢
    rw [List.append_assoc] at h
    obtain ⟨q0, h⟩ := h.cons
    obtain ⟨ht, h⟩ := Sub.app (A := textR a) h
    obtain ⟨qc, h⟩ := h.cons
    obtain ⟨qs, _⟩ := h.cons
    have hlen : p + ([40] ++ textR a ++ [41, 43]).length = p + 1 + (textR a).length + 1 + 1 := by simp; omega
    rw [hlen] at hs ⊢
    rw [he]
    exact got_pieces (got_sign (group_text hdo q0 qc fun d' o' h' => read_text a hk (by omega) h2 d' o' fr (p + 1) h' ht (.inr (.inr qc))) hs.noSign 43 qs (.inr (.inl ⟨rfl, rfl⟩))) hs
  | .opt a, hk, h1, h2, d, o, fr, p, hdo, h, hs => by
    unfold dpR at h1
    unfold lvR at h2
    have he : pcR (.opt a) = pcOne 6 (pcR a) := by rw [one_eq 6 a h1 h2]; rfl
    rw [textR_opt] at h hs ⊢
    rw [List.append_assoc] at h
    obtain ⟨q0, h⟩ := h.cons
    obtain ⟨ht, h⟩ := Sub.app (A := textR a) h
    obtain ⟨qc, h⟩ := h.cons
    obtain ⟨qs, _⟩ := h.cons
    have hlen : p + ([40] ++ textR a ++ [41, 63]).length = p + 1 + (textR a).length + 1 + 1 := by simp; omega
    rw [hlen] at hs ⊢
    rw [he]
    exact got_pieces (got_sign (group_text hdo q0 qc fun d' o' h' => read_text a hk (by omega) h2 d' o' fr (p + 1) h' ht (.inr (.inr qc))) hs.noSign 63 qs (.inr (.inr ⟨rfl, rfl⟩))) hs
  | .cat a b, hk, h1, h2, d, o, fr, p, hdo, h, hs => by
    unfold dpR at h1
    unfold lvR at h2
    have he : pcR (.cat a b) = pcTwo 2 (pcR a) (pcR b) := by rw [two_eq 2 a b h1 h2]; rfl
    rw [textR_cat] at h hs ⊢
    rw [List.append_assoc, List.append_assoc, List.append_assoc] at h
    obtain ⟨q0, h⟩ := h.cons
    obtain ⟨ht, h⟩ := Sub.app (A := textR a) h
    obtain ⟨qc, h⟩ := h.cons
    obtain ⟨qo, h⟩ := h.cons
    obtain ⟨ht2, h⟩ := Sub.app (A := textR b) h
    obtain ⟨qc2, _⟩ := h.cons
    have hlen : p + ([40] ++ textR a ++ [41, 40] ++ textR b ++ [41]).length = p + 1 + (textR a).length + 1 + 1 + (textR b).length + 1 := by simp; omega
    rw [hlen] at hs ⊢
    rw [he]
    refine got_two (got_piece (group_text hdo q0 qc fun d' o' h' => read_text a hk.1 (by omega) (by omega) d' o' fr (p + 1) h' ht (.inr (.inr qc))) (noSign_open qo)) qo
      (got_piece (group_text hdo qo qc2 fun d' o' h' => read_text b hk.2 (by omega) (by omega) d' o' fr _ h' ht2 (.inr (.inr qc2))) hs.noSign) hs
  | .alt a b, hk, h1, h2, d, o, fr, p, hdo, h, hs => by
    unfold dpR at h1
    unfold lvR at h2
    have he : pcR (.alt a b) = pcTwo 3 (pcR a) (pcR b) := by rw [two_eq 3 a b h1 h2]; rfl
    rw [textR_alt] at h hs ⊢
    rw [List.append_assoc, List.append_assoc, List.append_assoc] at h
    obtain ⟨q0, h⟩ := h.cons
    obtain ⟨q1, h⟩ := h.cons
    obtain ⟨ht, h⟩ := Sub.app (A := textR a) h
    obtain ⟨qc, h⟩ := h.cons
    obtain ⟨qb, h⟩ := h.cons
    obtain ⟨qo, h⟩ := h.cons
    obtain ⟨ht2, h⟩ := Sub.app (A := textR b) h
    obtain ⟨qc2, h⟩ := h.cons
    obtain ⟨qe, _⟩ := h.cons
    have hlen : p + ([40, 40] ++ textR a ++ [41, 124, 40] ++ textR b ++ [41, 41]).length = p + 1 + 1 + (textR a).length + 1 + 1 + 1 + (textR b).length + 1 + 1 := by simp; omega
    rw [hlen] at hs ⊢
    rw [he]
    refine got_pieces (got_piece (got_group q0 (fun h10 => ?_) qe) hs.noSign) hs
    obtain ⟨d', rfl⟩ : ∃ d', d = d' + 1 := ⟨d - 1, by omega⟩
    rw [alt_succ]
    refine got_alt2 (got_pieces (got_piece (group_text (by omega) q1 qc fun d' o' h' => read_text a hk.1 (by omega) (by omega) d' o' fr (p + 1 + 1) h' ht (.inr (.inr qc))) (Stops.noSign (.inr (.inl qb)))) (.inr (.inl qb))) qb
      (got_pieces (got_piece (group_text (by omega) qo qc2 fun d' o' h' => read_text b hk.2 (by omega) (by omega) d' o' fr _ h' ht2 (.inr (.inr qc2))) (Stops.noSign (.inr (.inr qe)))) (.inr (.inr qe))) qe
end

/-- what is printed of a right tree is read as it, or its brackets are too deep -/
theorem parse_text (r : Rx) (hk : okR r) (hr : rightT (rxT r) = true) : parseF (textR r) = (rxT r, 0, 0) ∨ (parseF (textR r)).2.2 = 26 := by
  have hf := fit_of_right hr
  have hne : (textR r).length ≠ 0 := by
    cases r with
    | eps => rw [textR_eps]; simp
    | set s =>
      rw [textR_set]
      unfold setL
      split
      · simp
      · split <;> simp
    | cat a b => rw [textR_cat]; simp
    | alt a b => rw [textR_alt]; simp
    | star a => rw [textR_star]; simp
    | plus a => rw [textR_plus]; simp
    | opt a => rw [textR_opt]; simp
    | first => rw [textR_first]; simp
    | last => rw [textR_last]; simp
  have hend : (textR r)[0 + (textR r).length]? = none := by rw [List.getElem?_eq_none_iff]; omega
  have h := read_text (s := textR r) r hk hf.1 hf.2 10 0 0 0 rfl (fun k hk => by rw [Nat.zero_add]) (.inl hend)
  have h := got_alt1 h (by rw [hend]; decide)
  rw [← alt_succ] at h
  rcases h with h | h
  · exact .inl (parse_yes hne h rfl (by show ¬ 0 + (textR r).length < _; omega) rfl hr)
  · right
    have h : (altF (textR r) 11 st0).2.bad = 26 := h
    cases hh : altF (textR r) 11 st0 with
    | mk q st =>
      rw [hh] at h
      have h : st.bad = 26 := h
      rw [parse_bad hne hh (by omega)]
      exact h

end Go.Proofs.YtmkddhkpeiajhaaDoor
