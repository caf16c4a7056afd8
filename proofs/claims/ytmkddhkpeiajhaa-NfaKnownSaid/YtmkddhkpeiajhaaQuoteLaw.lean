/-
  A text that is quoted is read as a row of its bytes: plain.
-/
import Derived.Test.YtmkddhkpeiajhaaRightLaw
namespace Go.Proofs.Ytmkddhkpeiajhaa

/-- a byte as a piece -/
def leafQ (c : UInt8) : Pc := pcLeaf 1 (w4 (mOf [c]))
def tByte (c : UInt8) : Tree := .node 1 (w4 (mOf [c])) []
/-- a row of bytes -/
def qTree : List UInt8 → Tree
  | [] => tEmpty
  | [c] => tByte c
  | c :: d :: l => .node 2 z4 [tByte c, qTree (d :: l)]

theorem quote_at : ∀ (l : List UInt8) (i k : Nat) (c : UInt8), l[i]? = some c → k < 4 → (quoteL l)[4 * i + k]? = (octD c.toNat)[k]?
  | [], _, _, _, h, _ => by cases h
  | d :: l, 0, k, c, h, hk => by
    injection h with h
    subst h
    have e : quoteL (d :: l) = octD d.toNat ++ quoteL l := by unfold quoteL; rw [List.flatMap_cons]
    rw [e, Nat.mul_zero, Nat.zero_add, List.getElem?_append_left (by rw [octD_len]; exact hk)]
  | d :: l, i + 1, k, c, h, hk => by
    have e : quoteL (d :: l) = octD d.toNat ++ quoteL l := by unfold quoteL; rw [List.flatMap_cons]
    rw [e, List.getElem?_append_right (by rw [octD_len]; omega), octD_len, show 4 * (i + 1) + k - 4 = 4 * i + k by omega]
    exact quote_at l i k c h hk

theorem isOct_of {d : UInt8} (h1 : 48 ≤ d.toNat) (h2 : d.toNat ≤ 55) : isOct d = true := by
  unfold isOct
  simp [h1, h2]
theorem octF_ok (l : List UInt8) (k a n : Nat) (d : UInt8) (h : l[a]? = some d) (h1 : 48 ≤ d.toNat) (h2 : d.toNat ≤ 55) : octF l (k + 1) a n = octF l k (a + 1) (8 * n + (d.toNat - 48)) := by
  rw [octF, h]
  simp only
  rw [if_pos (isOct_of h1 h2)]

theorem esc_quote (l : List UInt8) (i : Nat) (c : UInt8) (h : l[i]? = some c) : escF (quoteL l) ⟨4 * i + 1, 0, 0, 0⟩ = (c.toNat, ⟨4 * (i + 1), 0, 0, 0⟩) := by
  have hc := c.toNat_lt
  have q1 := quote_at l i 1 c h (by omega)
  have q2 := quote_at l i 2 c h (by omega)
  have q3 := quote_at l i 3 c h (by omega)
  obtain ⟨A, hA⟩ : ∃ A : UInt8, UInt8.ofNat (48 + c.toNat / 64) = A := ⟨_, rfl⟩
  obtain ⟨B, hB⟩ : ∃ A : UInt8, UInt8.ofNat (48 + c.toNat / 8 % 8) = A := ⟨_, rfl⟩
  obtain ⟨C, hC⟩ : ∃ A : UInt8, UInt8.ofNat (48 + c.toNat % 8) = A := ⟨_, rfl⟩
  have eA : A.toNat = 48 + c.toNat / 64 := by rw [← hA, UInt8.toNat_ofNat', Nat.mod_eq_of_lt (by omega)]
  have eB : B.toNat = 48 + c.toNat / 8 % 8 := by rw [← hB, UInt8.toNat_ofNat', Nat.mod_eq_of_lt (by omega)]
  have eC : C.toNat = 48 + c.toNat % 8 := by rw [← hC, UInt8.toNat_ofNat', Nat.mod_eq_of_lt (by omega)]
  unfold octD at q1 q2 q3
  rw [hA, hB, hC] at q1 q2 q3
  have q1 : (quoteL l)[4 * i + 1]? = some A := q1
  have q2 : (quoteL l)[4 * i + 2]? = some B := q2
  have q3 : (quoteL l)[4 * i + 3]? = some C := q3
  have hl : escLetter A.toNat = none := by
    have h4 : c.toNat / 64 = 0 ∨ c.toNat / 64 = 1 ∨ c.toNat / 64 = 2 ∨ c.toNat / 64 = 3 := by omega
    rw [eA]
    rcases h4 with e | e | e | e <;> rw [e] <;> decide
  unfold escF
  simp only
  rw [q1]
  simp only
  rw [hl]
  simp only
  rw [if_neg (by omega), show 4 * i + 1 + 1 = 4 * i + 2 by omega, octF_ok _ _ _ _ B q2 (by omega) (by omega), show 4 * i + 2 + 1 = 4 * i + 3 by omega, octF_ok _ _ _ _ C q3 (by omega) (by omega), octF]
  unfold stAt
  simp only
  rw [show 4 * i + 3 + 1 = 4 * (i + 1) by omega, show (8 * (8 * (A.toNat - 48) + (B.toNat - 48)) + (C.toNat - 48)) % 256 = c.toNat by omega]

theorem atom_quote (l : List UInt8) (alt : St → Pc × St) (i : Nat) (c : UInt8) (h : l[i]? = some c) : atomF (quoteL l) alt ⟨4 * i, 0, 0, 0⟩ = (leafQ c, ⟨4 * (i + 1), 0, 0, 0⟩) := by
  have q0 : (quoteL l)[4 * i]? = some 92 := quote_at l i 0 c h (by omega)
  unfold atomF
  simp only
  rw [q0]
  simp only
  rw [if_neg (by decide), if_neg (by decide), if_neg (by decide), if_neg (by decide), if_neg (by decide), if_pos (by decide)]
  have e : stAt ⟨4 * i, 0, 0, 0⟩ (4 * i + 1) = ⟨4 * i + 1, 0, 0, 0⟩ := rfl
  rw [e, esc_quote l i c h]
  simp only
  rw [UInt8.ofNat_toNat]
  rfl
theorem quote_next (l : List UInt8) (i : Nat) (k : Nat) (hk : k ≠ 92) : isAt (quoteL l) (4 * i) k = false := by
  unfold isAt
  by_cases h : i < l.length
  · have q0 : (quoteL l)[4 * i]? = some 92 := quote_at l i 0 l[i] (List.getElem?_eq_getElem h) (by omega)
    rw [q0]
    simp only [beq_eq_false_iff_ne]
    exact fun e => hk e.symm
  · rw [List.getElem?_eq_none (by rw [quoteL_len]; omega)]
theorem piece_quote (l : List UInt8) (alt : St → Pc × St) (i : Nat) (c : UInt8) (h : l[i]? = some c) : pieceF (quoteL l) alt ⟨4 * i, 0, 0, 0⟩ = (leafQ c, ⟨4 * (i + 1), 0, 0, 0⟩) := by
  unfold pieceF
  rw [atom_quote l alt i c h]
  simp only
  rw [signsF]
  simp only [quote_next l (i + 1) 42 (by decide), quote_next l (i + 1) 43 (by decide), quote_next l (i + 1) 63 (by decide), quote_next l (i + 1) 123 (by decide), Bool.false_eq_true, if_false, ite_self]
theorem pieces_quote (l : List UInt8) (alt : St → Pc × St) : ∀ (m i f : Nat) (acc : List Pc), i + m = l.length → m < f →
    piecesL (quoteL l) (pieceF (quoteL l) alt) f acc ⟨4 * i, 0, 0, 0⟩ = (acc ++ (l.drop i).map leafQ, ⟨4 * l.length, 0, 0, 0⟩)
  | 0, i, f, acc, hi, hf => by
    obtain ⟨f', rfl⟩ : ∃ f', f = f' + 1 := ⟨f - 1, by omega⟩
    obtain rfl : i = l.length := by omega
    rw [piecesL, if_neg (by rw [quoteL_len]; simp), List.drop_of_length_le (Nat.le_refl _)]
    simp
  | m + 1, i, f, acc, hi, hf => by
    obtain ⟨f', rfl⟩ : ∃ f', f = f' + 1 := ⟨f - 1, by omega⟩
    have hc : l[i]? = some l[i] := List.getElem?_eq_getElem (by omega)
    rw [piecesL, if_pos ⟨rfl, by rw [quoteL_len]; show 4 * i < _; omega, quote_next l i 124 (by decide), quote_next l i 41 (by decide)⟩, piece_quote l alt i _ hc]
    simp only
    rw [pieces_quote l alt m (i + 1) f' _ (by omega) (by omega), List.drop_eq_getElem_cons (show i < l.length by omega), List.map_cons, List.append_assoc]
    rfl

theorem fold_quote : ∀ (r m : List UInt8) (p : Pc), m ≠ [] → p.re = qTree m → p.deep ≤ 2 → p.leaves = m.length → p.big = false → r.length + m.length ≤ 400 →
    (pcFold 2 (r.map leafQ) p).re = qTree (r.reverse ++ m) ∧ (pcFold 2 (r.map leafQ) p).big = false
  | [], m, p, _, h1, _, _, h4, _ => ⟨h1, h4⟩
  | c :: r, m, p, hm, h1, h2, h3, h4, h5 => by
    simp only [List.length_cons] at h5
    have e : pcTwo 2 (leafQ c) p = ⟨.node 2 z4 [tByte c, p.re], max 2 p.deep, 1 + p.leaves, false⟩ := by
      unfold pcTwo pcFits
      rw [if_neg]
      · rw [h4]; rfl
      · rw [h4]
        have d1 : max ((leafQ c).deep + 1) p.deep ≤ 40 := by show max 2 p.deep ≤ 40; omega
        have d2 : (leafQ c).leaves + p.leaves ≤ 400 := by show 1 + p.leaves ≤ 400; omega
        simp only [Bool.or_eq_true, decide_eq_true_eq]
        rintro (((h | h) | h) | h)
        · cases h
        · cases h
        · omega
        · omega
    rw [List.map_cons, pcFold, e]
    have ih := fold_quote r (c :: m) ⟨.node 2 z4 [tByte c, p.re], max 2 p.deep, 1 + p.leaves, false⟩ (by simp) (by
      show Tree.node 2 z4 [tByte c, p.re] = _
      cases m with
      | nil => exact absurd rfl hm
      | cons d m => rw [h1, qTree]) (by show max 2 p.deep ≤ 2; omega) (by show 1 + p.leaves = _; rw [h3, List.length_cons]; omega) rfl (by rw [List.length_cons]; omega)
    rw [List.reverse_cons, List.append_assoc]
    exact ih
theorem row_quote (l : List UInt8) (hl : l ≠ []) (h : l.length ≤ 400) : (pcRow 2 (l.map leafQ)).re = qTree l ∧ (pcRow 2 (l.map leafQ)).big = false := by
  obtain ⟨l', c, rfl⟩ : ∃ l' c, l = l' ++ [c] := ⟨l.dropLast, l.getLast hl, (List.dropLast_concat_getLast hl).symm⟩
  unfold pcRow
  rw [List.map_append, List.map_cons, List.map_nil, List.reverse_append, List.reverse_singleton, ← List.map_reverse]
  have := fold_quote l'.reverse [c] (leafQ c) (by simp) rfl (by show 1 ≤ 2; omega) rfl rfl (by rw [List.length_reverse]; simp at h ⊢; omega)
  rw [List.reverse_reverse] at this
  exact this

theorem shaped_byte (c : UInt8) (D : Nat) (hD : 1 ≤ D) : shapedT (tByte c) (D : Int) = some 1 :=
  (shaped_iff _ (tByte c) D 1 (Nat.le_refl _)).2 ⟨by unfold tByte; rw [shapedR, shapedRL]; rfl, by unfold tByte; rw [deepR, deepRL]; simp; omega, by unfold tByte; rw [setsR]; rfl, by omega⟩
theorem shaped_row : ∀ (l : List UInt8), l ≠ [] → l.length ≤ 400 → shapedT (qTree l) (40 : Int) = some l.length
  | [], h, _ => absurd rfl h
  | [c], _, _ => shaped_byte c 40 (by omega)
  | c :: d :: l, _, h => by
    have ih := shaped_row (d :: l) (by simp) (by simp at h ⊢; omega)
    have i1 := (shaped_iff _ (qTree (d :: l)) 40 _ (Nat.le_refl _)).1 ih
    have i2 := (shaped_iff _ (tByte c) 39 _ (Nat.le_refl _)).1 (shaped_byte c 39 (by omega))
    refine (shaped_iff _ (qTree (c :: d :: l)) 40 _ (Nat.le_refl _)).2 ⟨?_, ?_, ?_, h⟩
    · rw [qTree, shapedR, shapedRL, shapedRL, shapedRL, i1.1, i2.1]
      rfl
    · rw [qTree, deepR, deepRL, deepRL, deepRL, if_neg (by omega), if_pos ⟨rfl, .inl rfl⟩, i2.2.1, i1.2.1]
      rfl
    · rw [qTree, setsR, if_neg (by simp), setsRL, setsRL, setsRL, i2.2.2.1, i1.2.2.1]
      simp only [List.length_cons]
      omega

theorem parse_quote (l : List UInt8) (h : l.length ≤ 400) : parseF (quoteL l) = (qTree l, 0, 0) := by
  cases l with
  | nil => exact parse_nil rfl
  | cons c l =>
    obtain ⟨L, hL⟩ : ∃ L, L = c :: l := ⟨_, rfl⟩
    rw [← hL] at h ⊢
    have hne : L ≠ [] := by rw [hL]; simp
    have h0 : L[0]? = some c := by rw [hL]; rfl
    have hpos : 0 < L.length := by rw [hL]; simp
    have hpl : piecesL (quoteL L) (pieceF (quoteL L) (altF (quoteL L) 10)) ((quoteL L).length + 2) [leafQ c] ⟨4 * 1, 0, 0, 0⟩ = (L.map leafQ, ⟨4 * L.length, 0, 0, 0⟩) := by
      rw [pieces_quote L _ (L.length - 1) 1 _ _ (by omega) (by rw [quoteL_len]; omega), hL]
      rfl
    have hps : piecesF (quoteL L) (pieceF (quoteL L) (altF (quoteL L) 10)) st0 = (pcRow 2 (L.map leafQ), ⟨4 * L.length, 0, 0, 0⟩) := by
      unfold piecesF
      have e : pieceF (quoteL L) (altF (quoteL L) 10) st0 = (leafQ c, ⟨4 * 1, 0, 0, 0⟩) := piece_quote L _ 0 c h0
      rw [e]
      simp only
      rw [hpl]
    have hal : altF (quoteL L) 11 st0 = (pcRow 2 (L.map leafQ), ⟨4 * L.length, 0, 0, 0⟩) := by
      rw [altF]
      unfold altG
      rw [hps]
      simp only
      rw [altL, if_neg (by rw [quote_next L L.length 124 (by decide)]; simp)]
      rfl
    obtain ⟨r1, r2⟩ := row_quote L hne h
    have hr : rightT (pcRow 2 (L.map leafQ)).re = true := by
      rw [r1]
      unfold rightT
      rw [shaped_row L hne h]
      rfl
    have := parse_yes (by rw [quoteL_len]; omega) hal rfl (by rw [quoteL_len]; show ¬ 4 * _ < _; omega) r2 hr
    rw [this, r1]

end Go.Proofs.Ytmkddhkpeiajhaa
