/-
  A right tree's text is read as that very tree, or its brackets are too deep: plain.
-/
import Derived.Test.YtmkddhkpeiajhaaPrintLaw
import Derived.Test.YtmkddhkpeiajhaaParser
namespace Go.Proofs.Ytmkddhkpeiajhaa

def dpR : Rx → Nat
  | .eps => 1
  | .set _ => 1
  | .cat a b => max (dpR a + 1) (dpR b)
  | .alt a b => max (dpR a + 1) (dpR b)
  | .star a => dpR a + 1
  | .plus a => dpR a + 1
  | .opt a => dpR a + 1
  | .first => 1
  | .last => 1
def lvR : Rx → Nat
  | .eps => 1
  | .set _ => 1
  | .cat a b => lvR a + lvR b
  | .alt a b => lvR a + lvR b
  | .star a => lvR a
  | .plus a => lvR a
  | .opt a => lvR a
  | .first => 1
  | .last => 1
def okR : Rx → Prop
  | .eps => True
  | .set s => okW s
  | .cat a b => okR a ∧ okR b
  | .alt a b => okR a ∧ okR b
  | .star a => okR a
  | .plus a => okR a
  | .opt a => okR a
  | .first => True
  | .last => True
theorem ok_of_wT : ∀ (r : Rx), wT (rxT r) → okR r
  | .eps, _ => trivial
  | .set s, h => by unfold rxT wT at h; exact h.1
  | .cat a b, h => by unfold rxT wT wL wL at h; exact ⟨ok_of_wT a h.2.1, ok_of_wT b h.2.2.1⟩
  | .alt a b, h => by unfold rxT wT wL wL at h; exact ⟨ok_of_wT a h.2.1, ok_of_wT b h.2.2.1⟩
  | .star a, h => by unfold rxT wT wL at h; exact ok_of_wT a h.2.1
  | .plus a, h => by unfold rxT wT wL at h; exact ok_of_wT a h.2.1
  | .opt a, h => by unfold rxT wT wL at h; exact ok_of_wT a h.2.1
  | .first, _ => trivial
  | .last, _ => trivial

/-- right: no deeper than 40, no more than 400 leaves -/
def fitR (r : Rx) : Prop := dpR r ≤ 40 ∧ lvR r ≤ 400
theorem shaped_two {k : Int} {a b : Tree} {d : Int} {n : Nat} (h : shapedT (.node k z4 [a, b]) d = some n) : ∃ x y, shapedT a (d - 1) = some x ∧ shapedT b d = some y ∧ x + y = n ∧ n ≤ 400 := by
  rw [shapedT] at h
  split at h
  · cases h
  · simp only [List.length_cons, List.length_nil] at h
    rw [if_neg (by omega), shapedL] at h
    cases hx : shapedT a (d - 1 + ((0 : Nat) : Int)) with
    | none => rw [hx] at h; cases h
    | some x =>
      rw [hx] at h
      simp only at h
      split at h
      · cases h
      · rw [shapedL] at h
        cases hy : shapedT b (d - 1 + ((0 + 1 : Nat) : Int)) with
        | none => rw [hy] at h; cases h
        | some y =>
          rw [hy] at h
          simp only at h
          split at h
          · cases h
          · rw [shapedL] at h
            injection h with h
            refine ⟨x, y, ?_, ?_, by omega, by omega⟩
            · rw [← hx]; congr 1; omega
            · rw [← hy]; congr 1; omega
theorem shaped_one {k : Int} {a : Tree} {d : Int} {n : Nat} (h : shapedT (.node k z4 [a]) d = some n) : shapedT a (d - 1) = some n ∧ n ≤ 400 := by
  rw [shapedT] at h
  split at h
  · cases h
  · simp only [List.length_cons, List.length_nil] at h
    rw [if_neg (by omega), shapedL] at h
    cases hx : shapedT a (d - 1 + ((0 : Nat) : Int)) with
    | none => rw [hx] at h; cases h
    | some x =>
      rw [hx] at h
      simp only at h
      split at h
      · cases h
      · rw [shapedL] at h
        injection h with h
        refine ⟨?_, by omega⟩
        rw [show d - 1 + ((0 : Nat) : Int) = d - 1 by omega] at hx
        rw [hx]; congr 1; omega
theorem shaped_zero {k : Int} {s : W4} {d : Int} {n : Nat} (h : shapedT (.node k s []) d = some n) : 1 ≤ d ∧ n = 1 := by
  rw [shapedT] at h
  split at h
  · cases h
  · rename_i hc
    simp only [List.length_nil, if_true] at h
    rw [shapedL] at h
    injection h with h
    exact ⟨by omega, by omega⟩
theorem fit_of_shaped : ∀ (r : Rx) (d : Int) (n : Nat), shapedT (rxT r) d = some n → (dpR r : Int) ≤ d ∧ lvR r = n ∧ n ≤ 400
  | .eps, d, n, h => by have := shaped_zero h; unfold dpR lvR; omega
  | .set s, d, n, h => by have := shaped_zero h; unfold dpR lvR; omega
  | .first, d, n, h => by have := shaped_zero h; unfold dpR lvR; omega
  | .last, d, n, h => by have := shaped_zero h; unfold dpR lvR; omega
  | .cat a b, d, n, h => by
    obtain ⟨x, y, h1, h2, h3, h4⟩ := shaped_two h
    have := fit_of_shaped a _ _ h1
    have := fit_of_shaped b _ _ h2
    unfold dpR lvR
    omega
  | .alt a b, d, n, h => by
    obtain ⟨x, y, h1, h2, h3, h4⟩ := shaped_two h
    have := fit_of_shaped a _ _ h1
    have := fit_of_shaped b _ _ h2
    unfold dpR lvR
    omega
  | .star a, d, n, h => by
    obtain ⟨h1, h2⟩ := shaped_one h
    have := fit_of_shaped a _ _ h1
    unfold dpR lvR
    omega
  | .plus a, d, n, h => by
    obtain ⟨h1, h2⟩ := shaped_one h
    have := fit_of_shaped a _ _ h1
    unfold dpR lvR
    omega
  | .opt a, d, n, h => by
    obtain ⟨h1, h2⟩ := shaped_one h
    have := fit_of_shaped a _ _ h1
    unfold dpR lvR
    omega
theorem fit_of_right {r : Rx} (h : rightT (rxT r) = true) : fitR r := by
  unfold rightT at h
  obtain ⟨n, hn⟩ := Option.isSome_iff_exists.1 h
  have := fit_of_shaped r 40 n hn
  unfold fitR
  omega

def pcR (r : Rx) : Pc := ⟨rxT r, dpR r, lvR r, false⟩
theorem fits_eq {p : Pc} (hb : p.big = false) (h1 : p.deep ≤ 40) (h2 : p.leaves ≤ 400) : pcFits p = p := by
  unfold pcFits
  rw [if_neg]
  rw [hb]
  simp only [Bool.or_eq_true, decide_eq_true_eq, Bool.false_eq_true, false_or]
  omega
theorem two_eq (k : Int) (a b : Rx) (h1 : max (dpR a + 1) (dpR b) ≤ 40) (h2 : lvR a + lvR b ≤ 400) : pcTwo k (pcR a) (pcR b) = ⟨.node k z4 [rxT a, rxT b], max (dpR a + 1) (dpR b), lvR a + lvR b, false⟩ := fits_eq rfl h1 h2
theorem one_eq (k : Int) (a : Rx) (h1 : dpR a + 1 ≤ 40) (h2 : lvR a ≤ 400) : pcOne k (pcR a) = ⟨.node k z4 [rxT a], dpR a + 1, lvR a, false⟩ := fits_eq rfl h1 h2

def textR (r : Rx) : List UInt8 := textT (rxT r)
theorem textR_cat (a b : Rx) : textR (.cat a b) = [40] ++ textR a ++ [41, 40] ++ textR b ++ [41] := by
  show textT (.node 2 z4 [rxT a, rxT b]) = [40] ++ textT (rxT a) ++ [41, 40] ++ textT (rxT b) ++ [41]
  rw [textT, if_pos rfl]
theorem textR_alt (a b : Rx) : textR (.alt a b) = [40, 40] ++ textR a ++ [41, 124, 40] ++ textR b ++ [41, 41] := by
  show textT (.node 3 z4 [rxT a, rxT b]) = [40, 40] ++ textT (rxT a) ++ [41, 124, 40] ++ textT (rxT b) ++ [41, 41]
  rw [textT, if_neg (by decide)]
theorem textR_star (a : Rx) : textR (.star a) = [40] ++ textR a ++ [41, 42] := by
  show textT (.node 4 z4 [rxT a]) = [40] ++ textT (rxT a) ++ [41, 42]
  rw [textT, if_pos rfl]
theorem textR_plus (a : Rx) : textR (.plus a) = [40] ++ textR a ++ [41, 43] := by
  show textT (.node 5 z4 [rxT a]) = [40] ++ textT (rxT a) ++ [41, 43]
  rw [textT, if_neg (by decide), if_pos rfl]
theorem textR_opt (a : Rx) : textR (.opt a) = [40] ++ textR a ++ [41, 63] := by
  show textT (.node 6 z4 [rxT a]) = [40] ++ textT (rxT a) ++ [41, 63]
  rw [textT, if_neg (by decide), if_neg (by decide)]
theorem textR_eps : textR .eps = [40, 46, 63, 41, 123, 48, 125] := by unfold textR rxT textT; rfl
theorem textR_set (s : W4) : textR (.set s) = setL (memW s) := by unfold textR rxT textT; rfl
theorem textR_first : textR .first = [94] := by unfold textR rxT textT; rfl
theorem textR_last : textR .last = [36] := by unfold textR rxT textT; rfl

section
variable (s : List UInt8)
/-- no sign stands there -/
def NoSign (p : Nat) : Prop := isAt s p 42 = false ∧ isAt s p 43 = false ∧ isAt s p 63 = false ∧ isAt s p 123 = false
/-- a row of pieces ends there -/
def Stops (p : Nat) : Prop := s[p]? = none ∨ s[p]? = some 124 ∨ s[p]? = some 41
end
section
variable {s : List UInt8}
theorem Stops.noSign {p : Nat} (h : Stops s p) : NoSign s p := by
  unfold NoSign
  rcases h with h | h | h
  · simp only [isAt_gone h, and_self]
  · rw [isAt_this h, isAt_this h, isAt_this h, isAt_this h]; decide
  · rw [isAt_this h, isAt_this h, isAt_this h, isAt_this h]; decide
theorem noSign_open {p : Nat} (h : s[p]? = some 40) : NoSign s p := by
  unfold NoSign
  rw [isAt_this h, isAt_this h, isAt_this h, isAt_this h]; decide
theorem signs_none (f : Nat) (q : Pc) (st : St) (h : NoSign s st.at_) : signsF s f q st = (q, st) := by
  cases f with
  | zero => rfl
  | succ f =>
    rw [signsF, h.1, h.2.1, h.2.2.1, h.2.2.2]
    simp
theorem signs_halt (f : Nat) (q : Pc) (st : St) (h : st.bad ≠ 0) : signsF s f q st = (q, st) := by
  cases f with
  | zero => rfl
  | succ f => rw [signsF, if_neg h]
/-- a piece is read, or brackets are too deep -/
def Got (q : Pc) (e o fr : Nat) (res : Pc × St) : Prop := res = (q, ⟨e, o, 0, fr⟩) ∨ res.2.bad = 26

theorem got_piece {alt : St → Pc × St} {p o fr e : Nat} {q : Pc} (h : Got q e o fr (atomF s alt ⟨p, o, 0, fr⟩)) (hn : NoSign s e) : Got q e o fr (pieceF s alt ⟨p, o, 0, fr⟩) := by
  unfold pieceF
  rcases h with h | h
  · rw [h]; simp only; rw [signs_none _ _ _ hn]; exact .inl rfl
  · rw [signs_halt _ _ _ (by rw [h]; decide)]; exact .inr h
theorem got_sign {alt : St → Pc × St} {p o fr e : Nat} {q q' : Pc} (h : Got q e o fr (atomF s alt ⟨p, o, 0, fr⟩)) (hn : NoSign s (e + 1)) (c : UInt8) (hc : s[e]? = some c)
    (hq : (c = 42 ∧ q' = pcOne 4 q) ∨ (c = 43 ∧ q' = pcOne 5 q) ∨ (c = 63 ∧ q' = pcOne 6 q)) : Got q' (e + 1) o fr (pieceF s alt ⟨p, o, 0, fr⟩) := by
  unfold pieceF
  rcases h with h | h
  · rw [h]
    simp only
    rw [signsF]
    simp only [isAt_this hc]
    rcases hq with ⟨rfl, rfl⟩ | ⟨rfl, rfl⟩ | ⟨rfl, rfl⟩
    · simp only [show ((42 : UInt8).toNat == 42) = true from rfl, if_true]
      rw [signs_none _ _ _ hn]; exact .inl rfl
    · simp only [show ((43 : UInt8).toNat == 42) = false from rfl, show ((43 : UInt8).toNat == 43) = true from rfl, if_true, Bool.false_eq_true, if_false]
      rw [signs_none _ _ _ hn]; exact .inl rfl
    · simp only [show ((63 : UInt8).toNat == 42) = false from rfl, show ((63 : UInt8).toNat == 43) = false from rfl, show ((63 : UInt8).toNat == 63) = true from rfl, if_true, Bool.false_eq_true, if_false]
      rw [signs_none _ _ _ hn]; exact .inl rfl
  · rw [signs_halt _ _ _ (by rw [h]; decide)]; exact .inr h

theorem pl_stop {piece : St → Pc × St} {f : Nat} {l : List Pc} {st : St} (h : Stops s st.at_) : piecesL s piece f l st = (l, st) := by
  cases f with
  | zero => rfl
  | succ f =>
    rw [piecesL, if_neg]
    rintro ⟨_, h1, h2, h3⟩
    rcases h with h | h | h
    · rw [List.getElem?_eq_none_iff] at h; omega
    · rw [isAt_this h] at h2; exact absurd h2 (by decide)
    · rw [isAt_this h] at h3; exact absurd h3 (by decide)
theorem pl_bad {piece : St → Pc × St} {f : Nat} {l : List Pc} {st : St} (h : st.bad ≠ 0) : piecesL s piece f l st = (l, st) := by
  cases f with
  | zero => rfl
  | succ f => rw [piecesL, if_neg fun hh => h hh.1]
theorem row1 (k : Int) (q : Pc) : pcRow k [q] = q := rfl
theorem row2 (k : Int) (a b : Pc) : pcRow k [a, b] = pcTwo k a b := rfl
theorem got_pieces {piece : St → Pc × St} {p o fr e : Nat} {q : Pc} (h : Got q e o fr (piece ⟨p, o, 0, fr⟩)) (hs : Stops s e) : Got q e o fr (piecesF s piece ⟨p, o, 0, fr⟩) := by
  unfold piecesF
  rcases h with h | h
  · rw [h]; simp only; rw [pl_stop hs]; exact .inl rfl
  · rw [pl_bad (by rw [h]; decide)]; exact .inr h
theorem got_two {piece : St → Pc × St} {p o fr e1 e : Nat} {a b : Pc} (h1 : Got a e1 o fr (piece ⟨p, o, 0, fr⟩)) (ho : s[e1]? = some 40) (h2 : Got b e o fr (piece ⟨e1, o, 0, fr⟩)) (hs : Stops s e) : Got (pcTwo 2 a b) e o fr (piecesF s piece ⟨p, o, 0, fr⟩) := by
  unfold piecesF
  rcases h1 with h1 | h1
  · rw [h1]
    simp only
    have hl := (List.getElem?_eq_some_iff.1 ho).1
    rw [show s.length + 2 = s.length + 1 + 1 from rfl, piecesL, if_pos ⟨rfl, hl, by rw [isAt_this ho]; decide, by rw [isAt_this ho]; decide⟩]
    rcases h2 with h2 | h2
    · rw [h2]; simp only; rw [pl_stop hs]; exact .inl rfl
    · rw [pl_bad (by rw [h2]; decide)]; exact .inr h2
  · rw [pl_bad (by rw [h1]; decide)]; exact .inr h1
theorem got_alt1 {pieces : St → Pc × St} {p o fr e : Nat} {q : Pc} (h : Got q e o fr (pieces ⟨p, o, 0, fr⟩)) (hs : s[e]? ≠ some 124) : Got q e o fr (altG s pieces ⟨p, o, 0, fr⟩) := by
  have hno : isAt s e 124 = false := by
    unfold isAt
    cases hc : s[e]? with
    | none => rfl
    | some c =>
      simp only [beq_eq_false_iff_ne]
      intro h'
      apply hs
      rw [hc]
      congr 1
      exact UInt8.toNat_inj.1 h'
  unfold altG
  rcases h with h | h
  · rw [h]; simp only; rw [show s.length + 2 = s.length + 1 + 1 from rfl, altL, if_neg (fun hh => by rw [hno] at hh; cases hh.2)]; exact .inl rfl
  · rw [show s.length + 2 = s.length + 1 + 1 from rfl, altL, if_neg (fun hh => by have := hh.1; omega)]; exact .inr h
theorem got_alt2 {pieces : St → Pc × St} {p o fr e1 e : Nat} {a b : Pc} (h1 : Got a e1 o fr (pieces ⟨p, o, 0, fr⟩)) (ho : s[e1]? = some 124) (h2 : Got b e o fr (pieces ⟨e1 + 1, o, 0, fr⟩)) (hs : s[e]? = some 41) : Got (pcTwo 3 a b) e o fr (altG s pieces ⟨p, o, 0, fr⟩) := by
  unfold altG
  rcases h1 with h1 | h1
  · rw [h1]
    simp only
    rw [show s.length + 2 = s.length + 1 + 1 from rfl, altL, if_pos ⟨rfl, by rw [isAt_this ho]; rfl⟩]
    simp only [stAt]
    rcases h2 with h2 | h2
    · rw [h2]; simp only; rw [altL, if_neg (fun hh => by have := hh.2; rw [isAt_this hs] at this; exact absurd this (by decide))]; exact .inl rfl
    · rw [altL, if_neg (fun hh => by have := hh.1; omega)]; exact .inr h2
  · rw [show s.length + 2 = s.length + 1 + 1 from rfl, altL, if_neg (fun hh => by have := hh.1; omega)]; exact .inr h1
theorem group_deep {alt : St → Pc × St} {st : St} {f : Nat} (h : 10 < st.op + 1) : groupF s alt st f = (pcLeaf 0 z4, stFault 26 f (stOp st (st.op + 1))) := by
  unfold groupF
  rw [if_pos h]
theorem group_read {alt : St → Pc × St} {st : St} {f e o fr : Nat} {q : Pc} (h : ¬ 10 < st.op + 1) (ha : alt (stOp st (st.op + 1)) = (q, ⟨e, o + 1, 0, fr⟩)) (hc : s[e]? = some 41) : groupF s alt st f = (q, ⟨e + 1, o, 0, fr⟩) := by
  unfold groupF
  rw [if_neg h, ha]
  have h0 : ¬ ((stOp ⟨e, o + 1, 0, fr⟩ (o + 1 - 1)).bad = 0 ∧ isAt s (stOp ⟨e, o + 1, 0, fr⟩ (o + 1 - 1)).at_ 41 = false) := by
    rintro ⟨_, h2⟩
    have h2 : isAt s e 41 = false := h2
    rw [isAt_this hc] at h2
    exact absurd h2 (by decide)
  show (q, stAt (if (stOp ⟨e, o + 1, 0, fr⟩ (o + 1 - 1)).bad = 0 ∧ isAt s (stOp ⟨e, o + 1, 0, fr⟩ (o + 1 - 1)).at_ 41 = false then _ else _) ((if (stOp ⟨e, o + 1, 0, fr⟩ (o + 1 - 1)).bad = 0 ∧ isAt s (stOp ⟨e, o + 1, 0, fr⟩ (o + 1 - 1)).at_ 41 = false then _ else _ : St).at_ + 1)) = _
  rw [if_neg h0]
  rfl
theorem group_bad {alt : St → Pc × St} {st : St} {f : Nat} (h : ¬ 10 < st.op + 1) (ha : (alt (stOp st (st.op + 1))).2.bad = 26) : (groupF s alt st f).2.bad = 26 := by
  unfold groupF
  rw [if_neg h]
  have h0 : ¬ ((stOp (alt (stOp st (st.op + 1))).2 ((alt (stOp st (st.op + 1))).2.op - 1)).bad = 0 ∧ isAt s (stOp (alt (stOp st (st.op + 1))).2 ((alt (stOp st (st.op + 1))).2.op - 1)).at_ 41 = false) := by
    rintro ⟨h1, _⟩
    have h1 : (alt (stOp st (st.op + 1))).2.bad = 0 := h1
    omega
  show (if _ then _ else _ : St).bad = 26
  rw [if_neg h0]
  exact ha
/-- brackets -/
theorem got_group {alt : St → Pc × St} {p o fr e : Nat} {q : Pc} (ho : s[p]? = some 40) (h : o < 10 → Got q e (o + 1) fr (alt ⟨p + 1, o + 1, 0, fr⟩)) (hc : s[e]? = some 41) : Got q (e + 1) o fr (atomF s alt ⟨p, o, 0, fr⟩) := by
  have e0 : atomF s alt ⟨p, o, 0, fr⟩ = groupF s alt ⟨p + 1, o, 0, fr⟩ p := by
    unfold atomF
    simp only
    rw [ho]
    simp only
    rw [if_pos (by decide)]
    rfl
  rw [e0]
  by_cases h10 : 10 < o + 1
  · rw [group_deep (st := ⟨p + 1, o, 0, fr⟩) h10]
    exact .inr rfl
  · rcases h (by omega) with h | h
    · rw [group_read (st := ⟨p + 1, o, 0, fr⟩) h10 h hc]; exact .inl rfl
    · exact .inr (group_bad (st := ⟨p + 1, o, 0, fr⟩) h10 h)
theorem alt_succ (d : Nat) (st : St) : altF s (d + 1) st = altG s (piecesF s (pieceF s (altF s d))) st := rfl

/-- the piece of a bracket around a text that is read -/
theorem group_text {r : Rx} {d o fr p : Nat} (hdo : d + o = 10) (ho : s[p]? = some 40) (hc : s[p + 1 + (textR r).length]? = some 41)
    (ih : ∀ d o, d + o = 10 → Got (pcR r) (p + 1 + (textR r).length) o fr (piecesF s (pieceF s (altF s d)) ⟨p + 1, o, 0, fr⟩)) :
    Got (pcR r) (p + 1 + (textR r).length + 1) o fr (atomF s (altF s d) ⟨p, o, 0, fr⟩) := by
  refine got_group ho (fun h10 => ?_) hc
  obtain ⟨d', rfl⟩ : ∃ d', d = d' + 1 := ⟨d - 1, by omega⟩
  rw [alt_succ]
  exact got_alt1 (ih d' (o + 1) (by omega)) (by rw [hc]; decide)

theorem sub_at {p : Nat} {A : List UInt8} {c : UInt8} {B : List UInt8} (h : Sub s p (A ++ c :: B)) : s[p + A.length]? = some c := h.app.2.cons.1

theorem read_text : ∀ (r : Rx), okR r → dpR r ≤ 40 → lvR r ≤ 400 → ∀ (d o fr p : Nat), d + o = 10 → Sub s p (textR r) → Stops s (p + (textR r).length) →
    Got (pcR r) (p + (textR r).length) o fr (piecesF s (pieceF s (altF s d)) ⟨p, o, 0, fr⟩)
  | .first, _, _, _, d, o, fr, p, hdo, h, hs => by
    rw [textR_first] at h hs ⊢
    have q0 : s[p]? = some 94 := (Sub.cons h).1
    refine got_pieces (got_piece (.inl ?_) hs.noSign) hs
    unfold atomF
    simp only
    rw [q0]
    rfl
  | .last, _, _, _, d, o, fr, p, hdo, h, hs => by
    rw [textR_last] at h hs ⊢
    have q0 : s[p]? = some 36 := (Sub.cons h).1
    refine got_pieces (got_piece (.inl ?_) hs.noSign) hs
    unfold atomF
    simp only
    rw [q0]
    rfl
  | .set w, hk, _, _, d, o, fr, p, hdo, h, hs => by
    rw [textR_set] at h hs ⊢
    refine got_pieces (got_piece (.inl ?_) hs.noSign) hs
    rw [atom_set s _ p o fr (memW w) h, w4_mem hk]
    rfl
  | .eps, _, _, _, d, o, fr, p, hdo, h, hs => by
    rw [textR_eps] at h hs ⊢
    obtain ⟨q0, h⟩ := h.cons
    obtain ⟨q1, h⟩ := h.cons
    obtain ⟨q2, h⟩ := h.cons
    obtain ⟨q3, h⟩ := h.cons
    obtain ⟨q4, h⟩ := h.cons
    obtain ⟨q5, h⟩ := h.cons
    obtain ⟨q6, h⟩ := h.cons
    have ha : Got (pcOne 6 (pcLeaf 1 (w4 (mNot mNone)))) (p + 1 + 1 + 1 + 1) o fr (atomF s (altF s d) ⟨p, o, 0, fr⟩) := by
      refine got_group q0 (fun h10 => ?_) q3
      obtain ⟨d', rfl⟩ : ∃ d', d = d' + 1 := ⟨d - 1, by omega⟩
      rw [alt_succ]
      refine got_alt1 (got_pieces (got_sign (q := pcLeaf 1 (w4 (mNot mNone))) (.inl ?_) (Stops.noSign (.inr (.inr q3))) 63 q2 (.inr (.inr ⟨rfl, rfl⟩))) (.inr (.inr q3))) (by rw [q3]; decide)
      unfold atomF
      simp only
      rw [q1]
      rfl
    refine got_pieces ?_ hs
    unfold pieceF
    rcases ha with ha | ha
    · rw [ha]
      simp only
      have hlen : p + 1 + 1 + 1 + 1 + 1 + 1 < s.length := (List.getElem?_eq_some_iff.1 q6).1
      have hdig : digitsF s (p + 1 + 1 + 1 + 1 + 1) = (0, p + 1 + 1 + 1 + 1 + 1 + 1) := by
        unfold digitsF
        have e : digF s 2 (p + 1 + 1 + 1 + 1 + 1) 0 = (0, p + 1 + 1 + 1 + 1 + 1 + 1) := by
          rw [digF, q5]
          simp only
          rw [if_pos (by decide), digF, q6]
          simp only
          rw [if_neg (by decide)]
          rfl
        rw [e]
        simp only
        rw [if_neg (by omega)]
        rfl
      have hr : rangeF s (p + 1 + 1 + 1 + 1 + 1) = (0, 0, false, p + 1 + 1 + 1 + 1 + 1 + 1) := by
        unfold rangeF
        rw [hdig]
        simp only
        rw [if_neg (by rw [isAt_this q6]; decide)]
      have ht : timesF s (pcOne 6 (pcLeaf 1 (w4 (mNot mNone)))) ⟨p + 1 + 1 + 1 + 1, o, 0, fr⟩ = (pcLeaf 0 z4, ⟨p + 1 + 1 + 1 + 1 + 1 + 1 + 1, o, 0, fr⟩) := by
        unfold timesF
        simp only
        rw [hr]
        have hok : rangeOk s (0, 0, false, p + 1 + 1 + 1 + 1 + 1 + 1) = true := by
          unfold rangeOk
          simp only
          rw [isAt_this q6]
          simp
        rw [hok, if_pos rfl]
        rfl
      rw [signsF]
      simp only [isAt_this q4, show ((123 : UInt8).toNat == 42) = false from rfl, show ((123 : UInt8).toNat == 43) = false from rfl, show ((123 : UInt8).toNat == 63) = false from rfl, show ((123 : UInt8).toNat == 123) = true from rfl, if_true, Bool.false_eq_true, if_false]
      rw [ht]
      simp only
      rw [signs_none _ _ _ hs.noSign]
      exact .inl rfl
    · rw [signs_halt _ _ _ (by rw [ha]; decide)]; exact .inr ha
  | .star a, hk, h1, h2, d, o, fr, p, hdo, h, hs => by
    unfold dpR at h1
    unfold lvR at h2
    have he : pcR (.star a) = pcOne 4 (pcR a) := by rw [one_eq 4 a h1 h2]; rfl
    rw [textR_star] at h hs ⊢
    rw [List.append_assoc] at h
    obtain ⟨q0, h⟩ := h.cons
    obtain ⟨ht, h⟩ := Sub.app (A := textR a) h
    obtain ⟨qc, h⟩ := h.cons
    obtain ⟨qs, _⟩ := h.cons
    have hlen : p + ([40] ++ textR a ++ [41, 42]).length = p + 1 + (textR a).length + 1 + 1 := by simp; omega
    rw [hlen] at hs ⊢
    rw [he]
    exact got_pieces (got_sign (group_text hdo q0 qc fun d' o' h' => read_text a hk (by omega) h2 d' o' fr (p + 1) h' ht (.inr (.inr qc))) hs.noSign 42 qs (.inl ⟨rfl, rfl⟩)) hs
  | .plus a, hk, h1, h2, d, o, fr, p, hdo, h, hs => by
    unfold dpR at h1
    unfold lvR at h2
    have he : pcR (.plus a) = pcOne 5 (pcR a) := by rw [one_eq 5 a h1 h2]; rfl
    rw [textR_plus] at h hs ⊢
    rw [List.append_assoc] at h
    obtain ⟨q0, h⟩ := h.cons
    obtain ⟨ht, h⟩ := Sub.app (A := textR a) h
    obtain ⟨qc, h⟩ := h.cons
    obtain ⟨qs, _⟩ := h.cons
    have hlen : p + ([40] ++ textR a ++ [41, 43]).length = p + 1 + (textR a).length + 1 + 1 := by simp; omega
    rw [hlen] at hs ⊢
    rw [he]
    exact got_pieces (got_sign (group_text hdo q0 qc fun d' o' h' => read_text a hk (by omega) h2 d' o' fr (p + 1) h' ht (.inr (.inr qc))) hs.noSign 43 qs (.inr (.inl ⟨rfl, rfl⟩))) hs
  | .opt a, hk, h1, h2, d, o, fr, p, hdo, h, hs => by
    unfold dpR at h1
    unfold lvR at h2
    have he : pcR (.opt a) = pcOne 6 (pcR a) := by rw [one_eq 6 a h1 h2]; rfl
    rw [textR_opt] at h hs ⊢
    rw [List.append_assoc] at h
    obtain ⟨q0, h⟩ := h.cons
    obtain ⟨ht, h⟩ := Sub.app (A := textR a) h
    obtain ⟨qc, h⟩ := h.cons
    obtain ⟨qs, _⟩ := h.cons
    have hlen : p + ([40] ++ textR a ++ [41, 63]).length = p + 1 + (textR a).length + 1 + 1 := by simp; omega
    rw [hlen] at hs ⊢
    rw [he]
    exact got_pieces (got_sign (group_text hdo q0 qc fun d' o' h' => read_text a hk (by omega) h2 d' o' fr (p + 1) h' ht (.inr (.inr qc))) hs.noSign 63 qs (.inr (.inr ⟨rfl, rfl⟩))) hs
  | .cat a b, hk, h1, h2, d, o, fr, p, hdo, h, hs => by
    unfold dpR at h1
    unfold lvR at h2
    have he : pcR (.cat a b) = pcTwo 2 (pcR a) (pcR b) := by rw [two_eq 2 a b h1 h2]; rfl
    rw [textR_cat] at h hs ⊢
    rw [List.append_assoc, List.append_assoc, List.append_assoc] at h
    obtain ⟨q0, h⟩ := h.cons
    obtain ⟨ht, h⟩ := Sub.app (A := textR a) h
    obtain ⟨qc, h⟩ := h.cons
    obtain ⟨qo, h⟩ := h.cons
    obtain ⟨ht2, h⟩ := Sub.app (A := textR b) h
    obtain ⟨qc2, _⟩ := h.cons
    have hlen : p + ([40] ++ textR a ++ [41, 40] ++ textR b ++ [41]).length = p + 1 + (textR a).length + 1 + 1 + (textR b).length + 1 := by simp; omega
    rw [hlen] at hs ⊢
    rw [he]
    refine got_two (got_piece (group_text hdo q0 qc fun d' o' h' => read_text a hk.1 (by omega) (by omega) d' o' fr (p + 1) h' ht (.inr (.inr qc))) (noSign_open qo)) qo
      (got_piece (group_text hdo qo qc2 fun d' o' h' => read_text b hk.2 (by omega) (by omega) d' o' fr _ h' ht2 (.inr (.inr qc2))) hs.noSign) hs
  | .alt a b, hk, h1, h2, d, o, fr, p, hdo, h, hs => by
    unfold dpR at h1
    unfold lvR at h2
    have he : pcR (.alt a b) = pcTwo 3 (pcR a) (pcR b) := by rw [two_eq 3 a b h1 h2]; rfl
    rw [textR_alt] at h hs ⊢
    rw [List.append_assoc, List.append_assoc, List.append_assoc] at h
    obtain ⟨q0, h⟩ := h.cons
    obtain ⟨q1, h⟩ := h.cons
    obtain ⟨ht, h⟩ := Sub.app (A := textR a) h
    obtain ⟨qc, h⟩ := h.cons
    obtain ⟨qb, h⟩ := h.cons
    obtain ⟨qo, h⟩ := h.cons
    obtain ⟨ht2, h⟩ := Sub.app (A := textR b) h
    obtain ⟨qc2, h⟩ := h.cons
    obtain ⟨qe, _⟩ := h.cons
    have hlen : p + ([40, 40] ++ textR a ++ [41, 124, 40] ++ textR b ++ [41, 41]).length = p + 1 + 1 + (textR a).length + 1 + 1 + 1 + (textR b).length + 1 + 1 := by simp; omega
    rw [hlen] at hs ⊢
    rw [he]
    refine got_pieces (got_piece (got_group q0 (fun h10 => ?_) qe) hs.noSign) hs
    obtain ⟨d', rfl⟩ : ∃ d', d = d' + 1 := ⟨d - 1, by omega⟩
    rw [alt_succ]
    refine got_alt2 (got_pieces (got_piece (group_text (by omega) q1 qc fun d' o' h' => read_text a hk.1 (by omega) (by omega) d' o' fr (p + 1 + 1) h' ht (.inr (.inr qc))) (Stops.noSign (.inr (.inl qb)))) (.inr (.inl qb))) qb
      (got_pieces (got_piece (group_text (by omega) qo qc2 fun d' o' h' => read_text b hk.2 (by omega) (by omega) d' o' fr _ h' ht2 (.inr (.inr qc2))) (Stops.noSign (.inr (.inr qe)))) (.inr (.inr qe))) qe
end

/-- what is printed of a right tree is read as it, or its brackets are too deep -/
theorem parse_text (r : Rx) (hk : okR r) (hr : rightT (rxT r) = true) : parseF (textR r) = (rxT r, 0, 0) ∨ (parseF (textR r)).2.2 = 26 := by
  have hf := fit_of_right hr
  have hne : (textR r).length ≠ 0 := by
    cases r with
    | eps => rw [textR_eps]; simp
    | set s =>
      rw [textR_set]
      unfold setL
      split
      · simp
      · split <;> simp
    | cat a b => rw [textR_cat]; simp
    | alt a b => rw [textR_alt]; simp
    | star a => rw [textR_star]; simp
    | plus a => rw [textR_plus]; simp
    | opt a => rw [textR_opt]; simp
    | first => rw [textR_first]; simp
    | last => rw [textR_last]; simp
  have hend : (textR r)[0 + (textR r).length]? = none := by rw [List.getElem?_eq_none_iff]; omega
  have h := read_text (s := textR r) r hk hf.1 hf.2 10 0 0 0 rfl (fun k hk => by rw [Nat.zero_add]) (.inl hend)
  have h := got_alt1 h (by rw [hend]; decide)
  rw [← alt_succ] at h
  rcases h with h | h
  · exact .inl (parse_yes hne h rfl (by show ¬ 0 + (textR r).length < _; omega) rfl hr)
  · right
    have h : (altF (textR r) 11 st0).2.bad = 26 := h
    cases hh : altF (textR r) 11 st0 with
    | mk q st =>
      rw [hh] at h
      have h : st.bad = 26 := h
      rw [parse_bad hne hh (by omega)]
      exact h

end Go.Proofs.Ytmkddhkpeiajhaa
