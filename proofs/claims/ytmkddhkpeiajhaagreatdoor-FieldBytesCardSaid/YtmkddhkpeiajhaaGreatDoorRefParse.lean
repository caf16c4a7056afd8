import Derived.Test.YtmkddhkpeiajhaaGreatDoorBrk5
import Derived.Test.YtmkddhkpeiajhaaGreatDoorLeaf
import Derived.Test.YtmkddhkpeiajhaaGreatDoorParser
namespace Go.Proofs.YtmkddhkpeiajhaaGreatDoor
def rOne (b : Nat) : Tree := .node 1 (w4 (mOf [UInt8.ofNat b])) []
def tFold (k : Int) : List Tree → Tree → Tree
  | [], t => t
  | a :: l, t => tFold k l (.node k z4 [a, t])
def tRow (k : Int) (l : List Tree) : Tree :=
  match l.reverse with
  | [] => tEmpty
  | p :: r => tFold k r p
section
variable (s : List UInt8)
def rRange (m q1 : Nat) : Bool × Nat × Nat :=
  if isAt s q1 44 then (decide ((digF s 2 (q1 + 1) 0).2 = q1 + 1), (digF s 2 (q1 + 1) 0).1, (digF s 2 (q1 + 1) 0).2) else (false, m, q1)
def rNo (m : Nat) (r : Bool × Nat × Nat) : Bool := !isAt s r.2.2 125 || decide (50 < m) || (!r.1 && (decide (50 < r.2.1) || decide (r.2.1 < m)))
def rCopies (r : Tree) (m n : Nat) (ever : Bool) : List Tree := List.replicate m r ++ (if ever then [.node 4 z4 [r]] else List.replicate (n - m) (.node 6 z4 [r]))
def rTimes (r : Tree) (st : St) : Tree × St :=
  let d := digF s 2 (st.at_ + 1) 0
  if d.2 = st.at_ + 1 then (tEmpty, stFault 24 st.at_ (stAt st d.2))
  else
    let g := rRange s d.1 d.2
    if rNo s d.1 g then (tEmpty, stFault 24 st.at_ (stAt st g.2.2))
    else
      (if g.2.1 = 0 ∧ g.1 = false then tEmpty
       else if 40000 < setsR r * (max d.1 g.2.1 + 1) then .node (-1) z4 []
       else tRow 2 (rCopies r d.1 g.2.1 g.1), stAt st (g.2.2 + 1))
def rSigns : Nat → Tree → St → Tree × St
  | 0, p, st => (p, st)
  | f + 1, p, st =>
    if st.bad = 0 then
      if isAt s st.at_ 42 then rSigns f (.node 4 z4 [p]) (stAt st (st.at_ + 1))
      else if isAt s st.at_ 43 then rSigns f (.node 5 z4 [p]) (stAt st (st.at_ + 1))
      else if isAt s st.at_ 63 then rSigns f (.node 6 z4 [p]) (stAt st (st.at_ + 1))
      else if isAt s st.at_ 123 then rSigns f (rTimes s p st).1 (rTimes s p st).2
      else (p, st)
    else (p, st)
def rEsc (st : St) : Tree × St :=
  match s[st.at_]? with
  | none => (tEmpty, stFault 24 st.at_ st)
  | some c =>
    if isOct c then (rOne ((octF s 3 st.at_ 0).1 % 256), stAt st (octF s 3 st.at_ 0).2)
    else (rOne ((escLetter c.toNat).getD c.toNat), stAt st (st.at_ + 1))
def rGroup (alt : St → Tree × St) (st : St) (from_ : Nat) : Tree × St :=
  if 10 < st.op + 1 then (tEmpty, stFault 26 from_ (stOp st (st.op + 1)))
  else
    let r := alt (stOp st (st.op + 1))
    if r.2.bad = 0 ∧ isAt s r.2.at_ 41 = false then (tEmpty, stFault 24 r.2.at_ r.2)
    else (r.1, stAt (stOp r.2 (r.2.op - 1)) (r.2.at_ + 1))
def rAtom (alt : St → Tree × St) (st : St) : Tree × St :=
  match s[st.at_]? with
  | none => (tEmpty, stFault 24 st.at_ st)
  | some c =>
    if c.toNat = 40 then rGroup s alt (stAt st (st.at_ + 1)) st.at_
    else if c.toNat = 46 then (.node 1 (w4 (mNot mNone)) [], stAt st (st.at_ + 1))
    else if c.toNat = 91 then
      match bracketF s ((st.at_ + 1 : Nat) : Int) with
      | none => (tEmpty, stFault 24 st.at_ (stAt st (st.at_ + 1)))
      | some (m, e) => (.node 1 (w4 m) [], stAt st e)
    else if c.toNat = 94 then (.node 7 z4 [], stAt st (st.at_ + 1))
    else if c.toNat = 36 then (.node 8 z4 [], stAt st (st.at_ + 1))
    else if c.toNat = 92 then rEsc s (stAt st (st.at_ + 1))
    else if c.toNat = 42 ∨ c.toNat = 43 ∨ c.toNat = 63 ∨ c.toNat = 123 ∨ c.toNat = 124 ∨ c.toNat = 41 then (tEmpty, stFault 24 st.at_ (stAt st (st.at_ + 1)))
    else (rOne c.toNat, stAt st (st.at_ + 1))
def rPiece (alt : St → Tree × St) (st : St) : Tree × St := rSigns s (s.length + 2) (rAtom s alt st).1 (rAtom s alt st).2
def rCatL (piece : St → Tree × St) : Nat → List Tree → St → List Tree × St
  | 0, l, st => (l, st)
  | f + 1, l, st =>
    if st.bad = 0 ∧ st.at_ < s.length ∧ isAt s st.at_ 124 = false ∧ isAt s st.at_ 41 = false then rCatL piece f (l ++ [(piece st).1]) (piece st).2 else (l, st)
def rCat (piece : St → Tree × St) (st : St) : Tree × St :=
  (tRow 2 (rCatL s piece (s.length + 2) [(piece st).1] (piece st).2).1, (rCatL s piece (s.length + 2) [(piece st).1] (piece st).2).2)
def rAltL (pieces : St → Tree × St) : Nat → List Tree → St → List Tree × St
  | 0, l, st => (l, st)
  | f + 1, l, st =>
    if st.bad = 0 ∧ isAt s st.at_ 124 = true then rAltL pieces f (l ++ [(pieces (stAt st (st.at_ + 1))).1]) (pieces (stAt st (st.at_ + 1))).2 else (l, st)
def rAltG (pieces : St → Tree × St) (st : St) : Tree × St :=
  (tRow 3 (rAltL s pieces (s.length + 2) [(pieces st).1] (pieces st).2).1, (rAltL s pieces (s.length + 2) [(pieces st).1] (pieces st).2).2)
def rAlt : Nat → St → Tree × St
  | 0, st => (tEmpty, st)
  | d + 1, st => rAltG s (rCat s (rPiece s (rAlt d))) st
def rParse : Tree × Nat × Nat :=
  if s.length = 0 then (tEmpty, 0, 0)
  else
    let r := rAlt s 11 st0
    let st1 := if r.2.bad = 0 ∧ r.2.at_ < s.length then stFault 24 r.2.at_ r.2 else r.2
    if st1.bad ≠ 0 then (tEmpty, st1.fr, st1.bad)
    else if rightR r.1 = false then (tEmpty, 0, 24)
    else (r.1, 0, 0)
end
mutual
def dR : Tree → Nat
  | .node _ _ ks => dRL ks 0
def dRL : List Tree → Nat → Nat
  | [], _ => 1
  | t :: ts, i => max (if i = 1 then dR t else dR t + 1) (dRL ts (i + 1))
end
theorem dR_nil (k : Int) (s : W4) : dR (.node k s []) = 1 := by rw [dR, dRL]
theorem dR_one (k : Int) (s : W4) (a : Tree) : dR (.node k s [a]) = max (dR a + 1) 1 := by rw [dR, dRL, dRL, if_neg (by omega)]
theorem dR_two (k : Int) (s : W4) (a b : Tree) : dR (.node k s [a, b]) = max (dR a + 1) (max (dR b) 1) := by rw [dR, dRL, dRL, dRL, if_neg (by omega), if_pos rfl]
theorem dR_pos (t : Tree) : 1 ≤ dR t := by
  obtain ⟨k, s, ks⟩ := t
  match ks with
  | [] => rw [dR_nil]; exact Nat.le_refl _
  | a :: ts =>
    rw [dR, dRL, if_neg (by omega)]
    omega
def badT (t : Tree) : Prop := shapedR t = false ∨ 40 < dR t ∨ 400 < setsR t
theorem setsR_one (k : Int) (s : W4) (a : Tree) : setsR (.node k s [a]) = setsR a := by rw [setsR, if_neg (by simp), setsRL, setsRL]; rfl
theorem setsR_two (k : Int) (s : W4) (a b : Tree) : setsR (.node k s [a, b]) = setsR a + setsR b := by rw [setsR, if_neg (by simp), setsRL, setsRL, setsRL]; omega
theorem shapedR_one (k : Int) (a : Tree) (hk : k = 4 ∨ k = 5 ∨ k = 6) : shapedR (.node k z4 [a]) = shapedR a := by
  rw [shapedR, shapedRL, shapedRL]
  rcases hk with rfl | rfl | rfl <;> simp [kidsOf]
theorem shapedR_two (k : Int) (a b : Tree) (hk : k = 2 ∨ k = 3) : shapedR (.node k z4 [a, b]) = (shapedR a && shapedR b) := by
  rw [shapedR, shapedRL, shapedRL, shapedRL]
  rcases hk with rfl | rfl <;> simp [kidsOf]
theorem bad_one {k : Int} {a : Tree} (hk : k = 4 ∨ k = 5 ∨ k = 6) (h : badT a) : badT (.node k z4 [a]) := by
  unfold badT at h ⊢
  rw [shapedR_one k a hk, dR_one, setsR_one]
  rcases h with h | h | h
  · exact .inl h
  · right; left; omega
  · exact .inr (.inr h)
theorem bad_left {k : Int} {a b : Tree} (hk : k = 2 ∨ k = 3) (h : badT a) : badT (.node k z4 [a, b]) := by
  unfold badT at h ⊢
  rw [shapedR_two k a b hk, dR_two, setsR_two]
  rcases h with h | h | h
  · left; rw [h]; rfl
  · right; left; omega
  · right; right; omega
theorem bad_right {k : Int} {a b : Tree} (hk : k = 2 ∨ k = 3) (h : badT b) : badT (.node k z4 [a, b]) := by
  unfold badT at h ⊢
  rw [shapedR_two k a b hk, dR_two, setsR_two]
  rcases h with h | h | h
  · left; rw [h, Bool.and_false]
  · right; left; omega
  · right; right; omega
structure Fine (p : Pc) (r : Tree) : Prop where
  re : r = p.re
  sets : setsR r = p.leaves
  shaped : shapedR r = true
  deep : dR r = p.deep
def RelP (p : Pc) (r : Tree) : Prop := (p.big = false ∧ Fine p r) ∨ (p.big = true ∧ badT r)
theorem rel_leaf (k : Int) (s : W4) (h : shapedR (.node k s []) = true) : RelP (pcLeaf k s) (.node k s []) := .inl ⟨rfl, rfl, by rw [setsR]; rfl, h, by rw [dR_nil]; rfl⟩
theorem rel_fits {p : Pc} {r : Tree} (hb : p.big = true → badT r) (hf : p.big = false → Fine p r) : RelP (pcFits p) r := by
  unfold pcFits
  by_cases h : (p.big || decide (40 < p.deep) || decide (400 < p.leaves)) = true
  · rw [if_pos h]
    refine .inr ⟨rfl, ?_⟩
    cases hp : p.big with
    | true => exact hb hp
    | false =>
      have f := hf hp
      rw [hp] at h
      simp only [Bool.false_or, Bool.or_eq_true, decide_eq_true_eq] at h
      unfold badT
      rw [f.deep, f.sets]
      omega
  · rw [if_neg h]
    simp only [Bool.or_eq_true, not_or] at h
    have hp : p.big = false := by simpa using h.1.1
    exact .inl ⟨hp, hf hp⟩
theorem rel_one {k : Int} {p : Pc} {r : Tree} (hk : k = 4 ∨ k = 5 ∨ k = 6) (h : RelP p r) : RelP (pcOne k p) (.node k z4 [r]) := by
  unfold pcOne
  refine rel_fits (fun hb => ?_) (fun hb => ?_)
  · rcases h with ⟨h, _⟩ | ⟨_, h⟩
    · rw [show p.big = true from hb] at h; cases h
    · exact bad_one hk h
  · rcases h with ⟨_, h⟩ | ⟨h, _⟩
    · have hp := dR_pos r
      exact ⟨by rw [h.re], by rw [setsR_one]; exact h.sets, by rw [shapedR_one k r hk]; exact h.shaped, by rw [dR_one]; show _ = p.deep + 1; rw [← h.deep]; omega⟩
    · rw [show p.big = false from hb] at h; cases h
theorem rel_two {k : Int} {p q : Pc} {a b : Tree} (hk : k = 2 ∨ k = 3) (ha : RelP p a) (hb : RelP q b) : RelP (pcTwo k p q) (.node k z4 [a, b]) := by
  unfold pcTwo
  refine rel_fits (fun h => ?_) (fun h => ?_)
  · have h : (p.big || q.big) = true := h
    rcases ha with ⟨h1, _⟩ | ⟨_, h1⟩
    · rcases hb with ⟨h2, _⟩ | ⟨_, h2⟩
      · rw [h1, h2] at h; cases h
      · exact bad_right hk h2
    · exact bad_left hk h1
  · have h : (p.big || q.big) = false := h
    rw [Bool.or_eq_false_iff] at h
    rcases ha with ⟨_, h1⟩ | ⟨h1, _⟩
    · rcases hb with ⟨_, h2⟩ | ⟨h2, _⟩
      · have hp := dR_pos b
        exact ⟨by rw [h1.re, h2.re], by rw [setsR_two, h1.sets, h2.sets], by rw [shapedR_two k a b hk, h1.shaped, h2.shaped]; rfl, by rw [dR_two]; show _ = max (p.deep + 1) q.deep; rw [← h1.deep, ← h2.deep]; omega⟩
      · rw [h.2] at h2; cases h2
    · rw [h.1] at h1; cases h1
inductive RelL : List Pc → List Tree → Prop
  | nil : RelL [] []
  | cons {p : Pc} {t : Tree} {ps : List Pc} {ts : List Tree} : RelP p t → RelL ps ts → RelL (p :: ps) (t :: ts)
theorem RelL.app {ps qs : List Pc} {ts us : List Tree} (h : RelL ps ts) (g : RelL qs us) : RelL (ps ++ qs) (ts ++ us) := by
  induction h with
  | nil => exact g
  | cons h _ ih => exact .cons h ih
theorem RelL.rev {ps : List Pc} {ts : List Tree} (h : RelL ps ts) : RelL ps.reverse ts.reverse := by
  induction h with
  | nil => exact .nil
  | cons h _ ih => rw [List.reverse_cons, List.reverse_cons]; exact ih.app (.cons h .nil)
theorem rel_fold {k : Int} (hk : k = 2 ∨ k = 3) {ps : List Pc} {ts : List Tree} (h : RelL ps ts) : ∀ {p : Pc} {t : Tree}, RelP p t → RelP (pcFold k ps p) (tFold k ts t) := by
  induction h with
  | nil => intro p t h; exact h
  | cons h _ ih => intro p t hp; exact ih (rel_two hk h hp)
theorem rel_row {k : Int} (hk : k = 2 ∨ k = 3) {ps : List Pc} {ts : List Tree} (h : RelL ps ts) (hn : ps ≠ []) : RelP (pcRow k ps) (tRow k ts) := by
  have hr := h.rev
  unfold pcRow tRow
  cases hp : ps.reverse with
  | nil => rw [List.reverse_eq_nil_iff] at hp; exact absurd hp hn
  | cons p r =>
    rw [hp] at hr
    cases ht : ts.reverse with
    | nil => rw [ht] at hr; cases hr
    | cons t u =>
      rw [ht] at hr
      cases hr with
      | cons h1 h2 => exact rel_fold hk h2 h1
theorem bad_fold {k : Int} (hk : k = 2 ∨ k = 3) : ∀ (l : List Tree) (t : Tree), badT t ∨ (∃ u ∈ l, badT u) → badT (tFold k l t)
  | [], t, h => by
    rcases h with h | ⟨u, hu, _⟩
    · exact h
    · cases hu
  | a :: l, t, h => by
    rw [tFold]
    refine bad_fold hk l _ ?_
    rcases h with h | ⟨u, hu, h⟩
    · exact .inl (bad_right hk h)
    · rcases List.mem_cons.1 hu with rfl | hu
      · exact .inl (bad_left hk h)
      · exact .inr ⟨u, hu, h⟩
theorem bad_row {k : Int} (hk : k = 2 ∨ k = 3) {l : List Tree} {u : Tree} (hu : u ∈ l) (h : badT u) : badT (tRow k l) := by
  unfold tRow
  cases hr : l.reverse with
  | nil => rw [List.reverse_eq_nil_iff] at hr; subst hr; cases hu
  | cons p r =>
    have hu' : u ∈ p :: r := by rw [← hr]; exact List.mem_reverse.2 hu
    refine bad_fold hk r p ?_
    rcases List.mem_cons.1 hu' with rfl | hu'
    · exact .inl h
    · exact .inr ⟨u, hu', h⟩
def sumS : List Tree → Nat
  | [] => 0
  | t :: ts => setsR t + sumS ts
theorem sumS_app (a b : List Tree) : sumS (a ++ b) = sumS a + sumS b := by
  induction a with
  | nil => show sumS b = 0 + _; omega
  | cons t a ih => show setsR t + sumS (a ++ b) = setsR t + sumS a + _; omega
theorem sumS_rev (l : List Tree) : sumS l.reverse = sumS l := by
  induction l with
  | nil => rfl
  | cons t l ih => rw [List.reverse_cons, sumS_app, ih]; show sumS l + (setsR t + 0) = setsR t + sumS l; omega
theorem sumS_rep (n : Nat) (t : Tree) : sumS (List.replicate n t) = n * setsR t := by
  induction n with
  | zero => rw [Nat.zero_mul]; rfl
  | succ n ih => rw [List.replicate_succ, Nat.succ_mul]; show setsR t + sumS _ = _; omega
theorem sets_fold (k : Int) : ∀ (l : List Tree) (t : Tree), setsR (tFold k l t) = sumS l + setsR t
  | [], t => by rw [tFold]; show _ = 0 + _; omega
  | a :: l, t => by rw [tFold, sets_fold k l, setsR_two]; show _ = setsR a + sumS l + _; omega
theorem sets_row (k : Int) (l : List Tree) (hn : l ≠ []) : setsR (tRow k l) = sumS l := by
  unfold tRow
  cases hr : l.reverse with
  | nil => rw [List.reverse_eq_nil_iff] at hr; exact absurd hr hn
  | cons p r =>
    rw [← sumS_rev l, hr]
    show setsR (tFold k r p) = setsR p + sumS r
    rw [sets_fold]; omega
end Go.Proofs.YtmkddhkpeiajhaaGreatDoor
namespace Go.Proofs.YtmkddhkpeiajhaaGreatDoor
structure RelR (x : Pc × St) (y : Tree × St) : Prop where
  bad : y.2.bad = x.2.bad
  fr : x.2.bad ≠ 0 → y.2.fr = x.2.fr
  st : x.2.bad = 0 → y.2 = x.2
  pc : x.2.bad = 0 → RelP x.1 y.1
theorem relR_same {p : Pc} {r : Tree} (st : St) (h : RelP p r) : RelR (p, st) (r, st) := ⟨rfl, fun _ => rfl, fun _ => rfl, fun _ => h⟩
theorem fault_is (e a : Nat) (st : St) (h : st.bad = 0) : stFault e a st = ⟨st.at_, st.op, e, a⟩ := if_pos h
theorem relR_fault {p : Pc} {r : Tree} {e a a' : Nat} {st st' : St} (he : e ≠ 0) (h : st.bad = 0) (h' : st'.bad = 0) (ha : a' = a) : RelR (p, stFault e a st) (r, stFault e a' st') := by
  subst ha
  rw [fault_is e a' st h, fault_is e a' st' h']
  exact ⟨rfl, fun _ => rfl, fun hb => absurd hb he, fun hb => absurd hb he⟩
theorem digF_ge (l : List UInt8) : ∀ (j q n : Nat), q ≤ (digF l j q n).2
  | 0, q, n => by rw [digF]; exact Nat.le_refl _
  | j + 1, q, n => by
    rw [digF]
    cases h : l[q]? with
    | none => exact Nat.le_refl _
    | some d =>
      simp only
      split
      · have := digF_ge l j (q + 1) (10 * n + (d.toNat - 48)); omega
      · exact Nat.le_refl _
theorem digF_stay (l : List UInt8) (j q n : Nat) (h : (digF l j q n).2 = q) : (digF l j q n).1 = n := by
  cases j with
  | zero => rw [digF]
  | succ j =>
    rw [digF] at h ⊢
    cases hx : l[q]? with
    | none => rfl
    | some d =>
      rw [hx] at h
      simp only at h ⊢
      split
      · rename_i hd
        rw [if_pos hd] at h
        have := digF_ge l j (q + 1) (10 * n + (d.toNat - 48))
        omega
      · rfl
theorem relL_get : ∀ (ps : List Pc) (ts : List Tree), ps.length = ts.length → (∀ (i : Nat) p t, ps[i]? = some p → ts[i]? = some t → RelP p t) → RelL ps ts
  | [], [], _, _ => .nil
  | [], _ :: _, h, _ => by cases h
  | _ :: _, [], h, _ => by cases h
  | p :: ps, t :: ts, h, hr => .cons (hr 0 p t rfl rfl) (relL_get ps ts (by simpa using h) fun i q u h1 h2 => hr (i + 1) q u h1 h2)
theorem copies_get (p : Pc) (m : Nat) (en : Bool) (many i : Nat) (h : i < many) : (copiesPc p m en many)[i]? = some (copyPc p m en i) := by
  unfold copiesPc
  rw [List.getElem?_map, List.getElem?_range h]
  rfl
theorem copies_len (p : Pc) (m : Nat) (en : Bool) (many : Nat) : (copiesPc p m en many).length = many := by unfold copiesPc; simp
theorem rel_copies {p : Pc} {r : Tree} (m n : Nat) (en : Bool) (_hp : p.big = false) (h : Fine p r) (hmn : m ≤ n) : RelL (copiesPc p m en (if en then m + 1 else n)) (rCopies r m n en) := by
  have h0 : RelP ⟨p.re, p.deep, p.leaves, false⟩ r := .inl ⟨rfl, h.re, h.sets, h.shaped, h.deep⟩
  refine relL_get _ _ ?_ fun i q t hq ht => ?_
  · rw [copies_len]
    unfold rCopies
    cases en
    · simp; omega
    · simp
  · have hi : i < (if en then m + 1 else n) := by
      have := (List.getElem?_eq_some_iff.1 hq).1
      rw [copies_len] at this; exact this
    rw [copies_get p m en _ i hi] at hq
    injection hq with hq
    subst hq
    unfold rCopies at ht
    unfold copyPc
    by_cases him : i < m
    · rw [if_pos him]
      rw [List.getElem?_append_left (by simpa using him), List.getElem?_replicate, if_pos him] at ht
      injection ht with ht
      subst ht
      exact h0
    · rw [if_neg him]
      rw [List.getElem?_append_right (by simpa using him), List.length_replicate] at ht
      cases en with
      | true =>
        have hi2 : i = m := by simp at hi; omega
        subst hi2
        rw [Nat.sub_self] at ht
        simp at ht
        subst ht
        exact rel_one (.inl rfl) h0
      | false =>
        simp only [Bool.false_eq_true, if_false] at ht hi ⊢
        rw [List.getElem?_replicate] at ht
        split at ht
        · injection ht with ht
          subst ht
          exact rel_one (.inr (.inr rfl)) h0
        · cases ht
theorem sum_copies (r : Tree) (m n : Nat) (en : Bool) (hmn : m ≤ n ∨ en = true) : sumS (rCopies r m n en) = (if en then m + 1 else n) * setsR r := by
  unfold rCopies
  rw [sumS_app, sumS_rep]
  cases en with
  | true =>
    simp only [if_true]
    show _ + (setsR (.node 4 z4 [r]) + 0) = _
    rw [setsR_one, Nat.succ_mul]
    omega
  | false =>
    simp only [Bool.false_eq_true, if_false]
    rw [sumS_rep, setsR_one, ← Nat.add_mul]
    congr 1
    rcases hmn with h | h
    · omega
    · cases h
theorem copies_ne (r : Tree) (m n : Nat) (en : Bool) (h : 0 < (if en then m + 1 else n)) : rCopies r m n en ≠ [] := by
  unfold rCopies
  cases en with
  | true => simp
  | false =>
    simp only [Bool.false_eq_true, if_false] at h ⊢
    intro e
    have := congrArg List.length e
    simp at this
    omega
theorem copies_bad {r : Tree} (m n : Nat) (en : Bool) (h : 0 < (if en then m + 1 else n)) (hb : badT r) : ∃ u ∈ rCopies r m n en, badT u := by
  unfold rCopies
  by_cases hm : 0 < m
  · exact ⟨r, List.mem_append_left _ (List.mem_replicate.2 ⟨by omega, rfl⟩), hb⟩
  · cases en with
    | true => exact ⟨_, List.mem_append_right _ (by simp), bad_one (.inl rfl) hb⟩
    | false =>
      simp only [Bool.false_eq_true, if_false] at h ⊢
      exact ⟨_, List.mem_append_right _ (List.mem_replicate.2 ⟨by omega, rfl⟩), bad_one (.inr (.inr rfl)) hb⟩
theorem bad_minus : badT (.node (-1) z4 []) := .inl (by rw [shapedR]; rfl)
theorem range_cases (s : List UInt8) (a : Nat) (hd : (digF s 2 a 0).2 ≠ a) :
    rangeF s a = (((digF s 2 a 0).1 : Int), (if (rRange s (digF s 2 a 0).1 (digF s 2 a 0).2).1 then (-1 : Int) else ((rRange s (digF s 2 a 0).1 (digF s 2 a 0).2).2.1 : Int)), (rRange s (digF s 2 a 0).1 (digF s 2 a 0).2).1, (rRange s (digF s 2 a 0).1 (digF s 2 a 0).2).2.2) ∧
    ((rRange s (digF s 2 a 0).1 (digF s 2 a 0).2).1 = true → (rRange s (digF s 2 a 0).1 (digF s 2 a 0).2).2.1 = 0) := by
  have h1 : digitsF s a = (((digF s 2 a 0).1 : Int), (digF s 2 a 0).2) := by unfold digitsF; rw [if_neg hd]
  obtain ⟨m, q, hmq⟩ : ∃ m q, digF s 2 a 0 = (m, q) := ⟨_, _, rfl⟩
  rw [hmq] at h1 ⊢
  simp only at h1 ⊢
  unfold rangeF rRange
  rw [h1]
  simp only
  cases hc : isAt s q 44 with
  | false => simp
  | true =>
    simp only [if_true]
    obtain ⟨n, q2, hnq⟩ : ∃ n q2, digF s 2 (q + 1) 0 = (n, q2) := ⟨_, _, rfl⟩
    unfold digitsF
    have hst := digF_stay s 2 (q + 1) 0
    rw [hnq] at hst ⊢
    simp only at hst ⊢
    by_cases he : q2 = q + 1
    · rw [if_pos he, decide_eq_true he]
      simp only [if_true]
      exact ⟨by simp [he], fun _ => hst he⟩
    · rw [if_neg he, decide_eq_false he]
      simp only [Bool.false_eq_true, if_false]
      refine ⟨?_, fun h => by cases h⟩
      have : decide ((n : Int) < 0) = false := by simp
      rw [this]
theorem rel_times (s : List UInt8) {p : Pc} {r : Tree} (st : St) (h : RelP p r) (hok : PcOk p) (hb : st.bad = 0) : RelR (timesF s p st) (rTimes s r st) := by
  unfold timesF rTimes
  by_cases hd : (digF s 2 (st.at_ + 1) 0).2 = st.at_ + 1
  · have h1 : digitsF s (st.at_ + 1) = (-1, st.at_ + 1) := by unfold digitsF; rw [if_pos hd]
    have h2 : (rangeF s (st.at_ + 1)).1 = -1 := by unfold rangeF; rw [h1]; split <;> rfl
    have h3 : ¬ rangeOk s (rangeF s (st.at_ + 1)) = true := by unfold rangeOk; rw [h2]; simp
    rw [if_neg h3]
    simp only [hd, if_true]
    exact relR_fault (by decide) hb hb rfl
  · obtain ⟨hr, hn0⟩ := range_cases s (st.at_ + 1) hd
    rw [hr]
    obtain ⟨m, q1, hmq⟩ : ∃ m q1, digF s 2 (st.at_ + 1) 0 = (m, q1) := ⟨_, _, rfl⟩
    rw [hmq] at hd hn0 ⊢
    simp only at hd hn0 ⊢
    obtain ⟨ev, n, q2, hg⟩ : ∃ ev n q2, rRange s m q1 = (ev, n, q2) := ⟨_, _, _, rfl⟩
    rw [hg] at hn0 ⊢
    simp only at hn0 ⊢
    rw [if_neg hd]
    have hok2 : rangeOk s ((m : Int), (if ev = true then (-1 : Int) else (n : Int)), ev, q2) = !rNo s m (ev, n, q2) := by
      unfold rangeOk rNo
      simp only
      cases isAt s q2 125 <;> cases ev <;> rw [Bool.eq_iff_iff] <;> simp <;> omega
    rw [hok2]
    cases hno : rNo s m (ev, n, q2) with
    | true =>
      simp only [Bool.not_true, Bool.false_eq_true, if_false, if_true]
      exact relR_fault (by decide) hb hb rfl
    | false =>
      simp only [Bool.not_false, Bool.false_eq_true, if_false, if_true]
      have hmn : ev = false → m ≤ n := by
        intro e
        subst e
        unfold rNo at hno
        simp at hno
        omega
      obtain ⟨many, hmany⟩ : ∃ many, many = (if ev = true then m + 1 else n) := ⟨_, rfl⟩
      have hrm : rangeMany ((m : Int), (if ev = true then (-1 : Int) else (n : Int)), ev, q2) = many := by
        rw [hmany]
        unfold rangeMany
        simp only
        cases ev with
        | true => simp
        | false => have := hmn rfl; simp; omega
      rw [hrm]
      simp only [Int.toNat_natCast]
      refine ⟨rfl, fun _ => rfl, fun _ => rfl, fun _ => ?_⟩
      show RelP (if many = 0 then _ else _) (if _ then _ else _)
      by_cases hm0 : many = 0
      · have h4 : n = 0 ∧ ev = false := by
          cases ev with
          | true => rw [hmany] at hm0; simp at hm0
          | false => rw [hmany] at hm0; simpa using hm0
        rw [if_pos hm0, if_pos h4]
        exact rel_leaf 0 z4 (by rw [shapedR]; rfl)
      · have h4 : ¬ (n = 0 ∧ ev = false) := by
          rintro ⟨e1, e2⟩
          subst e1 e2
          rw [hmany] at hm0
          simp at hm0
        rw [if_neg hm0, if_neg h4]
        have hmp : 0 < (if ev = true then m + 1 else n) := by rw [← hmany]; omega
        by_cases hbig : p.big = true ∨ 400 < many * p.leaves
        · rw [if_pos hbig]
          refine .inr ⟨rfl, ?_⟩
          split
          · exact bad_minus
          · rcases h with ⟨hp, hf⟩ | ⟨_, hbr⟩
            · rcases hbig with hbig | hbig
              · rw [hp] at hbig; cases hbig
              · right; right
                rw [sets_row 2 _ (copies_ne r m n ev hmp), sum_copies r m n ev (by cases ev with | true => exact .inr rfl | false => exact .inl (hmn rfl)), ← hmany, hf.sets]
                exact hbig
            · obtain ⟨u, hu, hub⟩ := copies_bad m n ev hmp hbr
              exact bad_row (.inl rfl) hu hub
        · rw [if_neg hbig]
          rcases h with ⟨hp, hf⟩ | ⟨hp, _⟩
          · have hle : many * p.leaves ≤ 400 := by omega
            have hlv := hok.2.2.1
            have hx : ¬ 40000 < setsR r * (max m n + 1) := by
              rw [hf.sets]
              have h5 : max m n + 1 ≤ many + 1 := by
                cases ev with
                | true => rw [hn0 rfl]; rw [hmany]; simp
                | false => have := hmn rfl; rw [hmany]; simp; omega
              have h6 : p.leaves * (max m n + 1) ≤ p.leaves * (many + 1) := Nat.mul_le_mul_left _ h5
              rw [show p.leaves * (many + 1) = many * p.leaves + p.leaves by rw [Nat.mul_succ, Nat.mul_comm]] at h6
              have := hok.2.2.2.1
              omega
            rw [if_neg hx]
            refine rel_row (.inl rfl) ?_ (fun e => ?_)
            · rw [hmany]
              by_cases hev : ev = true
              · subst hev
                rw [hn0 rfl]
                have hc := rel_copies m m true hp hf (Nat.le_refl m)
                unfold rCopies at hc ⊢
                simp only [if_true] at hc ⊢
                exact hc
              · have hev : ev = false := by simpa using hev
                subst hev
                exact rel_copies m n false hp hf (hmn rfl)
            · have := congrArg List.length e
              rw [copies_len] at this
              exact hm0 this
          · exact absurd (.inl hp) hbig
theorem rel_signs (s : List UInt8) : ∀ (f : Nat) (p : Pc) (r : Tree) (st st' : St), RelR (p, st) (r, st') → PcOk p → RelR (signsF s f p st) (rSigns s f r st')
  | 0, _, _, _, _, h, _ => by rw [signsF, rSigns]; exact h
  | f + 1, p, r, st, st', h, hok => by
    rw [signsF, rSigns]
    by_cases hb : st.bad = 0
    · have hst : st' = st := h.st hb
      subst hst
      have hp : RelP p r := h.pc hb
      rw [if_pos hb, if_pos hb]
      by_cases h1 : isAt s st'.at_ 42 = true
      · rw [if_pos h1, if_pos h1]; exact rel_signs s f _ _ _ _ (relR_same _ (rel_one (.inl rfl) hp)) (pcOne_ok 4 hok)
      · rw [if_neg h1, if_neg h1]
        by_cases h2 : isAt s st'.at_ 43 = true
        · rw [if_pos h2, if_pos h2]; exact rel_signs s f _ _ _ _ (relR_same _ (rel_one (.inr (.inl rfl)) hp)) (pcOne_ok 5 hok)
        · rw [if_neg h2, if_neg h2]
          by_cases h3 : isAt s st'.at_ 63 = true
          · rw [if_pos h3, if_pos h3]; exact rel_signs s f _ _ _ _ (relR_same _ (rel_one (.inr (.inr rfl)) hp)) (pcOne_ok 6 hok)
          · rw [if_neg h3, if_neg h3]
            by_cases h4 : isAt s st'.at_ 123 = true
            · rw [if_pos h4, if_pos h4]
              exact rel_signs s f _ _ _ _ (rel_times s st' hp hok hb) (times_res s p st' hok (isAt_lt h4)).1
            · rw [if_neg h4, if_neg h4]; exact h
    · have hb' : ¬ st'.bad = 0 := by have := h.bad; simp only at this; rw [this]; exact hb
      rw [if_neg hb, if_neg hb']
      exact h
theorem oct_byte (c : UInt8) : isOct c = true ↔ 48 ≤ c.toNat ∧ c.toNat ≤ 55 := by
  unfold isOct
  rw [Bool.and_eq_true, decide_eq_true_eq, decide_eq_true_eq]
theorem letter_not_oct (c b : Nat) (h : escLetter c = some b) : 97 ≤ c := by
  unfold escLetter escTab at h
  simp only [assocF] at h
  repeat (split at h; · omega)
  cases h
theorem rel_esc (s : List UInt8) (st : St) (hb : st.bad = 0) (hat : st.at_ ≤ s.length) : RelR (pcLeaf 1 (w4 (mOf [UInt8.ofNat (escF s st).1])), (escF s st).2) (rEsc s st) := by
  have one : ∀ b : Nat, RelP (pcLeaf 1 (w4 (mOf [UInt8.ofNat b]))) (rOne b) := fun b => rel_leaf 1 _ (by rw [shapedR]; rfl)
  unfold escF rEsc
  cases hx : s[st.at_]? with
  | none =>
    have : s.length ≤ st.at_ := by
      rcases Nat.lt_or_ge st.at_ s.length with h | h
      · rw [List.getElem?_eq_getElem h] at hx; cases hx
      · exact h
    exact relR_fault (by decide) hb hb (by omega)
  | some c =>
    simp only
    cases he : escLetter c.toNat with
    | some b =>
      have h97 := letter_not_oct _ _ he
      have ho : ¬ isOct c = true := by rw [oct_byte]; omega
      rw [if_neg ho]
      exact relR_same _ (one b)
    | none =>
      simp only
      by_cases hr : c.toNat < 48 ∨ 55 < c.toNat
      · have ho : ¬ isOct c = true := by rw [oct_byte]; omega
        rw [if_pos hr, if_neg ho]
        exact relR_same _ (one _)
      · have ho : isOct c = true := by rw [oct_byte]; omega
        rw [if_neg hr, if_pos ho, octF_some s 2 st.at_ 0 c hx ho]
        have e : 8 * 0 + (c.toNat - 48) = c.toNat - 48 := by omega
        rw [e]
        exact relR_same _ (one _)
theorem rel_group (s : List UInt8) (d : Nat) (alt : St → Pc × St) (ralt : St → Tree × St) (ih : ∀ st, Dom s d st → RelR (alt st) (ralt st)) (st : St) (from_ : Nat) (h : Dom s (d + 1) st) : RelR (groupF s alt st from_) (rGroup s ralt st from_) := by
  unfold groupF rGroup
  by_cases ho : 10 < st.op + 1
  · rw [if_pos ho, if_pos ho]
    exact relR_fault (by decide) h.bad h.bad rfl
  · rw [if_neg ho, if_neg ho]
    have r := ih (stOp st (st.op + 1)) ⟨h.bad, h.at_, by show st.op + 1 ≤ 10; omega, by show 11 ≤ d + (st.op + 1); have := h.deep; omega⟩
    obtain ⟨p, st2, hp⟩ : ∃ p st2, alt (stOp st (st.op + 1)) = (p, st2) := ⟨_, _, rfl⟩
    obtain ⟨t, st3, ht⟩ : ∃ t st3, ralt (stOp st (st.op + 1)) = (t, st3) := ⟨_, _, rfl⟩
    rw [hp, ht] at r ⊢
    obtain ⟨r1, r2, r3, r4⟩ := r
    simp only at r1 r2 r3 r4 ⊢
    by_cases hb : st2.bad = 0
    · obtain rfl := r3 hb
      have hb2 : (stOp st3 (st3.op - 1)).bad = 0 := hb
      by_cases hc : isAt s st3.at_ 41 = false
      · rw [if_pos (show (stOp st3 (st3.op - 1)).bad = 0 ∧ isAt s (stOp st3 (st3.op - 1)).at_ 41 = false from ⟨hb, hc⟩), if_pos ⟨hb, hc⟩, fault_is _ _ _ hb2, fault_is _ _ _ hb]
        exact ⟨rfl, fun _ => rfl, (fun h => by cases h), (fun h => by cases h)⟩
      · rw [if_neg (show ¬ ((stOp st3 (st3.op - 1)).bad = 0 ∧ isAt s (stOp st3 (st3.op - 1)).at_ 41 = false) from fun h => hc h.2), if_neg (fun h => hc h.2)]
        exact relR_same _ (r4 hb)
    · have hb3 : ¬ st3.bad = 0 := by rw [r1]; exact hb
      rw [if_neg (show ¬ ((stOp st2 (st2.op - 1)).bad = 0 ∧ isAt s (stOp st2 (st2.op - 1)).at_ 41 = false) from fun h => hb h.1), if_neg (fun h => hb3 h.1)]
      exact ⟨r1, fun _ => r2 hb, fun h => absurd h hb, fun h => absurd h hb⟩
theorem rel_atom (s : List UInt8) (d : Nat) (alt : St → Pc × St) (ralt : St → Tree × St) (ih : ∀ st, Dom s d st → RelR (alt st) (ralt st)) (st : St) (h : Dom s (d + 1) st) : RelR (atomF s alt st) (rAtom s ralt st) := by
  have hb := h.bad
  have ha := h.at_
  have one : ∀ w : W4, RelP (pcLeaf 1 w) (.node 1 w []) := fun w => rel_leaf 1 _ (by rw [shapedR]; rfl)
  unfold atomF rAtom
  cases hx : s[st.at_]? with
  | none =>
    have : s.length ≤ st.at_ := by
      rcases Nat.lt_or_ge st.at_ s.length with h | h
      · rw [List.getElem?_eq_getElem h] at hx; cases hx
      · exact h
    exact relR_fault (by decide) hb hb (by omega)
  | some c =>
    have hq := (List.getElem?_eq_some_iff.1 hx).1
    have hof : UInt8.ofNat c.toNat = c := UInt8.ofNat_toNat
    simp only
    by_cases h40 : c.toNat = 40
    · rw [if_pos h40, if_pos h40]
      exact rel_group s d alt ralt ih (stAt st (st.at_ + 1)) st.at_ ⟨hb, by show st.at_ + 1 ≤ _; omega, h.op, h.deep⟩
    · rw [if_neg h40, if_neg h40]
      by_cases h46 : c.toNat = 46
      · rw [if_pos h46, if_pos h46]; exact relR_same _ (one _)
      · rw [if_neg h46, if_neg h46]
        by_cases h91 : c.toNat = 91
        · rw [if_pos h91, if_pos h91]
          cases bracketF s ((st.at_ + 1 : Nat) : Int) with
          | none =>
            simp only
            rw [fault_is _ _ _ hb, fault_is _ _ _ (show (stAt st (st.at_ + 1)).bad = 0 from hb)]
            exact ⟨rfl, fun _ => rfl, (fun h => by cases h), (fun h => by cases h)⟩
          | some x => exact relR_same _ (one _)
        · rw [if_neg h91, if_neg h91]
          by_cases h94 : c.toNat = 94
          · rw [if_pos h94, if_pos h94]; exact relR_same _ (rel_leaf 7 z4 (by rw [shapedR]; rfl))
          · rw [if_neg h94, if_neg h94]
            by_cases h36 : c.toNat = 36
            · rw [if_pos h36, if_pos h36]; exact relR_same _ (rel_leaf 8 z4 (by rw [shapedR]; rfl))
            · rw [if_neg h36, if_neg h36]
              by_cases h92 : c.toNat = 92
              · rw [if_pos h92, if_pos h92]
                exact rel_esc s (stAt st (st.at_ + 1)) hb (by show st.at_ + 1 ≤ _; omega)
              · rw [if_neg h92, if_neg h92]
                split
                · exact relR_fault (by decide) hb hb rfl
                · unfold rOne; rw [hof]; exact relR_same _ (one _)
theorem rel_piece (s : List UInt8) (d : Nat) (alt : St → Pc × St) (ralt : St → Tree × St) (ih : ∀ st, Dom s d st → RelR (alt st) (ralt st)) (B : Nat) (hB : 6 ≤ B) (hr : Reads_ s d B alt) (st : St) (h : Dom s (d + 1) st) : RelR (pieceF s alt st) (rPiece s ralt st) := by
  unfold pieceF rPiece
  have ha := rel_atom s d alt ralt ih st h
  have hk := (atom_res s d B hB alt hr st h).ok
  exact rel_signs s _ _ _ _ _ ha hk
theorem rel_catL (s : List UInt8) (d B : Nat) (piece : St → Pc × St) (rpiece : St → Tree × St) (hr : Reads_ s d B piece) (ih : ∀ st, Dom s d st → RelR (piece st) (rpiece st)) : ∀ (f : Nat) (l : List Pc) (rl : List Tree) (st st' : St),
    st'.bad = st.bad → (st.bad ≠ 0 → st'.fr = st.fr) → (st.bad = 0 → st' = st) → (st.bad = 0 → RelL l rl) → (st.bad = 0 → st.at_ ≤ s.length ∧ st.op ≤ 10 ∧ 11 ≤ d + st.op) →
    (rCatL s rpiece f rl st').2.bad = (piecesL s piece f l st).2.bad ∧ ((piecesL s piece f l st).2.bad ≠ 0 → (rCatL s rpiece f rl st').2.fr = (piecesL s piece f l st).2.fr) ∧ ((piecesL s piece f l st).2.bad = 0 → (rCatL s rpiece f rl st').2 = (piecesL s piece f l st).2) ∧
      ((piecesL s piece f l st).2.bad = 0 → RelL (piecesL s piece f l st).1 (rCatL s rpiece f rl st').1)
  | 0, l, rl, st, st', h1, h2, h3, h4, _ => by rw [piecesL, rCatL]; exact ⟨h1, h2, h3, h4⟩
  | f + 1, l, rl, st, st', h1, h2, h3, h4, h5 => by
    rw [piecesL, rCatL]
    by_cases hc : st.bad = 0 ∧ st.at_ < s.length ∧ isAt s st.at_ 124 = false ∧ isAt s st.at_ 41 = false
    · have hb := hc.1
      obtain rfl := h3 hb
      rw [if_pos hc, if_pos hc]
      obtain ⟨g1, g2, g3⟩ := h5 hb
      have hD : Dom s d st' := ⟨hb, g1, g2, g3⟩
      have r := ih st' hD
      have b := hr st' hD
      exact rel_catL s d B piece rpiece hr ih f _ _ _ _ r.bad r.fr r.st (fun hb2 => (h4 hb).app (.cons (r.pc hb2) .nil)) (fun hb2 => by
        obtain ⟨q1, q2, q3⟩ := b.good hb2
        exact ⟨q2, by omega, by omega⟩)
    · have hc' : ¬ (st'.bad = 0 ∧ st'.at_ < s.length ∧ isAt s st'.at_ 124 = false ∧ isAt s st'.at_ 41 = false) := by
        rintro ⟨e1, e2⟩
        have hb : st.bad = 0 := by rw [← h1]; exact e1
        have e := h3 hb
        rw [e] at e2
        exact hc ⟨hb, e2⟩
      rw [if_neg hc, if_neg hc']
      exact ⟨h1, h2, h3, h4⟩
theorem catL_ne (s : List UInt8) (piece : St → Pc × St) : ∀ (f : Nat) (l : List Pc) (st : St), l ≠ [] → (piecesL s piece f l st).1 ≠ []
  | 0, l, st, h => by rw [piecesL]; exact h
  | f + 1, l, st, h => by
    rw [piecesL]
    split
    · exact catL_ne s piece f _ _ (by simp)
    · exact h
theorem rel_cat (s : List UInt8) (d B : Nat) (piece : St → Pc × St) (rpiece : St → Tree × St) (hr : Reads_ s d B piece) (ih : ∀ st, Dom s d st → RelR (piece st) (rpiece st)) (st : St) (h : Dom s d st) : RelR (piecesF s piece st) (rCat s rpiece st) := by
  have r := ih st h
  have b := hr st h
  obtain ⟨a1, a2, a3, a4⟩ := rel_catL s d B piece rpiece hr ih (s.length + 2) [(piece st).1] [(rpiece st).1] (piece st).2 (rpiece st).2 r.bad r.fr r.st (fun hb => .cons (r.pc hb) .nil) (fun hb => by
    obtain ⟨q1, q2, q3⟩ := b.good hb
    have := h.op
    have := h.deep
    exact ⟨q2, by omega, by omega⟩)
  exact ⟨a1, a2, a3, fun hb => rel_row (.inl rfl) (a4 hb) (catL_ne s piece _ _ _ (by simp))⟩
theorem rel_altL (s : List UInt8) (d B : Nat) (piece : St → Pc × St) (rpiece : St → Tree × St) (hr : Reads_ s d B piece) (ih : ∀ st, Dom s d st → RelR (piece st) (rpiece st)) : ∀ (f : Nat) (l : List Pc) (rl : List Tree) (st st' : St),
    st'.bad = st.bad → (st.bad ≠ 0 → st'.fr = st.fr) → (st.bad = 0 → st' = st) → (st.bad = 0 → RelL l rl) → (st.bad = 0 → st.at_ ≤ s.length ∧ st.op ≤ 10 ∧ 11 ≤ d + st.op) →
    (rAltL s rpiece f rl st').2.bad = (altL s piece f l st).2.bad ∧ ((altL s piece f l st).2.bad ≠ 0 → (rAltL s rpiece f rl st').2.fr = (altL s piece f l st).2.fr) ∧ ((altL s piece f l st).2.bad = 0 → (rAltL s rpiece f rl st').2 = (altL s piece f l st).2) ∧
      ((altL s piece f l st).2.bad = 0 → RelL (altL s piece f l st).1 (rAltL s rpiece f rl st').1)
  | 0, l, rl, st, st', h1, h2, h3, h4, _ => by rw [altL, rAltL]; exact ⟨h1, h2, h3, h4⟩
  | f + 1, l, rl, st, st', h1, h2, h3, h4, h5 => by
    rw [altL, rAltL]
    by_cases hc : st.bad = 0 ∧ isAt s st.at_ 124 = true
    · have hb := hc.1
      obtain rfl := h3 hb
      rw [if_pos hc, if_pos hc]
      obtain ⟨g1, g2, g3⟩ := h5 hb
      have hlt := isAt_lt hc.2
      have hD : Dom s d (stAt st' (st'.at_ + 1)) := ⟨hb, by show st'.at_ + 1 ≤ _; omega, g2, g3⟩
      have r := ih _ hD
      have b := hr _ hD
      exact rel_altL s d B piece rpiece hr ih f _ _ _ _ r.bad r.fr r.st (fun hb2 => (h4 hb).app (.cons (r.pc hb2) .nil)) (fun hb2 => by
        obtain ⟨q1, q2, q3⟩ := b.good hb2
        have q3' : _ = st'.op := q3
        exact ⟨q2, by omega, by omega⟩)
    · have hc' : ¬ (st'.bad = 0 ∧ isAt s st'.at_ 124 = true) := by
        rintro ⟨e1, e2⟩
        have hb : st.bad = 0 := by rw [← h1]; exact e1
        have e := h3 hb
        rw [e] at e2
        exact hc ⟨hb, e2⟩
      rw [if_neg hc, if_neg hc']
      exact ⟨h1, h2, h3, h4⟩
theorem altL_ne (s : List UInt8) (piece : St → Pc × St) : ∀ (f : Nat) (l : List Pc) (st : St), l ≠ [] → (altL s piece f l st).1 ≠ []
  | 0, l, st, h => by rw [altL]; exact h
  | f + 1, l, st, h => by
    rw [altL]
    split
    · exact altL_ne s piece f _ _ (by simp)
    · exact h
theorem rel_altG (s : List UInt8) (d B : Nat) (piece : St → Pc × St) (rpiece : St → Tree × St) (hr : Reads_ s d B piece) (ih : ∀ st, Dom s d st → RelR (piece st) (rpiece st)) (st : St) (h : Dom s d st) : RelR (altG s piece st) (rAltG s rpiece st) := by
  have r := ih st h
  have b := hr st h
  obtain ⟨a1, a2, a3, a4⟩ := rel_altL s d B piece rpiece hr ih (s.length + 2) [(piece st).1] [(rpiece st).1] (piece st).2 (rpiece st).2 r.bad r.fr r.st (fun hb => .cons (r.pc hb) .nil) (fun hb => by
    obtain ⟨q1, q2, q3⟩ := b.good hb
    have := h.op
    have := h.deep
    exact ⟨q2, by omega, by omega⟩)
  exact ⟨a1, a2, a3, fun hb => rel_row (.inr rfl) (a4 hb) (altL_ne s piece _ _ _ (by simp))⟩
theorem rel_alt (s : List UInt8) : ∀ d (st : St), Dom s d st → RelR (altF s d st) (rAlt s d st)
  | 0, st, h => by have := h.deep; have := h.op; omega
  | d + 1, st, h => by
    rw [altF, rAlt]
    have hp := rel_piece s d _ _ (rel_alt s d) (6 + d) (by omega) (alt_res s d)
    have hpr := piece_res s d (6 + d) (by omega) _ (alt_res s d)
    have hc := rel_cat s (d + 1) (6 + d + 1) _ _ hpr hp
    exact rel_altG s (d + 1) (6 + d + 1) _ _ (pieces_res s (d + 1) (6 + d + 1) _ hpr) hc st h
end Go.Proofs.YtmkddhkpeiajhaaGreatDoor
namespace Go.Proofs.YtmkddhkpeiajhaaGreatDoor
theorem rparse_bad {s : List UInt8} {t : Tree} {st : St} (h : s.length ≠ 0) (ha : rAlt s 11 st0 = (t, st)) (hb : st.bad ≠ 0) : rParse s = (tEmpty, st.fr, st.bad) := by
  unfold rParse
  rw [if_neg h, ha]
  simp only [hb, false_and, if_false, ne_eq, not_false_eq_true, if_true]
theorem rparse_more {s : List UInt8} {t : Tree} {st : St} (h : s.length ≠ 0) (ha : rAlt s 11 st0 = (t, st)) (hb : st.bad = 0) (hm : st.at_ < s.length) : rParse s = (tEmpty, st.at_, 24) := by
  unfold rParse
  rw [if_neg h, ha]
  simp [hb, hm, stFault]
theorem rparse_no {s : List UInt8} {t : Tree} {st : St} (h : s.length ≠ 0) (ha : rAlt s 11 st0 = (t, st)) (hb : st.bad = 0) (hm : ¬ st.at_ < s.length) (hr : rightR t = false) : rParse s = (tEmpty, 0, 24) := by
  unfold rParse
  rw [if_neg h, ha]
  simp [hb, hm, hr]
theorem rparse_yes {s : List UInt8} {t : Tree} {st : St} (h : s.length ≠ 0) (ha : rAlt s 11 st0 = (t, st)) (hb : st.bad = 0) (hm : ¬ st.at_ < s.length) (hr : rightR t = true) : rParse s = (t, 0, 0) := by
  unfold rParse
  rw [if_neg h, ha]
  simp [hb, hm, hr]
end Go.Proofs.YtmkddhkpeiajhaaGreatDoor
namespace Go.Proofs.YtmkddhkpeiajhaaGreatDoor
structure RRes (len B : Nat) (st : St) (r : Tree × St) : Prop where
  good : r.2.bad = 0 → st.at_ < r.2.at_ ∧ r.2.at_ ≤ len ∧ r.2.op = st.op ∧ setsR r.1 ≤ 40000 * (r.2.at_ - st.at_)
  bd : r.2.at_ ≤ len + B
  op : r.2.op ≤ 11
  opl : st.op ≤ r.2.op
def RReads (s : List UInt8) (d B : Nat) (F : St → Tree × St) : Prop := ∀ st, Dom s d st → RRes s.length B st (F st)
theorem digF_le (l : List UInt8) : ∀ (j q n : Nat), (digF l j q n).2 ≤ q + j
  | 0, q, n => by rw [digF]; exact Nat.le_refl _
  | j + 1, q, n => by
    rw [digF]
    cases h : l[q]? with
    | none => exact Nat.le_add_right _ _
    | some d =>
      simp only
      split
      · have := digF_le l j (q + 1) (10 * n + (d.toNat - 48)); omega
      · exact Nat.le_add_right _ _
theorem rRange_bd (s : List UInt8) (m q : Nat) : q ≤ (rRange s m q).2.2 ∧ (rRange s m q).2.2 ≤ q + 3 := by
  unfold rRange
  split
  · have h1 := digF_le s 2 (q + 1) 0
    have h2 := digF_ge s 2 (q + 1) 0
    show _ ≤ (digF s 2 (q + 1) 0).2 ∧ (digF s 2 (q + 1) 0).2 ≤ _
    omega
  · exact ⟨Nat.le_refl _, Nat.le_add_right _ _⟩
theorem rno_is (s : List UInt8) (m : Nat) (g : Bool × Nat × Nat) (h : rNo s m g = false) : isAt s g.2.2 125 = true ∧ m ≤ 50 ∧ (g.1 = false → m ≤ g.2.1 ∧ g.2.1 ≤ 50) := by
  unfold rNo at h
  simp at h
  refine ⟨h.1.1, h.1.2, fun e => ?_⟩
  rw [e] at h
  simp at h
  omega
theorem rtimes_res (s : List UInt8) (r : Tree) (st : St) (hat : st.at_ < s.length) :
    ((rTimes s r st).2.bad = 0 → st.at_ < (rTimes s r st).2.at_ ∧ (rTimes s r st).2.at_ ≤ s.length ∧ (rTimes s r st).2.op = st.op ∧ setsR (rTimes s r st).1 ≤ 40000) ∧ (rTimes s r st).2.at_ ≤ s.length + 6 ∧ (rTimes s r st).2.op = st.op ∧ st.at_ < (rTimes s r st).2.at_ := by
  have h1 := digF_le s 2 (st.at_ + 1) 0
  have h2 := digF_ge s 2 (st.at_ + 1) 0
  unfold rTimes
  obtain ⟨m, q1, hmq⟩ : ∃ m q1, digF s 2 (st.at_ + 1) 0 = (m, q1) := ⟨_, _, rfl⟩
  rw [hmq] at h1 h2 ⊢
  simp only at h1 h2 ⊢
  by_cases hd : q1 = st.at_ + 1
  · rw [if_pos hd]
    refine ⟨fun hb => absurd hb (fault_bad _ _ _ (by decide)), ?_, fault_op _ _ _, ?_⟩
    · rw [fault_at]; show q1 ≤ _; omega
    · rw [fault_at]; show _ < q1; omega
  · rw [if_neg hd]
    have h3 := rRange_bd s m q1
    obtain ⟨ev, n, q2, hg⟩ : ∃ ev n q2, rRange s m q1 = (ev, n, q2) := ⟨_, _, _, rfl⟩
    rw [hg] at h3 ⊢
    simp only at h3 ⊢
    cases hno : rNo s m (ev, n, q2) with
    | true =>
      simp only [if_true]
      refine ⟨fun hb => absurd hb (fault_bad _ _ _ (by decide)), ?_, fault_op _ _ _, ?_⟩
      · rw [fault_at]; show q2 ≤ _; omega
      · rw [fault_at]; show _ < q2; omega
    | false =>
      simp only [Bool.false_eq_true, if_false]
      obtain ⟨n1, n2, n3⟩ := rno_is s m _ hno
      have hlt := isAt_lt n1
      simp only at hlt n3
      have hset : setsR (if n = 0 ∧ ev = false then tEmpty else if 40000 < setsR r * (max m n + 1) then Tree.node (-1) z4 [] else tRow 2 (rCopies r m n ev)) ≤ 40000 := by
        split
        · show setsR (.node 0 z4 []) ≤ _; rw [setsR]; simp
        · rename_i hn0
          split
          · rw [setsR]; simp
          · rename_i hle
            have hp : 0 < (if ev then m + 1 else n) := by
              cases ev with
              | true => simp
              | false => simp at hn0 ⊢; omega
            rw [sets_row 2 _ (copies_ne r m n ev hp), sum_copies r m n ev (by cases ev with | true => exact .inr rfl | false => exact .inl (n3 rfl).1)]
            have h5 : (if ev then m + 1 else n) ≤ max m n + 1 := by
              cases ev with
              | true => simp; omega
              | false => simp; omega
            have h6 := Nat.mul_le_mul_right (setsR r) h5
            rw [Nat.mul_comm (max m n + 1)] at h6
            omega
      exact ⟨fun _ => ⟨by show st.at_ < q2 + 1; omega, by show q2 + 1 ≤ _; omega, rfl, hset⟩, by show q2 + 1 ≤ _; omega, rfl, by show st.at_ < q2 + 1; omega⟩
theorem rsigns_res (s : List UInt8) (len B : Nat) (hlen : len = s.length) (hB : 6 ≤ B) : ∀ (f : Nat) (p : Tree) (st st0 : St), (st.bad = 0 → st0.at_ < st.at_ ∧ st.at_ ≤ len ∧ st.op = st0.op ∧ setsR p ≤ 40000 * (st.at_ - st0.at_)) → st.at_ ≤ len + B → st.op ≤ 11 → st0.op ≤ st.op → RRes len B st0 (rSigns s f p st)
  | 0, p, st, st0, hg, hb, ho, hol => by rw [rSigns]; exact ⟨hg, hb, ho, hol⟩
  | f + 1, p, st, st0, hg, hb, ho, hol => by
    rw [rSigns]
    by_cases hbad : st.bad = 0
    · rw [if_pos hbad]
      obtain ⟨g1, g2, g3, g4⟩ := hg hbad
      have step : ∀ (k : Int) (c : Nat), isAt s st.at_ c = true → RRes len B st0 (rSigns s f (.node k z4 [p]) (stAt st (st.at_ + 1))) := fun k c hc => by
        have := isAt_lt hc
        exact rsigns_res s len B hlen hB f _ (stAt st (st.at_ + 1)) st0 (fun _ => ⟨by show _ < st.at_ + 1; omega, by show st.at_ + 1 ≤ _; omega, g3, by rw [setsR_one]; show _ ≤ 40000 * (st.at_ + 1 - st0.at_); omega⟩) (by show st.at_ + 1 ≤ _; omega) ho hol
      by_cases h1 : isAt s st.at_ 42 = true
      · rw [if_pos h1]; exact step _ _ h1
      · rw [if_neg h1]
        by_cases h2 : isAt s st.at_ 43 = true
        · rw [if_pos h2]; exact step _ _ h2
        · rw [if_neg h2]
          by_cases h3 : isAt s st.at_ 63 = true
          · rw [if_pos h3]; exact step _ _ h3
          · rw [if_neg h3]
            by_cases h4 : isAt s st.at_ 123 = true
            · rw [if_pos h4]
              have hlt := isAt_lt h4
              obtain ⟨t1, t2, t3, t4⟩ := rtimes_res s p st hlt
              exact rsigns_res s len B hlen hB f _ _ st0 (fun hb2 => by have := t1 hb2; exact ⟨by omega, by omega, by rw [t3]; exact g3, by omega⟩) (by omega) (by omega) (by omega)
            · rw [if_neg h4]; exact ⟨hg, hb, ho, hol⟩
    · rw [if_neg hbad]; exact ⟨hg, hb, ho, hol⟩
theorem resc_res (s : List UInt8) (st : St) (_hb : st.bad = 0) (hat : st.at_ ≤ s.length) : ((rEsc s st).2.bad = 0 → st.at_ ≤ (rEsc s st).2.at_ ∧ (rEsc s st).2.at_ ≤ s.length ∧ setsR (rEsc s st).1 = 1) ∧ (rEsc s st).2.at_ ≤ s.length ∧ (rEsc s st).2.op = st.op := by
  unfold rEsc
  cases hx : s[st.at_]? with
  | none => exact ⟨fun h => absurd h (fault_bad _ _ _ (by decide)), by rw [fault_at]; exact hat, fault_op _ _ _⟩
  | some c =>
    have hq := (List.getElem?_eq_some_iff.1 hx).1
    simp only
    split
    · have := octF_max s 3 st.at_ 0
      have hm : max st.at_ s.length = s.length := Nat.max_eq_right (by omega)
      rw [hm] at this
      exact ⟨fun _ => ⟨this.1, this.2, by unfold rOne; rw [setsR]; rfl⟩, this.2, rfl⟩
    · exact ⟨fun _ => ⟨by show st.at_ ≤ st.at_ + 1; omega, by show st.at_ + 1 ≤ _; omega, by unfold rOne; rw [setsR]; rfl⟩, by show st.at_ + 1 ≤ _; omega, rfl⟩
theorem rgroup_res (s : List UInt8) (d B : Nat) (alt : St → Tree × St) (ih : RReads s d B alt) (st : St) (from_ : Nat) (h : Dom s (d + 1) st) : RRes s.length (B + 1) st (rGroup s alt st from_) := by
  unfold rGroup
  by_cases ho : 10 < st.op + 1
  · rw [if_pos ho]
    refine ⟨fun hb => absurd hb (fault_bad _ _ _ (by decide)), ?_, ?_, ?_⟩
    · show (stFault _ _ _).at_ ≤ _
      rw [fault_at]
      show st.at_ ≤ _
      have := h.at_
      omega
    · show (stFault _ _ _).op ≤ _
      rw [fault_op]
      show st.op + 1 ≤ 11
      have := h.op
      omega
    · show st.op ≤ (stFault _ _ _).op
      rw [fault_op]
      exact Nat.le_succ _
  · rw [if_neg ho]
    have r := ih (stOp st (st.op + 1)) ⟨h.bad, h.at_, by show st.op + 1 ≤ 10; omega, by show 11 ≤ d + (st.op + 1); have := h.deep; omega⟩
    obtain ⟨q, st2, hal⟩ : ∃ q st2, alt (stOp st (st.op + 1)) = (q, st2) := ⟨_, _, rfl⟩
    rw [hal] at r ⊢
    obtain ⟨rg, rb, rop, rol⟩ := r
    simp only at rg rb rop rol ⊢
    have rol' : st.op + 1 ≤ st2.op := rol
    by_cases hc : st2.bad = 0 ∧ isAt s st2.at_ 41 = false
    · rw [if_pos hc]
      refine ⟨fun hb => absurd hb (fault_bad _ _ _ (by decide)), ?_, ?_, ?_⟩
      · show (stFault _ _ _).at_ ≤ _
        rw [fault_at]
        omega
      · show (stFault _ _ _).op ≤ _
        rw [fault_op]
        exact rop
      · show st.op ≤ (stFault _ _ _).op
        rw [fault_op]
        omega
    · rw [if_neg hc]
      refine ⟨fun hb => ?_, ?_, ?_, ?_⟩
      · have hb2 : st2.bad = 0 := hb
        obtain ⟨g1, g2, g3, g4⟩ := rg hb2
        have h41 : isAt s st2.at_ 41 = true := by
          cases hx : isAt s st2.at_ 41 with
          | true => rfl
          | false => exact absurd ⟨hb2, hx⟩ hc
        have := isAt_lt h41
        have g1' : st.at_ < st2.at_ := g1
        have g3' : st2.op = st.op + 1 := g3
        have g4' : setsR q ≤ 40000 * (st2.at_ - st.at_) := g4
        exact ⟨by show st.at_ < st2.at_ + 1; omega, by show st2.at_ + 1 ≤ _; omega, by show st2.op - 1 = _; omega, by show setsR q ≤ 40000 * (st2.at_ + 1 - st.at_); omega⟩
      · show st2.at_ + 1 ≤ _
        omega
      · show st2.op - 1 ≤ 11
        omega
      · show st.op ≤ st2.op - 1
        omega
theorem ratom_res (s : List UInt8) (d B : Nat) (hB : 6 ≤ B) (alt : St → Tree × St) (ih : RReads s d B alt) : RReads s (d + 1) (B + 1) (rAtom s alt) := by
  intro st h
  have hb := h.bad
  have ha := h.at_
  have hop := h.op
  have bad : ∀ (e a : Nat) (st1 : St) (t : Tree), e ≠ 0 → st1.at_ ≤ s.length → st1.op = st.op → RRes s.length (B + 1) st (t, stFault e a st1) := fun e a st1 t he h1 h2 =>
    ⟨fun hb => absurd hb (fault_bad _ _ _ he), by show (stFault _ _ _).at_ ≤ _; rw [fault_at]; omega, by show (stFault _ _ _).op ≤ _; rw [fault_op]; omega, by show st.op ≤ (stFault _ _ _).op; rw [fault_op]; omega⟩
  unfold rAtom
  cases hx : s[st.at_]? with
  | none => exact bad _ _ _ _ (by decide) ha rfl
  | some c =>
    have hq := (List.getElem?_eq_some_iff.1 hx).1
    have one : ∀ (k : Int) (w : W4), RRes s.length (B + 1) st (.node k w [], stAt st (st.at_ + 1)) := fun k w => ⟨fun _ => ⟨by show st.at_ < st.at_ + 1; omega, by show st.at_ + 1 ≤ _; omega, rfl, by rw [setsR]; show 1 ≤ 40000 * (st.at_ + 1 - st.at_); omega⟩, by show st.at_ + 1 ≤ _; omega, by show st.op ≤ 11; omega, Nat.le_refl _⟩
    simp only
    split
    · obtain ⟨r2, r3, r4, r5⟩ := rgroup_res s d B alt ih (stAt st (st.at_ + 1)) st.at_ ⟨hb, by show st.at_ + 1 ≤ _; omega, hop, h.deep⟩
      exact ⟨fun hb2 => by
        obtain ⟨g1, g2, g3, g4⟩ := r2 hb2
        have g1' : st.at_ + 1 < _ := g1
        have g4' : _ ≤ 40000 * (_ - (st.at_ + 1)) := g4
        exact ⟨by omega, g2, g3, by omega⟩, r3, r4, r5⟩
    · split
      · exact one _ _
      · split
        · cases hbr : bracketF s ((st.at_ + 1 : Nat) : Int) with
          | none => exact bad _ _ _ _ (by decide) (by show st.at_ + 1 ≤ _; omega) rfl
          | some r =>
            obtain ⟨m, e⟩ := r
            have := bracketF_bd s _ m e hbr
            exact ⟨fun _ => ⟨by show st.at_ < e; omega, by show e ≤ _; omega, rfl, by rw [setsR]; show 1 ≤ 40000 * (e - st.at_); omega⟩, by show e ≤ _; omega, by show st.op ≤ 11; omega, Nat.le_refl _⟩
        · split
          · exact one _ _
          · split
            · exact one _ _
            · split
              · obtain ⟨e1, e2, e3⟩ := resc_res s (stAt st (st.at_ + 1)) hb (by show st.at_ + 1 ≤ _; omega)
                exact ⟨fun hb2 => by
                  obtain ⟨g1, g2, g4⟩ := e1 hb2
                  have g1' : st.at_ + 1 ≤ _ := g1
                  exact ⟨Nat.lt_of_lt_of_le (Nat.lt_succ_self _) g1', g2, e3, by rw [g4]; omega⟩, by omega, by rw [e3]; show st.op ≤ 11; omega, by rw [e3]; exact Nat.le_refl _⟩
              · split
                · exact bad _ _ _ _ (by decide) (by show st.at_ + 1 ≤ _; omega) rfl
                · exact one _ _
theorem rpiece_res (s : List UInt8) (d B : Nat) (hB : 6 ≤ B) (alt : St → Tree × St) (ih : RReads s d B alt) : RReads s (d + 1) (B + 1) (rPiece s alt) := by
  intro st h
  obtain ⟨r2, r3, r4, r5⟩ := ratom_res s d B hB alt ih st h
  unfold rPiece
  exact rsigns_res s s.length (B + 1) rfl (by omega) _ _ _ st r2 r3 r4 r5
theorem rcatL_res (s : List UInt8) (d B : Nat) (piece : St → Tree × St) (ih : RReads s d B piece) : ∀ (f : Nat) (l : List Tree) (st st0 : St), (st.bad = 0 → st0.at_ < st.at_ ∧ st.at_ ≤ s.length ∧ st.op = st0.op ∧ sumS l ≤ 40000 * (st.at_ - st0.at_)) → st.at_ ≤ s.length + B → st.op ≤ 11 → st0.op ≤ 10 → 11 ≤ d + st0.op → st0.op ≤ st.op →
    ((rCatL s piece f l st).2.bad = 0 → st0.at_ < (rCatL s piece f l st).2.at_ ∧ (rCatL s piece f l st).2.at_ ≤ s.length ∧ (rCatL s piece f l st).2.op = st0.op ∧ sumS (rCatL s piece f l st).1 ≤ 40000 * ((rCatL s piece f l st).2.at_ - st0.at_)) ∧ (rCatL s piece f l st).2.at_ ≤ s.length + B ∧ (rCatL s piece f l st).2.op ≤ 11 ∧ st0.op ≤ (rCatL s piece f l st).2.op
  | 0, l, st, st0, hg, hb, ho, _, _, hol => by rw [rCatL]; exact ⟨hg, hb, ho, hol⟩
  | f + 1, l, st, st0, hg, hb, ho, ho2, hd, hol => by
    rw [rCatL]
    by_cases hc : st.bad = 0 ∧ st.at_ < s.length ∧ isAt s st.at_ 124 = false ∧ isAt s st.at_ 41 = false
    · rw [if_pos hc]
      obtain ⟨g1, g2, g3, g4⟩ := hg hc.1
      obtain ⟨r2, r3, r4, r5⟩ := ih st ⟨hc.1, g2, by omega, by omega⟩
      exact rcatL_res s d B piece ih f _ _ st0 (fun hb2 => by
        obtain ⟨q1, q2, q3, q4⟩ := r2 hb2
        refine ⟨by omega, q2, by omega, ?_⟩
        rw [sumS_app]
        show _ + (setsR _ + 0) ≤ _
        omega) r3 r4 ho2 hd (Nat.le_trans hol r5)
    · rw [if_neg hc]; exact ⟨hg, hb, ho, hol⟩
theorem rcatL_ne (s : List UInt8) (piece : St → Tree × St) : ∀ (f : Nat) (l : List Tree) (st : St), l ≠ [] → (rCatL s piece f l st).1 ≠ []
  | 0, l, st, h => by rw [rCatL]; exact h
  | f + 1, l, st, h => by
    rw [rCatL]
    split
    · exact rcatL_ne s piece f _ _ (by simp)
    · exact h
theorem rcat_res (s : List UInt8) (d B : Nat) (piece : St → Tree × St) (ih : RReads s d B piece) : RReads s d B (rCat s piece) := by
  intro st h
  obtain ⟨r2, r3, r4, r5⟩ := ih st h
  obtain ⟨c, e, f, g⟩ := rcatL_res s d B piece ih (s.length + 2) [(piece st).1] (piece st).2 st (fun hb => by
    obtain ⟨q1, q2, q3, q4⟩ := r2 hb
    exact ⟨q1, q2, q3, by show setsR _ + 0 ≤ _; omega⟩) r3 r4 h.op h.deep r5
  refine ⟨fun hb => ?_, e, f, g⟩
  obtain ⟨q1, q2, q3, q4⟩ := c hb
  exact ⟨q1, q2, q3, by show setsR (tRow 2 _) ≤ _; rw [sets_row 2 _ (rcatL_ne s piece _ _ _ (by simp))]; exact q4⟩
theorem raltL_res (s : List UInt8) (d B : Nat) (piece : St → Tree × St) (ih : RReads s d B piece) : ∀ (f : Nat) (l : List Tree) (st st0 : St), (st.bad = 0 → st0.at_ < st.at_ ∧ st.at_ ≤ s.length ∧ st.op = st0.op ∧ sumS l ≤ 40000 * (st.at_ - st0.at_)) → st.at_ ≤ s.length + B → st.op ≤ 11 → st0.op ≤ 10 → 11 ≤ d + st0.op → st0.op ≤ st.op →
    ((rAltL s piece f l st).2.bad = 0 → st0.at_ < (rAltL s piece f l st).2.at_ ∧ (rAltL s piece f l st).2.at_ ≤ s.length ∧ (rAltL s piece f l st).2.op = st0.op ∧ sumS (rAltL s piece f l st).1 ≤ 40000 * ((rAltL s piece f l st).2.at_ - st0.at_)) ∧ (rAltL s piece f l st).2.at_ ≤ s.length + B ∧ (rAltL s piece f l st).2.op ≤ 11 ∧ st0.op ≤ (rAltL s piece f l st).2.op
  | 0, l, st, st0, hg, hb, ho, _, _, hol => by rw [rAltL]; exact ⟨hg, hb, ho, hol⟩
  | f + 1, l, st, st0, hg, hb, ho, ho2, hd, hol => by
    rw [rAltL]
    by_cases hc : st.bad = 0 ∧ isAt s st.at_ 124 = true
    · rw [if_pos hc]
      obtain ⟨g1, g2, g3, g4⟩ := hg hc.1
      have hlt := isAt_lt hc.2
      obtain ⟨r2, r3, r4, r5⟩ := ih (stAt st (st.at_ + 1)) ⟨hc.1, by show st.at_ + 1 ≤ _; omega, by show st.op ≤ 10; omega, by show 11 ≤ d + st.op; omega⟩
      exact raltL_res s d B piece ih f _ _ st0 (fun hb2 => by
        obtain ⟨q1, q2, q3, q4⟩ := r2 hb2
        have q1' : st.at_ + 1 < _ := q1
        have q3' : _ = st.op := q3
        have q4' : _ ≤ 40000 * (_ - (st.at_ + 1)) := q4
        refine ⟨by omega, q2, by omega, ?_⟩
        rw [sumS_app]
        show _ + (setsR _ + 0) ≤ _
        omega) r3 r4 ho2 hd (Nat.le_trans hol r5)
    · rw [if_neg hc]; exact ⟨hg, hb, ho, hol⟩
theorem raltL_ne (s : List UInt8) (piece : St → Tree × St) : ∀ (f : Nat) (l : List Tree) (st : St), l ≠ [] → (rAltL s piece f l st).1 ≠ []
  | 0, l, st, h => by rw [rAltL]; exact h
  | f + 1, l, st, h => by
    rw [rAltL]
    split
    · exact raltL_ne s piece f _ _ (by simp)
    · exact h
theorem raltG_res (s : List UInt8) (d B : Nat) (piece : St → Tree × St) (ih : RReads s d B piece) : RReads s d B (rAltG s piece) := by
  intro st h
  obtain ⟨r2, r3, r4, r5⟩ := ih st h
  obtain ⟨c, e, f, g⟩ := raltL_res s d B piece ih (s.length + 2) [(piece st).1] (piece st).2 st (fun hb => by
    obtain ⟨q1, q2, q3, q4⟩ := r2 hb
    exact ⟨q1, q2, q3, by show setsR _ + 0 ≤ _; omega⟩) r3 r4 h.op h.deep r5
  refine ⟨fun hb => ?_, e, f, g⟩
  obtain ⟨q1, q2, q3, q4⟩ := c hb
  exact ⟨q1, q2, q3, by show setsR (tRow 3 _) ≤ _; rw [sets_row 3 _ (raltL_ne s piece _ _ _ (by simp))]; exact q4⟩
theorem ralt_res (s : List UInt8) : ∀ d, RReads s d (6 + d) (rAlt s d)
  | 0, st, h => by have := h.deep; have := h.op; omega
  | d + 1, st, h => by
    rw [rAlt]
    exact raltG_res s (d + 1) (6 + d + 1) _ (rcat_res s (d + 1) (6 + d + 1) _ (rpiece_res s d (6 + d) (by omega) _ (ralt_res s d))) st h
end Go.Proofs.YtmkddhkpeiajhaaGreatDoor
namespace Go.Proofs.YtmkddhkpeiajhaaGreatDoor
theorem thin_fold (k : Int) : ∀ (l : List Tree) (t : Tree), (∀ u ∈ l, thinT u) → thinT t → thinT (tFold k l t)
  | [], t, _, h => by rw [tFold]; exact h
  | a :: l, t, hl, h => by
    rw [tFold]
    exact thin_fold k l _ (fun u hu => hl u (List.mem_cons_of_mem _ hu)) (thin2 _ _ (hl a (List.mem_cons_self ..)) h)
theorem thin_row (k : Int) (l : List Tree) (hl : ∀ u ∈ l, thinT u) : thinT (tRow k l) := by
  unfold tRow
  cases hr : l.reverse with
  | nil => exact thin0 _ _
  | cons p r =>
    have hm : ∀ u ∈ p :: r, thinT u := fun u hu => hl u (by rw [← List.mem_reverse, hr]; exact hu)
    exact thin_fold k r p (fun u hu => hm u (List.mem_cons_of_mem _ hu)) (hm p (List.mem_cons_self ..))
theorem thin_copies (r : Tree) (m n : Nat) (ev : Bool) (h : thinT r) : ∀ u ∈ rCopies r m n ev, thinT u := by
  intro u hu
  unfold rCopies at hu
  rcases List.mem_append.1 hu with hu | hu
  · rw [(List.mem_replicate.1 hu).2]; exact h
  · cases ev with
    | true =>
      simp only [if_true, List.mem_singleton] at hu
      rw [hu]; exact thin1 _ _ h
    | false =>
      simp only [Bool.false_eq_true, if_false] at hu
      rw [(List.mem_replicate.1 hu).2]; exact thin1 _ _ h
theorem thin_times (s : List UInt8) (r : Tree) (st : St) (h : thinT r) : thinT (rTimes s r st).1 := by
  unfold rTimes
  simp only
  split
  · exact thin0 _ _
  · split
    · exact thin0 _ _
    · show thinT (if _ then _ else if _ then _ else _)
      split
      · exact thin0 _ _
      · split
        · exact thin0 _ _
        · exact thin_row 2 _ (thin_copies _ _ _ _ h)
theorem thin_signs (s : List UInt8) : ∀ (f : Nat) (r : Tree) (st : St), thinT r → thinT (rSigns s f r st).1
  | 0, _, _, h => by rw [rSigns]; exact h
  | f + 1, r, st, h => by
    rw [rSigns]
    split
    · split
      · exact thin_signs s f _ _ (thin1 _ _ h)
      · split
        · exact thin_signs s f _ _ (thin1 _ _ h)
        · split
          · exact thin_signs s f _ _ (thin1 _ _ h)
          · split
            · exact thin_signs s f _ _ (thin_times s r st h)
            · exact h
    · exact h
theorem thin_esc (s : List UInt8) (st : St) : thinT (rEsc s st).1 := by
  unfold rEsc
  split
  · exact thin0 _ _
  · split
    · exact thin0 _ _
    · exact thin0 _ _
theorem thin_group (s : List UInt8) (alt : St → Tree × St) (ha : ∀ st, thinT (alt st).1) (st : St) (fr : Nat) : thinT (rGroup s alt st fr).1 := by
  unfold rGroup
  split
  · exact thin0 _ _
  · simp only
    split
    · exact thin0 _ _
    · exact ha _
theorem thin_atom (s : List UInt8) (alt : St → Tree × St) (ha : ∀ st, thinT (alt st).1) (st : St) : thinT (rAtom s alt st).1 := by
  unfold rAtom
  split
  · exact thin0 _ _
  · split
    · exact thin_group s alt ha _ _
    · split
      · exact thin0 _ _
      · split
        · split
          · exact thin0 _ _
          · exact thin0 _ _
        · split
          · exact thin0 _ _
          · split
            · exact thin0 _ _
            · split
              · exact thin_esc s _
              · split
                · exact thin0 _ _
                · exact thin0 _ _
theorem thin_piece (s : List UInt8) (alt : St → Tree × St) (ha : ∀ st, thinT (alt st).1) (st : St) : thinT (rPiece s alt st).1 := by
  unfold rPiece
  exact thin_signs s _ _ _ (thin_atom s alt ha st)
theorem thin_catL (s : List UInt8) (piece : St → Tree × St) (hp : ∀ st, thinT (piece st).1) : ∀ (f : Nat) (l : List Tree) (st : St), (∀ u ∈ l, thinT u) → ∀ u ∈ (rCatL s piece f l st).1, thinT u
  | 0, l, st, h => by rw [rCatL]; exact h
  | f + 1, l, st, h => by
    rw [rCatL]
    split
    · exact thin_catL s piece hp f _ _ (fun u hu => by
        rcases List.mem_append.1 hu with hu | hu
        · exact h u hu
        · rw [List.mem_singleton.1 hu]; exact hp st)
    · exact h
theorem thin_cat (s : List UInt8) (piece : St → Tree × St) (hp : ∀ st, thinT (piece st).1) (st : St) : thinT (rCat s piece st).1 := by
  unfold rCat
  exact thin_row 2 _ (thin_catL s piece hp _ _ _ (fun u hu => by rw [List.mem_singleton.1 hu]; exact hp st))
theorem thin_altL (s : List UInt8) (piece : St → Tree × St) (hp : ∀ st, thinT (piece st).1) : ∀ (f : Nat) (l : List Tree) (st : St), (∀ u ∈ l, thinT u) → ∀ u ∈ (rAltL s piece f l st).1, thinT u
  | 0, l, st, h => by rw [rAltL]; exact h
  | f + 1, l, st, h => by
    rw [rAltL]
    split
    · exact thin_altL s piece hp f _ _ (fun u hu => by
        rcases List.mem_append.1 hu with hu | hu
        · exact h u hu
        · rw [List.mem_singleton.1 hu]; exact hp _)
    · exact h
theorem thin_altG (s : List UInt8) (piece : St → Tree × St) (hp : ∀ st, thinT (piece st).1) (st : St) : thinT (rAltG s piece st).1 := by
  unfold rAltG
  exact thin_row 3 _ (thin_altL s piece hp _ _ _ (fun u hu => by rw [List.mem_singleton.1 hu]; exact hp st))
theorem thin_alt (s : List UInt8) : ∀ (d : Nat) (st : St), thinT (rAlt s d st).1
  | 0, st => thin0 _ _
  | d + 1, st => by
    rw [rAlt]
    exact thin_altG s _ (thin_cat s _ (thin_piece s _ (thin_alt s d))) st
end Go.Proofs.YtmkddhkpeiajhaaGreatDoor
