/-
  Regular expressions as trees, and what package ere's reader makes of a text: plain.
-/
import Derived.Test.YtmkddhkpeiajhaaDoorBrkLaw
namespace Go.Proofs.YtmkddhkpeiajhaaDoor

/-- a set's four words -/
abbrev W4 := Nat × Nat × Nat × Nat
def w4 (p : Mem) : W4 := (word p 0, word p 1, word p 2, word p 3)
def z4 : W4 := (0, 0, 0, 0)

inductive Tree where
  | node (kind : Int) (set : W4) (kids : List Tree)

def Tree.kind : Tree → Int | .node k _ _ => k
def Tree.set : Tree → W4 | .node _ s _ => s
def Tree.kids : Tree → List Tree | .node _ _ l => l
/-- the tree of nothing -/
def tEmpty : Tree := .node 0 z4 []

/-- a piece: a tree, how deep it nests, how many leaves it has; too great -/
structure Pc where
  re : Tree
  deep : Nat
  leaves : Nat
  big : Bool

def bigPc : Pc := ⟨tEmpty, 1, 1, true⟩
def pcFits (p : Pc) : Pc := if (p.big || decide (40 < p.deep) || decide (400 < p.leaves)) = true then bigPc else p
def pcLeaf (k : Int) (s : W4) : Pc := ⟨.node k s [], 1, 1, false⟩
def pcOne (k : Int) (p : Pc) : Pc := pcFits ⟨.node k z4 [p.re], p.deep + 1, p.leaves, p.big⟩
def pcTwo (k : Int) (a b : Pc) : Pc := pcFits ⟨.node k z4 [a.re, b.re], max (a.deep + 1) b.deep, a.leaves + b.leaves, a.big || b.big⟩
/-- a row, from its end to its beginning: the pieces ahead, reversed, onto the last one -/
def pcFold (k : Int) : List Pc → Pc → Pc
  | [], p => p
  | a :: l, p => pcFold k l (pcTwo k a p)
def pcRow (k : Int) (l : List Pc) : Pc :=
  match l.reverse with
  | [] => bigPc
  | p :: r => pcFold k r p

mutual
/-- no tree has more than two kids -/
def thinT : Tree → Prop
  | .node _ _ ks => ks.length ≤ 2 ∧ thinL ks
def thinL : List Tree → Prop
  | [] => True
  | t :: ts => thinT t ∧ thinL ts
end
theorem thin0 (k : Int) (s : W4) : thinT (.node k s []) := by unfold thinT; exact ⟨Nat.zero_le _, by unfold thinL; trivial⟩
theorem thin1 (k : Int) (s : W4) {a : Tree} (h : thinT a) : thinT (.node k s [a]) := by
  unfold thinT
  refine ⟨by simp, ?_⟩
  unfold thinL
  exact ⟨h, by unfold thinL; trivial⟩
theorem thin2 (k : Int) (s : W4) {a b : Tree} (h : thinT a) (h2 : thinT b) : thinT (.node k s [a, b]) := by
  unfold thinT
  refine ⟨by simp, ?_⟩
  unfold thinL
  refine ⟨h, ?_⟩
  unfold thinL
  exact ⟨h2, by unfold thinL; trivial⟩
theorem thinL_get : ∀ {ts : List Tree} (_h : thinL ts) {t : Tree}, t ∈ ts → thinT t
  | [], _, _, ht => by cases ht
  | u :: us, h, t, ht => by
    unfold thinL at h
    rcases List.mem_cons.1 ht with rfl | ht
    · exact h.1
    · exact thinL_get h.2 ht
def PcOk (p : Pc) : Prop := 1 ≤ p.deep ∧ p.deep ≤ 40 ∧ 1 ≤ p.leaves ∧ p.leaves ≤ 400 ∧ thinT p.re
theorem bigPc_ok : PcOk bigPc := ⟨by decide, by decide, by decide, by decide, thin0 _ _⟩
theorem pcLeaf_ok (k : Int) (s : W4) : PcOk (pcLeaf k s) := ⟨Nat.le_refl 1, by show 1 ≤ 40; omega, Nat.le_refl 1, by show 1 ≤ 400; omega, thin0 _ _⟩
theorem pcFits_ok (p : Pc) (h1 : 1 ≤ p.deep) (h2 : 1 ≤ p.leaves) (h3 : thinT p.re) : PcOk (pcFits p) := by
  unfold pcFits
  by_cases h : (p.big || decide (40 < p.deep) || decide (400 < p.leaves)) = true
  · rw [if_pos h]; exact bigPc_ok
  · rw [if_neg h]
    simp only [Bool.or_eq_true, decide_eq_true_eq, not_or] at h
    exact ⟨h1, by omega, h2, by omega, h3⟩
theorem pcOne_ok (k : Int) {p : Pc} (h : PcOk p) : PcOk (pcOne k p) := pcFits_ok _ (by show 1 ≤ p.deep + 1; omega) h.2.2.1 (thin1 _ _ h.2.2.2.2)
theorem pcTwo_ok (k : Int) {a b : Pc} (ha : PcOk a) (hb : PcOk b) : PcOk (pcTwo k a b) := pcFits_ok _ (by show 1 ≤ max (a.deep + 1) b.deep; omega) (by show 1 ≤ a.leaves + b.leaves; have := ha.2.2.1; omega) (thin2 _ _ ha.2.2.2.2 hb.2.2.2.2)
theorem pcFold_ok (k : Int) : ∀ (l : List Pc) {p : Pc} (_hp : PcOk p) (_hl : ∀ a ∈ l, PcOk a), PcOk (pcFold k l p)
  | [], _, hp, _ => hp
  | a :: l, _, hp, hl => pcFold_ok k l (pcTwo_ok k (hl a (List.mem_cons_self ..)) hp) (fun b hb => hl b (List.mem_cons_of_mem _ hb))
theorem pcRow_ok (k : Int) {l : List Pc} (hl : ∀ a ∈ l, PcOk a) : PcOk (pcRow k l) := by
  unfold pcRow
  cases h : l.reverse with
  | nil => exact bigPc_ok
  | cons p r =>
    have hm : ∀ a ∈ p :: r, PcOk a := fun a ha => hl a (by rw [← List.mem_reverse, h]; exact ha)
    exact pcFold_ok k r (hm p (List.mem_cons_self ..)) (fun b hb => hm b (List.mem_cons_of_mem _ hb))

/-! ### which trees are right -/
def kidsOf (k : Int) : Int :=
  if k = 0 ∨ k = 1 ∨ k = 7 ∨ k = 8 then 0 else if k = 2 ∨ k = 3 then 2 else if k = 4 ∨ k = 5 ∨ k = 6 then 1 else -1

mutual
/-- how many leaves; none: the tree may not be -/
def shapedT : Tree → Int → Option Nat
  | .node k s ks, d => if d < 1 ∨ kidsOf k ≠ (ks.length : Int) ∨ (k ≠ 1 ∧ s ≠ z4) then none else shapedL ks d 0 (if ks.length = 0 then 1 else 0)
def shapedL : List Tree → Int → Nat → Nat → Option Nat
  | [], _, _, n => some n
  | t :: ts, d, i, n =>
    match shapedT t (d - 1 + (i : Int)) with
    | none => none
    | some m => if 400 < n + m then none else shapedL ts d (i + 1) (n + m)
end
def rightT (t : Tree) : Bool := (shapedT t 40).isSome

/-! ### the reader of a text -/
structure St where
  at_ : Nat
  op : Nat
  bad : Nat
  fr : Nat

def stAt (st : St) (a : Nat) : St := ⟨a, st.op, st.bad, st.fr⟩
def stOp (st : St) (n : Nat) : St := ⟨st.at_, n, st.bad, st.fr⟩
def stFault (e a : Nat) (st : St) : St := if st.bad = 0 then ⟨st.at_, st.op, e, a⟩ else st

section
variable (s : List UInt8)

/-- does this byte stand there? -/
def isAt (a : Nat) (c : Nat) : Bool :=
  match s[a]? with
  | some x => x.toNat == c
  | none => false

def isDig (d : UInt8) : Bool := decide (48 ≤ d.toNat) && decide (d.toNat ≤ 57)
end
/-- at most so many digits from a place on -/
def digF : List UInt8 → Nat → Nat → Nat → Nat × Nat
  | _, 0, q, n => (n, q)
  | l, j + 1, q, n =>
    match l[q]? with
    | some d => if isDig d = true then digF l j (q + 1) (10 * n + (d.toNat - 48)) else (n, q)
    | none => (n, q)
section
variable (s : List UInt8)
/-- a number of one or two digits; below 0: there is none; where it ends -/
def digitsF (a : Nat) : Int × Nat := if (digF s 2 a 0).2 = a then (-1, a) else (((digF s 2 a 0).1 : Nat), (digF s 2 a 0).2)

end
def escTab : List (Nat × Nat) := [(110, 10), (116, 9), (114, 13), (102, 12), (118, 11), (97, 7), (98, 8)]
def assocF : List (Nat × Nat) → Nat → Option Nat
  | [], _ => none
  | (a, b) :: l, c => if c = a then some b else assocF l c
def escLetter (c : Nat) : Option Nat := assocF escTab c
section
variable (s : List UInt8)

def escF (st : St) : Nat × St :=
  match s[st.at_]? with
  | none => (0, stFault 24 s.length st)
  | some c =>
    match escLetter c.toNat with
    | some b => (b, stAt st (st.at_ + 1))
    | none =>
      if c.toNat < 48 ∨ 55 < c.toNat then (c.toNat, stAt st (st.at_ + 1))
      else ((octF s 2 (st.at_ + 1) (c.toNat - 48)).1 % 256, stAt st (octF s 2 (st.at_ + 1) (c.toNat - 48)).2)

/-- the pieces of a counted repeat -/
def copyPc (p : Pc) (least : Nat) (endless : Bool) (i : Nat) : Pc :=
  if i < least then ⟨p.re, p.deep, p.leaves, false⟩ else pcOne (if endless then 4 else 6) ⟨p.re, p.deep, p.leaves, false⟩
def copiesPc (p : Pc) (least : Nat) (endless : Bool) (many : Nat) : List Pc := (List.range many).map (copyPc p least endless)

/-- least, most, endless, where the reading ends -/
def rangeF (a : Nat) : Int × Int × Bool × Nat :=
  if isAt s (digitsF s a).2 44 then ((digitsF s a).1, (digitsF s ((digitsF s a).2 + 1)).1, decide ((digitsF s ((digitsF s a).2 + 1)).1 < 0), (digitsF s ((digitsF s a).2 + 1)).2)
  else ((digitsF s a).1, (digitsF s a).1, false, (digitsF s a).2)
def rangeOk (r : Int × Int × Bool × Nat) : Bool :=
  decide (0 ≤ r.1) && decide (r.1 ≤ 50) && (r.2.2.1 || (decide (r.1 ≤ r.2.1) && decide (r.2.1 ≤ 50))) && isAt s r.2.2.2 125
def rangeMany (r : Int × Int × Bool × Nat) : Nat := if r.2.2.1 then (r.1 + 1).toNat else (max r.1 r.2.1).toNat

def timesF (p : Pc) (st : St) : Pc × St :=
  if rangeOk s (rangeF s (st.at_ + 1)) then
    (if rangeMany (rangeF s (st.at_ + 1)) = 0 then pcLeaf 0 z4
     else if p.big ∨ 400 < rangeMany (rangeF s (st.at_ + 1)) * p.leaves then bigPc
     else pcRow 2 (copiesPc p (rangeF s (st.at_ + 1)).1.toNat (rangeF s (st.at_ + 1)).2.2.1 (rangeMany (rangeF s (st.at_ + 1)))), stAt st ((rangeF s (st.at_ + 1)).2.2.2 + 1))
  else (p, stFault 24 st.at_ (stAt st (rangeF s (st.at_ + 1)).2.2.2))

/-- the signs behind an atom -/
def signsF : Nat → Pc → St → Pc × St
  | 0, p, st => (p, st)
  | f + 1, p, st =>
    if st.bad = 0 then
      if isAt s st.at_ 42 then signsF f (pcOne 4 p) (stAt st (st.at_ + 1))
      else if isAt s st.at_ 43 then signsF f (pcOne 5 p) (stAt st (st.at_ + 1))
      else if isAt s st.at_ 63 then signsF f (pcOne 6 p) (stAt st (st.at_ + 1))
      else if isAt s st.at_ 123 then signsF f (timesF s p st).1 (timesF s p st).2
      else (p, st)
    else (p, st)

def groupF (alt : St → Pc × St) (st : St) (from_ : Nat) : Pc × St :=
  if 10 < st.op + 1 then (pcLeaf 0 z4, stFault 26 from_ (stOp st (st.op + 1)))
  else
    let r := alt (stOp st (st.op + 1))
    let st2 := stOp r.2 (r.2.op - 1)
    let st3 := if st2.bad = 0 ∧ isAt s st2.at_ 41 = false then stFault 24 st2.at_ st2 else st2
    (r.1, stAt st3 (st3.at_ + 1))

def atomF (alt : St → Pc × St) (st : St) : Pc × St :=
  match s[st.at_]? with
  | none => (pcLeaf 0 z4, stFault 24 s.length st)
  | some c =>
    if c.toNat = 40 then groupF s alt (stAt st (st.at_ + 1)) st.at_
    else if c.toNat = 46 then (pcLeaf 1 (w4 (mNot mNone)), stAt st (st.at_ + 1))
    else if c.toNat = 91 then
      match bracketF s ((st.at_ + 1 : Nat) : Int) with
      | none => (pcLeaf 1 z4, stAt (stFault 24 st.at_ st) 0)
      | some (m, e) => (pcLeaf 1 (w4 m), stAt st e)
    else if c.toNat = 94 then (pcLeaf 7 z4, stAt st (st.at_ + 1))
    else if c.toNat = 36 then (pcLeaf 8 z4, stAt st (st.at_ + 1))
    else if c.toNat = 92 then (pcLeaf 1 (w4 (mOf [UInt8.ofNat (escF s (stAt st (st.at_ + 1))).1])), (escF s (stAt st (st.at_ + 1))).2)
    else if c.toNat = 42 ∨ c.toNat = 43 ∨ c.toNat = 63 ∨ c.toNat = 123 ∨ c.toNat = 124 ∨ c.toNat = 41 then (pcLeaf 1 (w4 (mOf [c])), stFault 24 st.at_ (stAt st (st.at_ + 1)))
    else (pcLeaf 1 (w4 (mOf [c])), stAt st (st.at_ + 1))

def pieceF (alt : St → Pc × St) (st : St) : Pc × St := signsF s (s.length + 2) (atomF s alt st).1 (atomF s alt st).2

def piecesL (piece : St → Pc × St) : Nat → List Pc → St → List Pc × St
  | 0, l, st => (l, st)
  | f + 1, l, st =>
    if st.bad = 0 ∧ st.at_ < s.length ∧ isAt s st.at_ 124 = false ∧ isAt s st.at_ 41 = false then piecesL piece f (l ++ [(piece st).1]) (piece st).2 else (l, st)
def piecesF (piece : St → Pc × St) (st : St) : Pc × St :=
  (pcRow 2 (piecesL s piece (s.length + 2) [(piece st).1] (piece st).2).1, (piecesL s piece (s.length + 2) [(piece st).1] (piece st).2).2)

def altL (pieces : St → Pc × St) : Nat → List Pc → St → List Pc × St
  | 0, l, st => (l, st)
  | f + 1, l, st =>
    if st.bad = 0 ∧ isAt s st.at_ 124 = true then altL pieces f (l ++ [(pieces (stAt st (st.at_ + 1))).1]) (pieces (stAt st (st.at_ + 1))).2 else (l, st)
def altG (pieces : St → Pc × St) (st : St) : Pc × St :=
  (pcRow 3 (altL s pieces (s.length + 2) [(pieces st).1] (pieces st).2).1, (altL s pieces (s.length + 2) [(pieces st).1] (pieces st).2).2)

def altF : Nat → St → Pc × St
  | 0, st => (bigPc, st)
  | d + 1, st => altG s (piecesF s (pieceF s (altF d))) st

def st0 : St := ⟨0, 0, 0, 0⟩
/-- the tree, where something is wrong, what -/
def parseF : Tree × Nat × Nat :=
  if s.length = 0 then (tEmpty, 0, 0)
  else
    let r := altF s 11 st0
    let st1 := if r.2.bad = 0 ∧ r.2.at_ < s.length then stFault 24 r.2.at_ r.2 else r.2
    let st2 := if st1.bad = 0 ∧ (r.1.big ∨ rightT r.1.re = false) then stFault 24 0 st1 else st1
    if st2.bad = 0 then (r.1.re, 0, 0) else (tEmpty, st2.fr, st2.bad)
end

end Go.Proofs.YtmkddhkpeiajhaaDoor
