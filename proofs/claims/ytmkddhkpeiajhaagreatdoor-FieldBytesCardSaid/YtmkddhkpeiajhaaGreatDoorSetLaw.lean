import Derived.IntWalk
import Derived.WalkKit
import Derived.WalkSpells
import Derived.WalkLawsBesides
import Derived.Below
import Derived.Laws.OwnMore
import Derived.Deep.AppendLies
import Derived.Deep.Draws
import Derived.Laws.Rows
import Derived.Maps.AppendAt
import Derived.RegionTactic
import Derived.OwnWalk
import Derived.Deep.OwnRows
import Derived.Laws.AppendOwn
import Derived.Lib.Hide
namespace Go.Proofs.YtmkddhkpeiajhaaGreatDoor
def packs (w : Nat) (d : Nat → Nat) : Nat → Nat
 | 0 => 0
 | n + 1 => 2 ^ w * packs w (fun j => d (j + 1)) n + d 0
theorem packs_lt {w : Nat} : ∀ (n : Nat) {d : Nat → Nat}, (∀ j, d j < 2 ^ w) → packs w d n < 2 ^ (w * n)
 | 0, _, _ => by simp [packs]
 | n + 1, d, hd => by
  have h1 := packs_lt n (fun j => hd (j + 1))
  have h2 := hd 0
  have h3 : 2 ^ w * (packs w (fun j => d (j + 1)) n + 1) ≤ 2 ^ w * 2 ^ (w * n) := Nat.mul_le_mul_left _ h1
  rw [packs, Nat.mul_succ w n, Nat.add_comm (w * n) w, Nat.pow_add]
  rw [Nat.mul_succ] at h3
  omega
theorem packs_congr {w : Nat} : ∀ (n : Nat) {d e : Nat → Nat}, (∀ j, j < n → d j = e j) → packs w d n = packs w e n
 | 0, _, _, _ => rfl
 | n + 1, d, e, h => by rw [packs, packs, packs_congr n (d := fun j => d (j + 1)) (e := fun j => e (j + 1)) (fun j hj => h (j + 1) (by omega)), h 0 (by omega)]
def sumN (d : Nat → Nat) : Nat → Nat
 | 0 => 0
 | n + 1 => sumN d n + d n
def nbits (f : Nat → Bool) (k : Nat) : Nat := packs 1 (fun j => (f j).toNat) k
theorem toNat_lt2 (b : Bool) : b.toNat < 2 ^ 1 := by cases b <;> simp
theorem nbits_lt (f : Nat → Bool) (k : Nat) : nbits f k < 2 ^ k := by
 have := packs_lt (w := 1) k (d := fun j => (f j).toNat) (fun j => toNat_lt2 _)
 rwa [Nat.one_mul] at this
theorem nbits_bit : ∀ (k : Nat) (f : Nat → Bool) (j : Nat), (nbits f k).testBit j = (decide (j < k) && f j)
 | 0, f, j => by simp [nbits, packs]
 | k + 1, f, j => by
  have h : nbits f (k + 1) = 2 ^ 1 * nbits (fun j => f (j + 1)) k + (f 0).toNat := rfl
  rw [h, Nat.testBit_two_pow_mul_add _ (toNat_lt2 _), nbits_bit k (fun j => f (j + 1)) (j - 1)]
  rcases Nat.eq_zero_or_pos j with rfl | hj
  ·cases f 0 <;> simp
  ·have e1 : ¬ j < 1 := by omega
   have e2 : j - 1 + 1 = j := by omega
   rw [if_neg e1, e2]
   by_cases hk : j < k + 1
   ·have e3 : j - 1 < k := by omega
    simp [hk, e3]
   ·have e3 : ¬ j - 1 < k := by omega
    simp [hk, e3]
theorem nbits_congr {f g : Nat → Bool} {k : Nat} (h : ∀ j, j < k → f j = g j) : nbits f k = nbits g k :=
 packs_congr k fun j hj => by rw [h j hj]
theorem nbits_or (f g : Nat → Bool) (k : Nat) : nbits f k ||| nbits g k = nbits (fun j => f j || g j) k := by
 apply Nat.eq_of_testBit_eq
 intro j
 rw [Nat.testBit_or, nbits_bit, nbits_bit, nbits_bit]
 cases decide (j < k) <;> rfl
theorem nbits_not (f : Nat → Bool) (k : Nat) : (2 ^ k - 1) ^^^ nbits f k = nbits (fun j => !f j) k := by
 apply Nat.eq_of_testBit_eq
 intro j
 rw [Nat.testBit_xor, Nat.testBit_two_pow_sub_one, nbits_bit, nbits_bit]
 cases decide (j < k) <;> cases f j <;> rfl
theorem nbits_set (f : Nat → Bool) (k i : Nat) (hi : i < k) : nbits f k ||| 2 ^ i = nbits (fun j => f j || j == i) k := by
 apply Nat.eq_of_testBit_eq
 intro j
 rw [Nat.testBit_or, Nat.testBit_two_pow, nbits_bit, nbits_bit]
 by_cases h : i = j
 ·subst h; simp [hi]
 ·have h2 : (j == i) = false := by rw [beq_eq_false_iff_ne]; exact fun e => h e.symm
  simp [h, h2]
theorem nbits_has (f : Nat → Bool) (k i : Nat) (hi : i < k) : nbits f k / 2 ^ i % 2 = (f i).toNat := by
 have h := nbits_bit k f i
 rw [Nat.testBit_eq_decide_div_mod_eq] at h
 simp only [hi, decide_true, Bool.true_and] at h
 have h2 := Nat.mod_lt (nbits f k / 2 ^ i) (show 0 < 2 by omega)
 cases hf : f i
 ·rw [hf, decide_eq_false_iff_not] at h
  simp only [Bool.toNat_false]
  omega
 ·rw [hf, decide_eq_true_iff] at h
  exact h
def cntN (f : Nat → Bool) (k : Nat) : Nat := sumN (fun j => (f j).toNat) k
end Go.Proofs.YtmkddhkpeiajhaaGreatDoor
namespace Go.Proofs.YtmkddhkpeiajhaaGreatDoor
abbrev Mem := Nat → Bool
def mNone : Mem := fun _ => false
def mOr (p q : Mem) : Mem := fun b => p b || q b
def mNot (p : Mem) : Mem := fun b => !p b
def mSpan (a z : Nat) : Mem := fun b => decide (a ≤ b) && decide (b ≤ z)
def mOf (l : List UInt8) : Mem := fun b => l.any fun x => b == x.toNat
def word (p : Mem) (i : Nat) : Nat := nbits (fun j => p (64 * i + j)) 64
theorem word_lt (p : Mem) (i : Nat) : word p i < 18446744073709551616 := nbits_lt _ 64
theorem word_or (p q : Mem) (i : Nat) : word p i ||| word q i = word (mOr p q) i := nbits_or _ _ 64
theorem word_not (p : Mem) (i : Nat) : 18446744073709551615 ^^^ word p i = word (mNot p) i := nbits_not _ 64
theorem word_has (p : Mem) (b : Nat) : word p (b / 64) / 2 ^ (b % 64) % 2 = (p b).toNat := by
  have h := nbits_has (fun j => p (64 * (b / 64) + j)) 64 (b % 64) (Nat.mod_lt _ (by omega))
  rw [Nat.div_add_mod] at h
  exact h
def mWith (p : Mem) (b : Nat) : Mem := fun x => p x || x == b
theorem word_with (p : Mem) (b : Nat) : word p (b / 64) ||| 2 ^ (b % 64) = word (mWith p b) (b / 64) := by
  show nbits _ 64 ||| _ = nbits _ 64
  rw [nbits_set _ 64 (b % 64) (Nat.mod_lt _ (by omega))]
  refine nbits_congr fun j hj => ?_
  show (_ || _) = (_ || _)
  congr 1
  have := Nat.div_add_mod b 64
  rw [Bool.eq_iff_iff, beq_iff_eq, beq_iff_eq]
  omega
theorem word_other (p : Mem) (b i : Nat) (hi : i ≠ b / 64) : word (mWith p b) i = word p i := by
  refine nbits_congr fun j hj => ?_
  have h : ((64 * i + j) == b) = false := by
    rw [beq_eq_false_iff_ne]
    intro e
    omega
  show (p _ || _) = _
  rw [h, Bool.or_false]
def classOf (s : List UInt8) : Option Mem :=
  if s = [97, 108, 112, 104, 97] then some (mOr (mSpan 65 90) (mSpan 97 122))
  else if s = [100, 105, 103, 105, 116] then some (mSpan 48 57)
  else if s = [97, 108, 110, 117, 109] then some (mOr (mOr (mSpan 65 90) (mSpan 97 122)) (mSpan 48 57))
  else if s = [117, 112, 112, 101, 114] then some (mSpan 65 90)
  else if s = [108, 111, 119, 101, 114] then some (mSpan 97 122)
  else if s = [115, 112, 97, 99, 101] then some (mOr (mSpan 9 13) (mOf [32]))
  else if s = [98, 108, 97, 110, 107] then some (mOf [9, 32])
  else if s = [112, 117, 110, 99, 116] then some (mOr (mOr (mOr (mSpan 33 47) (mSpan 58 64)) (mSpan 91 96)) (mSpan 123 126))
  else if s = [112, 114, 105, 110, 116] then some (mSpan 32 126)
  else if s = [103, 114, 97, 112, 104] then some (mSpan 33 126)
  else if s = [99, 110, 116, 114, 108] then some (mOr (mSpan 0 31) (mOf [127]))
  else if s = [120, 100, 105, 103, 105, 116] then some (mOr (mOr (mSpan 48 57) (mSpan 65 70)) (mSpan 97 102))
  else none
def isOct (c : UInt8) : Bool := decide (48 ≤ c.toNat) && decide (c.toNat ≤ 55)
def octF (l : List UInt8) : Nat → Nat → Nat → Nat × Nat
  | 0, at_, n => (n, at_)
  | k + 1, at_, n =>
    match l[at_]? with
    | some d => if isOct d then octF l k (at_ + 1) (8 * n + (d.toNat - 48)) else (n, at_)
    | none => (n, at_)
def endF (l : List UInt8) (at_ : Nat) : Option (Nat × Nat) :=
  match l[at_]? with
  | none => none
  | some c =>
    if c ≠ 92 then some (c.toNat, at_ + 1)
    else match l[at_ + 1]? with
      | none => none
      | some e =>
        if e = 110 then some (10, at_ + 2)
        else if e = 116 then some (9, at_ + 2)
        else if isOct e then (let r := octF l 2 (at_ + 2) (e.toNat - 48); some (r.1 % 256, r.2))
        else some (e.toNat, at_ + 2)
def closeF (l : List UInt8) : Nat → Nat → Option Nat
  | 0, _ => none
  | fuel + 1, k => if k + 1 < l.length then (if l[k]? = some 58 ∧ l[k + 1]? = some 93 then some k else closeF l fuel (k + 1)) else none
def opensF (l : List UInt8) (at_ : Nat) : Bool := l[at_]? == some 91 && l[at_ + 1]? == some 58
def namedF (l : List UInt8) (at_ : Nat) : Option (Mem × Nat) :=
  match closeF l l.length (at_ + 2) with
  | none => none
  | some k =>
    match classOf ((l.take k).drop (at_ + 2)) with
    | none => none
    | some m => some (m, k + 2)
def itemF (l : List UInt8) (at_ : Nat) : Option (Mem × Nat) :=
  if opensF l at_ then namedF l at_
  else match endF l at_ with
    | none => none
    | some (a, at1) =>
      if l[at1]? = some 45 ∧ at1 + 1 < l.length ∧ l[at1 + 1]? ≠ some 93 then
        (if opensF l (at1 + 1) then none
         else match endF l (at1 + 1) with
          | none => none
          | some (b, at2) => if a ≤ b then some (mSpan a b, at2) else none)
      else some (mOf [UInt8.ofNat a], at1)
def itemsF (l : List UInt8) : Nat → Nat → Bool → Mem → Option (Mem × Nat)
  | 0, _, _, _ => none
  | fuel + 1, at_, first, m =>
    if !first && l[at_]? == some 93 then some (m, at_)
    else match itemF l at_ with
      | none => none
      | some (x, at1) => itemsF l fuel at1 false (mOr m x)
def bracketF (l : List UInt8) (at_ : Int) : Option (Mem × Nat) :=
  if at_ < 0 ∨ (l.length : Int) < at_ then none
  else
    let not_ := l[at_.toNat]? == some 94
    match itemsF l (l.length + 1) (if not_ then at_.toNat + 1 else at_.toNat) true mNone with
    | none => none
    | some (m, e) => some (if not_ then mNot m else m, e + 1)
end Go.Proofs.YtmkddhkpeiajhaaGreatDoor
namespace Go.Proofs.YtmkddhkpeiajhaaGreatDoor
abbrev W4 := Nat × Nat × Nat × Nat
def w4 (p : Mem) : W4 := (word p 0, word p 1, word p 2, word p 3)
def z4 : W4 := (0, 0, 0, 0)
inductive Tree where
  | node (kind : Int) (set : W4) (kids : List Tree)
def Tree.kind : Tree → Int | .node k _ _ => k
def tEmpty : Tree := .node 0 z4 []
structure Pc where
  re : Tree
  deep : Nat
  leaves : Nat
  big : Bool
def bigPc : Pc := ⟨tEmpty, 1, 1, true⟩
def pcFits (p : Pc) : Pc := if (p.big || decide (40 < p.deep) || decide (400 < p.leaves)) = true then bigPc else p
def pcLeaf (k : Int) (s : W4) : Pc := ⟨.node k s [], 1, 1, false⟩
def pcOne (k : Int) (p : Pc) : Pc := pcFits ⟨.node k z4 [p.re], p.deep + 1, p.leaves, p.big⟩
def pcTwo (k : Int) (a b : Pc) : Pc := pcFits ⟨.node k z4 [a.re, b.re], max (a.deep + 1) b.deep, a.leaves + b.leaves, a.big || b.big⟩
def pcFold (k : Int) : List Pc → Pc → Pc
  | [], p => p
  | a :: l, p => pcFold k l (pcTwo k a p)
def pcRow (k : Int) (l : List Pc) : Pc :=
  match l.reverse with
  | [] => bigPc
  | p :: r => pcFold k r p
mutual
def thinT : Tree → Prop
  | .node _ _ ks => ks.length ≤ 2 ∧ thinL ks
def thinL : List Tree → Prop
  | [] => True
  | t :: ts => thinT t ∧ thinL ts
end
theorem thin0 (k : Int) (s : W4) : thinT (.node k s []) := by unfold thinT; exact ⟨Nat.zero_le _, by unfold thinL; trivial⟩
theorem thin1 (k : Int) (s : W4) {a : Tree} (h : thinT a) : thinT (.node k s [a]) := by
  unfold thinT
  refine ⟨by simp, ?_⟩
  unfold thinL
  exact ⟨h, by unfold thinL; trivial⟩
theorem thin2 (k : Int) (s : W4) {a b : Tree} (h : thinT a) (h2 : thinT b) : thinT (.node k s [a, b]) := by
  unfold thinT
  refine ⟨by simp, ?_⟩
  unfold thinL
  refine ⟨h, ?_⟩
  unfold thinL
  exact ⟨h2, by unfold thinL; trivial⟩
theorem thinL_get : ∀ {ts : List Tree} (_h : thinL ts) {t : Tree}, t ∈ ts → thinT t
  | [], _, _, ht => by cases ht
  | u :: us, h, t, ht => by
    unfold thinL at h
    rcases List.mem_cons.1 ht with rfl | ht
    · exact h.1
    · exact thinL_get h.2 ht
def PcOk (p : Pc) : Prop := 1 ≤ p.deep ∧ p.deep ≤ 40 ∧ 1 ≤ p.leaves ∧ p.leaves ≤ 400 ∧ thinT p.re
theorem bigPc_ok : PcOk bigPc := ⟨by decide, by decide, by decide, by decide, thin0 _ _⟩
theorem pcLeaf_ok (k : Int) (s : W4) : PcOk (pcLeaf k s) := ⟨Nat.le_refl 1, by show 1 ≤ 40; omega, Nat.le_refl 1, by show 1 ≤ 400; omega, thin0 _ _⟩
theorem pcFits_ok (p : Pc) (h1 : 1 ≤ p.deep) (h2 : 1 ≤ p.leaves) (h3 : thinT p.re) : PcOk (pcFits p) := by
  unfold pcFits
  by_cases h : (p.big || decide (40 < p.deep) || decide (400 < p.leaves)) = true
  · rw [if_pos h]; exact bigPc_ok
  · rw [if_neg h]
    simp only [Bool.or_eq_true, decide_eq_true_eq, not_or] at h
    exact ⟨h1, by omega, h2, by omega, h3⟩
theorem pcOne_ok (k : Int) {p : Pc} (h : PcOk p) : PcOk (pcOne k p) := pcFits_ok _ (by show 1 ≤ p.deep + 1; omega) h.2.2.1 (thin1 _ _ h.2.2.2.2)
theorem pcTwo_ok (k : Int) {a b : Pc} (ha : PcOk a) (hb : PcOk b) : PcOk (pcTwo k a b) := pcFits_ok _ (by show 1 ≤ max (a.deep + 1) b.deep; omega) (by show 1 ≤ a.leaves + b.leaves; have := ha.2.2.1; omega) (thin2 _ _ ha.2.2.2.2 hb.2.2.2.2)
theorem pcFold_ok (k : Int) : ∀ (l : List Pc) {p : Pc} (_hp : PcOk p) (_hl : ∀ a ∈ l, PcOk a), PcOk (pcFold k l p)
  | [], _, hp, _ => hp
  | a :: l, _, hp, hl => pcFold_ok k l (pcTwo_ok k (hl a (List.mem_cons_self ..)) hp) (fun b hb => hl b (List.mem_cons_of_mem _ hb))
theorem pcRow_ok (k : Int) {l : List Pc} (hl : ∀ a ∈ l, PcOk a) : PcOk (pcRow k l) := by
  unfold pcRow
  cases h : l.reverse with
  | nil => exact bigPc_ok
  | cons p r =>
    have hm : ∀ a ∈ p :: r, PcOk a := fun a ha => hl a (by rw [← List.mem_reverse, h]; exact ha)
    exact pcFold_ok k r (hm p (List.mem_cons_self ..)) (fun b hb => hm b (List.mem_cons_of_mem _ hb))
def kidsOf (k : Int) : Int :=
  if k = 0 ∨ k = 1 ∨ k = 7 ∨ k = 8 then 0 else if k = 2 ∨ k = 3 then 2 else if k = 4 ∨ k = 5 ∨ k = 6 then 1 else -1
mutual
def shapedT : Tree → Int → Option Nat
  | .node k s ks, d => if d < 1 ∨ kidsOf k ≠ (ks.length : Int) ∨ (k ≠ 1 ∧ s ≠ z4) then none else shapedL ks d 0 (if ks.length = 0 then 1 else 0)
def shapedL : List Tree → Int → Nat → Nat → Option Nat
  | [], _, _, n => some n
  | t :: ts, d, i, n =>
    match shapedT t (d - 1 + (i : Int)) with
    | none => none
    | some m => if 400 < n + m then none else shapedL ts d (i + 1) (n + m)
end
def rightT (t : Tree) : Bool := (shapedT t 40).isSome
structure St where
  at_ : Nat
  op : Nat
  bad : Nat
  fr : Nat
def stAt (st : St) (a : Nat) : St := ⟨a, st.op, st.bad, st.fr⟩
def stOp (st : St) (n : Nat) : St := ⟨st.at_, n, st.bad, st.fr⟩
def stFault (e a : Nat) (st : St) : St := if st.bad = 0 then ⟨st.at_, st.op, e, a⟩ else st
section
variable (s : List UInt8)
def isAt (a : Nat) (c : Nat) : Bool :=
  match s[a]? with
  | some x => x.toNat == c
  | none => false
def isDig (d : UInt8) : Bool := decide (48 ≤ d.toNat) && decide (d.toNat ≤ 57)
end
def digF : List UInt8 → Nat → Nat → Nat → Nat × Nat
  | _, 0, q, n => (n, q)
  | l, j + 1, q, n =>
    match l[q]? with
    | some d => if isDig d = true then digF l j (q + 1) (10 * n + (d.toNat - 48)) else (n, q)
    | none => (n, q)
section
variable (s : List UInt8)
def digitsF (a : Nat) : Int × Nat := if (digF s 2 a 0).2 = a then (-1, a) else (((digF s 2 a 0).1 : Nat), (digF s 2 a 0).2)
end
def escTab : List (Nat × Nat) := [(110, 10), (116, 9), (114, 13), (102, 12), (118, 11), (97, 7), (98, 8)]
def assocF : List (Nat × Nat) → Nat → Option Nat
  | [], _ => none
  | (a, b) :: l, c => if c = a then some b else assocF l c
def escLetter (c : Nat) : Option Nat := assocF escTab c
section
variable (s : List UInt8)
def escF (st : St) : Nat × St :=
  match s[st.at_]? with
  | none => (0, stFault 24 s.length st)
  | some c =>
    match escLetter c.toNat with
    | some b => (b, stAt st (st.at_ + 1))
    | none =>
      if c.toNat < 48 ∨ 55 < c.toNat then (c.toNat, stAt st (st.at_ + 1))
      else ((octF s 2 (st.at_ + 1) (c.toNat - 48)).1 % 256, stAt st (octF s 2 (st.at_ + 1) (c.toNat - 48)).2)
def copyPc (p : Pc) (least : Nat) (endless : Bool) (i : Nat) : Pc :=
  if i < least then ⟨p.re, p.deep, p.leaves, false⟩ else pcOne (if endless then 4 else 6) ⟨p.re, p.deep, p.leaves, false⟩
def copiesPc (p : Pc) (least : Nat) (endless : Bool) (many : Nat) : List Pc := (List.range many).map (copyPc p least endless)
def rangeF (a : Nat) : Int × Int × Bool × Nat :=
  if isAt s (digitsF s a).2 44 then ((digitsF s a).1, (digitsF s ((digitsF s a).2 + 1)).1, decide ((digitsF s ((digitsF s a).2 + 1)).1 < 0), (digitsF s ((digitsF s a).2 + 1)).2)
  else ((digitsF s a).1, (digitsF s a).1, false, (digitsF s a).2)
def rangeOk (r : Int × Int × Bool × Nat) : Bool :=
  decide (0 ≤ r.1) && decide (r.1 ≤ 50) && (r.2.2.1 || (decide (r.1 ≤ r.2.1) && decide (r.2.1 ≤ 50))) && isAt s r.2.2.2 125
def rangeMany (r : Int × Int × Bool × Nat) : Nat := if r.2.2.1 then (r.1 + 1).toNat else (max r.1 r.2.1).toNat
def timesF (p : Pc) (st : St) : Pc × St :=
  if rangeOk s (rangeF s (st.at_ + 1)) then
    (if rangeMany (rangeF s (st.at_ + 1)) = 0 then pcLeaf 0 z4
     else if p.big ∨ 400 < rangeMany (rangeF s (st.at_ + 1)) * p.leaves then bigPc
     else pcRow 2 (copiesPc p (rangeF s (st.at_ + 1)).1.toNat (rangeF s (st.at_ + 1)).2.2.1 (rangeMany (rangeF s (st.at_ + 1)))), stAt st ((rangeF s (st.at_ + 1)).2.2.2 + 1))
  else (p, stFault 24 st.at_ (stAt st (rangeF s (st.at_ + 1)).2.2.2))
def signsF : Nat → Pc → St → Pc × St
  | 0, p, st => (p, st)
  | f + 1, p, st =>
    if st.bad = 0 then
      if isAt s st.at_ 42 then signsF f (pcOne 4 p) (stAt st (st.at_ + 1))
      else if isAt s st.at_ 43 then signsF f (pcOne 5 p) (stAt st (st.at_ + 1))
      else if isAt s st.at_ 63 then signsF f (pcOne 6 p) (stAt st (st.at_ + 1))
      else if isAt s st.at_ 123 then signsF f (timesF s p st).1 (timesF s p st).2
      else (p, st)
    else (p, st)
def groupF (alt : St → Pc × St) (st : St) (from_ : Nat) : Pc × St :=
  if 10 < st.op + 1 then (pcLeaf 0 z4, stFault 26 from_ (stOp st (st.op + 1)))
  else
    let r := alt (stOp st (st.op + 1))
    let st2 := stOp r.2 (r.2.op - 1)
    let st3 := if st2.bad = 0 ∧ isAt s st2.at_ 41 = false then stFault 24 st2.at_ st2 else st2
    (r.1, stAt st3 (st3.at_ + 1))
def atomF (alt : St → Pc × St) (st : St) : Pc × St :=
  match s[st.at_]? with
  | none => (pcLeaf 0 z4, stFault 24 s.length st)
  | some c =>
    if c.toNat = 40 then groupF s alt (stAt st (st.at_ + 1)) st.at_
    else if c.toNat = 46 then (pcLeaf 1 (w4 (mNot mNone)), stAt st (st.at_ + 1))
    else if c.toNat = 91 then
      match bracketF s ((st.at_ + 1 : Nat) : Int) with
      | none => (pcLeaf 1 z4, stAt (stFault 24 st.at_ st) 0)
      | some (m, e) => (pcLeaf 1 (w4 m), stAt st e)
    else if c.toNat = 94 then (pcLeaf 7 z4, stAt st (st.at_ + 1))
    else if c.toNat = 36 then (pcLeaf 8 z4, stAt st (st.at_ + 1))
    else if c.toNat = 92 then (pcLeaf 1 (w4 (mOf [UInt8.ofNat (escF s (stAt st (st.at_ + 1))).1])), (escF s (stAt st (st.at_ + 1))).2)
    else if c.toNat = 42 ∨ c.toNat = 43 ∨ c.toNat = 63 ∨ c.toNat = 123 ∨ c.toNat = 124 ∨ c.toNat = 41 then (pcLeaf 1 (w4 (mOf [c])), stFault 24 st.at_ (stAt st (st.at_ + 1)))
    else (pcLeaf 1 (w4 (mOf [c])), stAt st (st.at_ + 1))
def pieceF (alt : St → Pc × St) (st : St) : Pc × St := signsF s (s.length + 2) (atomF s alt st).1 (atomF s alt st).2
def piecesL (piece : St → Pc × St) : Nat → List Pc → St → List Pc × St
  | 0, l, st => (l, st)
  | f + 1, l, st =>
    if st.bad = 0 ∧ st.at_ < s.length ∧ isAt s st.at_ 124 = false ∧ isAt s st.at_ 41 = false then piecesL piece f (l ++ [(piece st).1]) (piece st).2 else (l, st)
def piecesF (piece : St → Pc × St) (st : St) : Pc × St :=
  (pcRow 2 (piecesL s piece (s.length + 2) [(piece st).1] (piece st).2).1, (piecesL s piece (s.length + 2) [(piece st).1] (piece st).2).2)
def altL (pieces : St → Pc × St) : Nat → List Pc → St → List Pc × St
  | 0, l, st => (l, st)
  | f + 1, l, st =>
    if st.bad = 0 ∧ isAt s st.at_ 124 = true then altL pieces f (l ++ [(pieces (stAt st (st.at_ + 1))).1]) (pieces (stAt st (st.at_ + 1))).2 else (l, st)
def altG (pieces : St → Pc × St) (st : St) : Pc × St :=
  (pcRow 3 (altL s pieces (s.length + 2) [(pieces st).1] (pieces st).2).1, (altL s pieces (s.length + 2) [(pieces st).1] (pieces st).2).2)
def altF : Nat → St → Pc × St
  | 0, st => (bigPc, st)
  | d + 1, st => altG s (piecesF s (pieceF s (altF d))) st
def st0 : St := ⟨0, 0, 0, 0⟩
def parseF : Tree × Nat × Nat :=
  if s.length = 0 then (tEmpty, 0, 0)
  else
    let r := altF s 11 st0
    let st1 := if r.2.bad = 0 ∧ r.2.at_ < s.length then stFault 24 r.2.at_ r.2 else r.2
    let st2 := if st1.bad = 0 ∧ (r.1.big ∨ rightT r.1.re = false) then stFault 24 0 st1 else st1
    if st2.bad = 0 then (r.1.re, 0, 0) else (tEmpty, st2.fr, st2.bad)
end
end Go.Proofs.YtmkddhkpeiajhaaGreatDoor
namespace Go.Proofs.YtmkddhkpeiajhaaGreatDoor
open Go.RowKit
theorem block_of_add (a : Addr) (n : Nat) : (a.add n).block = a.block := by unfold Addr.add; split <;> rfl
theorem add_of_add (a : Addr) (i j : Nat) : (a.add i).add j = a.add (i + j) := by
 unfold Addr.add
 by_cases hi : i = 0 <;> by_cases hj : j = 0 <;> simp [hi, hj, Nat.add_assoc]
def Reads (w : World) (B size : Nat) (A : Option Addr) (n : Nat) (xs : List Value) : Prop :=
 xs.length = n * size ∧ (0 < n → ∃ ad, A = some ad ∧ ad.block < B ∧ ∀ j u, xs[j]? = some u → w.cell? (ad.add j) = some u)
section
variable {w w' : World} {B B' size n : Nat} {A : Option Addr} {xs : List Value}
theorem Reads.none_ : Reads w B size A 0 [] := ⟨by simp, fun h => absurd h (by omega)⟩
theorem Reads.at_ {k : Nat} (h : Reads w B 1 A n xs) (hk : k < n) : ∃ ad u, A = some ad ∧ ad.block < B ∧ xs[k]? = some u ∧ w.cell? (ad.add k) = some u := by
 obtain ⟨ad, e, hb, hc⟩ := h.2 (by omega)
 have hl : k < xs.length := by have := h.1; omega
 exact ⟨ad, xs[k], e, hb, List.getElem?_eq_getElem hl, hc k _ (List.getElem?_eq_getElem hl)⟩
theorem Reads.keep (h : Reads w B size A n xs) (hk : ∀ p : Addr, p.block < B → w'.cell? p = w.cell? p) : Reads w' B size A n xs :=
 ⟨h.1, fun hn => by
  obtain ⟨ad, e, hb, hc⟩ := h.2 hn
  exact ⟨ad, e, hb, fun j u hu => (hk _ (by rw [block_of_add]; exact hb)).trans (hc j u hu)⟩⟩
theorem Reads.more (h : Reads w B size A n xs) (hB : B ≤ B') : Reads w B' size A n xs :=
 ⟨h.1, fun hn => by
  obtain ⟨ad, e, hb, hc⟩ := h.2 hn
  exact ⟨ad, e, by omega, hc⟩⟩
theorem Reads.below (h : Reads w B size A n xs) (hb : Below B w w') : Reads w' B size A n xs := h.keep fun _ hp => hb.cell hp
theorem Reads.drew (h : Reads w B size A n xs) : Reads w.drew B size A n xs := h
theorem Reads.alloc (h : Reads w B size A n xs) (hB : B ≤ w.heap.size) (o : Obj) : Reads (w.alloc o) B size A n xs := h.keep fun p hp => World.cell?_alloc_lt w o p (by omega)
theorem Reads.cut (h : Reads w B size A n xs) {k cap : Nat} (hk : k ≤ n) (hc : n ≤ cap) :
  Reads w B size (if cap = k then A else A.map (·.add (k * size))) (n - k) (xs.drop (k * size)) := by
 refine ⟨by rw [List.length_drop, h.1, Nat.sub_mul], fun hn => ?_⟩
 obtain ⟨ad, rfl, hb, hcell⟩ := h.2 (by omega)
 rw [if_neg (by omega)]
 refine ⟨ad.add (k * size), rfl, by rw [block_of_add]; exact hb, fun j u hu => ?_⟩
 rw [add_of_add]
 exact hcell _ u (by rw [← hu, List.getElem?_drop])
theorem Reads.of_own {base : Nat} {e : TypeId} {c : Nat} (h : w.ownsRow base e size (.slice A n c) n xs) : Reads w w.heap.size size A n xs := by
 refine ⟨h.1, fun hn => ?_⟩
 obtain ⟨g, cap, hv, _, hlt⟩ := h.form hn
 have hA : A = some ⟨g, 0, none⟩ := by injection hv
 subst hA
 exact ⟨_, rfl, hlt, h.cells (g := g) rfl⟩
end
def Blk (w : World) (g : Nat) (t : TypeId) (cs : Array Value) : Prop := w.heap[g]? = some (.cells cs t (0, 0))
section
variable {w w' : World} {g : Nat} {t : TypeId} {cs : Array Value}
theorem Blk.lt (h : Blk w g t cs) : g < w.heap.size := by
 rcases Nat.lt_or_ge g w.heap.size with hlt | hge
 ·exact hlt
 ·unfold Blk at h; rw [Array.getElem?_eq_none hge] at h; cases h
theorem Blk.cell (h : Blk w g t cs) (i : Nat) : w.cell? ⟨g, i, none⟩ = cs[i]? := cell_of_row w g i cs t (0, 0) h
theorem Blk.frozen (h : Blk w g t cs) (i : Nat) : w.frozen? ⟨g, i, none⟩ = false := by
 unfold Blk at h
 simp [World.frozen?, h]
theorem Blk.new (w : World) (t : TypeId) (cs : Array Value) : Blk (w.alloc (.cells cs t)) w.heap.size t cs := heap_alloc_new w _
theorem Blk.drew (h : Blk w g t cs) : Blk w.drew g t cs := h
theorem Blk.alloc (h : Blk w g t cs) (o : Obj) : Blk (w.alloc o) g t cs := (Below.heap_alloc w o g h.lt).trans h
theorem Blk.set_ (h : Blk w g t cs) (i : Nat) (u : Value) : Blk (w.setCell ⟨g, i, none⟩ u) g t (cs.setIfInBounds i u) := by
 unfold Blk at h ⊢
 simp [World.setCell, Array.getElem?_modify, h]
theorem Blk.far (h : Blk w g t cs) {p : Addr} (hp : g ≠ p.block) (u : Value) : Blk (w.setCell p u) g t cs := (Below.heap_setCell w p u g hp).trans h
theorem Blk.below {B : Nat} (h : Blk w g t cs) (hb : Below B w w') (hg : g < B) : Blk w' g t cs := (hb.block g hg).trans h
theorem Blk.grown {row : Option Nat} (h : Blk w g t cs) (hb : w.grownBy w' row) (hg : some g ≠ row) : Blk w' g t cs := (hb.block g h.lt hg).trans h
theorem Blk.ne_ {g' : Nat} {t' : TypeId} {cs' : Array Value} (h : Blk w g t cs) (h' : Blk w g' t' cs') (hne : t ≠ t') : g ≠ g' := by
 rintro rfl
 unfold Blk at h h'
 rw [h] at h'
 injection h' with h'
 injection h' with _ ht
 exact hne ht
theorem own_blk_ne {base : Nat} {e : TypeId} {size n : Nat} {v : Value} {xs : List Value} (h : w.ownsRow base e size v n xs) (hg : Blk w g t cs) (hne : e ≠ t) : v.ownBlock ≠ some g := by
 rcases h.2 with ⟨rfl, _⟩ | ⟨g', cap, cur, rfl, _, hh, _⟩
 ·simp [Value.ownBlock]
 ·intro he
  have : g' = g := by simpa [Value.ownBlock] using he
  subst this
  exact Blk.ne_ (t := e) hh hg hne rfl
end
section
variable {P : Program} (w : World)
theorem run_append_of_nil (base : Nat) (t ty e : TypeId) (i : TypeInfo) (size : Nat) (ht : P.underlying t = some (.slice e)) (hi : P.info? e = some i)
  (v : Value) (n : Nat) (xs : List Value) (hown : w.ownsRow base e size v n xs) (c : Nat) : (Builtin.append_ #[t, t] ty #[v, .slice none 0 c]).run P w = .ok v w := by
 rcases hown.2 with ⟨rfl, rfl⟩ | ⟨g, cap, cur, rfl, _, _, hnc, _⟩
 ·simp [Builtin.append_, run_underlying ht, sizeOf, typeInfo, hi, Builtin.lenOf, Builtin.firstCells]
 ·simp [Builtin.append_, run_underlying ht, sizeOf, typeInfo, hi, Builtin.lenOf, Builtin.firstCells, hnc, storeCells]
theorem run_append_any (base : Nat) (t ty e : TypeId) (i : TypeInfo) (z : Value) (size bytes : Nat) (ht : P.underlying t = some (.slice e)) (hi : P.info? e = some i) (hz : i.zero = some z)
  (hsize : i.size = size) (hby : i.bytes = bytes) (hzs : z.cells.size = size) (hsz : 0 < size)
  (v : Value) (n : Nat) (xs : List Value) (hown : w.ownsRow base e size v n xs)
  (B : Nat) (A : Option Addr) (m c : Nat) (news : List Value) (hr : Reads w B size A m news) (h1 : ∀ u ∈ news, u.oneCell' = true)
  (h63 : n + m ≤ maxLen) (hbytes : (n + m) * bytes ≤ 140737488355328) (hbase : base ≤ w.heap.size) :
  ∃ v' w', (Builtin.append_ #[t, t] ty #[v, .slice A m c]).run P w = .ok v' w' ∧ w'.ownsRow base e size v' (n + m) (xs ++ news) ∧ w.grownBy w' v.ownBlock ∧
   (v'.ownBlock = v.ownBlock ∨ v'.ownBlock = some w.heap.size) := by
 rcases A with _ | ad
 ·have hm : m = 0 := by
   rcases Nat.eq_zero_or_pos m with h0 | h0
   ·exact h0
   ·obtain ⟨ad, h, _⟩ := hr.2 h0
    cases h
  subst hm
  have hn : news = [] := List.eq_nil_of_length_eq_zero (by simpa using hr.1)
  subst hn
  exact ⟨v, w, run_append_of_nil w base t ty e i size ht hi v n xs hown c, by simpa using hown, World.grownBy.refl w _, .inl rfl⟩
 ·have hcells : ∀ j u, news[j]? = some u → w.cell? (ad.add j) = some u := by
   intro j u hu
   rcases Nat.eq_zero_or_pos m with h0 | h0
   ·subst h0
    have hn : news = [] := List.eq_nil_of_length_eq_zero (by simpa using hr.1)
    subst hn
    simp at hu
   ·obtain ⟨ad', h, _, hc⟩ := hr.2 h0
    injection h with h
    subst h
    exact hc j u hu
  obtain ⟨v', w', hrun, h2, h3, _, h5⟩ := run_append_own_at (P := P) w base t ty e i z size bytes ht hi hz hsize hby hzs hsz v n xs hown ad m c news hr.1 hcells h1 h63 hbytes hbase
  exact ⟨v', w', hrun, h2, h3, h5⟩
theorem wp_append_any {o : Oper} {a : Act} {K : Act → World → Prop} {Q : Exit → Act → World → Prop} (s x : Operand) (t : TypeId)
  (ho : o.op = .call { callee := .builtin .append, args := #[s, x], argTypes := #[t, t] })
  (base : Nat) (e : TypeId) (i : TypeInfo) (z : Value) (size bytes : Nat) (ht : P.underlying t = some (.slice e)) (hi : P.info? e = some i) (hz : i.zero = some z)
  (hsize : i.size = size) (hby : i.bytes = bytes) (hzs : z.cells.size = size) (hsz : 0 < size)
  (v : Value) (n : Nat) (xs : List Value) (hs : a.eval s = v) (hown : w.ownsRow base e size v n xs)
  (B : Nat) (A : Option Addr) (m c : Nat) (news : List Value) (hx : a.eval x = .slice A m c) (hr : Reads w B size A m news) (h1 : ∀ u ∈ news, u.oneCell' = true)
  (h63 : n + m ≤ maxLen) (hbytes : (n + m) * bytes ≤ 140737488355328) (hbase : base ≤ w.heap.size)
  (h : ∀ v' w', w'.ownsRow base e size v' (n + m) (xs ++ news) → w.grownBy w' v.ownBlock → (v'.ownBlock = v.ownBlock ∨ v'.ownBlock = some w.heap.size) → K (a.put o.dst v') w') : o.wp P a w K Q := by
 obtain ⟨v', w', hrun, h2, h3, h4⟩ := run_append_any (P := P) w base t o.type e i z size bytes ht hi hz hsize hby hzs hsz v n xs hown B A m c news hr h1 h63 hbytes hbase
 unfold Oper.wp execOp
 simp only [ho, resolve, invoke, builtin, Sem.run_bind, Sem.run_pure, Result.andThen_ok, List.map_toArray, List.map_cons, List.map_nil, hs, hx, hrun]
 exact h v' w' h2 h3 h4
theorem wpList_append_any {ops : Array Oper} {rest : List Oper} {o : Oper} {a : Act} {Q : Exit → Act → World → Prop} (hgd : o.guard = none) (s x : Operand) (t : TypeId)
  (ho : o.op = .call { callee := .builtin .append, args := #[s, x], argTypes := #[t, t] })
  (base : Nat) (e : TypeId) (i : TypeInfo) (z : Value) (size bytes : Nat) (ht : P.underlying t = some (.slice e)) (hi : P.info? e = some i) (hz : i.zero = some z)
  (hsize : i.size = size) (hby : i.bytes = bytes) (hzs : z.cells.size = size) (hsz : 0 < size)
  (v : Value) (n : Nat) (xs : List Value) (hs : a.eval s = v) (hown : w.ownsRow base e size v n xs)
  (B : Nat) (A : Option Addr) (m c : Nat) (news : List Value) (hx : a.eval x = .slice A m c) (hr : Reads w B size A m news) (h1 : ∀ u ∈ news, u.oneCell' = true)
  (h63 : n + m ≤ maxLen) (hbytes : (n + m) * bytes ≤ 140737488355328) (hbase : base ≤ w.heap.size)
  (h : ∀ v' w', w'.ownsRow base e size v' (n + m) (xs ++ news) → w.grownBy w' v.ownBlock → (v'.ownBlock = v.ownBlock ∨ v'.ownBlock = some w.heap.size) → wpList P ops Q rest (a.put o.dst v') w') : wpList P ops Q (o :: rest) a w :=
 wpList_plain hgd fun _ hK => wp_append_any w s x t ho base e i z size bytes ht hi hz hsize hby hzs hsz v n xs hs hown B A m c news hx hr h1 h63 hbytes hbase fun v' w' h2 h3 h4 => hK _ _ (h v' w' h2 h3 h4)
theorem step_append_any {ops : Array Oper} {o : Oper} {a : Act} {K : Act → World → Prop} {Q : Exit → Act → World → Prop} {E : Prop} (hgd : o.guard = none) (s x : Operand) (t : TypeId)
  (ho : o.op = .call { callee := .builtin .append, args := #[s, x], argTypes := #[t, t] })
  (base : Nat) (e : TypeId) (i : TypeInfo) (z : Value) (size bytes : Nat) (ht : P.underlying t = some (.slice e)) (hi : P.info? e = some i) (hz : i.zero = some z)
  (hsize : i.size = size) (hby : i.bytes = bytes) (hzs : z.cells.size = size) (hsz : 0 < size)
  (v : Value) (n : Nat) (xs : List Value) (hs : a.eval s = v) (hown : w.ownsRow base e size v n xs)
  (B : Nat) (A : Option Addr) (m c : Nat) (news : List Value) (hx : a.eval x = .slice A m c) (hr : Reads w B size A m news) (h1 : ∀ u ∈ news, u.oneCell' = true)
  (h63 : n + m ≤ maxLen) (hbytes : (n + m) * bytes ≤ 140737488355328) (hbase : base ≤ w.heap.size)
  (h : ∀ v' w', w'.ownsRow base e size v' (n + m) (xs ++ news) → w.grownBy w' v.ownBlock → (v'.ownBlock = v.ownBlock ∨ v'.ownBlock = some w.heap.size) → K (a.put o.dst v') w') :
  if Region.wanted o (yielded ops a.tmps) = true then Oper.wp P o a w K Q else E := by
 have hw : Region.wanted o (yielded ops a.tmps) = true := by simp [Region.wanted, hgd]
 rw [if_pos hw]
 exact wp_append_any w s x t ho base e i z size bytes ht hi hz hsize hby hzs hsz v n xs hs hown B A m c news hx hr h1 h63 hbytes hbase h
end
structure Fr (w w' : World) (p : Nat → Prop) : Prop where
 os : w'.os = w.os
 tape : w'.tape = w.tape
 output : w'.output = w.output
 size : w.heap.size ≤ w'.heap.size
 block : ∀ k, k < w.heap.size → ¬ p k → w'.heap[k]? = w.heap[k]?
section
variable {w w1 w2 : World} {p q : Nat → Prop}
theorem Fr.refl (w : World) (p : Nat → Prop) : Fr w w p := ⟨rfl, rfl, rfl, Nat.le_refl _, fun _ _ _ => rfl⟩
theorem Fr.trans (h1 : Fr w w1 p) (h2 : Fr w1 w2 q) (hq : ∀ k, k < w.heap.size → q k → p k) : Fr w w2 p :=
 ⟨h2.os.trans h1.os, h2.tape.trans h1.tape, h2.output.trans h1.output, Nat.le_trans h1.size h2.size, fun k hk hn =>
  (h2.block k (Nat.lt_of_lt_of_le hk h1.size) (fun hqk => hn (hq k hk hqk))).trans (h1.block k hk hn)⟩
theorem Fr.mono (h : Fr w w1 q) (hq : ∀ k, k < w.heap.size → q k → p k) : Fr w w1 p := (Fr.refl w p).trans h hq
theorem Fr.alloc (h : Fr w w1 p) (o : Obj) : Fr w (w1.alloc o) p :=
 ⟨h.os, h.tape, h.output, Nat.le_trans h.size (by simp), fun k hk hn => (Below.heap_alloc w1 o k (Nat.lt_of_lt_of_le hk h.size)).trans (h.block k hk hn)⟩
theorem Fr.drew (h : Fr w w1 p) : Fr w w1.drew p := ⟨h.os, h.tape, h.output, h.size, h.block⟩
theorem Fr.drewN (h : Fr w w1 p) (n : Nat) : Fr w (w1.drewN n) p := ⟨h.os, h.tape, h.output, h.size, h.block⟩
theorem Fr.set (h : Fr w w1 p) {a : Addr} (ha : a.block < w.heap.size → p a.block) (u : Value) : Fr w (w1.setCell a u) p :=
 ⟨h.os, h.tape, h.output, by simpa [World.setCell] using h.size, fun k hk hn => (Below.heap_setCell w1 a u k (by
  rintro rfl
  exact hn (ha hk))).trans (h.block k hk hn)⟩
theorem Fr.grown {row : Option Nat} (h : Fr w w1 p) (hg : w1.grownBy w2 row) (hr : ∀ k, k < w.heap.size → row = some k → p k) : Fr w w2 p :=
 ⟨hg.os.trans h.os, hg.tape.trans h.tape, hg.output.trans h.output, Nat.le_trans h.size hg.size, fun k hk hn =>
  (hg.block k (Nat.lt_of_lt_of_le hk h.size) (fun e => hn (hr k hk e.symm))).trans (h.block k hk hn)⟩
theorem Fr.below {B : Nat} (h : Fr w w1 p) (hB : B ≤ w.heap.size) (hp : ∀ k, k < B → ¬ p k) : Below B w w1 :=
 ⟨h.os, h.tape, h.output, h.size, fun k hk => h.block k (by omega) (hp k hk)⟩
theorem Fr.of_below {B : Nat} (h : Below B w w1) : Fr w w1 (B ≤ ·) := ⟨h.os, h.tape, h.output, h.size, fun k _ hn => h.block k (by omega)⟩
theorem Fr.of_grown {row : Option Nat} (h : w.grownBy w1 row) : Fr w w1 (fun k => row = some k) := ⟨h.os, h.tape, h.output, h.size, fun k hk hn => h.block k hk (fun e => hn e.symm)⟩
theorem Fr.none_ (h : Fr w w1 p) (hp : ∀ k, k < w.heap.size → ¬ p k) : Below w.heap.size w w1 := h.below (Nat.le_refl _) hp
theorem Blk.fr {g : Nat} {t : TypeId} {cs : Array Value} (h : Blk w g t cs) (hf : Fr w w1 p) (hg : ¬ p g) : Blk w1 g t cs := (hf.block g h.lt hg).trans h
theorem Reads.fr {B size n : Nat} {A : Option Addr} {xs : List Value} (h : Reads w B size A n xs) (hf : Fr w w1 p) (hB : B ≤ w.heap.size) (hp : ∀ k, k < B → ¬ p k) : Reads w1 B size A n xs :=
 h.below (hf.below hB hp)
theorem ownsRow_fr {base : Nat} {e : TypeId} {size n : Nat} {v : Value} {xs : List Value} (h : w.ownsRow base e size v n xs) (hf : Fr w w1 p) (hp : ∀ k, v.ownBlock = some k → ¬ p k) : w1.ownsRow base e size v n xs := by
 refine ⟨h.1, ?_⟩
 rcases h.2 with h2 | ⟨g, cap, cur, rfl, h1, h2, h3⟩
 ·exact .inl h2
 ·exact .inr ⟨g, cap, cur, rfl, h1, (Blk.fr (t := e) h2 hf (hp g rfl)), h3⟩
end
end Go.Proofs.YtmkddhkpeiajhaaGreatDoor
