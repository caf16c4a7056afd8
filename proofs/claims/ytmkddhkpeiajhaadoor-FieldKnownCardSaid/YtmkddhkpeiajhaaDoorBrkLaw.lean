/-
  Plain: sets of bytes as predicates, the names of classes, and what stands between brackets (chapter 8), as functions on lists of bytes.
-/
import Derived.Test.YtmkddhkpeiajhaaDoorSetLaw
namespace Go.Proofs.YtmkddhkpeiajhaaDoor

/-- a set of bytes -/
abbrev Mem := Nat → Bool
def mNone : Mem := fun _ => false
def mOr (p q : Mem) : Mem := fun b => p b || q b
def mNot (p : Mem) : Mem := fun b => !p b
def mSpan (a z : Nat) : Mem := fun b => decide (a ≤ b) && decide (b ≤ z)
def mOf (l : List UInt8) : Mem := fun b => l.any fun x => b == x.toNat

/-- the word of 64 bytes -/
def word (p : Mem) (i : Nat) : Nat := nbits (fun j => p (64 * i + j)) 64
theorem word_lt (p : Mem) (i : Nat) : word p i < 18446744073709551616 := nbits_lt _ 64
theorem word_congr {p q : Mem} (h : ∀ b, b < 256 → p b = q b) {i : Nat} (hi : i < 4) : word p i = word q i := nbits_congr fun j hj => h _ (by omega)
theorem word_or (p q : Mem) (i : Nat) : word p i ||| word q i = word (mOr p q) i := nbits_or _ _ 64
theorem word_not (p : Mem) (i : Nat) : 18446744073709551615 ^^^ word p i = word (mNot p) i := nbits_not _ 64
theorem word_has (p : Mem) (b : Nat) : word p (b / 64) / 2 ^ (b % 64) % 2 = (p b).toNat := by
  have h := nbits_has (fun j => p (64 * (b / 64) + j)) 64 (b % 64) (Nat.mod_lt _ (by omega))
  rw [Nat.div_add_mod] at h
  exact h
/-- with a byte more -/
def mWith (p : Mem) (b : Nat) : Mem := fun x => p x || x == b
theorem word_with (p : Mem) (b : Nat) : word p (b / 64) ||| 2 ^ (b % 64) = word (mWith p b) (b / 64) := by
  show nbits _ 64 ||| _ = nbits _ 64
  rw [nbits_set _ 64 (b % 64) (Nat.mod_lt _ (by omega))]
  refine nbits_congr fun j hj => ?_
  show (_ || _) = (_ || _)
  congr 1
  have := Nat.div_add_mod b 64
  rw [Bool.eq_iff_iff, beq_iff_eq, beq_iff_eq]
  omega
theorem word_other (p : Mem) (b i : Nat) (hi : i ≠ b / 64) : word (mWith p b) i = word p i := by
  refine nbits_congr fun j hj => ?_
  have h : ((64 * i + j) == b) = false := by
    rw [beq_eq_false_iff_ne]
    intro e
    omega
  show (p _ || _) = _
  rw [h, Bool.or_false]
theorem cnt_words (p : Mem) : cntN (fun j => (word p 0).testBit j) 64 + cntN (fun j => (word p 1).testBit j) 64 + cntN (fun j => (word p 2).testBit j) 64 + cntN (fun j => (word p 3).testBit j) 64 = cntN p 256 := by
  have h : ∀ i, cntN (fun j => (word p i).testBit j) 64 = sumN (fun j => (p (64 * i + j)).toNat) 64 := fun i => sumN_congr 64 fun j hj => by
    show (Nat.testBit (nbits _ 64) j).toNat = _
    rw [nbits_bit]
    simp [hj]
  rw [h, h, h, h]
  have s1 := sumN_split (fun j => (p j).toNat) 64 192
  have s2 := sumN_split (fun j => (p (64 + j)).toNat) 64 128
  have s3 := sumN_split (fun j => (p (64 + (64 + j))).toNat) 64 64
  have e1 : sumN (fun j => (p (64 * 0 + j)).toNat) 64 = sumN (fun j => (p j).toNat) 64 := sumN_congr 64 fun j _ => by rw [Nat.mul_zero, Nat.zero_add]
  have e3 : sumN (fun j => (p (64 * 2 + j)).toNat) 64 = sumN (fun j => (p (64 + (64 + j))).toNat) 64 := sumN_congr 64 fun j _ => by rw [← Nat.add_assoc]
  have e4 : sumN (fun j => (p (64 * 3 + j)).toNat) 64 = sumN (fun j => (p (64 + (64 + (64 + j)))).toNat) 64 := sumN_congr 64 fun j _ => by rw [← Nat.add_assoc, ← Nat.add_assoc]
  have e2 : sumN (fun j => (p (64 * 1 + j)).toNat) 64 = sumN (fun j => (p (64 + j)).toNat) 64 := rfl
  rw [e1, e2, e3, e4]
  show _ = sumN (fun j => (p j).toNat) (64 + 192)
  rw [s1]
  show _ = _ + sumN (fun j => (p (64 + j)).toNat) (64 + 128)
  rw [s2]
  show _ = _ + (_ + sumN (fun j => (p (64 + (64 + j))).toNat) (64 + 64))
  rw [s3]
  omega
/-- any four words are a set's -/
theorem word_any (x0 x1 x2 x3 : Nat) (h0 : x0 < 2 ^ 64) (h1 : x1 < 2 ^ 64) (h2 : x2 < 2 ^ 64) (h3 : x3 < 2 ^ 64) : ∃ p : Mem, x0 = word p 0 ∧ x1 = word p 1 ∧ x2 = word p 2 ∧ x3 = word p 3 := by
  refine ⟨fun b => if b < 64 then x0.testBit b else if b < 128 then x1.testBit (b - 64) else if b < 192 then x2.testBit (b - 128) else x3.testBit (b - 192), ?_, ?_, ?_, ?_⟩
  · refine (nbits_of x0 64 h0).symm.trans (nbits_congr fun j hj => ?_)
    dsimp only
    rw [if_pos (by omega)]
    rw [show 64 * 0 + j = j by omega]
  · refine (nbits_of x1 64 h1).symm.trans (nbits_congr fun j hj => ?_)
    dsimp only
    rw [if_neg (by omega), if_pos (by omega)]
    rw [show 64 * 1 + j - 64 = j by omega]
  · refine (nbits_of x2 64 h2).symm.trans (nbits_congr fun j hj => ?_)
    dsimp only
    rw [if_neg (by omega), if_neg (by omega), if_pos (by omega)]
    rw [show 64 * 2 + j - 128 = j by omega]
  · refine (nbits_of x3 64 h3).symm.trans (nbits_congr fun j hj => ?_)
    dsimp only
    rw [if_neg (by omega), if_neg (by omega), if_neg (by omega)]
    rw [show 64 * 3 + j - 192 = j by omega]
theorem word_inj {p q : Mem} (h : ∀ i, i < 4 → word p i = word q i) : ∀ b, b < 256 → p b = q b := fun b hb => by
  have h1 := nbits_inj (h (b / 64) (by omega)) (Nat.mod_lt b (show 0 < 64 by omega))
  rwa [Nat.div_add_mod] at h1

/-! chapter 8's classes -/
def strL (s : List Char) : List UInt8 := s.map fun c => UInt8.ofNat c.toNat
/-- the class of a name -/
def classOf (s : List UInt8) : Option Mem :=
  if s = [97, 108, 112, 104, 97] then some (mOr (mSpan 65 90) (mSpan 97 122))
  else if s = [100, 105, 103, 105, 116] then some (mSpan 48 57)
  else if s = [97, 108, 110, 117, 109] then some (mOr (mOr (mSpan 65 90) (mSpan 97 122)) (mSpan 48 57))
  else if s = [117, 112, 112, 101, 114] then some (mSpan 65 90)
  else if s = [108, 111, 119, 101, 114] then some (mSpan 97 122)
  else if s = [115, 112, 97, 99, 101] then some (mOr (mSpan 9 13) (mOf [32]))
  else if s = [98, 108, 97, 110, 107] then some (mOf [9, 32])
  else if s = [112, 117, 110, 99, 116] then some (mOr (mOr (mOr (mSpan 33 47) (mSpan 58 64)) (mSpan 91 96)) (mSpan 123 126))
  else if s = [112, 114, 105, 110, 116] then some (mSpan 32 126)
  else if s = [103, 114, 97, 112, 104] then some (mSpan 33 126)
  else if s = [99, 110, 116, 114, 108] then some (mOr (mSpan 0 31) (mOf [127]))
  else if s = [120, 100, 105, 103, 105, 116] then some (mOr (mOr (mSpan 48 57) (mSpan 65 70)) (mSpan 97 102))
  else none

/-! what stands between brackets -/
def isOct (c : UInt8) : Bool := decide (48 ≤ c.toNat) && decide (c.toNat ≤ 55)
/-- octal digits from a place on, at most k more: the number, and where they end -/
def octF (l : List UInt8) : Nat → Nat → Nat → Nat × Nat
  | 0, at_, n => (n, at_)
  | k + 1, at_, n =>
    match l[at_]? with
    | some d => if isOct d then octF l k (at_ + 1) (8 * n + (d.toNat - 48)) else (n, at_)
    | none => (n, at_)
/-- an end of a range, or a byte: the byte, and where it ends -/
def endF (l : List UInt8) (at_ : Nat) : Option (Nat × Nat) :=
  match l[at_]? with
  | none => none
  | some c =>
    if c ≠ 92 then some (c.toNat, at_ + 1)
    else match l[at_ + 1]? with
      | none => none
      | some e =>
        if e = 110 then some (10, at_ + 2)
        else if e = 116 then some (9, at_ + 2)
        else if isOct e then (let r := octF l 2 (at_ + 2) (e.toNat - 48); some (r.1 % 256, r.2))
        else some (e.toNat, at_ + 2)
/-- the place of the next ':]' from k on -/
def closeF (l : List UInt8) : Nat → Nat → Option Nat
  | 0, _ => none
  | fuel + 1, k => if k + 1 < l.length then (if l[k]? = some 58 ∧ l[k + 1]? = some 93 then some k else closeF l fuel (k + 1)) else none
def opensF (l : List UInt8) (at_ : Nat) : Bool := l[at_]? == some 91 && l[at_ + 1]? == some 58
/-- a class by its name -/
def namedF (l : List UInt8) (at_ : Nat) : Option (Mem × Nat) :=
  match closeF l l.length (at_ + 2) with
  | none => none
  | some k =>
    match classOf ((l.take k).drop (at_ + 2)) with
    | none => none
    | some m => some (m, k + 2)
/-- a class, a byte, or a range -/
def itemF (l : List UInt8) (at_ : Nat) : Option (Mem × Nat) :=
  if opensF l at_ then namedF l at_
  else match endF l at_ with
    | none => none
    | some (a, at1) =>
      if l[at1]? = some 45 ∧ at1 + 1 < l.length ∧ l[at1 + 1]? ≠ some 93 then
        (if opensF l (at1 + 1) then none
         else match endF l (at1 + 1) with
          | none => none
          | some (b, at2) => if a ≤ b then some (mSpan a b, at2) else none)
      else some (mOf [UInt8.ofNat a], at1)
/-- the items up to the bracket that closes -/
def itemsF (l : List UInt8) : Nat → Nat → Bool → Mem → Option (Mem × Nat)
  | 0, _, _, _ => none
  | fuel + 1, at_, first, m =>
    if !first && l[at_]? == some 93 then some (m, at_)
    else match itemF l at_ with
      | none => none
      | some (x, at1) => itemsF l fuel at1 false (mOr m x)
def bracketF (l : List UInt8) (at_ : Int) : Option (Mem × Nat) :=
  if at_ < 0 ∨ (l.length : Int) < at_ then none
  else
    let not_ := l[at_.toNat]? == some 94
    match itemsF l (l.length + 1) (if not_ then at_.toNat + 1 else at_.toNat) true mNone with
    | none => none
    | some (m, e) => some (if not_ then mNot m else m, e + 1)

end Go.Proofs.YtmkddhkpeiajhaaDoor
