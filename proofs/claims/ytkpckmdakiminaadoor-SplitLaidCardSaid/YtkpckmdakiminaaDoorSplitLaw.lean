/-
  What a splitter computes, as plain functions. No program in sight.
-/
import Derived.Test.YtkpckmdakiminaaDoorBytes
namespace Go.Proofs.YtkpckmdakiminaaDoor
open Go.RowKit

/-- a splitter: what may be, the record under way, whether more was passed over, whether a line feed waits, what has not been looked at -/
structure Sp where
  most : Nat
  got : List UInt8
  over : Bool
  wait : Bool
  rest : List UInt8

def Sp.add (s : Sp) (c : UInt8) : Sp := if s.got.length < s.most then { s with got := s.got ++ [c] } else { s with over := true }
def Sp.take (s : Sp) : Sp := { s with got := [], over := false, wait := false }
def Sp.feed (s : Sp) (b : List UInt8) : Sp := { s with rest := s.rest ++ b }
def Sp.init (most : Nat) : Sp := ⟨most, [], false, false, []⟩

/-- the next record, of one byte as the separator; the bytes that are looked at come apart -/
def nextB (d : UInt8) : Sp → List UInt8 → Option (List UInt8) × Sp
  | s, [] => (none, { s with rest := [] })
  | s, c :: r => if c = d then (some s.got, { s.take with rest := r }) else nextB d (s.add c) r
/-- the next paragraph -/
def nextP : Sp → List UInt8 → Option (List UInt8) × Sp
  | s, [] => (none, { s with rest := [] })
  | s, c :: r =>
    if c = 10 then
      (if s.wait = true then (some s.got, { s.take with rest := r }) else if 0 < s.got.length then nextP { s with wait := true } r else nextP s r)
    else if s.wait = true then nextP ((({ s with wait := false } : Sp).add 10).add c) r else nextP (s.add c) r
/-- the next record -/
def Sp.next (s : Sp) : List UInt8 → Option (List UInt8) × Sp
  | [] => nextP s s.rest
  | d :: _ => if s.wait = true then
      (if (10 : UInt8) = d then (some s.got, s.take) else nextB d (({ s with wait := false } : Sp).add 10) s.rest)
    else nextB d s s.rest
/-- what is left, when nothing more will come -/
def Sp.last (s : Sp) (rs : List UInt8) : Option (List UInt8) × Sp :=
  match s.next rs with
  | (some r, s') => (some r, s')
  | (none, s') => if s'.got = [] ∧ s'.over = false then (none, s') else (some s'.got, s'.take)

theorem Sp.add_rest (s : Sp) (c : UInt8) (r : List UInt8) : ({ s with rest := r } : Sp).add c = { s.add c with rest := r } := by
  unfold Sp.add; split <;> rfl
theorem Sp.rest_rest (s : Sp) (r q : List UInt8) : ({ ({ s with rest := r } : Sp) with rest := q } : Sp) = { s with rest := q } := rfl
theorem Sp.add_most (s : Sp) (c : UInt8) : (s.add c).most = s.most := by unfold Sp.add; split <;> rfl

end Go.Proofs.YtkpckmdakiminaaDoor
