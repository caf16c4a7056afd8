/-
  Package ere's octal and Quote.
-/
import Derived.Test.YtmkddhkpeiajhaaDoorEreKn
namespace Go.Proofs.YtmkddhkpeiajhaaDoor
open Go.RowKit

/-- a byte as a backslash and three digits -/
def octD (n : Nat) : List UInt8 := [92, UInt8.ofNat (48 + n / 64), UInt8.ofNat (48 + n / 8 % 8), UInt8.ofNat (48 + n % 8)]
def quoteL (l : List UInt8) : List UInt8 := l.flatMap fun c => octD c.toNat

theorem octD_len (n : Nat) : (octD n).length = 4 := rfl
theorem quoteL_len : ∀ l : List UInt8, (quoteL l).length = 4 * l.length
  | [] => rfl
  | c :: l => by
    have := quoteL_len l
    unfold quoteL at this ⊢
    rw [List.flatMap_cons, List.length_append, this, octD_len, List.length_cons]
    omega
theorem quoteL_snoc (l : List UInt8) (c : UInt8) : quoteL (l ++ [c]) = quoteL l ++ octD c.toNat := by
  unfold quoteL
  rw [List.flatMap_append]
  simp
theorem and7 {x : Nat} (h : x < 256) : bits .and .u8 (x : Int) 7 = (x : Int) % 8 := by
  have e1 := u8_and_nat x 7 h (by omega)
  rw [show x &&& 7 = x % 8 from Nat.and_two_pow_sub_one_eq_mod x 3] at e1
  rw [show (7 : Int) = ((7 : Nat) : Int) from rfl, e1]
  omega
theorem bstr_size (a : List UInt8) : (bstr a).size = a.length := rfl
theorem bstr_app (a b : List UInt8) : bstr a ++ bstr b = bstr (a ++ b) := by
  apply ByteArray.ext
  simp [bstr]

end Go.Proofs.YtmkddhkpeiajhaaDoor
