/-
  Plain: what stands between the brackets of chapter 8's examples.
-/
import Derived.Test.YthmjnelnnhidkaaDoorBrkLaw
import Derived.KernelRfl
namespace Go.Proofs.YthmjnelnnhidkaaDoor
theorem bk1 : bracketF ([97, 45, 99, 93, 120] : List UInt8) 0 = some (mOr mNone (mSpan 97 99), 4) := by kernel_rfl
theorem bk2 : bracketF ([94, 93, 97, 93] : List UInt8) 0 = some (mNot (mOr (mOr mNone (mOf [93])) (mOf [97])), 4) := by kernel_rfl
theorem bk3 : bracketF ([93, 93] : List UInt8) 0 = some (mOr mNone (mOf [93]), 2) := by kernel_rfl
theorem bk4 : bracketF ([91, 58, 100, 105, 103, 105, 116, 58, 93, 45, 93] : List UInt8) 0 = some (mOr (mOr mNone (mSpan 48 57)) (mOf [45]), 11) := by kernel_rfl
theorem bk5 : bracketF ([122, 45, 97, 93] : List UInt8) 0 = none := by kernel_rfl
theorem bk6 : bracketF ([97, 98] : List UInt8) 0 = none := by kernel_rfl
theorem bq1 : ∀ b, b < 256 → mOr mNone (mSpan 97 99) b = mOf [97, 98, 99] b := by decide +kernel
theorem bq2 : ∀ b, b < 256 → mNot (mOr (mOr mNone (mOf [93])) (mOf [97])) b = mNot (mOf [93, 97]) b := by decide +kernel
theorem bq3 : ∀ b, b < 256 → mOr mNone (mOf [93]) b = mOf [93] b := by decide +kernel
theorem cn1 : ((cntN (mSpan 97 99) 256 : Nat) : Int) = 3 := by decide +kernel
theorem cn2 : ((cntN (mOr (mOr mNone (mSpan 48 57)) (mOf [45])) 256 : Nat) : Int) = 11 := by decide +kernel
theorem nm1 : classOf ([100, 105, 103, 105, 116] : List UInt8) = some (mSpan 48 57) := by kernel_rfl
theorem nm2 : classOf ([119, 111, 114, 100] : List UInt8) = none := by kernel_rfl
end Go.Proofs.YthmjnelnnhidkaaDoor
