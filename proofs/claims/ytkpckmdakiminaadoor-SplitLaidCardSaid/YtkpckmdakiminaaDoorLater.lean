/-
  'Later w w'': the second world is the first with new blocks alone. What is read, what is owned, stays.
-/
import Derived.Test.YtkpckmdakiminaaDoorBytes
namespace Go.Proofs.YtkpckmdakiminaaDoor
open Go.RowKit

def Later (w w' : World) : Prop := Below w.heap.size w w'
section
variable {w w1 w2 w' : World}
theorem Later.refl (w : World) : Later w w := Below.refl _ _
theorem Later.trans (h1 : Later w w1) (h2 : Later w1 w2) : Later w w2 := Below.trans h1 (Below.mono h2 h1.size)
theorem Later.alloc (h : Later w w1) (o : Obj) : Later w (w1.alloc o) := Below.alloc h h.size o
theorem Later.drew (h : Later w w1) : Later w w1.drew := ⟨h.os, h.tape, h.output, h.size, h.block⟩
theorem Later.drewN (h : Later w w1) (n : Nat) : Later w (w1.drewN n) := ⟨h.os, h.tape, h.output, h.size, h.block⟩
theorem Later.size (h : Later w w1) : w.heap.size ≤ w1.heap.size := Below.size h
theorem Later.below {B : Nat} (h : Later w w1) (hB : B ≤ w.heap.size) : Below B w w1 := Below.mono h hB
theorem Later.cell (h : Later w w1) {p : Addr} (hp : p.block < w.heap.size) : w1.cell? p = w.cell? p := Below.cell h hp
theorem Later.grown {row : Option Nat} (h : Later w w1) (hg : w1.grownBy w2 row) (hr : ∀ k, row = some k → w.heap.size ≤ k) : Later w w2 := Below.grown h hg h.size hr
theorem RdB.later {n : Nat} {A : Option Addr} {l : List UInt8} (h : RdB w w.heap.size A n l) (hl : Later w w') : RdB w' w'.heap.size A n l := (RdB.below h hl).more hl.size
theorem RdB.later' {B n : Nat} {A : Option Addr} {l : List UInt8} (h : RdB w B A n l) (hB : B ≤ w.heap.size) (hl : Later w w') : RdB w' B A n l := RdB.below h (hl.below hB)
theorem OwnB.later {base n c : Nat} {A : Option Addr} {l : List UInt8} (h : OwnB w base A n c l) (hl : Later w w') : OwnB w' base A n c l := OwnB.below h hl (fun k hk => (h.lt k hk).2)
theorem later_lit {w w' : World} {x : Int} (h0 : 0 ≤ x) (h1 : x < 256) (hl : Later (w.alloc (.cells #[.int .u8 x] 5)) w') : RdB w' w'.heap.size (some ⟨w.heap.size, 0, none⟩) 1 [byt x] := by
  have h := rd_byt w h0 h1
  have hs : (w.alloc (.cells #[.int .u8 x] 5)).heap.size = w.heap.size + 1 := by simp
  rw [← hs] at h
  exact h.later hl
theorem own_apart {b1 b2 n1 n2 c1 c2 : Nat} {A1 A2 : Option Addr} {l1 l2 : List UInt8} (h1 : OwnB w1 b1 A1 n1 c1 l1) (h2 : OwnB w2 b2 A2 n2 c2 l2) (hb : w1.heap.size ≤ b2) : ob A2 = none ∨ ob A2 ≠ ob A1 := by
  by_cases h : ob A2 = none
  · exact .inl h
  · refine .inr fun e => ?_
    obtain ⟨k, hk⟩ := Option.ne_none_iff_exists'.1 h
    have a := (h2.lt k hk).1
    have b := (h1.lt k (by rw [← e]; exact hk)).2
    omega
theorem own_apart' {b1 b2 n1 n2 c1 c2 : Nat} {A1 A2 : Option Addr} {l1 l2 : List UInt8} (h1 : OwnB w1 b1 A1 n1 c1 l1) (h2 : OwnB w2 b2 A2 n2 c2 l2) (hb : w2.heap.size ≤ b1) : ob A2 = none ∨ ob A2 ≠ ob A1 := by
  by_cases h : ob A2 = none
  · exact .inl h
  · refine .inr fun e => ?_
    obtain ⟨k, hk⟩ := Option.ne_none_iff_exists'.1 h
    have a := (h2.lt k hk).2
    have b := (h1.lt k (by rw [← e]; exact hk)).1
    omega
end

end Go.Proofs.YtkpckmdakiminaaDoor
