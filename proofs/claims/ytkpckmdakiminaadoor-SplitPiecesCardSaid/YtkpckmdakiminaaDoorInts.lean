/-
  Slices of ints that are read.
-/
import Derived.Test.YtkpckmdakiminaaDoorKit
import Derived.Test.YtkpckmdakiminaaDoorProg
namespace Go.Proofs.YtkpckmdakiminaaDoor
open Go.RowKit

def RdI (w : World) (B : Nat) (A : Option Addr) (n : Nat) (ks : List Int) : Prop := Reads w B 1 A n (ks.map (Value.int .i64))
section
variable {w w' : World} {B B' n : Nat} {A : Option Addr} {ks : List Int}
theorem RdI.len (h : RdI w B A n ks) : ks.length = n := by have := h.1; rw [List.length_map] at this; omega
theorem RdI.nil : RdI w B A 0 [] := ⟨rfl, fun h => absurd h (by omega)⟩
theorem RdI.below (h : RdI w B A n ks) (hb : Below B w w') : RdI w' B A n ks := Reads.below h hb
theorem RdI.more (h : RdI w B A n ks) (hB : B ≤ B') : RdI w B' A n ks := Reads.more h hB
theorem RdI.drewN (h : RdI w B A n ks) (k : Nat) : RdI (w.drewN k) B A n ks := h
theorem RdI.alloc (h : RdI w B A n ks) (hB : B ≤ w.heap.size) (o : Obj) : RdI (w.alloc o) B A n ks := Reads.alloc h hB o
theorem RdI.at_ (h : RdI w B A n ks) {k : Nat} (hk : k < n) : ∃ b off x, A = some ⟨b, off, none⟩ ∧ b < B ∧ ks[k]? = some x ∧ w.cell? ⟨b, off + k, none⟩ = some (.int .i64 x) := by
  obtain ⟨ad, rfl, hb, hall⟩ := h.2 (by omega)
  have hl : k < ks.length := by rw [h.len]; exact hk
  have hc := hall k (.int .i64 ks[k]) (by rw [List.getElem?_map, List.getElem?_eq_getElem hl]; rfl)
  have h0 := hall 0 (.int .i64 (ks[0]'(by omega))) (by rw [List.getElem?_map, List.getElem?_eq_getElem (by omega)]; rfl)
  obtain ⟨b, off, sp⟩ := ad
  have hsp : sp = none := by simpa [Addr.add] using World.cell?_spot h0
  subst hsp
  rw [Addr.add_lit] at hc
  exact ⟨b, off, ks[k], rfl, hb, List.getElem?_eq_getElem hl, hc⟩
theorem RdI.upto (h : RdI w B A n ks) {k : Nat} (hk : k ≤ n) : RdI w B A k (ks.take k) := by
  have hlen := h.len
  refine ⟨by rw [List.length_map, List.length_take]; omega, fun hn => ?_⟩
  obtain ⟨ad, e, hb, hc⟩ := h.2 (by omega)
  refine ⟨ad, e, hb, fun j u hu => hc j u ?_⟩
  rw [List.getElem?_map, List.getElem?_take] at hu
  rw [List.getElem?_map]
  split at hu
  · exact hu
  · cases hu
end

end Go.Proofs.YtkpckmdakiminaaDoor
