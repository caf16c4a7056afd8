/-
  The contract of law 7's bytes: each byte turned into one of a few.
-/
import Derived.Test.YtkpckmdakiminaaDoorBytes
import Derived.Test.YtkpckmdakiminaaDoorSlices
import Derived.Deep.QuietTactic
import Derived.BigQuiet
namespace Go.Proofs.YtkpckmdakiminaaDoor
open Go.RowKit

/-- a row of bytes that was made, of the call's own, may be written -/
def WroteB (w : World) (base : Nat) (A : Option Addr) (n : Nat) : Prop := ∃ g cur, A = some ⟨g, 0, none⟩ ∧ base ≤ g ∧ Blk w g 5 cur ∧ ∃ l : List UInt8, l.length = n ∧ cur = (bv l).toArray
theorem WroteB.rd {w : World} {base n : Nat} {A : Option Addr} (h : WroteB w base A n) : ∃ l, RdB w w.heap.size A n l := by
  obtain ⟨g, cur, rfl, _, hb, l, hl, rfl⟩ := h
  refine ⟨l, by rw [bv_length]; omega, fun _ => ⟨_, rfl, hb.lt, fun j u hu => ?_⟩⟩
  rw [Addr.add_lit, Nat.zero_add, hb.cell, List.getElem?_toArray]
  exact hu
theorem WroteB.at_ {w : World} {base n k : Nat} {A : Option Addr} (h : WroteB w base A n) (hk : k < n) : ∃ g, A = some ⟨g, 0, none⟩ ∧ base ≤ g ∧ w.frozen? ⟨g, k, none⟩ = false ∧ (∃ y, w.cell? ⟨g, k, none⟩ = some (.int .u8 y)) ∧ ∀ x : UInt8, WroteB (w.setCell ⟨g, k, none⟩ (.int .u8 (x.toNat : Int))) base A n := by
  obtain ⟨g, cur, rfl, hg, hb, l, hl, rfl⟩ := h
  refine ⟨g, rfl, hg, hb.frozen k, ⟨((l[k]'(by omega)).toNat : Int), by rw [hb.cell, List.getElem?_toArray]; exact bv_get l k (by omega)⟩, fun x => ⟨g, _, rfl, hg, hb.set_ k _, l.set k x, by rw [List.length_set]; exact hl, ?_⟩⟩
  apply Array.ext'
  simp [bv, List.map_set]

theorem made_bytes2 (n : Nat) (hn : n ≤ 140737488355328) : ∃ Z : Array Value, (∃ l : List UInt8, l.length = n ∧ Z = (bv l).toArray) ∧
    ∀ w : World, (Instr.makeSlice 22 (.int .i64 (n : Int)) (.int .i64 (n : Int))).run Tryd.prog w = .ok (.slice (some ⟨w.heap.size, 0, none⟩) n n) (w.alloc (.cells Z 5)) := by
  obtain ⟨i0, hi, hz0, hz1, hz2⟩ := info_parts u8_info
  have hz : madeCells (Value.int .u8 0).cells n = (bv (List.replicate n 0)).toArray := by
    apply Array.ext'
    simp [madeCells, Value.cells, bv]
    refine List.ext_getElem (by simp) fun i h1 h2 => ?_
    simp [Nat.mod_one]
  refine ⟨madeCells (Value.int .u8 0).cells n, ⟨List.replicate n 0, List.length_replicate .., hz⟩, fun w => ?_⟩
  have hr := run_make (P := Tryd.prog) w 22 5 i0 (.int .u8 0) Tryd.underlying22 hi hz0 .i64 .i64 n n (by omega) (Int.le_refl _) (by rw [hz2]; omega) (by omega)
  rw [hz1] at hr
  simpa using hr

/-- one byte of a few -/
def fewOf (x : UInt8) : UInt8 := ([97, 98, 10, 59, 10, 10, 99] : List UInt8)[x.toNat % 7]'(by have := Nat.mod_lt x.toNat (show 0 < 7 by decide); simpa using this)
def fewB (l : List UInt8) : List UInt8 := l.map fewOf
/-- a row of bytes that was made, whose first cells are known -/
def WroteF (w : World) (base : Nat) (A : Option Addr) (n j : Nat) (L : List UInt8) : Prop := ∃ g, A = some ⟨g, 0, none⟩ ∧ base ≤ g ∧ ∃ l : List UInt8, l.length = n ∧ l.take j = L.take j ∧ Blk w g 5 (bv l).toArray
theorem WroteF.at_ {w : World} {base n j : Nat} {A : Option Addr} {L : List UInt8} (h : WroteF w base A n j L) (hk : j < n) (hL : L.length = n) : ∃ g, A = some ⟨g, 0, none⟩ ∧ base ≤ g ∧ w.frozen? ⟨g, j, none⟩ = false ∧ (∃ y, w.cell? ⟨g, j, none⟩ = some (.int .u8 y)) ∧
    ∀ x : UInt8, L[j]? = some x → WroteF (w.setCell ⟨g, j, none⟩ (.int .u8 (x.toNat : Int))) base A n (j + 1) L := by
  obtain ⟨g, rfl, hg, l, hl, ht, hb⟩ := h
  refine ⟨g, rfl, hg, hb.frozen j, ⟨((l[j]'(by omega)).toNat : Int), by rw [hb.cell, List.getElem?_toArray]; exact bv_get l j (by omega)⟩, fun x hx => ⟨g, rfl, hg, l.set j x, by rw [List.length_set]; exact hl, ?_, ?_⟩⟩
  · obtain ⟨hjl, e⟩ := List.getElem?_eq_some_iff.1 hx
    rw [List.take_succ_eq_append_getElem hjl, ← ht, e, List.take_succ_eq_append_getElem (by rw [List.length_set]; omega), List.getElem_set_self]
    congr 1
    rw [List.take_set_of_le (Nat.le_refl _)]
  · have := hb.set_ j (.int .u8 (x.toNat : Int))
    have e : (bv l).toArray.setIfInBounds j (.int .u8 (x.toNat : Int)) = (bv (l.set j x)).toArray := by
      apply Array.ext'
      simp [bv, List.map_set]
    rwa [e] at this
theorem WroteF.rd {w : World} {base n : Nat} {A : Option Addr} {L : List UInt8} (h : WroteF w base A n n L) (hL : L.length = n) : RdB w w.heap.size A n L := by
  obtain ⟨g, rfl, hg, l, hl, ht, hb⟩ := h
  rw [List.take_of_length_le (by omega), List.take_of_length_le (by omega)] at ht
  subst ht
  refine ⟨by rw [bv_length]; omega, fun _ => ⟨_, rfl, hb.lt, fun j u hu => ?_⟩⟩
  rw [Addr.add_lit, Nat.zero_add, hb.cell, List.getElem?_toArray]
  exact hu

set_option maxRecDepth 100000 in
set_option maxHeartbeats 1000000 in
theorem few_any (A : Option Addr) (n c : Nat) (l : List UInt8) (w : World) (hr : RdB w w.heap.size A n l) (hn : n ≤ 100000000) :
    Calls Tryd.prog 7 #[.slice A n c] w fun e w' => e = .returned (.slice (some ⟨w.heap.size, 0, none⟩) n n) ∧ RdB w' w'.heap.size (some ⟨w.heap.size, 0, none⟩) n (fewB l) ∧ Below w.heap.size w w' := by
  obtain ⟨Z, ⟨l0, hl0, hZ⟩, hmk⟩ := made_bytes2 n (by omega)
  have hl0 := Lib.hid hl0
  have hZ := Lib.hid hZ
  have hlen : Hid (l.length = n) := hr.len
  have hFl : Hid ((fewB l).length = n) := by show _ = _; unfold fewB; rw [List.length_map]; exact hlen.out
  go_enter Tryd.func7, Tryd.ntmps7
  go_wp2_with fail
  go_loopw [4] (fun i wr => ∃ j : Nat, j ≤ n ∧ i = .int .i64 (j : Int) ∧ WroteF wr w.heap.size (some ⟨w.heap.size, 0, none⟩) n j (fewB l) ∧ Below w.heap.size w wr) (fun i _ => n - (intOf i).toNat)
  case atStart => exact ⟨0, by omega, rfl, ⟨_, rfl, Nat.le_refl _, l0, hl0.out, rfl, by rw [← hZ.out]; exact Blk.new _ _ _⟩, (Below.refl _ _).alloc (Nat.le_refl _) _⟩
  case round =>
    obtain ⟨j, hj, rfl, hwr, hbw⟩ := hrel
    by_cases hlt : j < n
    · have hlti : (j : Int) < (n : Int) := by omega
      obtain ⟨b, off, rfl, hb, hc1⟩ := (hr.below hbw).at_ hlt
      obtain ⟨g, hA, hg, hfz, ⟨y, hy⟩, hset⟩ := hwr.at_ hlt hFl.out
      injection hA with hA
      injection hA with hA
      subst hA
      obtain ⟨x, hx⟩ : ∃ x : UInt8, Hid (l[j]? = some x) := ⟨_, List.getElem?_eq_getElem (by rw [hlen.out]; exact hlt)⟩
      have hxe : l[j]?.getD 0 = x := by rw [hx.out]; rfl
      rw [hxe] at hc1
      have hset2 := Lib.hid (hset (fewOf x) (by unfold fewB; rw [List.getElem?_map, hx.out]; rfl))
      have hx7 := x.toNat_lt
      clear hxe hset
      go_wp2_with fail
      go_roundw
      case rel => exact ⟨j + 1, by omega, by go_num, hset2.out, hbw.setCell hg _⟩
      case measure => simp [intOf]; omega
    · obtain rfl : j = n := by omega
      have hl' := hwr.rd hFl.out
      clear hwr
      go_wp2_with fail
      go_ret
      exact ⟨rfl, hl', hbw⟩

theorem bytesW_new (A : Option Addr) (n c : Nat) (l : List UInt8) (w : World) (hr : RdB w w.heap.size A n l) (hn : n ≤ 100000000) :
    Calls Tryd.prog 7 #[.slice A n c] w fun e w' => ∃ l', e = .returned (.slice (some ⟨w.heap.size, 0, none⟩) n n) ∧ RdB w' w'.heap.size (some ⟨w.heap.size, 0, none⟩) n l' ∧ Below w.heap.size w w' :=
  (few_any A n c l w hr hn).mono fun _ _ h => ⟨_, h⟩
theorem bytesW_any (A : Option Addr) (n c : Nat) (l : List UInt8) (w : World) (hr : RdB w w.heap.size A n l) (hn : n ≤ 100000) :
    Calls Tryd.prog 7 #[.slice A n c] w fun e w' => ∃ A' l', e = .returned (.slice A' n n) ∧ RdB w' w'.heap.size A' n l' ∧ Below w.heap.size w w' :=
  (bytesW_new A n c l w hr (by omega)).mono fun _ _ ⟨l', h⟩ => ⟨_, l', h⟩

end Go.Proofs.YtkpckmdakiminaaDoor
