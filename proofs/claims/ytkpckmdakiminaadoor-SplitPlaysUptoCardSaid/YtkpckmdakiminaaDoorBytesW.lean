/-
  The contract of law 7's bytes: each byte turned into one of a few.
-/
import Derived.Test.YtkpckmdakiminaaDoorBytes
import Derived.Test.YtkpckmdakiminaaDoorSlices
import Derived.Deep.QuietTactic
import Derived.BigQuiet
namespace Go.Proofs.YtkpckmdakiminaaDoor
open Go.RowKit

/-- a row of bytes that was made, of the call's own, may be written -/
def WroteB (w : World) (base : Nat) (A : Option Addr) (n : Nat) : Prop := ∃ g cur, A = some ⟨g, 0, none⟩ ∧ base ≤ g ∧ Blk w g 5 cur ∧ ∃ l : List UInt8, l.length = n ∧ cur = (bv l).toArray
theorem WroteB.rd {w : World} {base n : Nat} {A : Option Addr} (h : WroteB w base A n) : ∃ l, RdB w w.heap.size A n l := by
  obtain ⟨g, cur, rfl, _, hb, l, hl, rfl⟩ := h
  refine ⟨l, by rw [bv_length]; omega, fun _ => ⟨_, rfl, hb.lt, fun j u hu => ?_⟩⟩
  rw [Addr.add_lit, Nat.zero_add, hb.cell, List.getElem?_toArray]
  exact hu
theorem WroteB.at_ {w : World} {base n k : Nat} {A : Option Addr} (h : WroteB w base A n) (hk : k < n) : ∃ g, A = some ⟨g, 0, none⟩ ∧ base ≤ g ∧ w.frozen? ⟨g, k, none⟩ = false ∧ (∃ y, w.cell? ⟨g, k, none⟩ = some (.int .u8 y)) ∧ ∀ x : UInt8, WroteB (w.setCell ⟨g, k, none⟩ (.int .u8 (x.toNat : Int))) base A n := by
  obtain ⟨g, cur, rfl, hg, hb, l, hl, rfl⟩ := h
  refine ⟨g, rfl, hg, hb.frozen k, ⟨((l[k]'(by omega)).toNat : Int), by rw [hb.cell, List.getElem?_toArray]; exact bv_get l k (by omega)⟩, fun x => ⟨g, _, rfl, hg, hb.set_ k _, l.set k x, by rw [List.length_set]; exact hl, ?_⟩⟩
  apply Array.ext'
  simp [bv, List.map_set]

theorem made_bytes2 (n : Nat) (hn : n ≤ 140737488355328) : ∃ Z : Array Value, (∃ l : List UInt8, l.length = n ∧ Z = (bv l).toArray) ∧
    ∀ w : World, (Instr.makeSlice 22 (.int .i64 (n : Int)) (.int .i64 (n : Int))).run Tryd.prog w = .ok (.slice (some ⟨w.heap.size, 0, none⟩) n n) (w.alloc (.cells Z 5)) := by
  obtain ⟨i0, hi, hz0, hz1, hz2⟩ := info_parts u8_info
  have hz : madeCells (Value.int .u8 0).cells n = (bv (List.replicate n 0)).toArray := by
    apply Array.ext'
    simp [madeCells, Value.cells, bv]
    refine List.ext_getElem (by simp) fun i h1 h2 => ?_
    simp [Nat.mod_one]
  refine ⟨madeCells (Value.int .u8 0).cells n, ⟨List.replicate n 0, List.length_replicate .., hz⟩, fun w => ?_⟩
  have hr := run_make (P := Tryd.prog) w 22 5 i0 (.int .u8 0) Tryd.underlying22 hi hz0 .i64 .i64 n n (by omega) (Int.le_refl _) (by rw [hz2]; omega) (by omega)
  rw [hz1] at hr
  simpa using hr

set_option maxRecDepth 100000 in
set_option maxHeartbeats 1000000 in
theorem bytesW_new (A : Option Addr) (n c : Nat) (l : List UInt8) (w : World) (hr : RdB w w.heap.size A n l) (hn : n ≤ 100000000) :
    Calls Tryd.prog 7 #[.slice A n c] w fun e w' => ∃ l', e = .returned (.slice (some ⟨w.heap.size, 0, none⟩) n n) ∧ RdB w' w'.heap.size (some ⟨w.heap.size, 0, none⟩) n l' ∧ Below w.heap.size w w' := by
  obtain ⟨Z, ⟨l0, hl0, hZ⟩, hmk⟩ := made_bytes2 n (by omega)
  have hl0 := Lib.hid hl0
  have hZ := Lib.hid hZ
  go_enter Tryd.func7, Tryd.ntmps7
  go_wp2_with fail
  go_loopw [4] (fun i wr => ∃ j : Nat, j ≤ n ∧ i = .int .i64 (j : Int) ∧ WroteB wr w.heap.size (some ⟨w.heap.size, 0, none⟩) n ∧ Below w.heap.size w wr) (fun i _ => n - (intOf i).toNat)
  case atStart => exact ⟨0, by omega, rfl, ⟨_, _, rfl, Nat.le_refl _, by rw [← hZ.out]; exact Blk.new _ _ _, l0, hl0.out, rfl⟩, (Below.refl _ _).alloc (Nat.le_refl _) _⟩
  case round =>
    obtain ⟨j, hj, rfl, hwr, hbw⟩ := hrel
    by_cases hlt : j < n
    · have hlti : (j : Int) < (n : Int) := by omega
      obtain ⟨b, off, rfl, hb, hc1⟩ := (hr.below hbw).at_ hlt
      obtain ⟨g, hA, hg, hfz, ⟨y, hy⟩, hset⟩ := hwr.at_ hlt
      injection hA with hA
      injection hA with hA
      subst hA
      obtain ⟨x, hx⟩ : ∃ x : UInt8, Hid (l[j]?.getD 0 = x) := ⟨_, rfl⟩
      rw [hx.out] at hc1
      have hx7 := x.toNat_lt
      go_wp2_with fail
      go_roundw
      case rel => exact ⟨j + 1, by omega, by go_num, hset _, hbw.setCell hg _⟩
      case measure => simp [intOf]; omega
    · obtain rfl : j = n := by omega
      obtain ⟨l', hl'⟩ := hwr.rd
      go_wp2_with fail
      go_ret
      exact ⟨l', rfl, hl', hbw⟩

theorem bytesW_any (A : Option Addr) (n c : Nat) (l : List UInt8) (w : World) (hr : RdB w w.heap.size A n l) (hn : n ≤ 100000) :
    Calls Tryd.prog 7 #[.slice A n c] w fun e w' => ∃ A' l', e = .returned (.slice A' n n) ∧ RdB w' w'.heap.size A' n l' ∧ Below w.heap.size w w' :=
  (bytesW_new A n c l w hr (by omega)).mono fun _ _ ⟨l', h⟩ => ⟨_, l', h⟩

end Go.Proofs.YtkpckmdakiminaaDoor
