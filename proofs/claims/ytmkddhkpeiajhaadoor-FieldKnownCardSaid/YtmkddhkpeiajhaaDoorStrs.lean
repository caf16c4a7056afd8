/-
  Slices of strings of the call's own: append of one string; strs of two that are the same.
-/
import Derived.Test.YtmkddhkpeiajhaaDoorSlices
import Derived.Deep.QuietTactic
import Derived.BigQuiet
namespace Go.Proofs.YtmkddhkpeiajhaaDoor
open Go.RowKit

def strCell (l : List UInt8) : Value := .string (bstr l)
/-- strings that are read; of the call's own -/
def RdZ (w : World) (B : Nat) (A : Option Addr) (n : Nat) (ss : List (List UInt8)) : Prop := Reads w B 1 A n (ss.map strCell)
def OwnZ (w : World) (base : Nat) (A : Option Addr) (n c : Nat) (ss : List (List UInt8)) : Prop := w.ownsRow base 9 1 (.slice A n c) n (ss.map strCell)
theorem string_info : (Tryd.prog.info? 9).map (fun i => (i.zero, i.size, i.bytes)) = some (some (.string ⟨#[]⟩), 1, 16) := by kernel_rfl
section
variable {w w' : World} {base n c B B' : Nat} {A : Option Addr} {ss : List (List UInt8)}
theorem RdZ.len (h : RdZ w B A n ss) : ss.length = n := by have := h.1; rw [List.length_map] at this; omega
theorem RdZ.below (h : RdZ w B A n ss) (hb : Below B w w') : RdZ w' B A n ss := Reads.below h hb
theorem RdZ.more (h : RdZ w B A n ss) (hB : B ≤ B') : RdZ w B' A n ss := Reads.more h hB
theorem RdZ.drewN (h : RdZ w B A n ss) (k : Nat) : RdZ (w.drewN k) B A n ss := h
theorem RdZ.at_ (h : RdZ w B A n ss) {k : Nat} (hk : k < n) : ∃ b off x, A = some ⟨b, off, none⟩ ∧ b < B ∧ ss[k]? = some x ∧ w.cell? ⟨b, off + k, none⟩ = some (.string (bstr x)) := by
  obtain ⟨ad, rfl, hb, hall⟩ := h.2 (by omega)
  have hl : k < ss.length := by rw [h.len]; exact hk
  have hc := hall k (strCell ss[k]) (by rw [List.getElem?_map, List.getElem?_eq_getElem hl]; rfl)
  have h0 := hall 0 (strCell (ss[0]'(by omega))) (by rw [List.getElem?_map, List.getElem?_eq_getElem (by omega)]; rfl)
  obtain ⟨b, off, sp⟩ := ad
  have hsp : sp = none := by simpa [Addr.add] using World.cell?_spot h0
  subst hsp
  rw [Addr.add_lit] at hc
  exact ⟨b, off, ss[k], rfl, hb, List.getElem?_eq_getElem hl, hc⟩
theorem OwnZ.len (h : OwnZ w base A n c ss) : ss.length = n := by have := h.1; rw [List.length_map] at this; omega
theorem OwnZ.nil : OwnZ w base none 0 0 [] := World.ownsRow_nil _ _ _ _
theorem OwnZ.rd (h : OwnZ w base A n c ss) : RdZ w w.heap.size A n ss := Reads.of_own h
theorem OwnZ.cap (h : OwnZ w base A n c ss) : n ≤ c := by
  rcases h.2 with ⟨e, _⟩ | ⟨g, cap, cur, e, _, _, h3, _⟩
  · injection e with _ e1 e2; omega
  · injection e with _ _ e; omega
theorem OwnZ.lt (h : OwnZ w base A n c ss) : ∀ k, ob A = some k → base ≤ k ∧ k < w.heap.size := by
  have := World.ownsRow.lt h; rw [ob_own] at this; exact this
theorem OwnZ.alloc (h : OwnZ w base A n c ss) (o : Obj) : OwnZ (w.alloc o) base A n c ss := World.ownsRow.alloc h o
theorem OwnZ.drewN (h : OwnZ w base A n c ss) (k : Nat) : OwnZ (w.drewN k) base A n c ss := h
theorem OwnZ.fr {p : Nat → Prop} (h : OwnZ w base A n c ss) (hf : Fr w w' p) (hp : ∀ k, ob A = some k → ¬ p k) : OwnZ w' base A n c ss :=
  ownsRow_fr h hf (fun k hk => hp k (by rw [← ob_own A n c]; exact hk))
theorem OwnZ.below (h : OwnZ w base A n c ss) (hb : Below B w w') (hB : w.heap.size ≤ B) : OwnZ w' base A n c ss :=
  h.fr (Fr.of_below hb) (fun k hk => by have := h.lt k hk; omega)
theorem OwnZ.base_le (h : OwnZ w base A n c ss) (hB : B ≤ base) : OwnZ w B A n c ss := by
  refine ⟨h.1, ?_⟩
  rcases h.2 with h2 | ⟨g, cap, cur, e, h1, h3⟩
  · exact .inl h2
  · exact .inr ⟨g, cap, cur, e, by omega, h3⟩
theorem OwnZ.ne_blk {g : Nat} {t : TypeId} {cs : Array Value} (h : OwnZ w base A n c ss) (hg : Blk w g t cs) (hne : 9 ≠ t) : ob A ≠ some g := by
  have := own_blk_ne h hg hne
  rwa [ob_own] at this
end

theorem reads_z (w : World) (l : List UInt8) (t : TypeId) : Reads (w.alloc (.cells #[.string (bstr l)] t)) (w.heap.size + 1) 1 (some ⟨w.heap.size, 0, none⟩) 1 [strCell l] := by
  refine ⟨rfl, fun _ => ⟨_, rfl, Nat.lt_succ_self _, fun j u hu => ?_⟩⟩
  rw [Addr.add_lit, Nat.zero_add, cell_of_row _ _ _ _ _ _ (heap_alloc_new w _)]
  simpa [strCell] using hu

theorem reads_b (w : World) (b : ByteArray) (t : TypeId) : Reads (w.alloc (.cells #[.string b] t)) (w.heap.size + 1) 1 (some ⟨w.heap.size, 0, none⟩) 1 [strCell b.data.toList] := reads_z w b.data.toList t
theorem wpList_append_z (w : World) {ops : Array Oper} {rest : List Oper} {o : Oper} {a : Act} {Q : Exit → Act → World → Prop} (hgd : o.guard = none) (s x : Operand)
    (ho : o.op = .call { callee := .builtin .append, args := #[s, x], argTypes := #[22, 22] })
    (base : Nat) (A : Option Addr) (n c : Nat) (ss : List (List UInt8)) (hs : a.eval s = .slice A n c) (hown : OwnZ w base A n c ss) (y : List UInt8)
    (B : Nat) (A2 : Option Addr) (hx : a.eval x = .slice A2 1 1) (hr : Reads w B 1 A2 1 [strCell y]) (hbd : n < 4398046511104) (hbase : base ≤ w.heap.size)
    (h : ∀ A' n' c' w', n' = n + 1 → OwnZ w' base A' n' c' (ss ++ [y]) → w.grownBy w' (ob A) → wpList Tryd.prog ops Q rest (a.put o.dst (.slice A' n' c')) w') :
    wpList Tryd.prog ops Q (o :: rest) a w := by
  obtain ⟨i0, hi, hz0, hz1, hz2⟩ := info_parts string_info
  refine wpList_append_any w hgd s x 22 ho base 9 i0 _ 1 16 Tryd.underlying22 hi hz0 hz1 hz2 rfl (by decide) (.slice A n c) n _ hs hown B A2 1 1 [strCell y] hx hr (by intro u hu; rw [List.mem_singleton.1 hu]; rfl) (by unfold maxLen; omega) (by omega) hbase ?_
  intro v' w' h2 h3 h4
  have hv : ∃ A' c', v' = .slice A' (n + 1) c' := by
    rcases h2.2 with ⟨_, e⟩ | ⟨g, cap, cur, rfl, _⟩
    · omega
    · exact ⟨_, _, rfl⟩
  obtain ⟨A', c', rfl⟩ := hv
  rw [ob_own] at h3
  exact h A' _ c' w' rfl (by unfold OwnZ; rw [List.map_append]; exact h2) h3

set_option maxRecDepth 100000 in
set_option maxHeartbeats 1000000 in
theorem strs_same (w : World) (B : Nat) (A1 A2 : Option Addr) (n c1 c2 : Nat) (ss : List (List UInt8)) (h1 : RdZ w B A1 n ss) (h2 : RdZ w B A2 n ss) (hB : B ≤ w.heap.size) (hn : n < 4398046511104) :
    Calls Tryd.prog 16 #[.slice A1 n c1, .slice A2 n c2] w fun e w' => e = .returned (.bool true) ∧ Below w.heap.size w w' := by
  go_enter Tryd.func16, Tryd.ntmps16
  go_wp2_with fail
  go_loopw [5] (fun i wr => ∃ j : Nat, j ≤ n ∧ i = .int .i64 (j : Int) ∧ Below w.heap.size w wr) (fun i _ => n - (intOf i).toNat)
  case atStart => exact ⟨0, by omega, rfl, Below.refl _ _⟩
  case round =>
    obtain ⟨j, hj, rfl, hbw⟩ := hrel
    by_cases hlt : j < n
    · have hlti : (j : Int) < (n : Int) := by omega
      obtain ⟨b1, o1, x, rfl, hb1, hx1, hc1⟩ := (h1.below (hbw.mono hB)).at_ hlt
      obtain ⟨b2, o2, y, rfl, hb2, hx2, hc2⟩ := (h2.below (hbw.mono hB)).at_ hlt
      rw [hx1] at hx2
      injection hx2 with hx2
      subst hx2
      have hj0 : (0 : Int) ≤ (j : Int) := by omega
      clear hx1 hb1 hb2
      go_wp2_with fail
      go_quiet (fail)
      go_wp2_with fail
      go_roundw
      case rel => exact ⟨j + 1, by omega, by go_num, ⟨hbw.os, hbw.tape, hbw.output, hbw.size, hbw.block⟩⟩
      case measure => simp [intOf]; omega
    · obtain rfl : j = n := by omega
      go_wp2_with fail
      go_ret
      exact ⟨rfl, hbw⟩

end Go.Proofs.YtmkddhkpeiajhaaDoor
