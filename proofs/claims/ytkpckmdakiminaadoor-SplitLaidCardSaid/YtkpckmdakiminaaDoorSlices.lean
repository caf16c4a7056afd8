/-
  Slices of bytes cut at one place, at two places; bytes that were made; rows of two types lie apart.
-/
import Derived.Test.YtkpckmdakiminaaDoorBytes
namespace Go.Proofs.YtkpckmdakiminaaDoor
open Go.RowKit

/-- 's[l:]' of bytes: one value under a name, and what it reads as -/
theorem slice_l (A : Option Addr) (len cap l : Nat) (hl : l ≤ len) (hc : len ≤ cap) :
    ∃ A', (∀ (x : Int) (W : World), x = (l : Int) → (Instr.slice 22 (.slice A len cap) (some (.int .i64 x)) none none).run Tryd.prog W = .ok (.slice A' (len - l) (cap - l)) W) ∧
      (∀ (w : World) (B : Nat) (ls : List UInt8), RdB w B A len ls → RdB w B A' (len - l) (ls.drop l)) := by
  refine ⟨if cap = l then A else A.map (·.add l), fun x W hx => ?_, fun w B ls hr => hr.from (k := l) (cap := cap) hl hc⟩
  subst hx
  have he : Tryd.prog.elem 22 = 5 := by kernel_rfl
  have hz : (Go.sizeOf 5).run Tryd.prog W = .ok 1 W := by kernel_rfl
  rw [run_slice_l W 22 _ _ _ (by rw [he]; exact Tryd.underlying22) .i64 _ (by omega) (by omega), he, hz]
  simp [Result.andThen, sliced]

/-- 's[l:h]' of bytes: one value under a name, and what it reads as -/
theorem slice_lh (A : Option Addr) (len cap l h : Nat) (hlh : l ≤ h) (hh : h ≤ len) (hc : len ≤ cap) :
    ∃ A', (∀ (x y : Int) (W : World), x = (l : Int) → y = (h : Int) → (Instr.slice 22 (.slice A len cap) (some (.int .i64 x)) (some (.int .i64 y)) none).run Tryd.prog W = .ok (.slice A' (h - l) (cap - l)) W) ∧
      (∀ (w : World) (B : Nat) (ls : List UInt8), RdB w B A len ls → RdB w B A' (h - l) ((ls.drop l).take (h - l))) := by
  refine ⟨if cap = l then A else A.map (·.add l), fun x y W hx hy => ?_, fun w B ls hr => ?_⟩
  · subst hx; subst hy
    have he : Tryd.prog.elem 22 = 5 := by kernel_rfl
    have hz : (Go.sizeOf 5).run Tryd.prog W = .ok 1 W := by kernel_rfl
    rw [run_slice_lh W 22 _ _ _ (by rw [he]; exact Tryd.underlying22) .i64 .i64 _ _ (by omega) (by omega) (by omega), he, hz]
    simp [Result.andThen, sliced]
  · exact (hr.from (k := l) (cap := cap) (by omega) hc).upto (by omega)

/-- bytes that were made -/
theorem made_bytes (n : Nat) (hn : n ≤ 140737488355328) : ∃ (Z : Array Value) (l : List UInt8), Hid (l.length = n) ∧
    (∀ w : World, (Instr.makeSlice 22 (.int .i64 (n : Int)) (.int .i64 (n : Int))).run Tryd.prog w = .ok (.slice (some ⟨w.heap.size, 0, none⟩) n n) (w.alloc (.cells Z 5))) ∧
    ∀ w : World, RdB (w.alloc (.cells Z 5)) (w.heap.size + 1) (some ⟨w.heap.size, 0, none⟩) n l := by
  obtain ⟨i0, hi, hz0, hz1, hz2⟩ := info_parts u8_info
  have hz : madeCells (Value.int .u8 0).cells n = (bv (List.replicate n 0)).toArray := by
    apply Array.ext'
    simp [madeCells, Value.cells, bv]
    refine List.ext_getElem (by simp) fun i h1 h2 => ?_
    simp [Nat.mod_one]
  refine ⟨madeCells (Value.int .u8 0).cells n, List.replicate n 0, List.length_replicate .., fun w => ?_, fun w => rd_new w _ n (List.length_replicate ..) _ hz⟩
  have hr := run_make (P := Tryd.prog) w 22 5 i0 (.int .u8 0) Tryd.underlying22 hi hz0 .i64 .i64 n n (by omega) (Int.le_refl _) (by rw [hz2]; omega) (by omega)
  rw [hz1] at hr
  simpa using hr

theorem own_ne {w : World} {b b' : Nat} {e e' : TypeId} {s s' n n' : Nat} {v v' : Value} {xs xs' : List Value} (h : w.ownsRow b e s v n xs) (h' : w.ownsRow b' e' s' v' n' xs') (hne : e ≠ e') : v.ownBlock = none ∨ v.ownBlock ≠ v'.ownBlock := by
  rcases h'.2 with ⟨rfl, _⟩ | ⟨g, cap, cur, rfl, _, hh, _⟩
  · by_cases hv : v.ownBlock = none
    · exact .inl hv
    · exact .inr (by simpa [Value.ownBlock] using hv)
  · exact .inr (fun e1 => own_blk_ne h (show Blk w g e' cur from hh) hne (by rw [e1]; rfl))

theorem rd_mark (w : World) (l : List UInt8) (n : Nat) (hn : l.length = n) (cs : Array Value) (m : Nat × Nat) (hcs : cs = (bv l).toArray) : RdB (w.alloc (.cells cs 5 m)) (w.heap.size + 1) (some ⟨w.heap.size, 0, none⟩) n l := by
  subst hcs
  refine ⟨by rw [bv_length]; omega, fun _ => ⟨_, rfl, Nat.lt_succ_self _, fun j u hu => ?_⟩⟩
  rw [Addr.add_lit, Nat.zero_add, cell_of_row _ _ _ _ _ _ (heap_alloc_new w _)]
  rw [List.getElem?_toArray]; exact hu

/-- bytes in a block of their own, as a row of the call's own -/
theorem OwnB.lit {w : World} {base n : Nat} (hb : base ≤ w.heap.size) (cs : Array Value) (l : List UInt8) (hn : l.length = n) (hm : n ≤ maxLen) (hcs : cs = (bv l).toArray) : OwnB (w.alloc (.cells cs 5)) base (some ⟨w.heap.size, 0, none⟩) n n l := by
  subst hcs
  refine ⟨by rw [bv_length]; omega, .inr ⟨w.heap.size, n, _, rfl, hb, heap_alloc_new w _, Nat.le_refl _, hm, by simp [bv_length, hn], ?_⟩⟩
  rw [List.take_of_length_le (by simp [bv_length, hn])]

/-- what a function of the document's that makes bytes leaves -/
def Made (w : World) (l : List UInt8) (e : Ending) (w' : World) : Prop := ∃ A n c, e = .returned (.slice A n c) ∧ OwnB w' w.heap.size A n c l ∧ Below w.heap.size w w'

end Go.Proofs.YtkpckmdakiminaaDoor
