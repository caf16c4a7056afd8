import Derived.Test.YthmjnelnnhidkaaBytes
import Derived.Test.YthmjnelnnhidkaaOpen
import Derived.Deep.Matrix
/-
  Slices of bytes cut at one place, at two places; bytes that were made; rows of two types lie apart.
-/
namespace Go.Proofs.Ythmjnelnnhidkaa
open Go.RowKit

/-- 's[l:]' of bytes: one value under a name, and what it reads as -/
theorem slice_l (A : Option Addr) (len cap l : Nat) (hl : l ≤ len) (hc : len ≤ cap) :
    ∃ A', (∀ (x : Int) (W : World), x = (l : Int) → (Instr.slice 34 (.slice A len cap) (some (.int .i64 x)) none none).run Try.prog W = .ok (.slice A' (len - l) (cap - l)) W) ∧
      (∀ (w : World) (B : Nat) (ls : List UInt8), RdB w B A len ls → RdB w B A' (len - l) (ls.drop l)) := by
  refine ⟨if cap = l then A else A.map (·.add l), fun x W hx => ?_, fun w B ls hr => hr.from (k := l) (cap := cap) hl hc⟩
  subst hx
  have he : Try.prog.elem 34 = 5 := by kernel_rfl
  have hz : (Go.sizeOf 5).run Try.prog W = .ok 1 W := by kernel_rfl
  rw [run_slice_l W 34 _ _ _ (by rw [he]; exact Try.underlying34) .i64 _ (by omega) (by omega), he, hz]
  simp [Result.andThen, sliced]

/-- 's[l:h]' of bytes: one value under a name, and what it reads as -/
theorem slice_lh (A : Option Addr) (len cap l h : Nat) (hlh : l ≤ h) (hh : h ≤ len) (hc : len ≤ cap) :
    ∃ A', (∀ (x y : Int) (W : World), x = (l : Int) → y = (h : Int) → (Instr.slice 34 (.slice A len cap) (some (.int .i64 x)) (some (.int .i64 y)) none).run Try.prog W = .ok (.slice A' (h - l) (cap - l)) W) ∧
      (∀ (w : World) (B : Nat) (ls : List UInt8), RdB w B A len ls → RdB w B A' (h - l) ((ls.drop l).take (h - l))) := by
  refine ⟨if cap = l then A else A.map (·.add l), fun x y W hx hy => ?_, fun w B ls hr => ?_⟩
  · subst hx; subst hy
    have he : Try.prog.elem 34 = 5 := by kernel_rfl
    have hz : (Go.sizeOf 5).run Try.prog W = .ok 1 W := by kernel_rfl
    rw [run_slice_lh W 34 _ _ _ (by rw [he]; exact Try.underlying34) .i64 .i64 _ _ (by omega) (by omega) (by omega), he, hz]
    simp [Result.andThen, sliced]
  · exact (hr.from (k := l) (cap := cap) (by omega) hc).upto (by omega)

/-- bytes that were made -/
theorem made_bytes (n : Nat) (hn : n ≤ 140737488355328) : ∃ (Z : Array Value) (l : List UInt8), Hid (l.length = n) ∧
    (∀ w : World, (Instr.makeSlice 34 (.int .i64 (n : Int)) (.int .i64 (n : Int))).run Try.prog w = .ok (.slice (some ⟨w.heap.size, 0, none⟩) n n) (w.alloc (.cells Z 5))) ∧
    ∀ w : World, RdB (w.alloc (.cells Z 5)) (w.heap.size + 1) (some ⟨w.heap.size, 0, none⟩) n l := by
  obtain ⟨i0, hi, hz0, hz1, hz2⟩ := info_parts u8_info
  have hz : madeCells (Value.int .u8 0).cells n = (bv (List.replicate n 0)).toArray := by
    apply Array.ext'
    simp [madeCells, Value.cells, bv]
    refine List.ext_getElem (by simp) fun i h1 h2 => ?_
    simp [Nat.mod_one]
  refine ⟨madeCells (Value.int .u8 0).cells n, List.replicate n 0, List.length_replicate .., fun w => ?_, fun w => rd_new w _ n (List.length_replicate ..) _ hz⟩
  have hr := run_make (P := Try.prog) w 34 5 i0 (.int .u8 0) Try.underlying34 hi hz0 .i64 .i64 n n (by omega) (Int.le_refl _) (by rw [hz2]; omega) (by omega)
  rw [hz1] at hr
  simpa using hr

theorem own_ne {w : World} {b b' : Nat} {e e' : TypeId} {s s' n n' : Nat} {v v' : Value} {xs xs' : List Value} (h : w.ownsRow b e s v n xs) (h' : w.ownsRow b' e' s' v' n' xs') (hne : e ≠ e') : v.ownBlock = none ∨ v.ownBlock ≠ v'.ownBlock := by
  rcases h'.2 with ⟨rfl, _⟩ | ⟨g, cap, cur, rfl, _, hh, _⟩
  · by_cases hv : v.ownBlock = none
    · exact .inl hv
    · exact .inr (by simpa [Value.ownBlock] using hv)
  · exact .inr (fun e1 => own_blk_ne h (show Blk w g e' cur from hh) hne (by rw [e1]; rfl))

theorem rd_mark (w : World) (l : List UInt8) (n : Nat) (hn : l.length = n) (cs : Array Value) (m : Nat × Nat) (hcs : cs = (bv l).toArray) : RdB (w.alloc (.cells cs 5 m)) (w.heap.size + 1) (some ⟨w.heap.size, 0, none⟩) n l := by
  subst hcs
  refine ⟨by rw [bv_length]; omega, fun _ => ⟨_, rfl, Nat.lt_succ_self _, fun j u hu => ?_⟩⟩
  rw [Addr.add_lit, Nat.zero_add, cell_of_row _ _ _ _ _ _ (heap_alloc_new w _)]
  rw [List.getElem?_toArray]; exact hu

/-- bytes in a block of their own, as a row of the call's own -/
theorem OwnB.lit {w : World} {base n : Nat} (hb : base ≤ w.heap.size) (cs : Array Value) (l : List UInt8) (hn : l.length = n) (hm : n ≤ maxLen) (hcs : cs = (bv l).toArray) : OwnB (w.alloc (.cells cs 5)) base (some ⟨w.heap.size, 0, none⟩) n n l := by
  subst hcs
  refine ⟨by rw [bv_length]; omega, .inr ⟨w.heap.size, n, _, rfl, hb, heap_alloc_new w _, Nat.le_refl _, hm, by simp [bv_length, hn], ?_⟩⟩
  rw [List.take_of_length_le (by simp [bv_length, hn])]

/-- what a function of the document's that makes bytes leaves -/
def Made (w : World) (l : List UInt8) (e : Ending) (w' : World) : Prop := ∃ A n c, e = .returned (.slice A n c) ∧ OwnB w' w.heap.size A n c l ∧ Below w.heap.size w w'

end Go.Proofs.Ythmjnelnnhidkaa

/-
  Slices of slices of bytes: 'RdR' one that reads as a list of rows, 'OwnR' one of the call's own with rows of the call's own; append of a row.
-/
namespace Go.Proofs.Ythmjnelnnhidkaa
open Go.RowKit

/-- a row: a slice of bytes, and what it reads as -/
structure RowV where
  A : Option Addr
  n : Nat
  c : Nat
  l : List UInt8
def rowCell (r : RowV) : Value := .slice r.A r.n r.c
def RdR (w : World) (B : Nat) (A : Option Addr) (n : Nat) (rs : List RowV) : Prop := Reads w B 1 A n (rs.map rowCell) ∧ ∀ r ∈ rs, RdB w B r.A r.n r.l ∧ r.n ≤ r.c
def OwnR (w : World) (base : Nat) (A : Option Addr) (n c : Nat) (rs : List RowV) : Prop := w.ownsRow base 34 1 (.slice A n c) n (rs.map rowCell) ∧ ∀ r ∈ rs, OwnB w base r.A r.n r.c r.l
/-- the rows' bytes -/
def bytesOf (rs : List RowV) : List (List UInt8) := rs.map (·.l)

section
variable {w w' : World} {B B' n c base : Nat} {A : Option Addr} {rs : List RowV}
theorem RdR.len (h : RdR w B A n rs) : rs.length = n := by have := h.1.1; rw [List.length_map] at this; omega
theorem RdR.below (h : RdR w B A n rs) (hb : Below B w w') : RdR w' B A n rs := ⟨Reads.below h.1 hb, fun r hr => ⟨(h.2 r hr).1.below hb, (h.2 r hr).2⟩⟩
theorem RdR.more (h : RdR w B A n rs) (hB : B ≤ B') : RdR w B' A n rs := ⟨Reads.more h.1 hB, fun r hr => ⟨(h.2 r hr).1.more hB, (h.2 r hr).2⟩⟩
theorem RdR.drewN (h : RdR w B A n rs) (k : Nat) : RdR (w.drewN k) B A n rs := h
theorem RdR.nil : RdR w B A 0 [] := ⟨⟨rfl, fun h => absurd h (by omega)⟩, fun _ h => by cases h⟩
theorem RdR.at_ (h : RdR w B A n rs) {k : Nat} (hk : k < n) : ∃ b off r, A = some ⟨b, off, none⟩ ∧ b < B ∧ rs[k]? = some r ∧ w.cell? ⟨b, off + k, none⟩ = some (.slice r.A r.n r.c) ∧ RdB w B r.A r.n r.l ∧ r.n ≤ r.c := by
  obtain ⟨ad, rfl, hb, hall⟩ := h.1.2 (by omega)
  have hl : k < rs.length := by rw [h.len]; exact hk
  have hc := hall k (rowCell rs[k]) (by rw [List.getElem?_map, List.getElem?_eq_getElem hl]; rfl)
  have h0 := hall 0 (rowCell (rs[0]'(by omega))) (by rw [List.getElem?_map, List.getElem?_eq_getElem (by omega)]; rfl)
  obtain ⟨b, off, sp⟩ := ad
  have hsp : sp = none := by simpa [Addr.add] using World.cell?_spot h0
  subst hsp
  rw [Addr.add_lit] at hc
  have h2 := h.2 rs[k] (List.getElem_mem hl)
  exact ⟨b, off, rs[k], rfl, hb, List.getElem?_eq_getElem hl, hc, h2.1, h2.2⟩
theorem RdR.upto (h : RdR w B A n rs) {k : Nat} (hk : k ≤ n) : RdR w B A k (rs.take k) := by
  have hlen := h.len
  refine ⟨⟨by rw [List.length_map, List.length_take]; omega, fun hn => ?_⟩, fun r hr => h.2 r (List.mem_of_mem_take hr)⟩
  obtain ⟨ad, e, hb, hc⟩ := h.1.2 (by omega)
  refine ⟨ad, e, hb, fun j u hu => hc j u ?_⟩
  rw [List.getElem?_map, List.getElem?_take] at hu
  rw [List.getElem?_map]
  split at hu
  · exact hu
  · cases hu

theorem OwnR.len (h : OwnR w base A n c rs) : rs.length = n := by have := h.1.1; rw [List.length_map] at this; omega
theorem OwnR.nil : OwnR w base none 0 0 [] := ⟨World.ownsRow_nil _ _ _ _, fun _ h => by cases h⟩
theorem OwnR.rd (h : OwnR w base A n c rs) : RdR w w.heap.size A n rs := ⟨Reads.of_own h.1, fun r hr => ⟨(h.2 r hr).rd, (h.2 r hr).cap⟩⟩
theorem OwnR.cap (h : OwnR w base A n c rs) : n ≤ c := by
  rcases h.1.2 with ⟨e, _⟩ | ⟨g, cap, cur, e, _, _, h3, _⟩
  · injection e with _ e1 e2; omega
  · injection e with _ _ e; omega
theorem OwnR.lt (h : OwnR w base A n c rs) : ∀ k, ob A = some k → base ≤ k ∧ k < w.heap.size := by
  have := World.ownsRow.lt h.1; rw [ob_own] at this; exact this
theorem OwnR.alloc (h : OwnR w base A n c rs) (o : Obj) : OwnR (w.alloc o) base A n c rs := ⟨World.ownsRow.alloc h.1 o, fun r hr => (h.2 r hr).alloc o⟩
theorem OwnR.drewN (h : OwnR w base A n c rs) (k : Nat) : OwnR (w.drewN k) base A n c rs := h
theorem OwnR.below (h : OwnR w base A n c rs) (hb : Below B w w') (hB : w.heap.size ≤ B) : OwnR w' base A n c rs :=
  ⟨ownsRow_fr h.1 (Fr.of_below hb) (fun k hk => by have := World.ownsRow.lt h.1 k hk; omega), fun r hr => (h.2 r hr).below hb (fun k hk => by have := (h.2 r hr).lt k hk; omega)⟩
theorem OwnR.base_le (h : OwnR w base A n c rs) (hB : B ≤ base) : OwnR w B A n c rs := by
  refine ⟨⟨h.1.1, ?_⟩, fun r hr => (h.2 r hr).base_le (fun k _ hk => by omega)⟩
  rcases h.1.2 with h2 | ⟨g, cap, cur, e, h1, h3⟩
  · exact .inl h2
  · exact .inr ⟨g, cap, cur, e, by omega, h3⟩
end

theorem rows_info : (Try.prog.info? 34).map (fun i => (i.zero, i.size, i.bytes)) = some (some (.slice none 0 0), 1, 24) := by kernel_rfl

theorem reads_row (w : World) (r : RowV) (cs : Array Value) (t : TypeId) (h : cs.toList = [rowCell r]) : Reads (w.alloc (.cells cs t)) (w.heap.size + 1) 1 (some ⟨w.heap.size, 0, none⟩) 1 [rowCell r] := by
  refine ⟨rfl, fun _ => ⟨_, rfl, Nat.lt_succ_self _, fun j u hu => ?_⟩⟩
  rw [Addr.add_lit, Nat.zero_add, cell_of_row _ _ _ _ _ _ (heap_alloc_new w _)]
  rw [← h] at hu
  simpa using hu

/-- append of a row onto rows of the call's own -/
theorem wpList_append_row (w : World) {ops : Array Oper} {rest : List Oper} {o : Oper} {a : Act} {Q : Exit → Act → World → Prop} (hgd : o.guard = none) (s x : Operand)
    (ho : o.op = .call { callee := .builtin .append, args := #[s, x], argTypes := #[68, 68] })
    (base : Nat) (A : Option Addr) (n c : Nat) (rs : List RowV) (hs : a.eval s = .slice A n c) (hown : OwnR w base A n c rs) (r : RowV) (hr0 : OwnB w base r.A r.n r.c r.l)
    (B : Nat) (A2 : Option Addr) (hx : a.eval x = .slice A2 1 1) (hr : Reads w B 1 A2 1 [rowCell r]) (hbd : n < 4398046511104) (hbase : base ≤ w.heap.size)
    (h : ∀ A' n' c' w', n' = n + 1 → OwnR w' base A' n' c' (rs ++ [r]) → w.grownBy w' (ob A) → (ob A' = ob A ∨ ob A' = some w.heap.size) → wpList Try.prog ops Q rest (a.put o.dst (.slice A' n' c')) w') :
    wpList Try.prog ops Q (o :: rest) a w := by
  obtain ⟨i0, hi, hz0, hz1, hz2⟩ := info_parts rows_info
  refine wpList_append_any w hgd s x 68 ho base 34 i0 _ 1 24 Try.underlying68 hi hz0 hz1 hz2 rfl (by decide) (.slice A n c) n _ hs hown.1 B A2 1 1 [rowCell r] hx hr (by intro u hu; rw [List.mem_singleton.1 hu]; rfl) (by unfold maxLen; omega) (by omega) hbase ?_
  intro v' w' h2 h3 h4
  have hv : ∃ A' c', v' = .slice A' (n + 1) c' := by
    rcases h2.2 with ⟨_, e⟩ | ⟨g, cap, cur, rfl, _⟩
    · omega
    · exact ⟨_, _, rfl⟩
  obtain ⟨A', c', rfl⟩ := hv
  have h30 := h3
  rw [ob_own] at h3 h4
  rw [ob_own] at h4
  have hkeep : ∀ q : RowV, OwnB w base q.A q.n q.c q.l → OwnB w' base q.A q.n q.c q.l := fun q hq => hq.kept h3 (by
    have := own_ne hq hown.1 (by decide)
    rw [ob_own, ob_own] at this
    exact this)
  refine h A' _ c' w' rfl ⟨by rw [List.map_append]; exact h2, fun q hq => ?_⟩ h3 h4
  rcases List.mem_append.1 hq with h1 | h1
  · exact hkeep q (hown.2 q h1)
  · rw [List.mem_singleton.1 h1]; exact hkeep r hr0

end Go.Proofs.Ythmjnelnnhidkaa

/-
  How an argument that is a slice of slices of bytes is opened.
-/
namespace Go.Proofs.Ythmjnelnnhidkaa
open Go.ChangeShapes Go.WideShapes Go.ChangeAt Go.RowKit

theorem cellsRow : Try.prog.cellsOf 34 = 1 := by kernel_rfl

set_option maxRecDepth 100000 in
theorem open_rowsM {H : Type} {enc : TypeId × Value → H} {W : World} {base : Nat} {v : Value} {d : DataW H} {p : List MemPlace}
    (hval : Value.okWide Try.prog W .any base 68 v) (h : DataW.Trod enc Try.prog W 0 (fun _ => true) true 68 v d p) :
    ∃ A n c rs, v = .slice A n c ∧ RdR W W.heap.size A n rs ∧ (SlD d n ∧ ∀ r ∈ rs, r.n ≤ 9223372036854775807) ∧ n ≤ c := by
  obtain ⟨a0, len0, cap0, rfl⟩ := okWide_slice Try.underlying68 hval
  obtain ⟨fuel, hf⟩ := h
  rcases Go.Deep.open_int_rows Try.underlying68 Try.underlying34 Try.underlying5 cellsRow cellsU8 hf with ⟨hcs, hx⟩ | ⟨x, l, c, RA, RL, RC, RZ, hcs, _, hl, hm, hx, hrow⟩
  · simp [Value.cells] at hcs
    obtain ⟨rfl, rfl, rfl⟩ := hcs
    simp only [Prod.mk.injEq] at hx
    exact ⟨none, 0, 0, [], rfl, RdR.nil, ⟨.inl ⟨hx.1, rfl⟩, fun r h => by cases h⟩, Nat.le_refl _⟩
  · simp [Value.cells] at hcs
    obtain ⟨rfl, rfl, rfl⟩ := hcs
    simp only [Prod.mk.injEq] at hx
    refine ⟨some x, len0, cap0, (List.range len0).map fun r => ⟨RA r, RL r, RC r, ((RZ r).take (RL r)).map byt⟩, rfl, ⟨⟨by simp, fun hn => ⟨x, rfl, ?_, fun j u hu => ?_⟩⟩, ?_⟩, ⟨.inr ⟨_, _, hx.1, by simp⟩, fun r hr => ?_⟩, hl⟩
    · have := World.block_lt_of_cell? W _ (hrow 0 (by omega)).1
      rw [block_of_add] at this
      exact this
    · have hj : j < len0 := by
        rcases Nat.lt_or_ge j len0 with h | h
        · exact h
        · rw [List.getElem?_eq_none (by simpa using h)] at hu; cases hu
      rw [(hrow j (by omega)).1]
      rw [List.getElem?_map, List.getElem?_map, List.getElem?_range hj] at hu
      exact hu
    · intro r hr
      obtain ⟨i, hi, rfl⟩ := List.mem_map.1 hr
      have hi := List.mem_range.1 hi
      obtain ⟨_, h1, h2, h3, h4, h5, h6⟩ := hrow i (by omega)
      have hlen : (((RZ i).take (RL i)).map byt).length = RL i := by rw [List.length_map, List.length_take]; omega
      refine ⟨⟨by show (bv _).length = RL i * 1; rw [bv_length, hlen]; omega, fun hn => ?_⟩, h1⟩
      have hn : 0 < RL i := hn
      cases ha : RA i with
      | none => have := h5 ha; omega
      | some a' =>
        obtain ⟨_, hcell⟩ := h6 a' ha
        refine ⟨a', rfl, ?_, fun j u hu => ?_⟩
        · have := World.block_lt_of_cell? W _ (hcell 0 (by omega))
          rw [block_of_add] at this
          exact this
        · have hu : (bv (((RZ i).take (RL i)).map byt))[j]? = some u := hu
          have hj : j < RL i := by
            rcases Nat.lt_or_ge j (RL i) with h | h
            · exact h
            · rw [List.getElem?_eq_none (by rw [bv_length, hlen]; exact h)] at hu; cases hu
          rw [hcell j (by omega)]
          rw [bv_get _ j (by rw [hlen]; exact hj)] at hu
          rw [← hu]
          congr 2
          have hb := u8_bd (h4 ((RZ i).getD j 0) (by rw [getD_get (RZ i) j (by omega)]; exact List.getElem_mem _))
          rw [List.getElem_map, List.getElem_take, ← getD_get (RZ i) j (by omega), byt_toNat hb.1 hb.2]
    · obtain ⟨i, hi, rfl⟩ := List.mem_map.1 hr
      have hi := List.mem_range.1 hi
      obtain ⟨_, h1, h2, _⟩ := hrow i (by omega)
      unfold maxLen at h2
      exact Nat.le_trans h1 h2

set_option maxRecDepth 100000 in
theorem open_rows {H : Type} {enc : TypeId × Value → H} {W : World} {base : Nat} {v : Value} {d : DataW H} {p : List MemPlace}
    (hval : Value.okWide Try.prog W .any base 68 v) (h : DataW.Trod enc Try.prog W 0 (fun _ => true) true 68 v d p) :
    ∃ A n c rs, v = .slice A n c ∧ RdR W W.heap.size A n rs ∧ SlD d n ∧ n ≤ c := by
  obtain ⟨A, n, c, rs, h1, h2, h3, h4⟩ := open_rowsM hval h
  exact ⟨A, n, c, rs, h1, h2, h3.1, h4⟩

end Go.Proofs.Ythmjnelnnhidkaa
