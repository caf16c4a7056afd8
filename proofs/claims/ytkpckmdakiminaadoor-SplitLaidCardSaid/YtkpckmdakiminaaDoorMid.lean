/-
  Slices of bytes of the call's own that may begin in the middle of their row: cut at the front, appended to.
-/
import Derived.Test.YtkpckmdakiminaaDoorBytes
import Derived.ArgAppend
namespace Go.Proofs.YtkpckmdakiminaaDoor
open Go.RowKit

/-- a block of cells of which none is frozen, whatever its mark -/
def BlkM (w : World) (g : Nat) (t : TypeId) (cs : Array Value) : Prop := ∃ m : Nat × Nat, w.heap[g]? = some (.cells cs t m) ∧ (m = (0, 0) ∨ cs.size ≤ m.1)
section
variable {w w' : World} {g : Nat} {t : TypeId} {cs : Array Value}
theorem Blk.toM (h : Blk w g t cs) : BlkM w g t cs := ⟨(0, 0), h, .inl rfl⟩
theorem BlkM.lt (h : BlkM w g t cs) : g < w.heap.size := by
  obtain ⟨m, h, _⟩ := h
  exact (Array.getElem?_eq_some_iff.1 h).1
theorem BlkM.cell (h : BlkM w g t cs) (i : Nat) : w.cell? ⟨g, i, none⟩ = cs[i]? := by
  obtain ⟨m, h, _⟩ := h
  exact cell_of_row w g i cs t m h
theorem BlkM.alloc (h : BlkM w g t cs) (o : Obj) : BlkM (w.alloc o) g t cs := by
  have hl := h.lt
  obtain ⟨m, h, hm⟩ := h
  exact ⟨m, (Below.heap_alloc w o g hl).trans h, hm⟩
theorem BlkM.fr {p : Nat → Prop} (h : BlkM w g t cs) (hf : Fr w w' p) (hg : ¬ p g) : BlkM w' g t cs := by
  have hl := h.lt
  obtain ⟨m, h, hm⟩ := h
  exact ⟨m, (hf.block g hl hg).trans h, hm⟩
theorem BlkM.ne_ {g' : Nat} {t' : TypeId} {cs' : Array Value} (h : BlkM w g t cs) (h' : Blk w g' t' cs') (hne : t ≠ t') : g ≠ g' := by
  rintro rfl
  obtain ⟨m, h, _⟩ := h
  unfold Blk at h'
  rw [h] at h'
  injection h' with h'
  injection h' with _ ht
  exact hne ht
theorem own_blkM_ne {base : Nat} {e : TypeId} {size n : Nat} {v : Value} {xs : List Value} (h : w.ownsRow base e size v n xs) (hg : BlkM w g t cs) (hne : e ≠ t) : v.ownBlock ≠ some g := by
  obtain ⟨m, hg, _⟩ := hg
  rcases h.2 with ⟨rfl, _⟩ | ⟨g', cap, cur, rfl, _, hh, _⟩
  · simp [Value.ownBlock]
  · intro he
    have : g' = g := by simpa [Value.ownBlock] using he
    subst this
    rw [hh] at hg
    injection hg with hg
    injection hg with _ ht
    exact hne ht
end

theorem run_storeCells_atM (P : Program) (g o : Nat) (t : TypeId) (fz : Nat × Nat) : ∀ (vs : List Value) (i : Nat) (cur : Array Value) (w : World), w.heap[g]? = some (.cells cur t fz) → (fz = (0, 0) ∨ cur.size ≤ fz.1) → o + i + vs.length ≤ cur.size → (∀ v ∈ vs, v.oneCell' = true) →
    (storeCells ⟨g, o, none⟩ vs i).run P w = .ok () (w.setRow g (cur.toList.take (o + i) ++ vs ++ cur.toList.drop (o + i + vs.length)).toArray)
  | [], i, cur, w, hg, _, _, _ => by
    simp only [storeCells, List.append_nil, List.length_nil, Nat.add_zero, List.take_append_drop, Array.toArray_toList]
    rw [setRow_self w g cur t fz hg]
    rfl
  | v :: rest, i, cur, w, hg, hfz, hl, h1 => by
    have hi : o + i < cur.size := by simp at hl; omega
    have hadd : (⟨g, o, none⟩ : Addr).add i = ⟨g, o + i, none⟩ := by unfold Addr.add; split <;> simp_all
    have hcell : w.cell? ⟨g, o + i, none⟩ = some cur[o + i] := by simp [World.cell?, hg, hi]
    have hfro : w.frozen? ⟨g, o + i, none⟩ = false := by
      obtain ⟨lo, hi'⟩ := fz
      simp only [World.frozen?, hg, Bool.and_eq_false_iff, decide_eq_false_iff_not]
      rcases hfz with e | e
      · injection e with e1 e2
        right; omega
      · simp only at e
        left; omega
    have hst : (store ((⟨g, o, none⟩ : Addr).add i) v).run P w = .ok () (w.setRow g (cur.setIfInBounds (o + i) v)) := by
      rw [hadd, run_store P w _ v _ (h1 v (by simp)), hcell]
      simp [hfro, setCell_eq_setRow w g (o + i) cur t fz v hg]
    have ih := run_storeCells_atM P g o t fz rest (i + 1) (cur.setIfInBounds (o + i) v) (w.setRow g (cur.setIfInBounds (o + i) v)) (setRow_heap w g cur _ t _ hg) (by simpa using hfz) (by simp at hl ⊢; omega) (fun x hx => h1 x (by simp [hx]))
    simp only [storeCells, Sem.run_bind, hst, Result.andThen_ok, ih, setRow_setRow]
    congr 3
    have e := list_seg_step cur.toList (o + i) v rest (by simp at hl ⊢; omega)
    simpa [Array.toList_setIfInBounds, Nat.add_assoc] using e

def OwnM (w : World) (base : Nat) (A : Option Addr) (n c : Nat) (l : List UInt8) : Prop :=
  l.length = n ∧ ((A = none ∧ n = 0 ∧ c = 0) ∨ ∃ g off cur, A = some ⟨g, off, none⟩ ∧ base ≤ g ∧ BlkM w g 5 cur ∧ n ≤ c ∧ c ≤ maxLen ∧ off + c ≤ cur.size ∧ ∀ j u, (bv l)[j]? = some u → cur[off + j]? = some u)

section
variable {w w' : World} {B base base' n c : Nat} {A : Option Addr} {l : List UInt8}
theorem OwnM.nil : OwnM w base none 0 0 [] := ⟨rfl, .inl ⟨rfl, rfl, rfl⟩⟩
theorem OwnM.of_own (h : OwnB w base A n c l) : OwnM w base A n c l := by
  refine ⟨h.len, ?_⟩
  rcases h.2 with ⟨e, h0⟩ | ⟨g, cap, cur, e, h1, h2, h3, h4, h5, h6⟩
  · injection e with e1 e2 e3
    exact .inl ⟨e1, h0, e3⟩
  · injection e with e1 e2 e3
    subst e3
    refine .inr ⟨g, 0, cur, e1, h1, Blk.toM h2, h3, h4, by omega, fun j u hu => ?_⟩
    rw [← h6, List.getElem?_take] at hu
    split at hu
    · rw [Nat.zero_add, ← Array.getElem?_toList]; exact hu
    · cases hu
theorem OwnM.len (h : OwnM w base A n c l) : l.length = n := h.1
theorem OwnM.rd (h : OwnM w base A n c l) : RdB w w.heap.size A n l := by
  refine ⟨by rw [bv_length, h.1]; omega, fun hn => ?_⟩
  rcases h.2 with ⟨_, h0, _⟩ | ⟨g, off, cur, rfl, h1, h2, h3, h4, h5, h6⟩
  · omega
  · refine ⟨_, rfl, h2.lt, fun j u hu => ?_⟩
    rw [Addr.add_lit, h2.cell]
    exact h6 j u hu
theorem OwnM.cap (h : OwnM w base A n c l) : n ≤ c := by
  rcases h.2 with ⟨_, h0, _⟩ | ⟨g, off, cur, rfl, h1, h2, h3, _⟩
  · omega
  · exact h3
theorem OwnM.lt (h : OwnM w base A n c l) : ∀ k, ob A = some k → base ≤ k ∧ k < w.heap.size := by
  intro k hk
  rcases h.2 with ⟨rfl, _⟩ | ⟨g, off, cur, rfl, h1, h2, _⟩
  · cases hk
  · injection hk with hk
    subst hk
    exact ⟨h1, h2.lt⟩
theorem OwnM.fr {p : Nat → Prop} (h : OwnM w base A n c l) (hf : Fr w w' p) (hp : ∀ k, ob A = some k → ¬ p k) : OwnM w' base A n c l := by
  refine ⟨h.1, ?_⟩
  rcases h.2 with h2 | ⟨g, off, cur, rfl, h1, h2, h3⟩
  · exact .inl h2
  · exact .inr ⟨g, off, cur, rfl, h1, h2.fr hf (hp g rfl), h3⟩
theorem OwnM.alloc (h : OwnM w base A n c l) (o : Obj) : OwnM (w.alloc o) base A n c l := by
  refine ⟨h.1, ?_⟩
  rcases h.2 with h2 | ⟨g, off, cur, rfl, h1, h2, h3⟩
  · exact .inl h2
  · exact .inr ⟨g, off, cur, rfl, h1, h2.alloc o, h3⟩
theorem OwnM.drewN (h : OwnM w base A n c l) (k : Nat) : OwnM (w.drewN k) base A n c l := h
theorem OwnM.base_le (h : OwnM w base A n c l) (hb : base' ≤ base) : OwnM w base' A n c l := by
  refine ⟨h.1, ?_⟩
  rcases h.2 with h2 | ⟨g, off, cur, rfl, h1, h2⟩
  · exact .inl h2
  · exact .inr ⟨g, off, cur, rfl, by omega, h2⟩
theorem OwnM.ne_blk {g : Nat} {t : TypeId} {cs : Array Value} (h : OwnM w base A n c l) (hg : Blk w g t cs) (hne : 5 ≠ t) : ob A ≠ some g := by
  rcases h.2 with ⟨rfl, _⟩ | ⟨g', off, cur, rfl, h1, h2, _⟩
  · intro e; cases e
  · intro e
    injection e with e
    subst e
    exact BlkM.ne_ h2 hg hne rfl
end

/-- 's[1:]' of bytes of the call's own -/
theorem slice_m (A : Option Addr) (n c : Nat) (hn : 0 < n) (hc : n ≤ c) :
    ∃ A', (∀ (W : World), (Instr.slice 22 (.slice A n c) (some (.int .i64 1)) none none).run Tryd.prog W = .ok (.slice A' (n - 1) (c - 1)) W) ∧ ob A' = ob A ∧
      (∀ (w : World) (base : Nat) (x : UInt8) (l : List UInt8), OwnM w base A n c (x :: l) → OwnM w base A' (n - 1) (c - 1) l) := by
  refine ⟨if c = 1 then A else A.map (·.add 1), fun W => ?_, ?_, fun w base x l h => ?_⟩
  · have he : Tryd.prog.elem 22 = 5 := by kernel_rfl
    have hz : (Go.sizeOf 5).run Tryd.prog W = .ok 1 W := by kernel_rfl
    rw [run_slice_l W 22 _ _ _ (by rw [he]; exact Tryd.underlying22) .i64 _ (by omega) (by omega), he, hz]
    simp [Result.andThen, sliced]
  · split
    · rfl
    · cases A with
      | none => rfl
      | some a => show some (a.add 1).block = _; rw [block_of_add]; rfl
  · have hl := h.1
    rw [List.length_cons] at hl
    refine ⟨by omega, ?_⟩
    rcases h.2 with ⟨_, h0, _⟩ | ⟨g, off, cur, rfl, h1, h2, h3, h4, h5, h6⟩
    · omega
    · by_cases hc1 : c = 1
      · rw [if_pos hc1]
        have hl0 : l = [] := List.eq_nil_of_length_eq_zero (by omega)
        subst hl0
        exact .inr ⟨g, off, cur, rfl, h1, h2, by omega, by omega, by omega, fun j u hu => by simp [bv] at hu⟩
      · rw [if_neg hc1]
        refine .inr ⟨g, off + 1, cur, by show some ((⟨g, off, none⟩ : Addr).add 1) = _; rw [Addr.add_lit], h1, h2, by omega, by omega, by omega, fun j u hu => ?_⟩
        have := h6 (j + 1) u (by unfold bv at hu ⊢; rw [List.map_cons, List.getElem?_cons_succ]; exact hu)
        rw [show off + 1 + j = off + (j + 1) from by omega]
        exact this

theorem run_append_mid {P : Program} (w : World) (t ty e : TypeId) (i : TypeInfo) (ht : P.underlying t = some (.slice e)) (hi : P.info? e = some i) (hsz : i.size = 1)
    (g off n c : Nat) (cur : Array Value) (fz : Nat × Nat) (hg : w.heap[g]? = some (.cells cur e fz)) (hfz : fz = (0, 0) ∨ cur.size ≤ fz.1)
    (a : Addr) (m c2 : Nat) (news : List Value) (hl : news.length = m) (hnews : ∀ j u, news[j]? = some u → w.cell? (a.add j) = some u) (h1 : ∀ u ∈ news, u.oneCell' = true)
    (hroom : n + m ≤ c) (hfit : off + n + m ≤ cur.size) :
    (Builtin.append_ #[t, t] ty #[.slice (some ⟨g, off, none⟩) n c, .slice (some a) m c2]).run P w =
      .ok (.slice (some ⟨g, off, none⟩) (n + m) c) (w.setRow g (cur.toList.take (off + n) ++ news ++ cur.toList.drop (off + n + news.length)).toArray) := by
  have hf := run_firstCells_some (P := P) w i.size m a m c2 news (by rw [hsz, Nat.mul_one]; exact hl) hnews
  have hst := run_storeCells_atM P g (off + n) e fz news 0 cur w hg hfz (by rw [hl]; omega) h1
  simp only [Nat.add_zero] at hst
  rw [hsz] at hf
  simp [Builtin.append_, run_underlying ht, sizeOf, typeInfo, hi, Builtin.lenOf, hroom, hf, Addr.add_lit, hst, hsz]

/-- append of bytes onto such a slice -/
theorem run_append_m (w : World) (ty : TypeId) (base : Nat) (A : Option Addr) (n c : Nat) (l : List UInt8) (hown : OwnM w base A n c l)
    (B : Nat) (A2 : Option Addr) (m c2 : Nat) (l2 : List UInt8) (hr : RdB w B A2 m l2) (hbd : n + m ≤ 140737488355328) (hbase : base ≤ w.heap.size) :
    ∃ A' c' w', (Builtin.append_ #[22, 22] ty #[.slice A n c, .slice A2 m c2]).run Tryd.prog w = .ok (.slice A' (n + m) c') w' ∧
      OwnM w' base A' (n + m) c' (l ++ l2) ∧ w.grownBy w' (ob A) ∧ (ob A' = ob A ∨ ∃ k, ob A' = some k ∧ w.heap.size ≤ k) := by
  obtain ⟨i0, hi, hz0, hz1, hz2⟩ := info_parts u8_info
  rcases hown.2 with ⟨rfl, rfl, rfl⟩ | ⟨g, off, cur, rfl, h1, h2, h3, h4, h5, h6⟩
  · have hl0 : l = [] := List.eq_nil_of_length_eq_zero hown.1
    subst hl0
    obtain ⟨A', c', w', hrun, h2, h3, h4⟩ := run_append_b w ty base none 0 0 [] OwnB.nil B A2 m c2 l2 hr hbd hbase
    exact ⟨A', c', w', hrun, OwnM.of_own h2, h3, h4.imp id fun e => ⟨_, e, Nat.le_refl _⟩⟩
  · rcases A2 with _ | a
    · have hm : m = 0 := by
        rcases Nat.eq_zero_or_pos m with h0 | h0
        · exact h0
        · obtain ⟨ad, h, _⟩ := hr.2 h0
          cases h
      subst hm
      have hl2 : l2 = [] := List.eq_nil_of_length_eq_zero hr.len
      subst hl2
      refine ⟨some ⟨g, off, none⟩, c, w, ?_, by rw [List.append_nil]; exact hown, World.grownBy.refl w _, .inl rfl⟩
      simp [Builtin.append_, run_underlying Tryd.underlying22, sizeOf, typeInfo, hi, Builtin.lenOf, Builtin.firstCells, h3, storeCells]
    · have hcells : ∀ j u, (bv l2)[j]? = some u → w.cell? (a.add j) = some u := by
        intro j u hu
        rcases Nat.eq_zero_or_pos m with h0 | h0
        · subst h0
          have hn : l2 = [] := List.eq_nil_of_length_eq_zero hr.len
          subst hn
          simp [bv] at hu
        · obtain ⟨ad', h, _, hc⟩ := hr.2 h0
          injection h with h
          subst h
          exact hc j u hu
      have hl2 : (bv l2).length = m := by rw [bv_length]; exact hr.len
      by_cases hroom : n + m ≤ c
      · obtain ⟨fz, h2, hfz⟩ := h2
        have hrun := run_append_mid w 22 ty 5 i0 Tryd.underlying22 hi hz1 g off n c cur fz h2 hfz a m c2 (bv l2) hl2 hcells (bv_one l2) hroom (by omega)
        refine ⟨_, _, _, hrun, ⟨by rw [List.length_append, hown.1, hr.len], .inr ⟨g, off, _, rfl, h1, ⟨fz, setRow_heap w g cur _ _ _ h2, hfz.imp id (fun e => Nat.le_trans (Nat.le_of_eq ?_) e)⟩, hroom, h4, ?_, fun j u hu => ?_⟩⟩, ⟨rfl, rfl, rfl, by simp, fun k _ hk => setRow_other w g k _ (fun e => hk (by simp [e]))⟩, .inl rfl⟩
        · simp only [List.size_toArray, List.length_append, List.length_take, List.length_drop, Array.length_toList]
          omega
        · simp only [List.size_toArray, List.length_append, List.length_take, List.length_drop, Array.length_toList]
          omega
        · rw [List.getElem?_toArray]
          rw [bv_append] at hu
          by_cases hj : j < n
          · rw [List.getElem?_append_left (by rw [bv_length, hown.1]; exact hj)] at hu
            rw [List.append_assoc, List.getElem?_append_left (by rw [List.length_take, Array.length_toList]; omega), List.getElem?_take, if_pos (by omega), Array.getElem?_toList]
            exact h6 j u hu
          · have hbl : (bv l).length = n := by rw [bv_length]; exact hown.1
            rw [List.getElem?_append_right (by omega), hbl] at hu
            have hjm : j - n < (bv l2).length := by
              rcases Nat.lt_or_ge (j - n) (bv l2).length with h | h
              · exact h
              · rw [List.getElem?_eq_none h] at hu; cases hu
            have htl : (cur.toList.take (off + n)).length = off + n := by rw [List.length_take, Array.length_toList]; omega
            rw [List.append_assoc, List.getElem?_append_right (by omega), htl, List.getElem?_append_left (by omega), show off + j - (off + n) = j - n from by omega]
            exact hu
      · have holds : ∀ j u, (bv l)[j]? = some u → w.cell? ((⟨g, off, none⟩ : Addr).add j) = some u := fun j u hu => by
          rw [Addr.add_lit, h2.cell]; exact h6 j u hu
        obtain ⟨v', w', hrun, r1, r2⟩ := run_append_arg_grows (P := Tryd.prog) w 22 ty 5 i0 (.int .u8 0) 1 1 Tryd.underlying22 hi hz0 hz1 hz2 rfl (by decide)
          ⟨g, off, none⟩ n c (bv l) (by rw [bv_length, hown.1]; omega) holds a m c2 (bv l2) (by omega) hcells (by omega) (by unfold maxLen; omega) (by omega)
        have hv : ∃ A' c', v' = .slice A' (n + m) c' := by
          rcases r1.2 with ⟨rfl, e⟩ | ⟨g, cap, cur, rfl, _⟩
          · exact ⟨none, 0, by rw [e]⟩
          · exact ⟨_, _, rfl⟩
        obtain ⟨A', c', rfl⟩ := hv
        have hB : OwnB w' w.heap.size A' (n + m) c' (l ++ l2) := by unfold OwnB; rw [bv_append]; exact r1
        have hnew : ∃ k, ob A' = some k ∧ w.heap.size ≤ k := by
          rcases r1.2 with ⟨_, e⟩ | ⟨g', cap, cur', e, hb', _⟩
          · omega
          · injection e with e1 _ _
            rw [e1]
            exact ⟨g', rfl, hb'⟩
        exact ⟨A', c', w', hrun, (OwnM.of_own hB).base_le hbase, ⟨r2.os, r2.tape, r2.output, r2.size, fun k hk _ => r2.block k hk (by simp)⟩, .inr hnew⟩

theorem wpList_append_m (w : World) {ops : Array Oper} {rest : List Oper} {o : Oper} {a : Act} {Q : Exit → Act → World → Prop} (hgd : o.guard = none) (s x : Operand)
    (ho : o.op = .call { callee := .builtin .append, args := #[s, x], argTypes := #[22, 22] })
    (base : Nat) (A : Option Addr) (n c : Nat) (l : List UInt8) (hs : a.eval s = .slice A n c) (hown : OwnM w base A n c l)
    (B : Nat) (A2 : Option Addr) (m c2 : Nat) (l2 : List UInt8) (hx : a.eval x = .slice A2 m c2) (hr : RdB w B A2 m l2) (hbd : n + m ≤ 140737488355328) (hbase : base ≤ w.heap.size)
    (h : ∀ A' n' c' w', OwnM w' base A' n' c' (l ++ l2) → w.grownBy w' (ob A) → (ob A' = ob A ∨ ∃ k, ob A' = some k ∧ w.heap.size ≤ k) → wpList Tryd.prog ops Q rest (a.put o.dst (.slice A' n' c')) w') :
    wpList Tryd.prog ops Q (o :: rest) a w := by
  refine wpList_plain hgd fun K hK => ?_
  obtain ⟨A', c', w', hr, h2, h3, h4⟩ := run_append_m w o.type base A n c l hown B A2 m c2 l2 hr hbd hbase
  unfold Oper.wp execOp
  simp only [ho, resolve, invoke, builtin, Sem.run_bind, Sem.run_pure, Result.andThen_ok, List.map_toArray, List.map_cons, List.map_nil, hs, hx, hr]
  exact hK _ _ (h A' _ c' w' h2 h3 h4)

end Go.Proofs.YtkpckmdakiminaaDoor
