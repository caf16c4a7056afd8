/-
  The document's splitter in memory; its put and ends.
-/
import Derived.Test.YtkpckmdakiminaaDoorSplit
namespace Go.Proofs.YtkpckmdakiminaaDoor
open Go.RowKit

/-- a splitter at block g, its record's row, its rest's row -/
def SqOk (w : World) (base g : Nat) (R1 R2 : Option Nat) (s : Sp) : Prop :=
  base ≤ g ∧ (∀ k, R1 = some k → R2 ≠ some k) ∧ s.got.length ≤ s.most ∧ s.most ≤ 200 ∧ ∃ A n c A2 n2 c2, ob A = R1 ∧ ob A2 = R2 ∧
    Blk w g 40 #[.int .i64 (s.most : Int), .slice A n c, .bool s.over, .bool s.wait, .slice A2 n2 c2] ∧ OwnM w base A n c s.got ∧ OwnM w base A2 n2 c2 s.rest
/-- what a call leaves of a splitter -/
def Wenq (w : World) (base g : Nat) (R1 R2 : Option Nat) (s : Sp) (w' : World) : Prop :=
  ∃ R1' R2', SqOk w' base g R1' R2' s ∧ Fr w w' (SpIn g R1 R2) ∧ Newer w R1 R1' ∧ Newer w R2 R2'

section
variable {w w' w1 : World} {base g : Nat} {R1 R2 : Option Nat} {s s1 s2 : Sp}
theorem SqOk.lt (h : SqOk w base g R1 R2 s) : ∀ k, SpIn g R1 R2 k → base ≤ k ∧ k < w.heap.size := by
  obtain ⟨hb, hd, _, _, A, n, c, A2, n2, c2, rfl, rfl, hblk, h1, h2⟩ := h
  rintro k (rfl | hk | hk)
  · exact ⟨hb, hblk.lt⟩
  · exact h1.lt k hk
  · exact h2.lt k hk
theorem SqOk.fr {p : Nat → Prop} (h : SqOk w base g R1 R2 s) (hf : Fr w w' p) (hp : ∀ k, SpIn g R1 R2 k → ¬ p k) : SqOk w' base g R1 R2 s := by
  obtain ⟨hb, hd, hr, hm, A, n, c, A2, n2, c2, rfl, rfl, hblk, h1, h2⟩ := h
  exact ⟨hb, hd, hr, hm, A, n, c, A2, n2, c2, rfl, rfl, hblk.fr hf (hp g (.inl rfl)), h1.fr hf (fun k hk => hp k (.inr (.inl hk))), h2.fr hf (fun k hk => hp k (.inr (.inr hk)))⟩
theorem SqOk.below {B : Nat} (h : SqOk w base g R1 R2 s) (hb : Below B w w') (hB : w.heap.size ≤ B) : SqOk w' base g R1 R2 s :=
  h.fr (Fr.of_below hb) (fun k hk => by have := (h.lt k hk).2; omega)
theorem SqOk.drewN (h : SqOk w base g R1 R2 s) (k : Nat) : SqOk (w.drewN k) base g R1 R2 s := h
theorem Wenq.trans (h1 : Wenq w base g R1 R2 s1 w1) (h2 : ∀ R1' R2', SqOk w1 base g R1' R2' s1 → Wenq w1 base g R1' R2' s2 w') : Wenq w base g R1 R2 s2 w' := by
  obtain ⟨R1', R2', hs, hf, n1, n2⟩ := h1
  obtain ⟨R1'', R2'', hs2, hf2, m1, m2⟩ := h2 R1' R2' hs
  refine ⟨R1'', R2'', hs2, hf.trans hf2 ?_, ?_, ?_⟩
  · rintro k hk (rfl | e | e)
    · exact .inl rfl
    · rcases n1 k e with h | h
      · exact .inr (.inl h)
      · omega
    · rcases n2 k e with h | h
      · exact .inr (.inr h)
      · omega
  · intro k hk
    rcases m1 k hk with h | h
    · exact n1 k h
    · exact .inr (Nat.le_trans hf.size h)
  · intro k hk
    rcases m2 k hk with h | h
    · exact n2 k h
    · exact .inr (Nat.le_trans hf.size h)
theorem Wenq.refl (h : SqOk w base g R1 R2 s) : Wenq w base g R1 R2 s w := ⟨R1, R2, h, Fr.refl _ _, Newer.refl _ _, Newer.refl _ _⟩
theorem Wenq.drewN (h : Wenq w base g R1 R2 s w') (k : Nat) : Wenq w base g R1 R2 s (w'.drewN k) := by
  obtain ⟨R1', R2', hs, hf, n1, n2⟩ := h
  exact ⟨R1', R2', hs.drewN k, hf.drewN k, n1, n2⟩
theorem Wenq.below {B : Nat} (h : Wenq w base g R1 R2 s w') (h0 : SqOk w base g R1 R2 s1) (hB : B ≤ base) (hBw : B ≤ w.heap.size) : Below B w w' := by
  obtain ⟨R1', R2', hs, hf, n1, n2⟩ := h
  exact hf.below hBw (fun k hk hin => by have := (h0.lt k hin).1; omega)
/-- a field that is no slice is stored -/
theorem SqOk.cells (h : SqOk w base g R1 R2 s) : ∃ A n c A2 n2 c2, ob A = R1 ∧ ob A2 = R2 ∧ OwnM w base A n c s.got ∧ OwnM w base A2 n2 c2 s.rest ∧ w.cell? ⟨g, 0, none⟩ = some (.int .i64 (s.most : Int)) ∧ w.cell? ⟨g, 1, none⟩ = some (.slice A n c) ∧
    w.cell? ⟨g, 2, none⟩ = some (.bool s.over) ∧ w.cell? ⟨g, 3, none⟩ = some (.bool s.wait) ∧ w.cell? ⟨g, 4, none⟩ = some (.slice A2 n2 c2) ∧ ∀ i, w.frozen? ⟨g, i, none⟩ = false := by
  obtain ⟨hb, hd, hr, hm, A, n, c, A2, n2, c2, rfl, rfl, hblk, h1, h2⟩ := h
  exact ⟨A, n, c, A2, n2, c2, rfl, rfl, h1, h2, hblk.cell 0, hblk.cell 1, hblk.cell 2, hblk.cell 3, hblk.cell 4, hblk.frozen⟩
theorem sq_set {A : Option Addr} {l : List UInt8} {n c i : Nat} {u : Value} {cs : Array Value} (h : OwnB w base A n c l) (hb : Blk w g 40 cs) : OwnB (w.setCell ⟨g, i, none⟩ u) base A n c l :=
  h.fr ((Fr.refl w (fun j => j = g)).set (a := ⟨g, i, none⟩) (fun _ => rfl) u) (fun k hk e => h.ne_blk hb (by decide) (by rw [hk, e]))
theorem sq_setM {A : Option Addr} {l : List UInt8} {n c i : Nat} {u : Value} {cs : Array Value} (h : OwnM w base A n c l) (hb : Blk w g 40 cs) : OwnM (w.setCell ⟨g, i, none⟩ u) base A n c l :=
  h.fr ((Fr.refl w (fun j => j = g)).set (a := ⟨g, i, none⟩) (fun _ => rfl) u) (fun k hk e => h.ne_blk hb (by decide) (by rw [hk, e]))
theorem SqOk.set_over (h : SqOk w base g R1 R2 s) (b : Bool) : SqOk (w.setCell ⟨g, 2, none⟩ (.bool b)) base g R1 R2 { s with over := b } := by
  obtain ⟨hb, hd, hr, hm, A, n, c, A2, n2, c2, rfl, rfl, hblk, h1, h2⟩ := h
  exact ⟨hb, hd, hr, hm, A, n, c, A2, n2, c2, rfl, rfl, hblk.set_ 2 _, sq_setM h1 hblk, sq_setM h2 hblk⟩
theorem SqOk.set_wait (h : SqOk w base g R1 R2 s) (b : Bool) : SqOk (w.setCell ⟨g, 3, none⟩ (.bool b)) base g R1 R2 { s with wait := b } := by
  obtain ⟨hb, hd, hr, hm, A, n, c, A2, n2, c2, rfl, rfl, hblk, h1, h2⟩ := h
  exact ⟨hb, hd, hr, hm, A, n, c, A2, n2, c2, rfl, rfl, hblk.set_ 3 _, sq_setM h1 hblk, sq_setM h2 hblk⟩
theorem SqOk.set_norec (h : SqOk w base g R1 R2 s) : SqOk (w.setCell ⟨g, 1, none⟩ (.slice none 0 0)) base g none R2 { s with got := [] } := by
  obtain ⟨hb, hd, hr, hm, A, n, c, A2, n2, c2, rfl, rfl, hblk, h1, h2⟩ := h
  exact ⟨hb, (fun k hk => by cases hk), Nat.zero_le _, hm, none, 0, 0, A2, n2, c2, rfl, rfl, hblk.set_ 1 _, OwnM.nil, sq_setM h2 hblk⟩
theorem sq_fr (u : Value) (i : Nat) : Fr w (w.setCell ⟨g, i, none⟩ u) (SpIn g R1 R2) := (Fr.refl w _).set (a := ⟨g, i, none⟩) (fun _ => .inl rfl) u
end

set_option maxRecDepth 100000 in
set_option maxHeartbeats 1000000 in
theorem ends_any (w : World) (base g : Nat) (R1 R2 : Option Nat) (s : Sp) (h : SqOk w base g R1 R2 s) :
    Calls Tryd.prog 31 #[.pointer (some ⟨g, 0, none⟩)] w fun e w' => e = .returned (.string (bstr s.got)) ∧ Wenq w base g R1 R2 s.take w' := by
  obtain ⟨A, n, c, A2, n2, c2, hA, hA2, h1, h2, x0, x1, x2, x3, x4, hfz⟩ := h.cells
  have H := Lib.hid h
  have k1 := run_str (c := c) h1.rd
  have f1 := hfz 1
  have f2 := hfz 2
  have f3 := hfz 3
  clear h h1 h2 hA hA2 hfz
  go_enter Tryd.func31, Tryd.ntmps31
  go_wp2_with fail
  go_ret
  refine ⟨rfl, none, R2, ((H.out.set_norec.set_over false).set_wait false), ?_, Newer.none_ _ _, Newer.refl _ _⟩
  exact ((sq_fr _ _).set (a := ⟨g, 2, none⟩) (fun _ => .inl rfl) _).set (a := ⟨g, 3, none⟩) (fun _ => .inl rfl) _

theorem rest_stepq {w w1 : World} {base g n c n2 c2 n' c' : Nat} {A A2 A' : Option Addr} {s : Sp} {b : List UInt8} (hb : base ≤ g) (hd : ∀ k, ob A = some k → ob A2 ≠ some k) (hr : s.got.length ≤ s.most) (hm : s.most ≤ 200)
    (hblk : Blk w g 40 #[.int .i64 (s.most : Int), .slice A n c, .bool s.over, .bool s.wait, .slice A2 n2 c2]) (h1 : OwnM w base A n c s.got) (h2 : OwnM w base A2 n2 c2 s.rest)
    (hown : OwnM w1 base A' n' c' b) (hg : w.grownBy w1 (ob A2)) (hob : ob A' = ob A2 ∨ ∃ k, ob A' = some k ∧ w.heap.size ≤ k) :
    Blk w1 g 40 #[.int .i64 (s.most : Int), .slice A n c, .bool s.over, .bool s.wait, .slice A2 n2 c2] ∧ Wenq w base g (ob A) (ob A2) { s with rest := b } (w1.setCell ⟨g, 4, none⟩ (.slice A' n' c')) := by
  have hne : ob A2 ≠ some g := h2.ne_blk hblk (by decide)
  have hblk1 := hblk.grown hg (Ne.symm hne)
  have hf : Fr w w1 (SpIn g (ob A) (ob A2)) := (Fr.refl w _).grown hg (fun k _ hk => .inr (.inr hk))
  have h1' : OwnM w1 base A n c s.got := h1.fr (Fr.of_grown hg) (fun k hk e => hd k hk e)
  refine ⟨hblk1, ob A, ob A', ⟨hb, ?_, hr, hm, A, n, c, A', n', c', rfl, rfl, by simpa using hblk1.set_ 4 (.slice A' n' c'), sq_setM h1' hblk1, sq_setM hown hblk1⟩, hf.set (fun _ => .inl rfl) _, Newer.refl _ _, ?_⟩
  · intro k hk
    rcases hob with e | ⟨j, e, hj⟩
    · rw [e]; exact hd k hk
    · intro h
      rw [e] at h
      injection h with h
      have := (h1.lt k hk).2
      omega
  · intro k hk
    rcases hob with e | ⟨j, e, hj⟩
    · exact .inl (by rw [← e]; exact hk)
    · rw [e] at hk
      injection hk with hk
      exact .inr (by omega)


/-- a new row is stored as the record -/
theorem got_new {w w1 : World} {base g n' c' : Nat} {R1 R2 : Option Nat} {A' : Option Addr} {s : Sp} {l : List UInt8} (h : SqOk w base g R1 R2 s) (hl : l.length ≤ s.most) (hb1 : Below w.heap.size w w1)
    (hown : OwnM w1 base A' n' c' l) (hob : ∀ k, ob A' = some k → w.heap.size ≤ k) :
    (w1.cell? ⟨g, 1, none⟩ = w.cell? ⟨g, 1, none⟩ ∧ w1.frozen? ⟨g, 1, none⟩ = false) ∧ Wenq w base g R1 R2 { s with got := l } (w1.setCell ⟨g, 1, none⟩ (.slice A' n' c')) := by
  obtain ⟨hb, hd, hr, hm, A, n, c, A2, n2, c2, rfl, rfl, hblk, h1, h2⟩ := h
  have hblk1 : Blk w1 g 40 #[.int .i64 (s.most : Int), .slice A n c, .bool s.over, .bool s.wait, .slice A2 n2 c2] := hblk.below hb1 hblk.lt
  have h2' : OwnM w1 base A2 n2 c2 s.rest := h2.fr (Fr.of_below hb1) (fun k hk => by have := (h2.lt k hk).2; omega)
  refine ⟨⟨hb1.cell (p := ⟨g, 1, none⟩) hblk.lt, hblk1.frozen 1⟩, ob A', ob A2, ⟨hb, ?_, hl, hm, A', n', c', A2, n2, c2, rfl, rfl, by simpa using hblk1.set_ 1 (.slice A' n' c'), sq_setM hown hblk1, sq_setM h2' hblk1⟩, ?_, ?_, Newer.refl _ _⟩
  · intro k hk hk2
    have h3 := hob k hk
    have h4 := (h2.lt k hk2).2
    omega
  · exact ((Fr.of_below hb1).mono (p := SpIn g (ob A) (ob A2)) (fun k hk hle => by omega)).set (fun _ => .inl rfl) _
  · exact fun k hk => .inr (hob k hk)
/-- a new row is stored as what has not been looked at -/
theorem rest_new {w w1 : World} {base g n' c' : Nat} {R1 R2 : Option Nat} {A' : Option Addr} {s : Sp} {l : List UInt8} (h : SqOk w base g R1 R2 s) (hb1 : Below w.heap.size w w1)
    (hown : OwnM w1 base A' n' c' l) (hob : ∀ k, ob A' = some k → w.heap.size ≤ k) :
    (w1.cell? ⟨g, 4, none⟩ = w.cell? ⟨g, 4, none⟩ ∧ w1.frozen? ⟨g, 4, none⟩ = false) ∧ Wenq w base g R1 R2 { s with rest := l } (w1.setCell ⟨g, 4, none⟩ (.slice A' n' c')) := by
  obtain ⟨hb, hd, hr, hm, A, n, c, A2, n2, c2, rfl, rfl, hblk, h1, h2⟩ := h
  have hblk1 : Blk w1 g 40 #[.int .i64 (s.most : Int), .slice A n c, .bool s.over, .bool s.wait, .slice A2 n2 c2] := hblk.below hb1 hblk.lt
  have h1' : OwnM w1 base A n c s.got := h1.fr (Fr.of_below hb1) (fun k hk => by have := (h1.lt k hk).2; omega)
  refine ⟨⟨hb1.cell (p := ⟨g, 4, none⟩) hblk.lt, hblk1.frozen 4⟩, ob A, ob A', ⟨hb, ?_, hr, hm, A, n, c, A', n', c', rfl, rfl, by simpa using hblk1.set_ 4 (.slice A' n' c'), sq_setM h1' hblk1, sq_setM hown hblk1⟩, ?_, Newer.refl _ _, ?_⟩
  · intro k hk hk2
    have h3 := hob k hk2
    have h4 := (h1.lt k hk).2
    omega
  · exact ((Fr.of_below hb1).mono (p := SpIn g (ob A) (ob A2)) (fun k hk hle => by omega)).set (fun _ => .inl rfl) _
  · exact fun k hk => .inr (hob k hk)

set_option maxRecDepth 100000 in
set_option maxHeartbeats 1000000 in
theorem put_any (x : UInt8) (w : World) (base g : Nat) (R1 R2 : Option Nat) (s : Sp) (h : SqOk w base g R1 R2 s) (hbase : base ≤ w.heap.size) :
    Calls Tryd.prog 32 #[.pointer (some ⟨g, 0, none⟩), .int .u8 (x.toNat : Int)] w fun e w' => e = .returned (.tuple #[]) ∧ Wenq w base g R1 R2 (s.add x) w' := by
  have H := Lib.hid h
  obtain ⟨A, n, c, A2, n2, c2, hA, hA2, h1, h2, x0, x1, x2, x3, x4, hfz⟩ := h.cells
  have hm := h.2.2.2.1
  have hgm := h.2.2.1
  have hg9 : g < w.heap.size := (h.lt g (.inl rfl)).2
  have hn : n ≤ 200 := by have := h1.len; omega
  have hnl : s.got.length = n := h1.len
  have HN := Lib.hid hnl
  have f2 := hfz 2
  clear hnl h h2 x3 x4 hfz
  have hx0 : (0 : Int) ≤ (x.toNat : Int) := by omega
  have hx1 : (x.toNat : Int) < 256 := by have := x.toNat_lt; omega
  by_cases hlt : n < s.most
  · have hlti : (n : Int) < (s.most : Int) := by omega
    have hsp : s.add x = { s with got := s.got ++ [x] } := by unfold Sp.add; rw [if_pos (by rw [HN.out]; exact hlt)]
    have HS := Lib.hid hsp
    have xa1 : ∀ (k : Nat) (o : Obj), ((w.drewN k).alloc o).cell? ⟨g, 1, none⟩ = some (.slice A n c) := fun k o => (World.cell?_alloc_lt _ o _ (by simpa using hg9)).trans x1
    clear hsp x2 f2
    go_enter Tryd.func32, Tryd.ntmps32
    go_wp2_with fail
    go_quiet (fail)
    go_wp2_with (first
      | (at_builtin; refine wpList_append_b _ rfl (.tmp 15) (.tmp 19) rfl w.heap.size _ 0 0 [] rfl (OwnB.made (Nat.le_refl _)) _ A n c _ rfl ((h1.drewN _).rd.alloc (Nat.le_refl _) _) (by omega) (by simp) ?_; intro A4 n4 c4 w4 hown4 hg4 hob4; rw [List.nil_append] at hown4; have hn4 : n4 ≤ 200 := (by have := hown4.len; omega); have hb4 := below_grown (Below.refl w.heap.size (w.drewN nq)) hg4 (Nat.le_refl _) (by simp); have hs4 : w.heap.size ≤ w4.heap.size := hb4.size; have hc4 : w4.cell? ⟨g, 1, none⟩ = some (.slice A n c) := (hb4.cell (p := ⟨g, 1, none⟩) hg9).trans x1)
      | (at_builtin; go_must (refine wpList_append_b _ rfl (.tmp 20) (.tmp 22) rfl w.heap.size A4 n4 c4 _ rfl (hown4.alloc _) _ _ 1 1 [byt (x.toNat : Int)] rfl (rd_byt _ hx0 hx1) (by omega) (by simp; omega) ?_); intro A5 n5 c5 w5 hown5 hg5 hob5; rw [byt_of] at hown5; have hb5 := below_grown hb4 hg5 hs4 (fun k hk => by have := hown4.lt k hk; omega); have hst := got_new (H.out.drewN nq) (by rw [List.length_append, HN.out]; simp; omega) hb5 (OwnM.of_own (hown5.base_le (fun k _ hk => by omega))) (fun k hk => by have := hown5.lt k hk; exact this.1); have hcell1 := hst.1.1.trans x1; have hfz1 := hst.1.2))
    go_end0
    refine ⟨rfl, ?_⟩
    rw [HS.out]
    obtain ⟨_, R1', R2', q1, q2, q3, q4⟩ := hst
    exact ⟨R1', R2', q1, ⟨q2.os, q2.tape, q2.output, q2.size, q2.block⟩, q3, q4⟩
  · have hlti : ¬ (n : Int) < (s.most : Int) := by omega
    have hsp : s.add x = { s with over := true } := by unfold Sp.add; rw [if_neg (by rw [HN.out]; exact hlt)]
    have HS := Lib.hid hsp
    clear hsp
    go_enter Tryd.func32, Tryd.ntmps32
    go_wp2_with fail
    go_quiet (fail)
    go_wp2_with fail
    go_end0
    refine ⟨rfl, ?_⟩
    rw [HS.out]
    exact ⟨_, _, (H.out.drewN _).set_over true, Fr.set ((Fr.refl w _).drewN _) (a := ⟨g, 2, none⟩) (fun _ => .inl rfl) _, Newer.refl _ _, Newer.refl _ _⟩

end Go.Proofs.YtkpckmdakiminaaDoor
