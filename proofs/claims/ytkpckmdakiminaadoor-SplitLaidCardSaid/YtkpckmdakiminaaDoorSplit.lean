/-
  A splitter in memory; contracts of New, Feed, add, take, Held.
-/
import Derived.Test.YtkpckmdakiminaaDoorMid
import Derived.Test.YtkpckmdakiminaaDoorSplitLaw
import Derived.Deep.QuietTactic
import Derived.BigQuiet
namespace Go.Proofs.YtkpckmdakiminaaDoor
open Go.RowKit

/-- a splitter at block g, its record's row, its rest's row -/
def SpOk (w : World) (base g : Nat) (R1 R2 : Option Nat) (s : Sp) : Prop :=
  base ≤ g ∧ (∀ k, R1 = some k → R2 ≠ some k) ∧ s.got.length ≤ s.most ∧ s.most ≤ 200 ∧ ∃ A n c A2 n2 c2, ob A = R1 ∧ ob A2 = R2 ∧
    Blk w g 64 #[.int .i64 (s.most : Int), .slice A n c, .bool s.over, .bool s.wait, .slice A2 n2 c2] ∧ OwnM w base A n c s.got ∧ OwnM w base A2 n2 c2 s.rest
def SpIn (g : Nat) (R1 R2 : Option Nat) (k : Nat) : Prop := k = g ∨ R1 = some k ∨ R2 = some k
def Newer (w : World) (R R' : Option Nat) : Prop := ∀ k, R' = some k → R = some k ∨ w.heap.size ≤ k
theorem Newer.refl (w : World) (R : Option Nat) : Newer w R R := fun _ h => .inl h
theorem Newer.none_ (w : World) (R : Option Nat) : Newer w R none := fun _ h => by cases h
/-- what a call leaves of a splitter -/
def Went (w : World) (base g : Nat) (R1 R2 : Option Nat) (s : Sp) (w' : World) : Prop :=
  ∃ R1' R2', SpOk w' base g R1' R2' s ∧ Fr w w' (SpIn g R1 R2) ∧ Newer w R1 R1' ∧ Newer w R2 R2'

section
variable {w w' w1 : World} {base g : Nat} {R1 R2 : Option Nat} {s s1 s2 : Sp}
theorem SpOk.lt (h : SpOk w base g R1 R2 s) : ∀ k, SpIn g R1 R2 k → base ≤ k ∧ k < w.heap.size := by
  obtain ⟨hb, hd, _, _, A, n, c, A2, n2, c2, rfl, rfl, hblk, h1, h2⟩ := h
  rintro k (rfl | hk | hk)
  · exact ⟨hb, hblk.lt⟩
  · exact h1.lt k hk
  · exact h2.lt k hk
theorem SpOk.fr {p : Nat → Prop} (h : SpOk w base g R1 R2 s) (hf : Fr w w' p) (hp : ∀ k, SpIn g R1 R2 k → ¬ p k) : SpOk w' base g R1 R2 s := by
  obtain ⟨hb, hd, hr, hm, A, n, c, A2, n2, c2, rfl, rfl, hblk, h1, h2⟩ := h
  exact ⟨hb, hd, hr, hm, A, n, c, A2, n2, c2, rfl, rfl, hblk.fr hf (hp g (.inl rfl)), h1.fr hf (fun k hk => hp k (.inr (.inl hk))), h2.fr hf (fun k hk => hp k (.inr (.inr hk)))⟩
theorem SpOk.below {B : Nat} (h : SpOk w base g R1 R2 s) (hb : Below B w w') (hB : w.heap.size ≤ B) : SpOk w' base g R1 R2 s :=
  h.fr (Fr.of_below hb) (fun k hk => by have := (h.lt k hk).2; omega)
theorem SpOk.drewN (h : SpOk w base g R1 R2 s) (k : Nat) : SpOk (w.drewN k) base g R1 R2 s := h
theorem Went.trans (h1 : Went w base g R1 R2 s1 w1) (h2 : ∀ R1' R2', SpOk w1 base g R1' R2' s1 → Went w1 base g R1' R2' s2 w') : Went w base g R1 R2 s2 w' := by
  obtain ⟨R1', R2', hs, hf, n1, n2⟩ := h1
  obtain ⟨R1'', R2'', hs2, hf2, m1, m2⟩ := h2 R1' R2' hs
  refine ⟨R1'', R2'', hs2, hf.trans hf2 ?_, ?_, ?_⟩
  · rintro k hk (rfl | e | e)
    · exact .inl rfl
    · rcases n1 k e with h | h
      · exact .inr (.inl h)
      · omega
    · rcases n2 k e with h | h
      · exact .inr (.inr h)
      · omega
  · intro k hk
    rcases m1 k hk with h | h
    · exact n1 k h
    · exact .inr (Nat.le_trans hf.size h)
  · intro k hk
    rcases m2 k hk with h | h
    · exact n2 k h
    · exact .inr (Nat.le_trans hf.size h)
theorem Went.refl (h : SpOk w base g R1 R2 s) : Went w base g R1 R2 s w := ⟨R1, R2, h, Fr.refl _ _, Newer.refl _ _, Newer.refl _ _⟩
theorem Went.drewN (h : Went w base g R1 R2 s w') (k : Nat) : Went w base g R1 R2 s (w'.drewN k) := by
  obtain ⟨R1', R2', hs, hf, n1, n2⟩ := h
  exact ⟨R1', R2', hs.drewN k, hf.drewN k, n1, n2⟩
theorem Went.below {B : Nat} (h : Went w base g R1 R2 s w') (h0 : SpOk w base g R1 R2 s1) (hB : B ≤ base) (hBw : B ≤ w.heap.size) : Below B w w' := by
  obtain ⟨R1', R2', hs, hf, n1, n2⟩ := h
  exact hf.below hBw (fun k hk hin => by have := (h0.lt k hin).1; omega)
/-- a field that is no slice is stored -/
theorem SpOk.cells (h : SpOk w base g R1 R2 s) : ∃ A n c A2 n2 c2, ob A = R1 ∧ ob A2 = R2 ∧ OwnM w base A n c s.got ∧ OwnM w base A2 n2 c2 s.rest ∧ w.cell? ⟨g, 0, none⟩ = some (.int .i64 (s.most : Int)) ∧ w.cell? ⟨g, 1, none⟩ = some (.slice A n c) ∧
    w.cell? ⟨g, 2, none⟩ = some (.bool s.over) ∧ w.cell? ⟨g, 3, none⟩ = some (.bool s.wait) ∧ w.cell? ⟨g, 4, none⟩ = some (.slice A2 n2 c2) ∧ ∀ i, w.frozen? ⟨g, i, none⟩ = false := by
  obtain ⟨hb, hd, hr, hm, A, n, c, A2, n2, c2, rfl, rfl, hblk, h1, h2⟩ := h
  exact ⟨A, n, c, A2, n2, c2, rfl, rfl, h1, h2, hblk.cell 0, hblk.cell 1, hblk.cell 2, hblk.cell 3, hblk.cell 4, hblk.frozen⟩
theorem sp_set {A : Option Addr} {l : List UInt8} {n c i : Nat} {u : Value} {cs : Array Value} (h : OwnB w base A n c l) (hb : Blk w g 64 cs) : OwnB (w.setCell ⟨g, i, none⟩ u) base A n c l :=
  h.fr ((Fr.refl w (fun j => j = g)).set (a := ⟨g, i, none⟩) (fun _ => rfl) u) (fun k hk e => h.ne_blk hb (by decide) (by rw [hk, e]))
theorem sp_setM {A : Option Addr} {l : List UInt8} {n c i : Nat} {u : Value} {cs : Array Value} (h : OwnM w base A n c l) (hb : Blk w g 64 cs) : OwnM (w.setCell ⟨g, i, none⟩ u) base A n c l :=
  h.fr ((Fr.refl w (fun j => j = g)).set (a := ⟨g, i, none⟩) (fun _ => rfl) u) (fun k hk e => h.ne_blk hb (by decide) (by rw [hk, e]))
theorem SpOk.set_over (h : SpOk w base g R1 R2 s) (b : Bool) : SpOk (w.setCell ⟨g, 2, none⟩ (.bool b)) base g R1 R2 { s with over := b } := by
  obtain ⟨hb, hd, hr, hm, A, n, c, A2, n2, c2, rfl, rfl, hblk, h1, h2⟩ := h
  exact ⟨hb, hd, hr, hm, A, n, c, A2, n2, c2, rfl, rfl, hblk.set_ 2 _, sp_setM h1 hblk, sp_setM h2 hblk⟩
theorem SpOk.set_wait (h : SpOk w base g R1 R2 s) (b : Bool) : SpOk (w.setCell ⟨g, 3, none⟩ (.bool b)) base g R1 R2 { s with wait := b } := by
  obtain ⟨hb, hd, hr, hm, A, n, c, A2, n2, c2, rfl, rfl, hblk, h1, h2⟩ := h
  exact ⟨hb, hd, hr, hm, A, n, c, A2, n2, c2, rfl, rfl, hblk.set_ 3 _, sp_setM h1 hblk, sp_setM h2 hblk⟩
theorem SpOk.set_norec (h : SpOk w base g R1 R2 s) : SpOk (w.setCell ⟨g, 1, none⟩ (.slice none 0 0)) base g none R2 { s with got := [] } := by
  obtain ⟨hb, hd, hr, hm, A, n, c, A2, n2, c2, rfl, rfl, hblk, h1, h2⟩ := h
  exact ⟨hb, (fun k hk => by cases hk), Nat.zero_le _, hm, none, 0, 0, A2, n2, c2, rfl, rfl, hblk.set_ 1 _, OwnM.nil, sp_setM h2 hblk⟩
theorem sp_fr (u : Value) (i : Nat) : Fr w (w.setCell ⟨g, i, none⟩ u) (SpIn g R1 R2) := (Fr.refl w _).set (a := ⟨g, i, none⟩) (fun _ => .inl rfl) u
end

set_option maxRecDepth 100000 in
set_option maxHeartbeats 1000000 in
theorem take_any (w : World) (base g : Nat) (R1 R2 : Option Nat) (s : Sp) (h : SpOk w base g R1 R2 s) :
    Calls Tryd.prog 29 #[.pointer (some ⟨g, 0, none⟩)] w fun e w' => e = .returned (.string (bstr s.got)) ∧ Went w base g R1 R2 s.take w' := by
  obtain ⟨A, n, c, A2, n2, c2, hA, hA2, h1, h2, x0, x1, x2, x3, x4, hfz⟩ := h.cells
  have H := Lib.hid h
  have k1 := run_str (c := c) h1.rd
  have f1 := hfz 1
  have f2 := hfz 2
  have f3 := hfz 3
  clear h h1 h2 hA hA2 hfz
  go_enter Tryd.func29, Tryd.ntmps29
  go_wp2_with fail
  go_ret
  refine ⟨rfl, none, R2, ((H.out.set_norec.set_over false).set_wait false), ?_, Newer.none_ _ _, Newer.refl _ _⟩
  exact ((sp_fr _ _).set (a := ⟨g, 2, none⟩) (fun _ => .inl rfl) _).set (a := ⟨g, 3, none⟩) (fun _ => .inl rfl) _

theorem rec_step {w w1 : World} {base g n c n2 c2 n' c' : Nat} {A A2 A' : Option Addr} {s : Sp} {x : UInt8} {o : Obj} (hb : base ≤ g) (hd : ∀ k, ob A = some k → ob A2 ≠ some k) (hlt : s.got.length < s.most) (hm : s.most ≤ 200)
    (hblk : Blk w g 64 #[.int .i64 (s.most : Int), .slice A n c, .bool s.over, .bool s.wait, .slice A2 n2 c2]) (h1 : OwnM w base A n c s.got) (h2 : OwnM w base A2 n2 c2 s.rest)
    (hown : OwnM w1 base A' n' c' (s.got ++ [x])) (hg : (w.alloc o).grownBy w1 (ob A)) (hob : ob A' = ob A ∨ ∃ j, ob A' = some j ∧ (w.alloc o).heap.size ≤ j) :
    Blk w1 g 64 #[.int .i64 (s.most : Int), .slice A n c, .bool s.over, .bool s.wait, .slice A2 n2 c2] ∧ Went w base g (ob A) (ob A2) { s with got := s.got ++ [x] } (w1.setCell ⟨g, 1, none⟩ (.slice A' n' c')) := by
  have hne : ob A ≠ some g := h1.ne_blk hblk (by decide)
  have hblk1 := (hblk.alloc o).grown hg (Ne.symm hne)
  have hf : Fr w w1 (SpIn g (ob A) (ob A2)) := ((Fr.refl w _).alloc o).grown hg (fun k _ hk => .inr (.inl hk))
  have h2' : OwnM w1 base A2 n2 c2 s.rest := (h2.alloc o).fr (Fr.of_grown hg) (fun k hk e => hd k e hk)
  refine ⟨hblk1, ob A', ob A2, ⟨hb, ?_, by simp; omega, hm, A', n', c', A2, n2, c2, rfl, rfl, by simpa using hblk1.set_ 1 (.slice A' n' c'), sp_setM hown hblk1, sp_setM h2' hblk1⟩, hf.set (fun _ => .inl rfl) _, ?_, Newer.refl _ _⟩
  · intro k hk
    rcases hob with e | ⟨j, e, hj⟩
    · exact hd k (by rw [← e]; exact hk)
    · intro h
      rw [e] at hk
      injection hk with hk
      have := (h2.lt k h).2
      simp at hj
      omega
  · intro k hk
    rcases hob with e | ⟨j, e, hj⟩
    · exact .inl (by rw [← e]; exact hk)
    · rw [e] at hk
      injection hk with hk
      simp at hj
      exact .inr (by omega)

theorem rest_step {w w1 : World} {base g n c n2 c2 n' c' : Nat} {A A2 A' : Option Addr} {s : Sp} {b : List UInt8} (hb : base ≤ g) (hd : ∀ k, ob A = some k → ob A2 ≠ some k) (hr : s.got.length ≤ s.most) (hm : s.most ≤ 200)
    (hblk : Blk w g 64 #[.int .i64 (s.most : Int), .slice A n c, .bool s.over, .bool s.wait, .slice A2 n2 c2]) (h1 : OwnM w base A n c s.got) (h2 : OwnM w base A2 n2 c2 s.rest)
    (hown : OwnM w1 base A' n' c' b) (hg : w.grownBy w1 (ob A2)) (hob : ob A' = ob A2 ∨ ∃ k, ob A' = some k ∧ w.heap.size ≤ k) :
    Blk w1 g 64 #[.int .i64 (s.most : Int), .slice A n c, .bool s.over, .bool s.wait, .slice A2 n2 c2] ∧ Went w base g (ob A) (ob A2) { s with rest := b } (w1.setCell ⟨g, 4, none⟩ (.slice A' n' c')) := by
  have hne : ob A2 ≠ some g := h2.ne_blk hblk (by decide)
  have hblk1 := hblk.grown hg (Ne.symm hne)
  have hf : Fr w w1 (SpIn g (ob A) (ob A2)) := (Fr.refl w _).grown hg (fun k _ hk => .inr (.inr hk))
  have h1' : OwnM w1 base A n c s.got := h1.fr (Fr.of_grown hg) (fun k hk e => hd k hk e)
  refine ⟨hblk1, ob A, ob A', ⟨hb, ?_, hr, hm, A, n, c, A', n', c', rfl, rfl, by simpa using hblk1.set_ 4 (.slice A' n' c'), sp_setM h1' hblk1, sp_setM hown hblk1⟩, hf.set (fun _ => .inl rfl) _, Newer.refl _ _, ?_⟩
  · intro k hk
    rcases hob with e | ⟨j, e, hj⟩
    · rw [e]; exact hd k hk
    · intro h
      rw [e] at h
      injection h with h
      have := (h1.lt k hk).2
      omega
  · intro k hk
    rcases hob with e | ⟨j, e, hj⟩
    · exact .inl (by rw [← e]; exact hk)
    · rw [e] at hk
      injection hk with hk
      exact .inr (by omega)

set_option maxRecDepth 100000 in
set_option maxHeartbeats 1000000 in
theorem add_any (x : UInt8) (w : World) (base g : Nat) (R1 R2 : Option Nat) (s : Sp) (h : SpOk w base g R1 R2 s) (hbase : base ≤ w.heap.size) :
    Calls Tryd.prog 30 #[.pointer (some ⟨g, 0, none⟩), .int .u8 (x.toNat : Int)] w fun e w' => e = .returned (.tuple #[]) ∧ Went w base g R1 R2 (s.add x) w' := by
  have H := Lib.hid h
  obtain ⟨hb, hd, hr, hm, A, n, c, A2, n2, c2, rfl, rfl, hblk, h1, h2⟩ := h
  have x0 : w.cell? ⟨g, 0, none⟩ = some (.int .i64 (s.most : Int)) := hblk.cell 0
  have x1 : w.cell? ⟨g, 1, none⟩ = some (.slice A n c) := hblk.cell 1
  have hn : n ≤ 200 := by have := h1.len; omega
  have hnl : s.got.length = n := h1.len
  have HN := Lib.hid hnl
  clear hnl
  have hx0 : (0 : Int) ≤ (x.toNat : Int) := by omega
  have hx1 : (x.toNat : Int) < 256 := by have := x.toNat_lt; omega
  by_cases hlt : n < s.most
  · have hlti : (n : Int) < (s.most : Int) := by omega
    have hsp : s.add x = { s with got := s.got ++ [x] } := by unfold Sp.add; rw [if_pos (by rw [HN.out]; exact hlt)]
    have HS := Lib.hid hsp
    clear hsp
    go_enter Tryd.func30, Tryd.ntmps30
    go_wp2_with fail
    go_quiet (fail)
    go_wp2_with (at_builtin; go_loud (refine wpList_append_m _ rfl (.tmp 18) (.tmp 20) rfl base A n c _ rfl ((h1.drewN _).alloc _) _ _ 1 1 [byt (x.toNat : Int)] rfl (rd_byt _ hx0 hx1) (by omega) (by simp; omega) ?_); intro A' n' c' w1 hown1 hg1 hob; rw [byt_of] at hown1; have hst := rec_step (w := w.drewN nq) (o := .cells #[.int .u8 (x.toNat : Int)] 5) hb hd (by rw [HN.out]; exact hlt) hm hblk h1 h2 hown1 hg1 hob; have hcell1 : w1.cell? ⟨g, 1, none⟩ = some (.slice A n c) := hst.1.cell 1; have hfz1 := hst.1.frozen 1)
    go_end0
    refine ⟨rfl, ?_⟩
    rw [HS.out]
    obtain ⟨_, R1', R2', q1, q2, q3, q4⟩ := hst
    exact ⟨R1', R2', q1, ⟨q2.os, q2.tape, q2.output, q2.size, q2.block⟩, q3, q4⟩
  · have hlti : ¬ (n : Int) < (s.most : Int) := by omega
    have hsp : s.add x = { s with over := true } := by unfold Sp.add; rw [if_neg (by rw [HN.out]; exact hlt)]
    have HS := Lib.hid hsp
    clear hsp
    have x2 : w.cell? ⟨g, 2, none⟩ = some (.bool s.over) := hblk.cell 2
    have f2 := hblk.frozen 2
    go_enter Tryd.func30, Tryd.ntmps30
    go_wp2_with fail
    go_quiet (fail)
    go_wp2_with fail
    go_end0
    refine ⟨rfl, ?_⟩
    rw [HS.out]
    exact ⟨_, _, (H.out.drewN _).set_over true, Fr.set ((Fr.refl w _).drewN _) (a := ⟨g, 2, none⟩) (fun _ => .inl rfl) _, Newer.refl _ _, Newer.refl _ _⟩

set_option maxRecDepth 100000 in
set_option maxHeartbeats 1000000 in
theorem feed_any (A3 : Option Addr) (n3 c3 : Nat) (b : List UInt8) (B : Nat) (w : World) (base g : Nat) (R1 R2 : Option Nat) (s : Sp) (h : SpOk w base g R1 R2 s) (hbase : base ≤ w.heap.size) (hr : RdB w B A3 n3 b) (hn : s.rest.length + n3 ≤ 140737488355328) :
    Calls Tryd.prog 12 #[.pointer (some ⟨g, 0, none⟩), .slice A3 n3 c3] w fun e w' => e = .returned (.tuple #[]) ∧ Went w base g R1 R2 (s.feed b) w' := by
  obtain ⟨hb, hd, hr1, hm, A, n, c, A2, n2, c2, rfl, rfl, hblk, h1, h2⟩ := h
  have x4 : w.cell? ⟨g, 4, none⟩ = some (.slice A2 n2 c2) := hblk.cell 4
  have hn2 : n2 + n3 ≤ 140737488355328 := by have := h2.1; omega
  go_enter Tryd.func12, Tryd.ntmps12
  go_wp2_with (at_builtin; go_loud (refine wpList_append_m _ rfl (.tmp 8) (.tmp 9) rfl base A2 n2 c2 _ rfl h2 B A3 n3 c3 b rfl hr hn2 hbase ?_); intro A' n' c' w1 hown1 hg1 hob; have hst := rest_step hb hd hr1 hm hblk h1 h2 hown1 hg1 hob; have hcell1 : w1.cell? ⟨g, 4, none⟩ = some (.slice A2 n2 c2) := hst.1.cell 4; have hfz1 := hst.1.frozen 4)
  go_end0
  exact ⟨rfl, hst.2⟩

end Go.Proofs.YtkpckmdakiminaaDoor
