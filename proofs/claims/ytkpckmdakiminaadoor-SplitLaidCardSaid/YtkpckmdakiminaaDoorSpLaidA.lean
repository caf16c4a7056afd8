/-
  The walk of SplitLaid: what it leans on.
-/
import Derived.Test.YtkpckmdakiminaaDoorSpRead
import Derived.Test.YtkpckmdakiminaaDoorSpPair
namespace Go.Proofs.YtkpckmdakiminaaDoor
open Go.RowKit

theorem SpOk.base_le {w : World} {base B g : Nat} {R1 R2 : Option Nat} {s : Sp} (h : SpOk w base g R1 R2 s) (hb : B ≤ base) : SpOk w B g R1 R2 s := by
  obtain ⟨hb0, hd, hr, hm, A, n, c, A2, n2, c2, e1, e2, hblk, h1, h2⟩ := h
  exact ⟨Nat.le_trans hb hb0, hd, hr, hm, A, n, c, A2, n2, c2, e1, e2, hblk, h1.base_le hb, h2.base_le hb⟩
theorem SqOk.base_le {w : World} {base B g : Nat} {R1 R2 : Option Nat} {s : Sp} (h : SqOk w base g R1 R2 s) (hb : B ≤ base) : SqOk w B g R1 R2 s := by
  obtain ⟨hb0, hd, hr, hm, A, n, c, A2, n2, c2, e1, e2, hblk, h1, h2⟩ := h
  exact ⟨Nat.le_trans hb hb0, hd, hr, hm, A, n, c, A2, n2, c2, e1, e2, hblk, h1.base_le hb, h2.base_le hb⟩
theorem readSp_rest (l : List UInt8) (st : Nat × Int) (m : Nat) : (readSp l st m).1.rest.length ≤ 2048 := by
  unfold readSp
  simp only
  split
  · exact rText_le l _ 2048
  · simp [Sp.init]
theorem readSp_most (l : List UInt8) (st : Nat × Int) (m : Nat) : (readSp l st m).1.most = m := by
  unfold readSp
  simp only
  split
  · rfl
  · rfl
theorem readSp_bad (l : List UInt8) (m : Nat) : -100 < (readSp l (0, 0) m).2.2 ∧ (readSp l (0, 0) m).2.2 < 100 := by
  show -100 < (rText l (rByte l (rText l (0, 0) (m : Int)).2 3).2 2048).2.2 ∧ _
  exact rText_bad l _ 2048 (rByte_bad l _ 3 (rText_bad l (0, 0) (m : Int) (by decide)))

theorem seps_laid3 {W : World} (h : laidMetH Tryd.prog Rows.splitLaidRow.laid W) : SepsAt W :=
  strs_of_head (t := 26) (e := 9) (n := 5) (rest := []) (by kernel_rfl) (by kernel_rfl) Tryd.underlying26 Tryd.underlying9 (by kernel_rfl) (by kernel_rfl) h

set_option maxRecDepth 100000 in
theorem spRead_zero (w : World) (gp : Nat) :
    Calls Tryd.prog 25 #[.pointer (some ⟨gp, 0, none⟩), .int .i64 0] w fun e w' => e = .returned (.pointer none) ∧ w' = w := by
  go_enter Tryd.func25, Tryd.ntmps25
  go_wp2_with fail
  refine (new_bad w 0 (.inl (by decide)) (by decide) (by decide)).mono ?_
  rintro e w1 ⟨rfl, rfl⟩
  go_wp2_with fail
  go_ret
  exact ⟨rfl, rfl⟩

/-- both, read and known -/
theorem Pr.of_read {w0 w2 w3 w4 w5 : World} {B gq g gr : Nat} {R1 R2 Q1 Q2 : Option Nat} {s t : Sp} (hB : B ≤ w0.heap.size) (hb2 : Below B w0 w2)
    (hs : SpOk w3 w2.heap.size g R1 R2 s) (h3 : Below B w2 w3) (hq : SqOk w4 w3.heap.size gr Q1 Q2 t) (hf4 : Fr w3 w4 (fun k => k = gq)) (hgq : B ≤ gq) (hgq2 : gq < w2.heap.size)
    (hl : Fr w4 w5 (fun k => B ≤ k ∧ k < w2.heap.size)) : Pr (fun _ => False) B w0 w5 g s gr t := by
  have hz2 := hb2.size
  have hz3 := h3.size
  have hz4 := hf4.size
  have h4 : Below B w3 w4 := hf4.below (by omega) (fun k hk e => by omega)
  have h5 : Below B w4 w5 := hl.below (by omega) (fun k hk e => by omega)
  have hs4 : SpOk w4 w2.heap.size g R1 R2 s := hs.fr hf4 (fun k hk e => by have := (hs.lt k hk).1; omega)
  refine ⟨by have := hl.size; omega, ((hb2.trans h3).trans h4).trans h5, R1, R2, Q1, Q2, (hs4.fr hl (fun k hk e => by have := (hs4.lt k hk).1; omega)).base_le (by omega), (hq.fr hl (fun k hk e => by have := (hq.lt k hk).1; omega)).base_le (by omega), ?_, fun k hk => hk.elim⟩
  intro k hk hin
  have h1 := (hs.lt k hk).2
  have h2 := (hq.lt k hin).1
  omega

theorem rd_byt2 (w : World) {x : Int} (y : Int) (hx : x = y) (h0 : 0 ≤ y) (h1 : y < 256) : RdB (w.alloc (.cells #[.int .u8 x] 5)) (w.heap.size + 1) (some ⟨w.heap.size, 0, none⟩) 1 [byt y] := by
  subst hx
  exact rd_byt w h0 h1

/-- min of two ints, as one step of a region -/
theorem step_min (w : World) {ops : Array Oper} {o : Oper} {a : Act} {K : Act → World → Prop} {Q : Exit → Act → World → Prop} {E : Prop} (hgd : o.guard = none) (s x : Operand) (ts : Array TypeId)
    (ho : o.op = .call { callee := .builtin .min, args := #[s, x], argTypes := ts }) (p q r : Int) (hs : a.eval s = .int .i64 p) (hx : a.eval x = .int .i64 q) (hr : (if q < p then q else p) = r)
    (h : K (a.put o.dst (.int .i64 r)) w) : if Region.wanted o (yielded ops a.tmps) = true then Oper.wp Tryd.prog o a w K Q else E := by
  have hw : Region.wanted o (yielded ops a.tmps) = true := by simp [Region.wanted, hgd]
  rw [if_pos hw]
  have hrun : (Builtin.min_ ts o.type #[.int .i64 p, .int .i64 q]).run Tryd.prog w = .ok (.int .i64 r) w := by
    show (pure (Value.int IntKind.i64 (if q < p then q else p)) : Sem Value).run Tryd.prog w = _
    rw [hr]; rfl
  unfold Oper.wp execOp
  simp only [ho, resolve, invoke, builtin, Sem.run_bind, Sem.run_pure, Result.andThen_ok, List.map_toArray, List.map_cons, List.map_nil, hs, hx, hrun]
  exact h

end Go.Proofs.YtkpckmdakiminaaDoor
