/-
  A splitter and the document's, side by side in memory; what a call on one of them leaves. Blocks that are looked after stay.
-/
import Derived.Test.YtkpckmdakiminaaDoorSpLay
import Derived.Test.YtkpckmdakiminaaDoorStepOpen
import Derived.Test.YtkpckmdakiminaaDoorSeps
import Derived.Test.YtkpckmdakiminaaDoorBytesW
import Derived.Test.YtkpckmdakiminaaDoorSpk
import Derived.Test.YtkpckmdakiminaaDoorPick
namespace Go.Proofs.YtkpckmdakiminaaDoor
open Go.RowKit

def KeptP (P : Nat → Prop) (w w' : World) : Prop := ∀ k, P k → w'.heap[k]? = w.heap[k]?
theorem KeptP.trans {P : Nat → Prop} {w w1 w2 : World} (h1 : KeptP P w w1) (h2 : KeptP P w1 w2) : KeptP P w w2 := fun k hk => (h2 k hk).trans (h1 k hk)
theorem cell_kept {w w' : World} {b i : Nat} (h : w'.heap[b]? = w.heap[b]?) : w'.cell? ⟨b, i, none⟩ = w.cell? ⟨b, i, none⟩ := World.cell?_of_block h
theorem RdB.kept1 {w w' : World} {B n : Nat} {A : Option Addr} {l : List UInt8} (h : RdB w B A n l) (hk : ∀ k, 0 < n → ob A = some k → w'.heap[k]? = w.heap[k]?) : RdB w' B A n l := by
  refine ⟨h.1, fun hn => ?_⟩
  obtain ⟨ad, rfl, hb, hc⟩ := h.2 hn
  exact ⟨ad, rfl, hb, fun j u hu => (World.cell?_of_block (by rw [block_of_add]; exact hk _ hn rfl)).trans (hc j u hu)⟩

/-- the two splitters, and the blocks P that are looked after -/
def Pr (P : Nat → Prop) (B : Nat) (w0 w : World) (g : Nat) (s : Sp) (gr : Nat) (t : Sp) : Prop :=
  B ≤ w.heap.size ∧ Below B w0 w ∧ ∃ R1 R2 Q1 Q2, SpOk w B g R1 R2 s ∧ SqOk w B gr Q1 Q2 t ∧ (∀ k, SpIn g R1 R2 k → ¬ SpIn gr Q1 Q2 k) ∧ ∀ k, P k → k < w.heap.size ∧ ¬ SpIn g R1 R2 k ∧ ¬ SpIn gr Q1 Q2 k
section
variable {P : Nat → Prop} {B : Nat} {w0 w w' : World} {g gr : Nat} {s s' t t' : Sp} {R1 R2 Q1 Q2 : Option Nat}
theorem newer_in {R1' R2' : Option Nat} (n1 : Newer w R1 R1') (n2 : Newer w R2 R2') {k : Nat} (h : SpIn g R1' R2' k) : SpIn g R1 R2 k ∨ w.heap.size ≤ k := by
  rcases h with rfl | e | e
  · exact .inl (.inl rfl)
  · exact (n1 k e).imp (fun h => .inr (.inl h)) id
  · exact (n2 k e).imp (fun h => .inr (.inr h)) id
theorem Pr.stepS (hB : B ≤ w.heap.size) (hb : Below B w0 w) (hs : SpOk w B g R1 R2 s) (hq : SqOk w B gr Q1 Q2 t) (hd : ∀ k, SpIn g R1 R2 k → ¬ SpIn gr Q1 Q2 k) (hP : ∀ k, P k → k < w.heap.size ∧ ¬ SpIn g R1 R2 k ∧ ¬ SpIn gr Q1 Q2 k)
    (hw : Went w B g R1 R2 s' w') : Pr P B w0 w' g s' gr t ∧ KeptP P w w' ∧ w.heap.size ≤ w'.heap.size := by
  have hb2 := hw.below hs (Nat.le_refl _) hB
  obtain ⟨R1', R2', hs', hf, n1, n2⟩ := hw
  refine ⟨⟨Nat.le_trans hB hf.size, hb.trans hb2, R1', R2', Q1, Q2, hs', hq.fr hf (fun k hk hin => hd k hin hk), ?_, ?_⟩, fun k hk => hf.block k (hP k hk).1 (hP k hk).2.1, hf.size⟩
  · intro k hk hin
    rcases newer_in n1 n2 hk with h | h
    · exact hd k h hin
    · have := (hq.lt k hin).2; omega
  · intro k hk
    refine ⟨Nat.lt_of_lt_of_le (hP k hk).1 hf.size, fun hin => ?_, (hP k hk).2.2⟩
    rcases newer_in n1 n2 hin with h | h
    · exact (hP k hk).2.1 h
    · have := (hP k hk).1; omega
theorem Pr.stepR (hB : B ≤ w.heap.size) (hb : Below B w0 w) (hs : SpOk w B g R1 R2 s) (hq : SqOk w B gr Q1 Q2 t) (hd : ∀ k, SpIn g R1 R2 k → ¬ SpIn gr Q1 Q2 k) (hP : ∀ k, P k → k < w.heap.size ∧ ¬ SpIn g R1 R2 k ∧ ¬ SpIn gr Q1 Q2 k)
    (hw : Wenq w B gr Q1 Q2 t' w') : Pr P B w0 w' g s gr t' ∧ KeptP P w w' ∧ w.heap.size ≤ w'.heap.size := by
  have hb2 := hw.below hq (Nat.le_refl _) hB
  obtain ⟨Q1', Q2', hq', hf, n1, n2⟩ := hw
  refine ⟨⟨Nat.le_trans hB hf.size, hb.trans hb2, R1, R2, Q1', Q2', hs.fr hf (fun k hk hin => hd k hk hin), hq', ?_, ?_⟩, fun k hk => hf.block k (hP k hk).1 (hP k hk).2.2, hf.size⟩
  · intro k hk hin
    rcases newer_in n1 n2 hin with h | h
    · exact hd k hk h
    · have := (hs.lt k hk).2; omega
  · intro k hk
    refine ⟨Nat.lt_of_lt_of_le (hP k hk).1 hf.size, (hP k hk).2.1, fun hin => ?_⟩
    rcases newer_in n1 n2 hin with h | h
    · exact (hP k hk).2.2 h
    · have := (hP k hk).1; omega
theorem Pr.later (h : Pr P B w0 w g s gr t) (hl : Later w w') : Pr P B w0 w' g s gr t ∧ KeptP P w w' ∧ w.heap.size ≤ w'.heap.size := by
  obtain ⟨hB, hb, R1, R2, Q1, Q2, hs, hq, hd, hP⟩ := h
  exact ⟨⟨Nat.le_trans hB hl.size, hb.trans (hl.below hB), R1, R2, Q1, Q2, hs.below hl (Nat.le_refl _), hq.below hl (Nat.le_refl _), hd, fun k hk => ⟨Nat.lt_of_lt_of_le (hP k hk).1 hl.size, (hP k hk).2⟩⟩, fun k hk => hl.block k (hP k hk).1, hl.size⟩
theorem Pr.set_ {k i : Nat} (h : Pr P B w0 w g s gr t) (hk : P k) (hkB : B ≤ k) (u : Value) : Pr P B w0 (w.setCell ⟨k, i, none⟩ u) g s gr t := by
  obtain ⟨hB, hb, R1, R2, Q1, Q2, hs, hq, hd, hP⟩ := h
  have hf : Fr w (w.setCell ⟨k, i, none⟩ u) (fun j => j = k) := Fr.set (p := fun j => j = k) (Fr.refl w _) (a := ⟨k, i, none⟩) (fun _ => rfl) u
  exact ⟨by simpa [World.setCell] using hB, hb.setCell (by exact hkB) u, R1, R2, Q1, Q2, hs.fr hf (fun j hj e => (hP k hk).2.1 (by rw [← e]; exact hj)), hq.fr hf (fun j hj e => (hP k hk).2.2 (by rw [← e]; exact hj)), hd,
    fun j hj => ⟨by simpa [World.setCell] using (hP j hj).1, (hP j hj).2⟩⟩
theorem Pr.mono {P' : Nat → Prop} (h : Pr P B w0 w g s gr t) (hp : ∀ k, P' k → P k) : Pr P' B w0 w g s gr t := by
  obtain ⟨hB, hb, R1, R2, Q1, Q2, hs, hq, hd, hP⟩ := h
  exact ⟨hB, hb, R1, R2, Q1, Q2, hs, hq, hd, fun k hk => hP k (hp k hk)⟩
/-- blocks that lie below the base, or are new, are looked after too -/
theorem Pr.more {P' : Nat → Prop} (h : Pr P B w0 w g s gr t) (hl : Later w w') (hp : ∀ k, P' k → k < w'.heap.size ∧ (P k ∨ k < B ∨ w.heap.size ≤ k)) : Pr P' B w0 w' g s gr t := by
  obtain ⟨⟨hB', hb', R1, R2, Q1, Q2, hs', hq', hd, hP'⟩, _⟩ := h.later hl
  obtain ⟨hB, hb, S1, S2, T1, T2, hs, hq, hd2, hP⟩ := h
  refine ⟨Nat.le_trans hB hl.size, hb.trans (hl.below hB), S1, S2, T1, T2, hs.below hl (Nat.le_refl _), hq.below hl (Nat.le_refl _), hd2, fun k hk => ⟨(hp k hk).1, ?_⟩⟩
  rcases (hp k hk).2 with h1 | h1 | h1
  · exact (hP k h1).2
  · exact ⟨fun hin => by have := (hs.lt k hin).1; omega, fun hin => by have := (hq.lt k hin).1; omega⟩
  · exact ⟨fun hin => by have := (hs.lt k hin).2; omega, fun hin => by have := (hq.lt k hin).2; omega⟩

theorem Pr.next_ (h : Pr P B w0 w g s gr t) (rs : List UInt8) (hrl : s.rest.length ≤ 140737488355328) :
    Calls Tryd.prog 13 #[.pointer (some ⟨g, 0, none⟩), .string (bstr rs)] w fun e w' => e = .returned (.tuple #[.string (bstr ((s.next rs).1.getD [])), .bool (s.next rs).1.isSome]) ∧ Pr P B w0 w' g (s.next rs).2 gr t ∧ KeptP P w w' ∧ w.heap.size ≤ w'.heap.size := by
  obtain ⟨hB, hb, R1, R2, Q1, Q2, hs, hq, hd, hP⟩ := h
  exact (next_any rs w B g R1 R2 s hs hB hrl).mono fun e w' ⟨he, hw⟩ => ⟨he, Pr.stepS hB hb hs hq hd hP hw⟩
theorem Pr.last_ (h : Pr P B w0 w g s gr t) (rs : List UInt8) (hrl : s.rest.length ≤ 140737488355328) :
    Calls Tryd.prog 16 #[.pointer (some ⟨g, 0, none⟩), .string (bstr rs)] w fun e w' => e = .returned (.tuple #[.string (bstr ((s.last rs).1.getD [])), .bool (s.last rs).1.isSome]) ∧ Pr P B w0 w' g (s.last rs).2 gr t ∧ KeptP P w w' ∧ w.heap.size ≤ w'.heap.size := by
  obtain ⟨hB, hb, R1, R2, Q1, Q2, hs, hq, hd, hP⟩ := h
  exact (rest_any rs w B g R1 R2 s hs hB hrl).mono fun e w' ⟨he, hw⟩ => ⟨he, Pr.stepS hB hb hs hq hd hP hw⟩
theorem Pr.feed_ (h : Pr P B w0 w g s gr t) (A3 : Option Addr) (n3 c3 : Nat) (b : List UInt8) (B3 : Nat) (hr : RdB w B3 A3 n3 b) (hn : s.rest.length + n3 ≤ 140737488355328) :
    Calls Tryd.prog 12 #[.pointer (some ⟨g, 0, none⟩), .slice A3 n3 c3] w fun e w' => e = .returned (.tuple #[]) ∧ Pr P B w0 w' g (s.feed b) gr t ∧ KeptP P w w' ∧ w.heap.size ≤ w'.heap.size := by
  obtain ⟨hB, hb, R1, R2, Q1, Q2, hs, hq, hd, hP⟩ := h
  exact (feed_any A3 n3 c3 b B3 w B g R1 R2 s hs hB hr hn).mono fun e w' ⟨he, hw⟩ => ⟨he, Pr.stepS hB hb hs hq hd hP hw⟩
theorem Pr.rnext_ (h : Pr P B w0 w g s gr t) (rs : List UInt8) (hrl : t.rest.length < 140737488355328) :
    Calls Tryd.prog 15 #[.pointer (some ⟨gr, 0, none⟩), .string (bstr rs)] w fun e w' => e = .returned (.tuple #[.string (bstr ((t.next rs).1.getD [])), .bool (t.next rs).1.isSome]) ∧ Pr P B w0 w' g s gr (t.next rs).2 ∧ KeptP P w w' ∧ w.heap.size ≤ w'.heap.size := by
  obtain ⟨hB, hb, R1, R2, Q1, Q2, hs, hq, hd, hP⟩ := h
  exact (refNext_any rs w B gr Q1 Q2 t hq hB hrl).mono fun e w' ⟨he, hw⟩ => ⟨he, Pr.stepR hB hb hs hq hd hP hw⟩
theorem Pr.rlast_ (h : Pr P B w0 w g s gr t) (rs : List UInt8) (hrl : t.rest.length < 140737488355328) :
    Calls Tryd.prog 17 #[.pointer (some ⟨gr, 0, none⟩), .string (bstr rs)] w fun e w' => e = .returned (.tuple #[.string (bstr ((t.last rs).1.getD [])), .bool (t.last rs).1.isSome]) ∧ Pr P B w0 w' g s gr (t.last rs).2 ∧ KeptP P w w' ∧ w.heap.size ≤ w'.heap.size := by
  obtain ⟨hB, hb, R1, R2, Q1, Q2, hs, hq, hd, hP⟩ := h
  exact (refLast_any rs w B gr Q1 Q2 t hq hB hrl).mono fun e w' ⟨he, hw⟩ => ⟨he, Pr.stepR hB hb hs hq hd hP hw⟩
end

theorem OwnB.kept1 {w w' : World} {base n c : Nat} {A : Option Addr} {l : List UInt8} (h : OwnB w base A n c l) (hk : ∀ k, ob A = some k → w'.heap[k]? = w.heap[k]?) : OwnB w' base A n c l := by
  refine ⟨h.1, ?_⟩
  rcases h.2 with h2 | ⟨g, cap, cur, e, h1, h2, h3⟩
  · exact .inl h2
  · refine .inr ⟨g, cap, cur, e, h1, ?_, h3⟩
    rw [hk g (by injection e with e; rw [e]; rfl)]
    exact h2
/-- a new row is stored as what the document's has not looked at -/
theorem Pr.rfeed {P : Nat → Prop} {B : Nat} {w0 w w1 : World} {g gr : Nat} {s t : Sp} {A : Option Addr} {n c : Nat} {l : List UInt8} (h : Pr P B w0 w g s gr t) (hl : Later w w1) (ho : OwnB w1 w.heap.size A n c l) :
    (∃ u, w1.cell? ⟨gr, 4, none⟩ = some u) ∧ w1.frozen? ⟨gr, 4, none⟩ = false ∧ Pr P B w0 (w1.setCell ⟨gr, 4, none⟩ (.slice A n c)) g s gr { t with rest := l } := by
  obtain ⟨hB, hb, R1, R2, Q1, Q2, hs, hq, hd, hP⟩ := h
  obtain ⟨⟨h1, h2⟩, h3⟩ := rest_new hq hl (OwnM.of_own (ho.base_le (fun k _ hk => by omega))) (fun k hk => (ho.lt k hk).1)
  obtain ⟨_, _, _, _, _, _, _, _, _, _, _, _, _, _, x4, _⟩ := hq.cells
  exact ⟨⟨_, h1.trans x4⟩, h2, (Pr.stepR hB hb hs hq hd hP h3).1⟩
theorem Pr.rest4 {P : Nat → Prop} {B : Nat} {w0 w : World} {g gr : Nat} {s t : Sp} (h : Pr P B w0 w g s gr t) : ∃ A n c, w.cell? ⟨gr, 4, none⟩ = some (.slice A n c) ∧ RdB w w.heap.size A n t.rest ∧ gr < w.heap.size := by
  obtain ⟨hB, hb, R1, R2, Q1, Q2, hs, hq, hd, hP⟩ := h
  obtain ⟨_, _, _, A2, n2, c2, _, _, _, h2, _, _, _, _, x4, _⟩ := hq.cells
  exact ⟨A2, n2, c2, x4, h2.rd, (hq.lt gr (.inl rfl)).2⟩
theorem nextB_mo (d : UInt8) : ∀ (r : List UInt8) (s : Sp), (nextB d s r).2.most = s.most
  | [], s => rfl
  | c :: r, s => by
    unfold nextB
    split
    · rfl
    · rw [nextB_mo d r (s.add c), Sp.add_most]
theorem nextP_mo : ∀ (r : List UInt8) (s : Sp), (nextP s r).2.most = s.most
  | [], s => rfl
  | c :: r, s => by
    unfold nextP
    split
    · split
      · rfl
      · split
        · exact nextP_mo r { s with wait := true }
        · exact nextP_mo r s
    · split
      · rw [nextP_mo r _, Sp.add_most, Sp.add_most]
      · rw [nextP_mo r _, Sp.add_most]
theorem Sp.next_mo (s : Sp) (rs : List UInt8) : (s.next rs).2.most = s.most := by
  cases rs with
  | nil => exact nextP_mo s.rest s
  | cons d t =>
    rw [Sp.next_cons]
    split
    · split
      · rfl
      · rw [nextB_mo, Sp.add_most]
    · rw [nextB_mo]
theorem Sp.last_mo (s : Sp) (rs : List UInt8) : (s.last rs).2.most = s.most := by
  have h := s.next_mo rs
  unfold Sp.last
  split
  · rename_i r s' e; rw [e] at h; exact h
  · rename_i s' e
    rw [e] at h
    split
    · exact h
    · exact h
theorem Sp.last_len (s : Sp) (rs : List UInt8) : (s.last rs).2.rest.length ≤ s.rest.length := by
  have h := s.next_len rs
  unfold Sp.last
  split
  · rename_i r s' e; rw [e] at h; exact h
  · rename_i s' e
    rw [e] at h
    split
    · exact h
    · exact h

/-- the separator of a step -/
def stepSep (y : StepV) : List UInt8 := if y.near then (seps[((y.what.tdiv 9) % 5).toNat]?).getD [] else y.rs

set_option maxRecDepth 100000 in
set_option maxHeartbeats 1000000 in
theorem rs_any (y : StepV) (w : World) (hS : SepsAt w) (hw1 : -9223372036854775808 ≤ y.what) (hw2 : y.what ≤ 9223372036854775807) :
    Calls Tryd.prog 14 #[.agg #[.int .i64 y.what, .slice y.A y.n y.c, .string (bstr y.rs), .bool y.near]] w fun e w' => e = .returned (.string (bstr (stepSep y))) ∧ Later w w' := by
  have hl0 := hS.lt
  obtain ⟨what, A, n, c, l, rs, near⟩ := y
  simp only at hw1 hw2
  cases near with
  | false =>
    have he : Hid (stepSep ⟨what, A, n, c, l, rs, false⟩ = rs) := rfl
    go_enter Tryd.func14, Tryd.ntmps14
    go_wp2_with fail
    go_ret
    exact ⟨by rw [he.out]; rfl, (Later.refl _).alloc _⟩
  | true =>
    obtain ⟨k, hk, hk5⟩ := pick_nat (what.tdiv 9) 5 (by decide)
    have hk5 : k < 5 := by omega
    obtain ⟨sep, hsep, hcs⟩ := (hS.below ((Below.refl w.heap.size w).alloc (Nat.le_refl _) (.cells #[.int .i64 what, .slice A n c, .string (bstr rs), .bool true] 42)) hl0).at_ hk5
    have he : Hid (stepSep ⟨what, A, n, c, l, rs, true⟩ = sep) := by
      show (seps[((what.tdiv 9) % 5).toNat]?).getD [] = _
      rw [hk.out, Int.toNat_natCast, hsep.out]; rfl
    have hk5i : (k : Int) < 5 := by omega
    go_enter Tryd.func14, Tryd.ntmps14
    go_wp2_with fail
    refine (pick_at (what.tdiv 9) 5 k _ (by decide) (by decide) hk).mono ?_
    rintro e w' ⟨rfl, rfl⟩
    go_wp2_with fail
    go_ret
    exact ⟨by rw [he.out]; rfl, (Later.refl _).alloc _⟩

end Go.Proofs.YtkpckmdakiminaaDoor
