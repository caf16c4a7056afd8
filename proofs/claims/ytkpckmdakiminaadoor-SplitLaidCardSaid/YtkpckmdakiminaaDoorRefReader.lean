/-
  Contracts of the document's Reader (tailraceref1): fails, Byte, End: on the same plain functions as the program's.
-/
import Derived.Test.YtkpckmdakiminaaDoorReader2
namespace Go.Proofs.YtkpckmdakiminaaDoor
open Go.RowKit

/-- the document's Reader in block g over the bytes l, which lie below block base -/
def RfOk (w : World) (base g : Nat) (l : List UInt8) (s : Nat × Int) : Prop :=
  base ≤ g ∧ s.1 ≤ l.length ∧ l.length ≤ 140737488355320 ∧ ∃ A n c, Blk w g 58 #[.slice A n c, .int .i64 (s.1 : Int), .int .i64 s.2] ∧ RdB w base A n l ∧ n ≤ c

section
variable {w w' : World} {base g : Nat} {l : List UInt8} {s : Nat × Int}
theorem RfOk.drewN (h : RfOk w base g l s) (k : Nat) : RfOk (w.drewN k) base g l s := h
theorem RfOk.drew (h : RfOk w base g l s) : RfOk w.drew base g l s := h
theorem RfOk.lt (h : RfOk w base g l s) : g < w.heap.size := by obtain ⟨_, _, _, A, n, c, h3, _⟩ := h; exact h3.lt
theorem RfOk.fr {p : Nat → Prop} (h : RfOk w base g l s) (hf : Fr w w' p) (hg : ¬ p g) (hp : ∀ k, k < base → ¬ p k) : RfOk w' base g l s := by
  have hlt := h.lt
  obtain ⟨hb, h1, h2, A, n, c, h3, h4, h5⟩ := h
  exact ⟨hb, h1, h2, A, n, c, h3.fr hf hg, h4.fr hf (by omega) hp, h5⟩
/-- a field set -/
theorem RfOk.set_ (h : RfOk w base g l s) (s' : Nat × Int) (hs : s'.1 ≤ l.length) (i : Nat) (u : Value)
    (hi : ∀ v : Value, (#[v, .int .i64 (s.1 : Int), .int .i64 s.2] : Array Value).setIfInBounds i u = #[v, .int .i64 (s'.1 : Int), .int .i64 s'.2]) :
    RfOk (w.setCell ⟨g, i, none⟩ u) base g l s' ∧ Fr w (w.setCell ⟨g, i, none⟩ u) (fun k => k = g) := by
  have hlt := h.lt
  obtain ⟨hb, h1, h2, A, n, c, h3, h4, h5⟩ := h
  have hf : Fr w (w.setCell ⟨g, i, none⟩ u) (fun k => k = g) := Fr.set (p := fun k => k = g) (a := ⟨g, i, none⟩) (Fr.refl w _) (fun _ => rfl) _
  refine ⟨⟨hb, hs, h2, A, n, c, ?_, h4.fr hf (by omega) (fun k hk e => by omega), h5⟩, hf⟩
  have := h3.set_ i u
  rw [hi] at this
  exact this
end

/-- what a call of the document's Reader leaves -/
def Rfd (base g : Nat) (l : List UInt8) (w : World) (v : Value) (s : Nat × Int) (e : Ending) (w' : World) : Prop := e = .returned v ∧ RfOk w' base g l s ∧ Fr w w' (fun k => k = g)
theorem Rfd.mk {base g : Nat} {l : List UInt8} {w w1 w' : World} {v v' : Value} {s s' : Nat × Int} (hf : Fr w w1 (fun k => k = g)) (hv : v' = v) (hs : s' = s) (h : RfOk w' base g l s' ∧ Fr w1 w' (fun k => k = g)) : Rfd base g l w v s (.returned v') w' :=
  ⟨by rw [hv], by rw [← hs]; exact h.1, hf.trans h.2 (fun _ _ h => h)⟩
theorem rfd_drewN {base g : Nat} {l : List UInt8} {w w1 : World} {s : Nat × Int} (h : RfOk w1 base g l s ∧ Fr w w1 (fun k => k = g)) (n : Nat) : RfOk (w1.drewN n) base g l s ∧ Fr w (w1.drewN n) (fun k => k = g) := ⟨h.1.drewN n, h.2.drewN n⟩
theorem rfd_trans {base g : Nat} {l : List UInt8} {w w1 w2 : World} {s s1 : Nat × Int} (h : RfOk w1 base g l s1 ∧ Fr w w1 (fun k => k = g)) (h2 : RfOk w2 base g l s ∧ Fr w1 w2 (fun k => k = g)) : RfOk w2 base g l s ∧ Fr w w2 (fun k => k = g) := ⟨h2.1, h.2.trans h2.2 (fun _ _ h => h)⟩

set_option maxRecDepth 100000 in
set_option maxHeartbeats 400000 in
theorem fails_any (x : Int) (q : Nat) (w : World) (base g : Nat) (l : List UInt8) (s : Nat × Int) (hr : RfOk w base g l s) (hq : q ≤ l.length) :
    Calls Tryd.prog 45 #[.pointer (some ⟨g, 0, none⟩), .int .i64 x, .int .i64 (q : Int)] w fun e w' => e = .returned (.tuple #[]) ∧ RfOk w' base g l (q, x) ∧ Fr w w' (fun k => k = g) := by
  have hres := hr.set_ (s.1, x) hr.2.1 2 (.int .i64 x) (fun v => rfl)
  have hres2 := rfd_trans hres (hres.1.set_ (q, x) hq 1 (.int .i64 (q : Int)) (fun v => rfl))
  obtain ⟨hb, h1, h2, A, n, c, h3, h4, h5⟩ := hr
  have hcell := h3.cell 2
  have hcell1 := h3.cell 1
  simp only [List.getElem?_toArray, List.getElem?_cons_succ, List.getElem?_cons_zero] at hcell hcell1
  have hfz := h3.frozen 2
  have hfz1 := h3.frozen 1
  go_enter Tryd.func45, Tryd.ntmps45
  go_wp2
  go_end0
  exact ⟨rfl, hres2⟩

set_option maxRecDepth 100000 in
set_option maxHeartbeats 2000000 in
theorem refReader_byte (most : Int) (_hm0 : 0 ≤ most) (_hm1 : most < 256) (w : World) (base g : Nat) (l : List UInt8) (p : Nat) (bad : Int) (hr : RfOk w base g l (p, bad)) :
    Calls Tryd.prog 40 #[.pointer (some ⟨g, 0, none⟩), .int .u8 most] w (Rfd base g l w (.int .u8 (rByte l (p, bad) most).1) (rByte l (p, bad) most).2) := by
  have HR := Lib.hid hr
  obtain ⟨hb, h1, h2, A, n, c, h3, h4, h5⟩ := hr
  have HL : Hid (l.length = n) := h4.len
  have hc0 := h3.cell 0
  have hc1 := h3.cell 1
  have hc2 := h3.cell 2
  simp only [List.getElem?_toArray, List.getElem?_cons_succ, List.getElem?_cons_zero] at hc0 hc1 hc2
  have hfz := h3.frozen 1
  have hfz2 := h3.frozen 2
  have hn : n ≤ 140737488355320 := by have := HL.out; omega
  have hp : p ≤ n := by have := HL.out; simp only at h1; omega
  by_cases hb0 : bad = 0
  · subst hb0
    by_cases hlt : p < n
    · obtain ⟨g1, o1, rfl, hg1, hcx⟩ := h4.at_ hlt
      have hx1 : ((l[p]?.getD 0).toNat : Int) < 256 := by have := (l[p]?.getD 0).toNat_lt; omega
      have hpi : (p : Int) < (n : Int) := by omega
      have hp0 : (0 : Int) ≤ (p : Int) := by omega
      have hne1 : g1 ≠ g := by omega
      have hcy : ∀ q u, ((w.drewN q).setCell ⟨g, 1, none⟩ u).cell? ⟨g1, o1 + p, none⟩ = some (.int .u8 ((l[p]?.getD 0).toNat : Int)) := fun q u => cell_far (w := w.drewN q) hne1 hcx
      have hwr1 : IntKind.i64.wrap (p : Int) = (p : Int) := IntWalk.i64_in _ (by omega)
      by_cases hx : most < ((l[p]?.getD 0).toNat : Int)
      · have hspec : rByte l (p, 0) most = (0, p, 12) := by
          unfold rByte; rw [if_neg (by simp), if_neg (by have := HL.out; simp only; omega), if_pos hx]
        rw [hspec]
        have hres := Lib.hid fun q => (HR.out.drewN q).set_ (w := w.drewN q) (p, 12) h1 2 (.int .i64 12) (fun v => rfl)
        go_enter Tryd.func40, Tryd.ntmps40
        go_wp2_with fail
        go_quiet (fail)
        go_wp2_with fail
        go_quiet (fail)
        go_wp2_with fail
        go_ret
        exact Rfd.mk ((Fr.refl w _).drewN _) rfl rfl (hres.out _)
      · have hspec : rByte l (p, 0) most = (((l[p]?.getD 0).toNat : Int), p + 1, 0) := by
          unfold rByte; rw [if_neg (by simp), if_neg (by have := HL.out; simp only; omega), if_neg hx]
        rw [hspec]
        have hres := Lib.hid fun q => (HR.out.drewN q).set_ (w := w.drewN q) (p + 1, 0) (by have := HL.out; simp only; omega) 1 (.int .i64 ((p : Int) + 1)) (fun v => rfl)
        go_enter Tryd.func40, Tryd.ntmps40
        go_wp2_with fail
        go_quiet (fail)
        go_wp2_with fail
        go_quiet (fail)
        go_wp2_with fail
        go_quiet (fail)
        go_wp2_with fail
        go_ret
        exact Rfd.mk ((Fr.refl w _).drewN _) rfl rfl (rfd_drewN (hres.out _) _)
    · have hspec : rByte l (p, 0) most = (0, p, 10) := by
        unfold rByte; rw [if_neg (by simp), if_pos (by have := HL.out; simp only; omega)]
      rw [hspec]
      have hres := Lib.hid fun q => (HR.out.drewN q).set_ (w := w.drewN q) (p, 10) h1 2 (.int .i64 10) (fun v => rfl)
      go_enter Tryd.func40, Tryd.ntmps40
      go_wp2_with fail
      go_quiet (fail)
      go_wp2_with fail
      go_ret
      exact Rfd.mk ((Fr.refl w _).drewN _) rfl rfl (hres.out _)
  · have hspec : rByte l (p, bad) most = (0, p, bad) := by unfold rByte; rw [if_pos (by simpa using hb0)]
    rw [hspec]
    have hbb : (bad == 0) = false := beq_eq_false_iff_ne.2 hb0
    go_enter Tryd.func40, Tryd.ntmps40
    go_wp2
    go_ret
    exact Rfd.mk (Fr.refl _ _) rfl rfl ⟨HR.out, Fr.refl _ _⟩

set_option maxRecDepth 100000 in
set_option maxHeartbeats 1000000 in
theorem refReader_end (w : World) (base g : Nat) (l : List UInt8) (p : Nat) (bad : Int) (hr : RfOk w base g l (p, bad)) :
    Calls Tryd.prog 28 #[.pointer (some ⟨g, 0, none⟩)] w (Rfd base g l w (.int .i64 (rEnd l (p, bad))) (p, bad)) := by
  have HR := Lib.hid hr
  obtain ⟨hb, h1, h2, A, n, c, h3, h4, h5⟩ := hr
  have HL : Hid (l.length = n) := h4.len
  have hc0 := h3.cell 0
  have hc1 := h3.cell 1
  have hc2 := h3.cell 2
  simp only [List.getElem?_toArray, List.getElem?_cons_succ, List.getElem?_cons_zero] at hc0 hc1 hc2
  have hn : n ≤ 140737488355320 := by have := HL.out; omega
  have hp : p ≤ n := by have := HL.out; simp only at h1; omega
  by_cases hb0 : bad = 0
  · subst hb0
    by_cases hlt : p < n
    · have hspec : rEnd l (p, 0) = 11 := by unfold rEnd; rw [if_pos ⟨rfl, by rw [HL.out]; exact hlt⟩]
      rw [hspec]
      have hlti : (p : Int) < (n : Int) := by omega
      go_enter Tryd.func28, Tryd.ntmps28
      go_wp2_with fail
      go_quiet (fail)
      go_wp2_with fail
      go_ret
      exact Rfd.mk ((Fr.refl w _).drewN _) rfl rfl ⟨HR.out.drewN _, Fr.refl _ _⟩
    · have hspec : rEnd l (p, 0) = 0 := by unfold rEnd; rw [if_neg (by have := HL.out; simp only; omega)]
      rw [hspec]
      have hlti : (n : Int) ≤ (p : Int) := by omega
      go_enter Tryd.func28, Tryd.ntmps28
      go_wp2_with fail
      go_quiet (fail)
      go_wp2_with fail
      go_ret
      exact Rfd.mk ((Fr.refl w _).drewN _) rfl rfl ⟨HR.out.drewN _, Fr.refl _ _⟩
  · have hspec : rEnd l (p, bad) = bad := by unfold rEnd; rw [if_neg (fun h => hb0 h.1)]
    rw [hspec]
    have hbb : (bad == 0) = false := beq_eq_false_iff_ne.2 hb0
    go_enter Tryd.func28, Tryd.ntmps28
    go_wp2_with fail
    go_quiet (fail)
    go_wp2_with fail
    go_ret
    exact Rfd.mk ((Fr.refl w _).drewN _) rfl rfl ⟨HR.out.drewN _, Fr.refl _ _⟩

end Go.Proofs.YtkpckmdakiminaaDoor
