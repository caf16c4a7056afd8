/-
  Contracts of pack's Reader: NewReader, fault, Byte, Num, Bad, End.
-/
import Derived.Test.YtkpckmdakiminaaDoorNumber
namespace Go.Proofs.YtkpckmdakiminaaDoor
open Go.RowKit

/-- a Reader in block g over the bytes l, at a place, with what was wrong first -/
def RrOk (w : World) (base g : Nat) (l : List UInt8) (s : Nat × Int) : Prop :=
  base ≤ g ∧ s.1 ≤ l.length ∧ l.length ≤ 140737488355320 ∧ ∃ A n c, Blk w g 72 #[.slice A n c, .int .i64 (s.1 : Int), .int .i64 s.2] ∧ OwnB w base A n c l

section
variable {w w' : World} {base g : Nat} {l : List UInt8} {s : Nat × Int}
theorem RrOk.drewN (h : RrOk w base g l s) (k : Nat) : RrOk (w.drewN k) base g l s := h
theorem RrOk.fr {p : Nat → Prop} (h : RrOk w base g l s) (hf : Fr w w' p) (hg : ¬ p g) (hp : ∀ A n c, OwnB w base A n c l → ∀ k, ob A = some k → ¬ p k) : RrOk w' base g l s := by
  obtain ⟨hb, h1, h2, A, n, c, h3, h4⟩ := h
  exact ⟨hb, h1, h2, A, n, c, h3.fr hf hg, h4.fr hf (hp A n c h4)⟩
theorem RrOk.keepB (h : RrOk w base g l s) (hb : Below w.heap.size w w') : RrOk w' base g l s := by
  obtain ⟨h0, h1, h2, A, n, c, h3, h4⟩ := h
  exact ⟨h0, h1, h2, A, n, c, h3.below hb h3.lt, h4.below hb (fun k hk => (h4.lt k hk).2)⟩
/-- another Reader's turn -/
theorem RrOk.other {g' : Nat} (h : RrOk w base g l s) (hf : Fr w w' (fun k => k = g')) (hg : g' < base) : RrOk w' base g l s := by
  refine h.fr hf (fun e => ?_) (fun A n c h4 k hk e => ?_)
  · have := h.1; omega
  · have := (h4.lt k hk).1; omega
theorem RrOk.lt (h : RrOk w base g l s) : g < w.heap.size := by obtain ⟨_, _, _, A, n, c, h3, _⟩ := h; exact h3.lt
/-- a field set -/
theorem RrOk.set_ (h : RrOk w base g l s) (s' : Nat × Int) (hs : s'.1 ≤ l.length) (i : Nat) (u : Value)
    (hi : ∀ v : Value, (#[v, .int .i64 (s.1 : Int), .int .i64 s.2] : Array Value).setIfInBounds i u = #[v, .int .i64 (s'.1 : Int), .int .i64 s'.2]) :
    RrOk (w.setCell ⟨g, i, none⟩ u) base g l s' ∧ Fr w (w.setCell ⟨g, i, none⟩ u) (fun k => k = g) := by
  obtain ⟨hb, h1, h2, A, n, c, h3, h4⟩ := h
  have hf : Fr w (w.setCell ⟨g, i, none⟩ u) (fun k => k = g) := Fr.set (p := fun k => k = g) (a := ⟨g, i, none⟩) (Fr.refl w _) (fun _ => rfl) _
  refine ⟨⟨hb, hs, h2, A, n, c, ?_, h4.fr hf fun k hk e => ?_⟩, hf⟩
  · have := h3.set_ i u
    rw [hi] at this
    exact this
  · subst e
    exact h4.ne_blk h3 (by decide) hk
end

set_option maxRecDepth 100000 in
set_option maxHeartbeats 400000 in
theorem newReader_any (A : Option Addr) (n c : Nat) (l : List UInt8) (w : World) (hr : RdB w w.heap.size A n l) (hn : n ≤ 140737488355320) :
    Calls Tryd.prog 24 #[.slice A n c] w fun e w' => ∃ g, e = .returned (.pointer (some ⟨g, 0, none⟩)) ∧ w.heap.size < g ∧ RrOk w' w.heap.size g l (0, 0) ∧ Below w.heap.size w w' := by
  have HL : Hid (l.length = n) := hr.len
  go_enter Tryd.func24, Tryd.ntmps24
  go_wp2_with (at_builtin; refine wpList_append_b _ rfl (.tmp 3) (.tmp 4) rfl w.heap.size _ 0 0 [] rfl (OwnB.made (Nat.le_refl _)) _ A n c l rfl (hr.alloc (Nat.le_refl _) _) (by omega) (by simp) ?_; intro A1 n1 c1 w1 hown1 hg1 hob1; have hb1 := below_grown (Below.refl w.heap.size w) hg1 (Nat.le_refl _) (by simp); have hs1 := hb1.size; have hs2 := hg1.size)
  go_ret
  rw [List.nil_append] at hown1
  simp only [World.size_alloc] at hs2
  exact ⟨_, rfl, by omega, ⟨by omega, Nat.zero_le _, by rw [HL.out]; omega, A1, n1, c1, Blk.new _ _ _, hown1.alloc _⟩, hb1.alloc (by omega) _⟩

set_option maxRecDepth 100000 in
set_option maxHeartbeats 400000 in
theorem fault_any (x : Int) (w : World) (base g : Nat) (l : List UInt8) (p : Nat) (hr : RrOk w base g l (p, 0)) :
    Calls Tryd.prog 43 #[.pointer (some ⟨g, 0, none⟩), .int .i64 x] w fun e w' => e = .returned (.tuple #[]) ∧ RrOk w' base g l (p, x) ∧ Fr w w' (fun k => k = g) := by
  have hres := hr.set_ (p, x) hr.2.1 2 (.int .i64 x) (fun v => rfl)
  obtain ⟨hb, h1, h2, A, n, c, h3, h4⟩ := hr
  have hcell := h3.cell 2
  simp only [List.getElem?_toArray, List.getElem?_cons_succ, List.getElem?_cons_zero] at hcell
  have hfz := h3.frozen 2
  go_enter Tryd.func43, Tryd.ntmps43
  go_wp2
  go_end0
  exact ⟨rfl, hres⟩

/-- Byte, on its state -/
def rByte (l : List UInt8) (s : Nat × Int) (most : Int) : Int × Nat × Int :=
  if s.2 ≠ 0 then (0, s)
  else if l.length ≤ s.1 then (0, s.1, 10)
  else if most < ((l[s.1]?.getD 0).toNat : Int) then (0, s.1, 12)
  else (((l[s.1]?.getD 0).toNat : Int), s.1 + 1, 0)

/-- what a call of a Reader's leaves -/
def Red (base g : Nat) (l : List UInt8) (w : World) (v : Value) (s : Nat × Int) (e : Ending) (w' : World) : Prop := e = .returned v ∧ RrOk w' base g l s ∧ Fr w w' (fun k => k = g)
theorem Red.mk {base g : Nat} {l : List UInt8} {w w1 w' : World} {v v' : Value} {s s' : Nat × Int} (hf : Fr w w1 (fun k => k = g)) (hv : v' = v) (hs : s' = s) (h : RrOk w' base g l s' ∧ Fr w1 w' (fun k => k = g)) : Red base g l w v s (.returned v') w' :=
  ⟨by rw [hv], by rw [← hs]; exact h.1, hf.trans h.2 (fun _ _ h => h)⟩

theorem cell_far {w : World} {g g1 i j : Nat} {u v : Value} (h : g1 ≠ g) (hc : w.cell? ⟨g1, j, none⟩ = some v) : (w.setCell ⟨g, i, none⟩ u).cell? ⟨g1, j, none⟩ = some v :=
  (World.cell?_setCell_other w ⟨g, i, none⟩ ⟨g1, j, none⟩ u (fun e => h (by have := congrArg Addr.block e; first | exact this | exact this.symm))).trans hc
theorem red_drewN {base g : Nat} {l : List UInt8} {w w1 : World} {s : Nat × Int} (h : RrOk w1 base g l s ∧ Fr w w1 (fun k => k = g)) (n : Nat) : RrOk (w1.drewN n) base g l s ∧ Fr w (w1.drewN n) (fun k => k = g) := ⟨h.1.drewN n, h.2.drewN n⟩

set_option maxRecDepth 100000 in
set_option maxHeartbeats 2000000 in
theorem reader_byte (most : Int) (_hm0 : 0 ≤ most) (_hm1 : most < 256) (w : World) (base g : Nat) (l : List UInt8) (p : Nat) (bad : Int) (hr : RrOk w base g l (p, bad)) (hbad : -100 < bad ∧ bad < 100) :
    Calls Tryd.prog 37 #[.pointer (some ⟨g, 0, none⟩), .int .u8 most] w (Red base g l w (.int .u8 (rByte l (p, bad) most).1) (rByte l (p, bad) most).2) := by
  have HR := Lib.hid hr
  obtain ⟨hb, h1, h2, A, n, c, h3, h4⟩ := hr
  have HL : Hid (l.length = n) := h4.len
  have hc0 := h3.cell 0
  have hc1 := h3.cell 1
  have hc2 := h3.cell 2
  simp only [List.getElem?_toArray, List.getElem?_cons_succ, List.getElem?_cons_zero] at hc0 hc1 hc2
  have hfz := h3.frozen 1
  have hn : n ≤ 140737488355320 := by have := HL.out; omega
  have hp : p ≤ n := by have := HL.out; simp only at h1; omega
  by_cases hb0 : bad = 0
  · subst hb0
    by_cases hlt : p < n
    · obtain ⟨g1, o1, rfl, _, hcx⟩ := h4.rd.at_ hlt
      have hx1 : ((l[p]?.getD 0).toNat : Int) < 256 := by have := (l[p]?.getD 0).toNat_lt; omega
      have hpi : (p : Int) < (n : Int) := by omega
      have hp0 : (0 : Int) ≤ (p : Int) := by omega
      have hne1 : g1 ≠ g := fun e => h4.ne_blk h3 (by decide) (by rw [← e]; rfl)
      have hcy : ∀ q u, ((w.drewN q).setCell ⟨g, 1, none⟩ u).cell? ⟨g1, o1 + p, none⟩ = some (.int .u8 ((l[p]?.getD 0).toNat : Int)) := fun q u => cell_far (w := w.drewN q) hne1 hcx
      have hwr1 : IntKind.i64.wrap (p : Int) = (p : Int) := IntWalk.i64_in _ (by omega)
      by_cases hx : most < ((l[p]?.getD 0).toNat : Int)
      · have hspec : rByte l (p, 0) most = (0, p, 12) := by
          unfold rByte; rw [if_neg (by simp), if_neg (by have := HL.out; simp only; omega), if_pos hx]
        rw [hspec]
        go_enter Tryd.func37, Tryd.ntmps37
        go_wp2_with fail
        go_quiet (fail)
        go_wp2_with fail
        go_quiet (fail)
        go_wp2_with fail
        refine (fault_any 12 _ base g l p (HR.out.drewN _)).mono ?_
        rintro e w1 ⟨rfl, hr1, hf1⟩
        go_wp2_with fail
        go_ret
        exact Red.mk ((Fr.refl w _).drewN _) rfl rfl ⟨hr1, hf1⟩
      · have hspec : rByte l (p, 0) most = (((l[p]?.getD 0).toNat : Int), p + 1, 0) := by
          unfold rByte; rw [if_neg (by simp), if_neg (by have := HL.out; simp only; omega), if_neg hx]
        rw [hspec]
        go_enter Tryd.func37, Tryd.ntmps37
        go_wp2_with fail
        go_quiet (fail)
        go_wp2_with fail
        go_quiet (fail)
        go_wp2_with fail
        have hres := Lib.hid fun q => (HR.out.drewN q).set_ (w := w.drewN q) (p + 1, 0) (by have := HL.out; simp only; omega) 1 (.int .i64 ((p : Int) + 1)) (fun v => rfl)
        go_quiet (fail)
        go_wp2_with fail
        go_ret
        exact Red.mk ((Fr.refl w _).drewN _) rfl rfl (red_drewN (hres.out _) _)
    · have hspec : rByte l (p, 0) most = (0, p, 10) := by
        unfold rByte; rw [if_neg (by simp), if_pos (by have := HL.out; simp only; omega)]
      rw [hspec]
      go_enter Tryd.func37, Tryd.ntmps37
      go_wp2_with fail
      go_quiet (fail)
      go_wp2_with fail
      refine (fault_any 10 _ base g l p (HR.out.drewN _)).mono ?_
      rintro e w1 ⟨rfl, hr1, hf1⟩
      go_wp2_with fail
      go_ret
      exact Red.mk ((Fr.refl w _).drewN _) rfl rfl ⟨hr1, hf1⟩
  · have hspec : rByte l (p, bad) most = (0, p, bad) := by unfold rByte; rw [if_pos (by simpa using hb0)]
    rw [hspec]
    go_enter Tryd.func37, Tryd.ntmps37
    go_wp2
    go_ret
    exact Red.mk (Fr.refl _ _) rfl rfl ⟨HR.out, Fr.refl _ _⟩

end Go.Proofs.YtkpckmdakiminaaDoor
