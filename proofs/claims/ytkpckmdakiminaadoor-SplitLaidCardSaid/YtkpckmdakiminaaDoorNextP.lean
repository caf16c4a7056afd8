/-
  The contract of split's Next, of paragraphs; and of any separator.
-/
import Derived.Test.YtkpckmdakiminaaDoorNext
import Derived.Test.YtkpckmdakiminaaDoorSlices
namespace Go.Proofs.YtkpckmdakiminaaDoor
open Go.RowKit

theorem Sp.add_rest2 (s : Sp) (c d : UInt8) (q : List UInt8) : (({ s with rest := q } : Sp).add c).add d = { (s.add c).add d with rest := q } := by
  exact (congrArg (Sp.add · d) (Sp.add_rest s c q)).trans (Sp.add_rest (s.add c) d q)

theorem nextP_rest : ∀ (r q : List UInt8) (s : Sp), nextP { s with rest := q } r = nextP s r
  | [], q, s => rfl
  | c :: r, q, s => by
    unfold nextP
    split
    · split
      · rfl
      · split
        · exact nextP_rest r q { s with wait := true }
        · exact nextP_rest r q s
    · split
      · exact (congrArg (nextP · r) (Sp.add_rest2 { s with wait := false } 10 c q)).trans (nextP_rest r q ((({ s with wait := false } : Sp).add 10).add c))
      · rw [Sp.add_rest]; exact nextP_rest r q (s.add c)

/-- the frame at the label of the loop over paragraphs -/
def parasF (g : Nat) (u : Nat → Value) : Act := { tmps := #[.pointer (some ⟨g, 0, none⟩), .string ⟨#[]⟩, u 2, u 3, .string ⟨#[]⟩, .bool false, u 6, u 7, u 8, u 9, u 10, u 11, u 12, u 13, u 14, u 15, u 16, u 17, u 18, u 19, u 20, u 21, u 22, u 23, u 24, u 25, u 26, u 27, u 28, u 29, u 30, u 31, u 32, u 33, u 34, u 35, u 36, u 37, u 38, u 39, u 40, u 41, u 42, u 43, u 44, u 45, u 46, u 47, u 48, u 49, u 50, u 51, u 52, u 53, u 54, u 55, u 56, u 57, u 58, u 59, u 60, u 61, u 62, u 63, u 64, u 65, u 66, u 67, u 68, u 69, u 70, u 71, u 72, u 73, u 74, u 75, u 76, u 77, u 78, u 79, u 80, u 81, u 82, u 83, u 84, u 85, u 86, u 87, u 88, u 89, u 90, u 91, u 92, u 93, u 94, u 95, u 96], defers := [] }
/-- what holds at the label of the loop over paragraphs -/
def ParasJ (w : World) (base g : Nat) (R1 R2 : Option Nat) (spec : Option (List UInt8) × Sp) (a' : Act) (w' : World) : Prop :=
  ∃ (s : Sp), a' = parasF g (fun i => a'.tmps.getD i undef) ∧ Went w base g R1 R2 s w' ∧ Hid (nextP s s.rest = spec)
theorem add2_rest (s : Sp) (x y : UInt8) : ((s.add x).add y).rest = s.rest := by rw [Sp.add_rest_eq, Sp.add_rest_eq]

set_option maxRecDepth 100000 in
set_option maxHeartbeats 2000000 in
theorem nextP_any (spec : Option (List UInt8) × Sp) (w : World) (base g : Nat) (R1 R2 : Option Nat) (s : Sp) (h : SpOk w base g R1 R2 s) (hbase : base ≤ w.heap.size) (_hrl : s.rest.length ≤ 140737488355328)
    (hspec : Hid (nextP s s.rest = spec)) :
    Calls Tryd.prog 13 #[.pointer (some ⟨g, 0, none⟩), .string ⟨#[]⟩] w (Nexted w base g R1 R2 spec) := by
  have H := Lib.hid h
  clear h
  go_enter Tryd.func13, Tryd.ntmps13
  go_wp2_with fail
  refine wp_scope_jumps1 0 (ParasJ w base g R1 R2 spec) (fun _ w' => restLen g w') rfl ?_ ?_
  · intro hpass
    go_wp2_with fail
    go_step3
    exact ⟨rfl, s, rfl, Went.refl H.out, hspec⟩
  · clear hspec H
    rintro a' w' ⟨s, ha, hw, hsp⟩
    generalize (fun i => a'.tmps.getD i undef) = u at ha
    subst ha
    unfold parasF
    have hrl := restLen_went hw
    obtain ⟨R1', R2', hs, hf, n1, n2⟩ := hw
    have hbs : base ≤ w'.heap.size := Nat.le_trans hbase hf.size
    have HS := Lib.hid hs
    obtain ⟨hb, hd1, hr1, hm, A, n, c, A2, n2', c2, rfl, rfl, hblk, h1, h2⟩ := hs
    have x1 : w'.cell? ⟨g, 1, none⟩ = some (.slice A n c) := hblk.cell 1
    have x3 : w'.cell? ⟨g, 3, none⟩ = some (.bool s.wait) := hblk.cell 3
    have x4 : w'.cell? ⟨g, 4, none⟩ = some (.slice A2 n2' c2) := hblk.cell 4
    have f3 := hblk.frozen 3
    have f4 := hblk.frozen 4
    cases hre : s.rest with
    | nil =>
      have hn0 : n2' = 0 := by have := h2.1; rw [hre] at this; simpa using this.symm
      subst hn0
      have hfin : Hid (spec = (none, s)) := by
        have := hsp.out
        rw [hre] at this
        rw [show spec = nextP s [] from this.symm]
        show ((none : Option (List UInt8)), ({ s with rest := [] } : Sp)) = (none, s)
        rw [← hre]
      go_wp2_with fail
      simp only [Exit.jump]
      go_ret2
      exact nexted_none hfin.out ⟨_, _, HS.out, hf, n1, n2⟩
    | cons x r =>
      rw [hre] at h2
      have hn0 : 0 < n2' := by have := h2.1; simp at this; omega
      have hn0i : (0 : Int) < (n2' : Int) := by omega
      have hne : ((n2' : Int) == 0) = false := beq_eq_false_iff_ne.2 (by omega)
      obtain ⟨b2, off, rfl, hb2, hc0⟩ := h2.rd.at_ (k := 0) hn0
      have hc0 : w'.cell? ⟨b2, off, none⟩ = some (.int .u8 (x.toNat : Int)) := hc0
      obtain ⟨A', hsl, hob, hom⟩ := slice_m (some ⟨b2, off, none⟩) n2' c2 hn0 h2.cap
      have hst := (rest_step hb hd1 hr1 hm hblk h1 (s := { s with rest := x :: r }) h2 (hom _ _ _ _ h2) (World.grownBy.refl w' _) (.inl hob)).2
      have hst : Went w' base g (ob A) (ob (some ⟨b2, off, none⟩)) { s with rest := r } (w'.setCell ⟨g, 4, none⟩ (.slice A' (n2' - 1) (c2 - 1))) := hst
      have hsp2 := hsp.out
      rw [hre] at hsp2
      have hln : s.got.length = n := h1.len
      have HSP := Lib.hid hsp2
      have HRL := Lib.hid hrl
      have HRE := Lib.hid hre
      have HLN := Lib.hid hln
      clear hsp2 hrl hre hsp h1 h2 hom hob hblk HS hln
      have hz2 : (w'.setCell ⟨g, 4, none⟩ (.slice A' (n2' - 1) (c2 - 1))).heap.size = w'.heap.size := by simp [World.setCell]
      have hbs2 : base ≤ (w'.setCell ⟨g, 4, none⟩ (.slice A' (n2' - 1) (c2 - 1))).heap.size := by omega
      have HB2 := Lib.hid hbs2
      clear hz2 hbs2
      obtain ⟨Q1, Q2, hs2, hf2, m1, m2⟩ := hst
      have HS2 := Lib.hid hs2
      have HF2 := Lib.hid hf2
      clear hs2 hf2
      by_cases hx : x = 10
      · have hxe : ((x.toNat : Int) == 10) = true := byte_eq (d := 10) hx
        cases hwt : s.wait with
        | true =>
          rw [hwt] at x3
          have hfin : Hid (spec = (some s.got, { s.take with rest := r })) := by
            have := HSP.out
            unfold nextP at this
            rw [if_pos hx, if_pos hwt] at this
            exact this.symm
          clear hx hwt
          go_wp2_with fail
          refine (take_any _ base g Q1 Q2 _ HS2.out).mono ?_
          rintro e w2 ⟨rfl, hw2⟩
          go_wp2_with fail
          simp only [Exit.jump]
          go_ret2
          exact nexted_some hfin.out (Went.comp hf n1 n2 (Went.comp HF2.out m1 m2 hw2))
        | false =>
          rw [hwt] at x3
          by_cases hg0 : 0 < n
          · have hg0i : (0 : Int) < (n : Int) := by omega
            have hnx : Hid (nextP ({ s with rest := r, wait := true } : Sp) r = spec) := by
              have := HSP.out
              unfold nextP at this
              rw [if_pos hx, if_neg (by rw [hwt]; decide), if_pos (by rw [HLN.out]; exact hg0)] at this
              rw [← this]
              exact nextP_rest r r { s with wait := true }
            clear hx hwt
            go_wp2_with fail
            go_step3
            have hw2 := Went.comp hf n1 n2 (Went.comp HF2.out m1 m2 (⟨_, _, HS2.out.set_wait true, sp_fr _ _, Newer.refl _ _, Newer.refl _ _⟩ : Went _ base g Q1 Q2 _ _))
            refine ⟨rfl, ⟨_, rfl, hw2, hnx⟩, ?_⟩
            have h1 := restLen_went hw2
            show restLen g _ < restLen g w'
            rw [HRL.out, h1, HRE.out]
            simp
          · have hg0i : ¬ (0 : Int) < (n : Int) := by omega
            have hnx : Hid (nextP ({ s with rest := r } : Sp) r = spec) := by
              have := HSP.out
              unfold nextP at this
              rw [if_pos hx, if_neg (by rw [hwt]; decide), if_neg (by rw [HLN.out]; exact hg0)] at this
              rw [← this]
              exact nextP_rest r r s
            clear hx hwt
            go_wp2_with fail
            go_step3
            have hw2 := Went.comp hf n1 n2 (⟨_, _, HS2.out, HF2.out, m1, m2⟩ : Went _ base g _ _ _ _)
            refine ⟨rfl, ⟨_, rfl, hw2, hnx⟩, ?_⟩
            have h1 := restLen_went hw2
            show restLen g _ < restLen g w'
            rw [HRL.out, h1, HRE.out]
            simp
      · have hxe : ((x.toNat : Int) == 10) = false := byte_ne (d := 10) hx
        cases hwt : s.wait with
        | true =>
          rw [hwt] at x3
          have hnx : Hid (nextP ((({ ({ s with rest := r } : Sp) with wait := false } : Sp).add 10).add x) r = spec) := by
            have := HSP.out
            unfold nextP at this
            rw [if_neg hx, if_pos hwt] at this
            rw [← this]
            exact (congrArg (nextP · r) (Sp.add_rest2 { s with wait := false } 10 x r)).trans (nextP_rest r r ((({ s with wait := false } : Sp).add 10).add x))
          clear hx hwt
          go_wp2_with fail
          have hs3 := HS2.out.set_wait false
          refine (add_any 10 _ base g Q1 Q2 _ hs3 (by have := HB2.out; simpa [World.setCell] using this)).mono ?_
          rintro e w2 ⟨rfl, hw2⟩
          have hw3 := Went.comp HF2.out m1 m2 (Went.comp (sp_fr (g := g) (R1 := Q1) (R2 := Q2) (.bool false) 3) (Newer.refl _ _) (Newer.refl _ _) hw2)
          have hsz2 := HB2.out
          clear hw2
          obtain ⟨P1, P2, hs4, hf4, p1, p2⟩ := hw3
          have hbs4 : base ≤ w2.heap.size := Nat.le_trans hbs hf4.size
          go_wp2_with fail
          refine (add_any x _ base g P1 P2 _ hs4 hbs4).mono ?_
          rintro e w3 ⟨rfl, hw5⟩
          go_wp2_with fail
          go_step3
          have hw3 := Went.comp hf n1 n2 (Went.comp hf4 p1 p2 hw5)
          refine ⟨rfl, ⟨_, rfl, hw3, by rw [add2_rest]; exact hnx⟩, ?_⟩
          have h1 := restLen_went hw3
          rw [add2_rest] at h1
          show restLen g w3 < restLen g w'
          rw [HRL.out, h1, HRE.out]
          simp
        | false =>
          rw [hwt] at x3
          have hnx : Hid (nextP (({ s with rest := r } : Sp).add x) r = spec) := by
            have := HSP.out
            unfold nextP at this
            rw [if_neg hx, if_neg (by rw [hwt]; decide)] at this
            rw [← this, Sp.add_rest]; exact nextP_rest r r _
          clear hx hwt
          go_wp2_with fail
          refine (add_any x _ base g Q1 Q2 _ HS2.out HB2.out).mono ?_
          rintro e w2 ⟨rfl, hw2⟩
          go_wp2_with fail
          go_step3
          have hw3 := Went.comp hf n1 n2 (Went.comp HF2.out m1 m2 hw2)
          refine ⟨rfl, ⟨_, rfl, hw3, by rw [Sp.add_rest_eq]; exact hnx⟩, ?_⟩
          have h1 := restLen_went hw3
          rw [Sp.add_rest_eq] at h1
          show restLen g w2 < restLen g w'
          rw [HRL.out, h1, HRE.out]
          simp

end Go.Proofs.YtkpckmdakiminaaDoor
