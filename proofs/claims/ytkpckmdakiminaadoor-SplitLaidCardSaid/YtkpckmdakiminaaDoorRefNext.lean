/-
  The document's splitter: its Next, by the same plain function.
-/
import Derived.Test.YtkpckmdakiminaaDoorRefSp
import Derived.Test.YtkpckmdakiminaaDoorNext
import Derived.Test.YtkpckmdakiminaaDoorPiecesLaw
import Derived.Test.YtkpckmdakiminaaDoorSlices
import Derived.Deep.DeepCutAuto
namespace Go.Proofs.YtkpckmdakiminaaDoor
open Go.RowKit

/-- what Next returns -/
def Nextq (w : World) (base g : Nat) (R1 R2 : Option Nat) (x : Option (List UInt8) × Sp) (e : Ending) (w' : World) : Prop :=
  e = .returned (.tuple #[.string (bstr (x.1.getD [])), .bool x.1.isSome]) ∧ Wenq w base g R1 R2 x.2 w'
theorem nextq_none {w w' : World} {base g : Nat} {R1 R2 : Option Nat} {x : Option (List UInt8) × Sp} {s : Sp} (h : x = (none, s)) (hw : Wenq w base g R1 R2 s w') : Nextq w base g R1 R2 x (.returned (.tuple #[.string ⟨#[]⟩, .bool false])) w' := by
  subst h; exact ⟨rfl, hw⟩
theorem nextq_some {w w' : World} {base g : Nat} {R1 R2 : Option Nat} {x : Option (List UInt8) × Sp} {s : Sp} {r : List UInt8} (h : x = (some r, s)) (hw : Wenq w base g R1 R2 s w') : Nextq w base g R1 R2 x (.returned (.tuple #[.string (bstr r), .bool true])) w' := by
  subst h; exact ⟨rfl, hw⟩
theorem Wenq.of {w w' : World} {base g : Nat} {R1 R2 : Option Nat} {s s' : Sp} (h : Wenq w base g R1 R2 s w') (e : s = s') : Wenq w base g R1 R2 s' w' := by rw [← e]; exact h

theorem Wenq.comp {w w1 w' : World} {base g : Nat} {R1 R2 R1' R2' : Option Nat} {s2 : Sp} (hf : Fr w w1 (SpIn g R1 R2)) (n1 : Newer w R1 R1') (n2 : Newer w R2 R2') (h : Wenq w1 base g R1' R2' s2 w') : Wenq w base g R1 R2 s2 w' := by
  obtain ⟨R1'', R2'', hs2, hf2, m1, m2⟩ := h
  refine ⟨R1'', R2'', hs2, hf.trans hf2 ?_, ?_, ?_⟩
  · rintro k hk (rfl | e | e)
    · exact .inl rfl
    · rcases n1 k e with h | h
      · exact .inr (.inl h)
      · omega
    · rcases n2 k e with h | h
      · exact .inr (.inr h)
      · omega
  · intro k hk
    rcases m1 k hk with h | h
    · exact n1 k h
    · exact .inr (Nat.le_trans hf.size h)
  · intro k hk
    rcases m2 k hk with h | h
    · exact n2 k h
    · exact .inr (Nat.le_trans hf.size h)
theorem restLenq_of {w : World} {base g : Nat} {R1 R2 : Option Nat} {s : Sp} (h : SqOk w base g R1 R2 s) : restLen g w = s.rest.length := by
  obtain ⟨A, n, c, A2, n2, c2, _, _, h1, h2, _, _, _, _, x4, _⟩ := h.cells
  unfold restLen; rw [x4, h2.1]

theorem restLen_wenq {w w' : World} {base g : Nat} {R1 R2 : Option Nat} {s : Sp} (h : Wenq w base g R1 R2 s w') : restLen g w' = s.rest.length := by
  obtain ⟨_, _, hs, _⟩ := h; exact restLenq_of hs


theorem rest_wait (t : Sp) (x : UInt8) (r : List UInt8) (h : t.rest = r) : (({ t with wait := false } : Sp).add x).rest = r := by rw [Sp.add_rest_eq]; exact h
theorem Wenq.lift {w w1 w' : World} {base g : Nat} {R1 R2 : Option Nat} {s s1 : Sp} (h1 : Wenq w base g R1 R2 s w1) (h2 : ∀ R1' R2', SqOk w1 base g R1' R2' s → Wenq w1 base g R1' R2' s1 w') : Wenq w base g R1 R2 s1 w' := by
  obtain ⟨R1', R2', hs, hf, n1, n2⟩ := h1
  exact Wenq.comp hf n1 n2 (h2 R1' R2' hs)

/-- the first byte that has not been looked at is passed -/
theorem sq_cut {w : World} {base g : Nat} {R1 R2 : Option Nat} {s : Sp} {x : UInt8} {r : List UInt8} (h : SqOk w base g R1 R2 s) (hre : s.rest = x :: r) :
    ∃ b off n c A', w.cell? ⟨g, 4, none⟩ = some (.slice (some ⟨b, off, none⟩) n c) ∧ w.frozen? ⟨g, 4, none⟩ = false ∧ 0 < n ∧ w.cell? ⟨b, off, none⟩ = some (.int .u8 (x.toNat : Int)) ∧
      (∀ W : World, (Instr.slice 22 (.slice (some ⟨b, off, none⟩) n c) (some (.int .i64 1)) none none).run Tryd.prog W = .ok (.slice A' (n - 1) (c - 1)) W) ∧
      Wenq w base g R1 R2 { s with rest := r } (w.setCell ⟨g, 4, none⟩ (.slice A' (n - 1) (c - 1))) := by
  obtain ⟨hb, hd1, hr1, hm, A, n, c, A2, n2, c2, rfl, rfl, hblk, h1, h2⟩ := h
  rw [hre] at h2
  have hn0 : 0 < n2 := by have := h2.1; simp at this; omega
  obtain ⟨b2, off, rfl, hb2, hc0⟩ := h2.rd.at_ (k := 0) hn0
  have hc0 : w.cell? ⟨b2, off, none⟩ = some (.int .u8 (x.toNat : Int)) := hc0
  obtain ⟨A', hsl, hob, hom⟩ := slice_m (some ⟨b2, off, none⟩) n2 c2 hn0 h2.cap
  exact ⟨b2, off, n2, c2, A', hblk.cell 4, hblk.frozen 4, hn0, hc0, hsl, (rest_stepq hb hd1 hr1 hm hblk h1 (s := { s with rest := x :: r }) h2 (hom _ _ _ _ h2) (World.grownBy.refl w _) (.inl hob)).2⟩
theorem sq_nil {w : World} {base g : Nat} {R1 R2 : Option Nat} {s : Sp} (h : SqOk w base g R1 R2 s) (hre : s.rest = []) : ∃ A c, w.cell? ⟨g, 4, none⟩ = some (.slice A 0 c) := by
  obtain ⟨A, n, c, A2, n2, c2, _, _, _, h2, _, _, _, _, x4, _⟩ := h.cells
  have : n2 = 0 := by have := h2.1; rw [hre] at this; simpa using this.symm
  subst this
  exact ⟨A2, c2, x4⟩

set_option maxRecDepth 100000 in
set_option maxHeartbeats 4000000 in
theorem refNextB_any (S : ByteArray) (d : UInt8) (hS : S.toList.isEmpty = false) (hix : ∀ W : World, (Instr.index 9 (.string S) (.int .i64 0)).run Tryd.prog W = .ok (.int .u8 (d.toNat : Int)) W)
    (spec : Option (List UInt8) × Sp) (w : World) (base g : Nat) (R1 R2 : Option Nat) (s : Sp) (h : SqOk w base g R1 R2 s) (hbase : base ≤ w.heap.size) (hrl : s.rest.length < 140737488355328)
    (hspec : Hid ((if s.wait = true then (if (10 : UInt8) = d then (some s.got, s.take) else nextB d (({ s with wait := false } : Sp).add 10) s.rest) else nextB d s s.rest) = spec)) :
    Calls Tryd.prog 15 #[.pointer (some ⟨g, 0, none⟩), .string S] w (Nextq w base g R1 R2 spec) := by
  have H := Lib.hid h
  obtain ⟨A, n, c, A2, n2, c2, hA, hA2, h1, h2, x0, x1, x2, x3, x4, hfz⟩ := h.cells
  have f3 := hfz 3
  have hd := d.toNat_lt
  have hg9 : g < w.heap.size := (h.lt g (.inl rfl)).2
  clear h h1 hA hA2 x0 x1 x2
  go_enter Tryd.func15, Tryd.ntmps15
  go_upto_if 14 with (fail)
  go_cut [] (fun wx => ∃ s1 : Sp, Wenq w base g R1 R2 s1 wx ∧ Hid (nextB d s1 s1.rest = spec))
  case first =>
    cases hwt : s.wait with
    | true =>
      rw [hwt] at x3 hspec
      rw [if_pos rfl] at hspec
      have hw1 := H.out.set_wait false
      have x4' : (w.setCell ⟨g, 3, none⟩ (.bool false)).cell? ⟨g, 4, none⟩ = some (.slice A2 n2 c2) := (World.cell?_setCell_other w _ _ _ (by simp)).trans x4
      have hz1 : (w.setCell ⟨g, 3, none⟩ (.bool false)).heap.size = w.heap.size := by simp [World.setCell]
      have h2' : OwnM (w.setCell ⟨g, 3, none⟩ (.bool false)) base A2 n2 c2 s.rest := by
        obtain ⟨_, _, _, _, A8, n8, c8, A9, n9, c9, _, _, hblk, _, hm⟩ := H.out
        have e := hblk.cell 4
        have e : w.cell? ⟨g, 4, none⟩ = some (.slice A9 n9 c9) := e
        rw [x4] at e
        injection e with e
        injection e with e1 e2 e3
        subst e1; subst e2; subst e3
        exact sq_setM hm hblk
      have hn2 : n2 < 140737488355328 := by rw [← h2.1]; exact hrl
      have hlit : OwnB ((w.setCell ⟨g, 3, none⟩ (.bool false)).alloc (.cells #[.int .u8 10] 5)) w.heap.size (some ⟨w.heap.size, 0, none⟩) 1 1 [10] := by
        have := OwnB.lit (w := w.setCell ⟨g, 3, none⟩ (.bool false)) (base := w.heap.size) (by rw [hz1]; exact Nat.le_refl _) #[.int .u8 10] [10] rfl (by decide) rfl
        rwa [hz1] at this
      have hrd2 := h2'.rd.alloc (Nat.le_refl _) (.cells #[.int .u8 10] 5)
      have HZ := Lib.hid hz1
      have hnx : Hid (nextB d { s with wait := false, rest := 10 :: s.rest } (10 :: s.rest) = spec) := by
        have := hspec.out
        show _ = _
        rw [← this]
        show (if (10 : UInt8) = d then _ else nextB d _ s.rest) = _
        split
        · rfl
        · have e : ({ s with wait := false, rest := 10 :: s.rest } : Sp).add 10 = { ({ s with wait := false } : Sp).add 10 with rest := 10 :: s.rest } := by
            rw [← Sp.add_rest]
          rw [e, nextB_rest]
      clear h2 h2' hz1 hspec hwt
      go_wp2_with (at_builtin; go_loud (refine wpList_append_b _ rfl (.tmp 19) (.tmp 23) rfl w.heap.size _ 1 1 [10] rfl hlit _ A2 n2 c2 _ rfl hrd2 (by omega) (by simp [World.setCell]) ?_); go_loud (intro A6 n6 c6 w6 hown6 hg6 hob6; have hb6 := below_grown (Below.refl _ _) hg6 (Nat.le_refl _) (fun k hk => by rw [HZ.out]; injection hk with hk; exact Nat.le_of_eq hk); have hst := rest_new hw1 hb6 (OwnM.of_own (hown6.base_le (fun k _ hk => by omega))) (fun k hk => by rw [HZ.out]; exact (hown6.lt k hk).1); have hcell1 := hst.1.1.trans x4'; have hfz1 := hst.1.2))
      go_meet
      obtain ⟨_, hst⟩ := hst
      exact ⟨_, Wenq.comp (sq_fr _ _) (Newer.refl _ _) (Newer.refl _ _) hst, hnx⟩
    | false =>
      rw [hwt] at x3 hspec
      rw [if_neg (by decide)] at hspec
      clear hwt
      go_wp2_with fail
      go_meet
      exact ⟨s, ⟨R1, R2, H.out, Fr.refl _ _, Newer.refl _ _, Newer.refl _ _⟩, hspec⟩
  case rest =>
    clear f3 x3 x4 hspec h2 H
    obtain ⟨s0, hw0, hsp0⟩ := hcut
    go_wp2_with fail
    go_loopw [6] (fun _ wr => ∃ s1 : Sp, Wenq w base g R1 R2 s1 wr ∧ Hid (nextB d s1 s1.rest = spec)) (fun _ wr => restLen g wr)
    case atStart => exact ⟨s0, hw0, hsp0⟩
    case round =>
      clear hw0 hsp0
      obtain ⟨s1, hw, hsp⟩ := hrel
      have hrl1 := Lib.hid (restLen_wenq hw)
      obtain ⟨Q1, Q2, hs, hf, n1, n2⟩ := hw
      have hbs : base ≤ wr.heap.size := Nat.le_trans hbase hf.size
      have HS := Lib.hid hs
      cases hre : s1.rest with
      | nil =>
        obtain ⟨A5, c5, x45⟩ := sq_nil hs hre
        have hfin : Hid (spec = (none, s1)) := by
          have := hsp.out
          rw [hre] at this
          rw [show spec = nextB d s1 [] from this.symm]
          show ((none : Option (List UInt8)), ({ s1 with rest := [] } : Sp)) = (none, s1)
          rw [← hre]
        clear hs hre hsp
        go_wp2_with fail
        go_ret2
        exact nextq_none hfin.out ⟨Q1, Q2, HS.out, hf, n1, n2⟩
      | cons x r =>
        obtain ⟨b, off, n5, c5, A5, x45, f4, hn5, hc0, hsl, hcutw⟩ := sq_cut hs hre
        have hn5i : (0 : Int) < (n5 : Int) := by omega
        have hsp2 := hsp.out
        rw [hre] at hsp2
        have HSP := Lib.hid hsp2
        have HRE := Lib.hid hre
        clear hsp2 hre hsp hs
        have hz3 : wr.heap.size = (wr.setCell ⟨g, 4, none⟩ (.slice A5 (n5 - 1) (c5 - 1))).heap.size := by simp [World.setCell]
        obtain ⟨W2, hW2⟩ : ∃ W2, Hid (wr.setCell ⟨g, 4, none⟩ (.slice A5 (n5 - 1) (c5 - 1)) = W2) := ⟨_, rfl⟩
        have hbs2 : base ≤ W2.heap.size := by rw [← hW2.out, ← hz3]; exact hbs
        have HCW : Hid (Wenq wr base g Q1 Q2 { s1 with rest := r } W2) := by rw [← hW2.out]; exact hcutw
        clear hz3 hcutw
        obtain ⟨P1, P2, hs2, hf2, m1, m2⟩ := HCW.out
        by_cases hxd : x = d
        · have hxe := byte_eq hxd
          have hfin : Hid (spec = (some s1.got, { s1.take with rest := r })) := by
            have := HSP.out
            unfold nextB at this
            rw [if_pos hxd] at this
            exact this.symm
          clear hxd
          go_wp2_with fail
          rw [hW2.out]
          refine (ends_any W2 base g P1 P2 _ hs2).mono ?_
          rintro e w2 ⟨rfl, hw2⟩
          go_wp2_with fail
          go_ret2
          exact nextq_some hfin.out (Wenq.comp hf n1 n2 (Wenq.comp hf2 m1 m2 hw2))
        · have hxe := byte_ne hxd
          have hnx : Hid (nextB d (({ s1 with rest := r } : Sp).add x) (({ s1 with rest := r } : Sp).add x).rest = spec) := by
            have := HSP.out
            unfold nextB at this
            rw [if_neg hxd] at this
            show _ = _
            rw [Sp.add_rest_eq, Sp.add_rest, nextB_rest]
            exact this
          clear hxd
          go_wp2_with fail
          rw [hW2.out]
          refine (put_any x W2 base g P1 P2 _ hs2 hbs2).mono ?_
          rintro e w2 ⟨rfl, hw2⟩
          go_wp2_with fail
          go_roundw
          case rel => exact ⟨_, Wenq.comp hf n1 n2 (Wenq.comp hf2 m1 m2 hw2), hnx⟩
          case measure =>
            have h1 := restLen_wenq hw2
            rw [Sp.add_rest_eq] at h1
            show restLen g w2 < restLen g wr
            rw [hrl1.out, h1, HRE.out]
            simp


set_option maxRecDepth 100000 in
set_option maxHeartbeats 4000000 in
theorem refNextP_any (spec : Option (List UInt8) × Sp) (w : World) (base g : Nat) (R1 R2 : Option Nat) (s : Sp) (h : SqOk w base g R1 R2 s) (hbase : base ≤ w.heap.size)
    (hspec : Hid (nextP s s.rest = spec)) :
    Calls Tryd.prog 15 #[.pointer (some ⟨g, 0, none⟩), .string ⟨#[]⟩] w (Nextq w base g R1 R2 spec) := by
  have H := Lib.hid h
  clear h
  go_enter Tryd.func15, Tryd.ntmps15
  go_wp2_with fail
  go_loopw [6] (fun _ wr => ∃ s1 : Sp, Wenq w base g R1 R2 s1 wr ∧ Hid (nextP s1 s1.rest = spec)) (fun _ wr => restLen g wr)
  case atStart => exact ⟨s, ⟨R1, R2, H.out, Fr.refl _ _, Newer.refl _ _, Newer.refl _ _⟩, hspec⟩
  case round =>
    clear H hspec
    obtain ⟨s1, hw, hsp⟩ := hrel
    have hrl1 := Lib.hid (restLen_wenq hw)
    obtain ⟨Q1, Q2, hs, hf, n1, n2⟩ := hw
    have hbs : base ≤ wr.heap.size := Nat.le_trans hbase hf.size
    have HS := Lib.hid hs
    cases hre : s1.rest with
    | nil =>
      obtain ⟨A5, c5, x45⟩ := sq_nil hs hre
      have hfin : Hid (spec = (none, s1)) := by
        have := hsp.out
        rw [hre] at this
        rw [show spec = nextP s1 [] from this.symm]
        show ((none : Option (List UInt8)), ({ s1 with rest := [] } : Sp)) = (none, s1)
        rw [← hre]
      clear hs hre hsp
      go_wp2_with fail
      go_ret2
      exact nextq_none hfin.out ⟨Q1, Q2, HS.out, hf, n1, n2⟩
    | cons x r =>
      obtain ⟨b, off, n5, c5, A5, x45, f4, hn5, hc0, hsl, hcutw⟩ := sq_cut hs hre
      have hn5i : (0 : Int) < (n5 : Int) := by omega
      have hsp2 := hsp.out
      rw [hre] at hsp2
      have HSP := Lib.hid hsp2
      have HRE := Lib.hid hre
      clear hsp2 hre hsp hs
      have hz3 : wr.heap.size = (wr.setCell ⟨g, 4, none⟩ (.slice A5 (n5 - 1) (c5 - 1))).heap.size := by simp [World.setCell]
      obtain ⟨W2, hW2⟩ : ∃ W2, Hid (wr.setCell ⟨g, 4, none⟩ (.slice A5 (n5 - 1) (c5 - 1)) = W2) := ⟨_, rfl⟩
      have hbs2 : base ≤ W2.heap.size := by rw [← hW2.out, ← hz3]; exact hbs
      have HCW : Hid (Wenq wr base g Q1 Q2 { s1 with rest := r } W2) := by rw [← hW2.out]; exact hcutw
      clear hz3 hcutw
      obtain ⟨P1, P2, hs2, hf2, m1, m2⟩ := HCW.out
      obtain ⟨A7, n7, c7, A8, n8, c8, _, _, h1, _, _, x1, _, x3, _, hfz⟩ := hs2.cells
      have hln : s1.got.length = n7 := h1.len
      have HLN := Lib.hid hln
      have f3 := hfz 3
      have x1 : (wr.setCell ⟨g, 4, none⟩ (.slice A5 (n5 - 1) (c5 - 1))).cell? ⟨g, 1, none⟩ = some (.slice A7 n7 c7) := by rw [hW2.out]; exact x1
      have x3 : (wr.setCell ⟨g, 4, none⟩ (.slice A5 (n5 - 1) (c5 - 1))).cell? ⟨g, 3, none⟩ = some (.bool s1.wait) := by rw [hW2.out]; exact x3
      have f3 : (wr.setCell ⟨g, 4, none⟩ (.slice A5 (n5 - 1) (c5 - 1))).frozen? ⟨g, 3, none⟩ = false := by rw [hW2.out]; exact f3
      rw [World.cell?_setCell_other _ _ _ _ (by simp)] at x1 x3
      rw [World.frozen?_setCell] at f3
      have HS2 := Lib.hid hs2
      clear hln h1 hfz hs2
      by_cases hxd : x = 10
      · have hxe : ((x.toNat : Int) == 10) = true := byte_eq (d := 10) hxd
        cases hwt : s1.wait with
        | true =>
          rw [hwt] at x3
          have hfin : Hid (spec = (some s1.got, { s1.take with rest := r })) := by
            have := HSP.out
            unfold nextP at this
            rw [if_pos hxd, if_pos hwt] at this
            exact this.symm
          clear hxd hwt
          go_wp2_with fail
          rw [hW2.out]
          refine (ends_any W2 base g P1 P2 _ HS2.out).mono ?_
          rintro e w2 ⟨rfl, hw2⟩
          go_wp2_with fail
          go_ret2
          exact nextq_some hfin.out (Wenq.comp hf n1 n2 (Wenq.comp hf2 m1 m2 hw2))
        | false =>
          rw [hwt] at x3
          by_cases hg0 : 0 < n7
          · have hg0i : (0 : Int) < (n7 : Int) := by omega
            have hnx : Hid (nextP ({ s1 with rest := r, wait := true } : Sp) r = spec) := by
              have := HSP.out
              unfold nextP at this
              rw [if_pos hxd, if_neg (by rw [hwt]; decide), if_pos (by rw [HLN.out]; exact hg0)] at this
              rw [← this]
              exact nextP_rest0 r r { s1 with wait := true }
            clear hxd hwt
            go_wp2_with fail
            go_roundw
            case rel =>
              rw [hW2.out]
              exact ⟨_, Wenq.comp hf n1 n2 (Wenq.comp hf2 m1 m2 (⟨P1, P2, HS2.out.set_wait true, sq_fr _ _, Newer.refl _ _, Newer.refl _ _⟩ : Wenq W2 base g P1 P2 _ _)), hnx⟩
            case measure =>
              rw [hW2.out]
              have h1 := restLen_wenq (⟨P1, P2, HS2.out.set_wait true, sq_fr _ _, Newer.refl _ _, Newer.refl _ _⟩ : Wenq W2 base g P1 P2 _ _)
              rw [hrl1.out, h1, HRE.out]
              simp
          · have hg0i : ¬ (0 : Int) < (n7 : Int) := by omega
            have hnx : Hid (nextP ({ s1 with rest := r } : Sp) r = spec) := by
              have := HSP.out
              unfold nextP at this
              rw [if_pos hxd, if_neg (by rw [hwt]; decide), if_neg (by rw [HLN.out]; exact hg0)] at this
              rw [← this]
              exact nextP_rest0 r r s1
            clear hxd hwt
            go_wp2_with fail
            go_roundw
            case rel =>
              rw [hW2.out]
              exact ⟨_, Wenq.comp hf n1 n2 (⟨P1, P2, HS2.out, hf2, m1, m2⟩ : Wenq wr base g Q1 Q2 _ _), hnx⟩
            case measure =>
              rw [hW2.out]
              have h1 := restLenq_of HS2.out
              rw [hrl1.out, h1, HRE.out]
              simp
      · have hxe : ((x.toNat : Int) == 10) = false := byte_ne (d := 10) hxd
        cases hwt : s1.wait with
        | true =>
          rw [hwt] at x3
          have hnx : Hid (nextP ((({ s1 with rest := r } : Sp).add 10 |> fun t => ({ t with wait := false } : Sp)).add x) r = spec) := by
            have := HSP.out
            unfold nextP at this
            rw [if_neg hxd, if_pos hwt] at this
            rw [← this]
            have e : ({ (({ s1 with rest := r } : Sp).add 10) with wait := false } : Sp) = { (({ s1 with wait := false } : Sp).add 10) with rest := r } := by
              unfold Sp.add; split <;> rfl
            show nextP (({ (({ s1 with rest := r } : Sp).add 10) with wait := false } : Sp).add x) r = _
            rw [e, Sp.add_rest]
            exact nextP_rest0 r r _
          clear hxd hwt
          go_wp2_with fail
          rw [hW2.out]
          refine (put_any 10 W2 base g P1 P2 _ HS2.out hbs2).mono ?_
          rintro e w2 ⟨rfl, hw2⟩
          obtain ⟨T1, T2, hs3, hf3, p1, p2⟩ := hw2
          obtain ⟨_, _, _, _, _, _, _, _, _, _, _, _, _, y3, _, yfz⟩ := hs3.cells
          have y3f := yfz 3
          have hs4 := hs3.set_wait false
          have hb4 : base ≤ (w2.setCell ⟨g, 3, none⟩ (.bool false)).heap.size := by have := hf3.size; simp [World.setCell]; omega
          have HS4 := Lib.hid hs4
          clear hs3 hs4 yfz
          go_wp2_with fail
          refine (put_any x _ base g T1 T2 _ HS4.out hb4).mono ?_
          rintro e w4 ⟨rfl, hw4⟩
          go_wp2_with fail
          go_roundw
          case rel =>
            exact ⟨_, Wenq.comp hf n1 n2 (Wenq.comp hf2 m1 m2 (Wenq.comp hf3 p1 p2 (Wenq.comp (sq_fr _ _) (Newer.refl _ _) (Newer.refl _ _) hw4))), (congrArg (nextP _) (rest_wait _ x r (Sp.add_rest_eq _ _))).trans hnx.out⟩
          case measure =>
            have h1 := restLen_wenq hw4
            rw [rest_wait (({ s1 with rest := r } : Sp).add 10) x r (Sp.add_rest_eq _ _)] at h1
            rw [hrl1.out, h1, HRE.out]
            simp
        | false =>
          rw [hwt] at x3
          have hnx : Hid (nextP (({ s1 with rest := r } : Sp).add x) r = spec) := by
            have := HSP.out
            unfold nextP at this
            rw [if_neg hxd, if_neg (by rw [hwt]; decide)] at this
            rw [← this, Sp.add_rest]
            exact nextP_rest0 r r _
          have hs4 : SqOk (W2.setCell ⟨g, 3, none⟩ (.bool false)) base g P1 P2 { s1 with rest := r } := by
            have := HS2.out.set_wait false
            have e : ({ ({ s1 with rest := r } : Sp) with wait := false } : Sp) = { s1 with rest := r } := by rw [← hwt]
            rwa [e] at this
          have hb4 : base ≤ (W2.setCell ⟨g, 3, none⟩ (.bool false)).heap.size := by simp [World.setCell]; omega
          have HS4 := Lib.hid hs4
          clear hxd hwt hs4
          go_wp2_with fail
          rw [hW2.out]
          refine (put_any x _ base g P1 P2 _ HS4.out hb4).mono ?_
          rintro e w4 ⟨rfl, hw4⟩
          go_wp2_with fail
          go_roundw
          case rel =>
            exact ⟨_, Wenq.comp hf n1 n2 (Wenq.comp hf2 m1 m2 (Wenq.comp (sq_fr _ _) (Newer.refl _ _) (Newer.refl _ _) hw4)), by
              show nextP _ (({ s1 with rest := r } : Sp).add x).rest = _
              rw [Sp.add_rest_eq]
              exact hnx.out⟩
          case measure =>
            have h1 := restLen_wenq hw4
            rw [Sp.add_rest_eq] at h1
            rw [hrl1.out, h1, HRE.out]
            simp


theorem refNext_any (rs : List UInt8) (w : World) (base g : Nat) (R1 R2 : Option Nat) (s : Sp) (h : SqOk w base g R1 R2 s) (hbase : base ≤ w.heap.size) (hrl : s.rest.length < 140737488355328) :
    Calls Tryd.prog 15 #[.pointer (some ⟨g, 0, none⟩), .string (bstr rs)] w (Nextq w base g R1 R2 (s.next rs)) := by
  cases rs with
  | nil => exact refNextP_any _ w base g R1 R2 s h hbase rfl
  | cons d t =>
    refine refNextB_any (bstr (d :: t)) d (by rw [bstr_toList]; rfl) (fun W => ?_) _ w base g R1 R2 s h hbase hrl rfl
    have hz : (bstr (d :: t)).size = t.length + 1 := by show (d :: t).toArray.size = _; simp
    rw [run_index_string (h := Tryd.underlying9), dif_pos ⟨by decide, by rw [hz]; omega⟩]
    rfl

end Go.Proofs.YtkpckmdakiminaaDoor
