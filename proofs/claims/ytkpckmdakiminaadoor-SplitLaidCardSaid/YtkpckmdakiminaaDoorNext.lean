/-
  The contract of split's Next, of a separator that is not empty.
-/
import Derived.Test.YtkpckmdakiminaaDoorSplit
import Derived.Test.YtkpckmdakiminaaDoorJumps
namespace Go.Proofs.YtkpckmdakiminaaDoor
open Go.RowKit

theorem nextB_rest (d : UInt8) : ∀ (r q : List UInt8) (s : Sp), nextB d { s with rest := q } r = nextB d s r
  | [], q, s => rfl
  | c :: r, q, s => by
    unfold nextB
    split
    · rfl
    · rw [Sp.add_rest]; exact nextB_rest d r q (s.add c)

/-- what Next returns -/
def Nexted (w : World) (base g : Nat) (R1 R2 : Option Nat) (x : Option (List UInt8) × Sp) (e : Ending) (w' : World) : Prop :=
  e = .returned (.tuple #[.string (bstr (x.1.getD [])), .bool x.1.isSome]) ∧ Went w base g R1 R2 x.2 w'
theorem nexted_none {w w' : World} {base g : Nat} {R1 R2 : Option Nat} {x : Option (List UInt8) × Sp} {s : Sp} (h : x = (none, s)) (hw : Went w base g R1 R2 s w') : Nexted w base g R1 R2 x (.returned (.tuple #[.string ⟨#[]⟩, .bool false])) w' := by
  subst h; exact ⟨rfl, hw⟩
theorem nexted_some {w w' : World} {base g : Nat} {R1 R2 : Option Nat} {x : Option (List UInt8) × Sp} {s : Sp} {r : List UInt8} (h : x = (some r, s)) (hw : Went w base g R1 R2 s w') : Nexted w base g R1 R2 x (.returned (.tuple #[.string (bstr r), .bool true])) w' := by
  subst h; exact ⟨rfl, hw⟩
theorem Went.of {w w' : World} {base g : Nat} {R1 R2 : Option Nat} {s s' : Sp} (h : Went w base g R1 R2 s w') (e : s = s') : Went w base g R1 R2 s' w' := by rw [← e]; exact h

theorem Went.comp {w w1 w' : World} {base g : Nat} {R1 R2 R1' R2' : Option Nat} {s2 : Sp} (hf : Fr w w1 (SpIn g R1 R2)) (n1 : Newer w R1 R1') (n2 : Newer w R2 R2') (h : Went w1 base g R1' R2' s2 w') : Went w base g R1 R2 s2 w' := by
  obtain ⟨R1'', R2'', hs2, hf2, m1, m2⟩ := h
  refine ⟨R1'', R2'', hs2, hf.trans hf2 ?_, ?_, ?_⟩
  · rintro k hk (rfl | e | e)
    · exact .inl rfl
    · rcases n1 k e with h | h
      · exact .inr (.inl h)
      · omega
    · rcases n2 k e with h | h
      · exact .inr (.inr h)
      · omega
  · intro k hk
    rcases m1 k hk with h | h
    · exact n1 k h
    · exact .inr (Nat.le_trans hf.size h)
  · intro k hk
    rcases m2 k hk with h | h
    · exact n2 k h
    · exact .inr (Nat.le_trans hf.size h)
theorem Sp.add_rest_eq (s : Sp) (c : UInt8) : (s.add c).rest = s.rest := by unfold Sp.add; split <;> rfl
theorem byte_eq {x d : UInt8} (h : x = d) : ((x.toNat : Int) == (d.toNat : Int)) = true := by rw [h]; exact beq_self_eq_true _
theorem byte_ne {x d : UInt8} (h : ¬ x = d) : ((x.toNat : Int) == (d.toNat : Int)) = false := by
  rw [beq_eq_false_iff_ne]; exact fun e => h (UInt8.toNat_inj.1 (by omega))
/-- how many bytes have not been looked at, by the memory -/
def restLen (g : Nat) (w : World) : Nat := match w.cell? ⟨g, 4, none⟩ with | some (.slice _ n _) => n | _ => 0
theorem restLen_of {w : World} {base g : Nat} {R1 R2 : Option Nat} {s : Sp} (h : SpOk w base g R1 R2 s) : restLen g w = s.rest.length := by
  obtain ⟨A, n, c, A2, n2, c2, _, _, h1, h2, _, _, _, _, x4, _⟩ := h.cells
  unfold restLen; rw [x4, h2.1]

theorem restLen_went {w w' : World} {base g : Nat} {R1 R2 : Option Nat} {s : Sp} (h : Went w base g R1 R2 s w') : restLen g w' = s.rest.length := by
  obtain ⟨_, _, hs, _⟩ := h; exact restLen_of hs

/-- the frame at the label of the loop over bytes; at the label of the look at a byte -/
def bytesF (g : Nat) (S : ByteArray) (u : Nat → Value) : Act := { tmps := #[.pointer (some ⟨g, 0, none⟩), .string S, u 2, u 3, .string ⟨#[]⟩, .bool false, u 6, u 7, u 8, u 9, u 10, u 11, u 12, u 13, u 14, u 15, u 16, u 17, u 18, u 19, u 20, u 21, u 22, u 23, u 24, u 25, u 26, u 27, u 28, u 29, u 30, u 31, u 32, u 33, u 34, u 35, u 36, u 37, u 38, u 39, u 40, u 41, u 42, u 43, u 44, u 45, u 46, u 47, u 48, u 49, u 50, u 51, u 52, u 53, u 54, u 55, u 56, u 57, u 58, u 59, u 60, u 61, u 62, u 63, u 64, u 65, u 66, u 67, u 68, u 69, u 70, u 71, u 72, u 73, u 74, u 75, u 76, u 77, u 78, u 79, u 80, u 81, u 82, u 83, u 84, u 85, u 86, u 87, u 88, u 89, u 90, u 91, u 92, u 93, u 94, u 95, u 96], defers := [] }
def lookF (g : Nat) (S : ByteArray) (x : UInt8) (u : Nat → Value) : Act := { tmps := #[.pointer (some ⟨g, 0, none⟩), .string S, u 2, u 3, .string ⟨#[]⟩, .bool false, .int .u8 (x.toNat : Int), u 7, u 8, u 9, u 10, u 11, u 12, u 13, u 14, u 15, u 16, u 17, u 18, u 19, u 20, u 21, u 22, u 23, u 24, u 25, u 26, u 27, u 28, u 29, u 30, u 31, u 32, u 33, u 34, u 35, u 36, u 37, u 38, u 39, u 40, u 41, u 42, u 43, u 44, u 45, u 46, u 47, u 48, u 49, u 50, u 51, u 52, u 53, u 54, u 55, u 56, u 57, u 58, u 59, u 60, u 61, u 62, u 63, u 64, u 65, u 66, u 67, u 68, u 69, u 70, u 71, u 72, u 73, u 74, u 75, u 76, u 77, u 78, u 79, u 80, u 81, u 82, u 83, u 84, u 85, u 86, u 87, u 88, u 89, u 90, u 91, u 92, u 93, u 94, u 95, u 96], defers := [] }
/-- what holds at the label of the loop over bytes -/
def BytesJ (w : World) (base g : Nat) (R1 R2 : Option Nat) (S : ByteArray) (d : UInt8) (spec : Option (List UInt8) × Sp) (a' : Act) (w' : World) : Prop :=
  ∃ (s : Sp), a' = bytesF g S (fun i => a'.tmps.getD i undef) ∧ Went w base g R1 R2 s w' ∧ Hid (nextB d s s.rest = spec)
/-- what holds at the label of the look at a byte -/
def LookJ (w : World) (base g : Nat) (R1 R2 : Option Nat) (S : ByteArray) (d : UInt8) (spec : Option (List UInt8) × Sp) (a' : Act) (w' : World) : Prop :=
  ∃ (s : Sp) (x : UInt8), a' = lookF g S x (fun i => a'.tmps.getD i undef) ∧ Went w base g R1 R2 s w' ∧ Hid ((if x = d then (some s.got, s.take) else nextB d (s.add x) s.rest) = spec)

set_option maxRecDepth 100000 in
set_option maxHeartbeats 2000000 in
theorem nextB_any (S : ByteArray) (d : UInt8) (hS : S.toList.isEmpty = false) (hix : ∀ W : World, (Instr.index 9 (.string S) (.int .i64 0)).run Tryd.prog W = .ok (.int .u8 (d.toNat : Int)) W)
    (spec : Option (List UInt8) × Sp) (w : World) (base g : Nat) (R1 R2 : Option Nat) (s : Sp) (h : SpOk w base g R1 R2 s) (hbase : base ≤ w.heap.size) (_hrl : s.rest.length ≤ 140737488355328)
    (hspec : Hid ((if s.wait = true then (if (10 : UInt8) = d then (some s.got, s.take) else nextB d (({ s with wait := false } : Sp).add 10) s.rest) else nextB d s s.rest) = spec)) :
    Calls Tryd.prog 13 #[.pointer (some ⟨g, 0, none⟩), .string S] w (Nexted w base g R1 R2 spec) := by
  have H := Lib.hid h
  obtain ⟨A, n, c, A2, n2, c2, hA, hA2, h1, h2, x0, x1, x2, x3, x4, hfz⟩ := h.cells
  have f3 := hfz 3
  clear h h1 h2 hA hA2 hfz x0 x1 x2 x4
  have hd := d.toNat_lt
  go_enter Tryd.func13, Tryd.ntmps13
  go_wp2_with fail
  refine wp_scope_two 1 2 (LookJ w base g R1 R2 S d spec) (BytesJ w base g R1 R2 S d spec) (fun a' w' => restLen g w' + 1) (fun a' w' => restLen g w') (by decide) rfl rfl ?_ ?_ ?_
  · intro hp1 hp2
    cases hwt : s.wait with
    | true =>
      rw [hwt] at x3 hspec
      rw [if_pos rfl] at hspec
      clear hwt
      go_wp2_with fail
      go_step3
      exact .inl ⟨rfl, { s with wait := false }, 10, rfl, ⟨R1, R2, H.out.set_wait false, sp_fr _ _, Newer.refl _ _, Newer.refl _ _⟩, hspec⟩
    | false =>
      rw [hwt] at x3 hspec
      rw [if_neg (by decide)] at hspec
      clear hwt
      go_wp2_with fail
      go_step3
      rename_i kk
      exact kk _ _ (hp2 _ _ ⟨s, rfl, Went.refl H.out, hspec⟩)
  · clear f3 x3 hspec H
    rintro a' w' ⟨s, x, ha, hw, hsp⟩
    generalize (fun i => a'.tmps.getD i undef) = u at ha
    subst ha
    unfold lookF
    have hrl := restLen_went hw
    obtain ⟨R1', R2', hs, hf, n1, n2⟩ := hw
    have hbs : base ≤ w'.heap.size := Nat.le_trans hbase hf.size
    by_cases hxd : x = d
    · have hxe := byte_eq hxd
      have hfin : Hid (spec = (some s.got, s.take)) := by have := hsp.out; rw [if_pos hxd] at this; exact this.symm
      clear hxd hrl
      go_wp2_with fail
      refine (take_any w' base g R1' R2' s hs).mono ?_
      rintro e w2 ⟨rfl, hw2⟩
      go_wp2_with fail
      simp only [two]
      go_ret2
      exact nexted_some hfin.out (Went.comp hf n1 n2 hw2)
    · have hxe := byte_ne hxd
      have hnx : Hid (nextB d (s.add x) (s.add x).rest = spec) := by have := hsp.out; rw [if_neg hxd] at this; show _ = _; rw [Sp.add_rest_eq]; exact this
      have hrl := Lib.hid hrl
      clear hxd
      go_wp2_with fail
      refine (add_any x w' base g R1' R2' s hs hbs).mono ?_
      rintro e w2 ⟨rfl, hw2⟩
      go_wp2_with fail
      go_step3
      refine .inr ⟨rfl, ⟨s.add x, rfl, Went.comp hf n1 n2 hw2, hnx⟩, ?_⟩
      have h1 := restLen_went hw2
      rw [Sp.add_rest_eq] at h1
      show restLen g w2 < restLen g w' + 1
      rw [hrl.out, h1]
      omega
  · clear f3 x3 hspec H
    rintro a' w' ⟨s, ha, hw, hsp⟩
    generalize (fun i => a'.tmps.getD i undef) = u at ha
    subst ha
    unfold bytesF
    have hrl := restLen_went hw
    obtain ⟨R1', R2', hs, hf, n1, n2⟩ := hw
    have hbs : base ≤ w'.heap.size := Nat.le_trans hbase hf.size
    have HS := Lib.hid hs
    obtain ⟨hb, hd1, hr1, hm, A, n, c, A2, n2', c2, rfl, rfl, hblk, h1, h2⟩ := hs
    have x4 : w'.cell? ⟨g, 4, none⟩ = some (.slice A2 n2' c2) := hblk.cell 4
    have f4 := hblk.frozen 4
    cases hre : s.rest with
    | nil =>
      have hn0 : n2' = 0 := by have := h2.1; rw [hre] at this; simpa using this.symm
      subst hn0
      have hfin : Hid (spec = (none, s)) := by
        have := hsp.out
        rw [hre] at this
        rw [show spec = nextB d s [] from this.symm]
        show ((none : Option (List UInt8)), ({ s with rest := [] } : Sp)) = (none, s)
        rw [← hre]
      go_wp2_with fail
      simp only [two]
      go_ret2
      exact nexted_none hfin.out ⟨_, _, HS.out, hf, n1, n2⟩
    | cons x r =>
      rw [hre] at h2
      have hn0 : 0 < n2' := by have := h2.1; simp at this; omega
      have hn0i : (0 : Int) < (n2' : Int) := by omega
      have hne : ((n2' : Int) == 0) = false := beq_eq_false_iff_ne.2 (by omega)
      obtain ⟨b2, off, rfl, hb2, hc0⟩ := h2.rd.at_ (k := 0) hn0
      have hc0 : w'.cell? ⟨b2, off, none⟩ = some (.int .u8 (x.toNat : Int)) := hc0
      obtain ⟨A', hsl, hob, hom⟩ := slice_m (some ⟨b2, off, none⟩) n2' c2 hn0 h2.cap
      have hst := (rest_step hb hd1 hr1 hm hblk h1 (s := { s with rest := x :: r }) h2 (hom _ _ _ _ h2) (World.grownBy.refl w' _) (.inl hob)).2
      have hst : Went w' base g (ob A) (ob (some ⟨b2, off, none⟩)) { s with rest := r } (w'.setCell ⟨g, 4, none⟩ (.slice A' (n2' - 1) (c2 - 1))) := hst
      have hsp2 := hsp.out
      rw [hre] at hsp2
      have HSP := Lib.hid hsp2
      have HRL := Lib.hid hrl
      have HRE := Lib.hid hre
      clear hsp2 hrl hre hsp h1 h2 hom hob hblk HS
      have hz2 : (w'.setCell ⟨g, 4, none⟩ (.slice A' (n2' - 1) (c2 - 1))).heap.size = w'.heap.size := by simp [World.setCell]
      have HZ2 := Lib.hid hz2
      clear hz2
      obtain ⟨W2, hW2⟩ : ∃ W2, Hid (w'.setCell ⟨g, 4, none⟩ (.slice A' (n2' - 1) (c2 - 1)) = W2) := ⟨_, rfl⟩
      go_wp2_with fail
      go_step3
      rw [hW2.out] at hst ⊢
      have hz3 := HZ2.out
      rw [hW2.out] at hz3
      have hbs2 : base ≤ W2.heap.size := by omega
      have HZ3 := Lib.hid hz3
      clear hz3 hW2 HZ2
      obtain ⟨Q1, Q2, hs2, hf2, m1, m2⟩ := hst
      rename_i kk
      refine kk _ _ ?_
      by_cases hxd : x = d
      · have hxe := byte_eq hxd
        have hfin : Hid (spec = (some s.got, { s.take with rest := r })) := by
          have := HSP.out
          unfold nextB at this
          rw [if_pos hxd] at this
          exact this.symm
        clear hxd
        go_wp2_with fail
        refine (take_any W2 base g Q1 Q2 _ hs2).mono ?_
        rintro e w2 ⟨rfl, hw2⟩
        go_wp2_with fail
        simp only [two]
        go_ret2
        exact nexted_some hfin.out (Went.comp hf n1 n2 (Went.comp hf2 m1 m2 hw2))
      · have hxe := byte_ne hxd
        have hnx : Hid (nextB d (({ s with rest := r } : Sp).add x) (({ s with rest := r } : Sp).add x).rest = spec) := by
          have := HSP.out
          unfold nextB at this
          rw [if_neg hxd] at this
          show _ = _
          rw [Sp.add_rest_eq, Sp.add_rest, nextB_rest]
          exact this
        clear hxd
        go_wp2_with fail
        refine (add_any x W2 base g Q1 Q2 _ hs2 hbs2).mono ?_
        rintro e w2 ⟨rfl, hw2⟩
        go_wp2_with fail
        go_step3
        refine .inr ⟨rfl, ⟨({ s with rest := r } : Sp).add x, rfl, Went.comp hf n1 n2 (Went.comp hf2 m1 m2 hw2), hnx⟩, ?_⟩
        have h1 := restLen_went hw2
        rw [Sp.add_rest_eq] at h1
        show restLen g w2 < restLen g w'
        rw [HRL.out, h1, HRE.out]
        simp

end Go.Proofs.YtkpckmdakiminaaDoor
