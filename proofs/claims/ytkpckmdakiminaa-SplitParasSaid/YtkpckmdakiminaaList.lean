/-
  The contract of frame.List: the records of whole frames, and the place behind the last one.
-/
import Derived.Test.YtkpckmdakiminaaWhole
import Derived.WalkMore
import Derived.ScopeJumps
namespace Go.Proofs.Ytkpckmdakiminaa
open Go.RowKit

/-- 's[l:]' of bytes: one value under a name, and what it reads as -/
theorem slice_l (A : Option Addr) (len cap l : Nat) (hl : l ≤ len) (hc : len ≤ cap) :
    ∃ A', (∀ (x : Int) (W : World), x = (l : Int) → (Instr.slice 23 (.slice A len cap) (some (.int .i64 x)) none none).run Try.prog W = .ok (.slice A' (len - l) (cap - l)) W) ∧
      (∀ (w : World) (B : Nat) (ls : List UInt8), RdB w B A len ls → RdB w B A' (len - l) (ls.drop l)) := by
  refine ⟨if cap = l then A else A.map (·.add l), fun x W hx => ?_, fun w B ls hr => hr.from (k := l) (cap := cap) hl hc⟩
  subst hx
  have he : Try.prog.elem 23 = 5 := by kernel_rfl
  have hz : (Go.sizeOf 5).run Try.prog W = .ok 1 W := by kernel_rfl
  rw [run_slice_l W 23 _ _ _ (by rw [he]; exact Try.underlying23) .i64 _ (by omega) (by omega), he, hz]
  simp [Result.andThen, sliced]

/-- what List returns: rows of the call's own, and the place -/
def Listed (w : World) (x : List (List UInt8) × Nat) (e : Ending) (w' : World) : Prop :=
  ∃ A n c rs, e = .returned (.tuple #[.slice A n c, .int .i64 (x.2 : Int)]) ∧ OwnR w' w.heap.size A n c rs ∧ bytesOf rs = x.1 ∧ Below w.heap.size w w'

theorem listed_mk {w w' : World} {x : List (List UInt8) × Nat} {A : Option Addr} {n c p : Nat} {rs : List RowV} (h : x = (bytesOf rs, p)) (ho : OwnR w' w.heap.size A n c rs) (hb : Below w.heap.size w w') : Listed w x (.returned (.tuple #[.slice A n c, .int .i64 (p : Int)])) w' := by
  subst h; exact ⟨A, n, c, rs, rfl, ho, rfl, hb⟩
theorem bytesOf_snoc (rs : List RowV) (r : RowV) : bytesOf (rs ++ [r]) = bytesOf rs ++ [r.l] := by unfold bytesOf; rw [List.map_append]; rfl

/-- a scope in which the run jumps back to one label: what goes ahead of the label may lean on the pass from it -/
theorem wp_scope_jumps1 {P : Program} {a : Act} {w : World} {Q : Exit → Act → World → Prop} {c rest : Code} (l : Nat) (J : Act → World → Prop) (μ : Act → World → Nat) (hf : findLabel c l = some (Code.skip.seq rest))
    (first : (∀ a w, J a w → rest.wp P (Exit.jump l J Q) a w) → c.wp P (Exit.jump l J Q) a w)
    (pass : ∀ a w, J a w → rest.wp P (Exit.jump l (fun a' w' => J a' w' ∧ μ a' w' < μ a w) Q) a w) : (Code.scope c).wp P Q a w :=
  wp_scope_jumps l J μ hf (first fun a w h => (Code.wp_mono (fun e a' w' q => by cases e <;> first | exact q | exact ⟨q.1, q.2.1⟩) (pass a w h))) (fun a w h => wp_seq (wp_skip (pass a w h)))

/-- what holds at the label of List -/
def ListJ (w : World) (A : Option Addr) (n c : Nat) (l : List UInt8) (a' : Act) (w' : World) : Prop :=
  ∃ (p k c9 : Nat) (A9 : Option Addr) (rs : List RowV) (u6 u7 u8 u9 u10 u11 u12 u13 u14 u15 u16 u17 u18 u19 u20 u21 u22 u23 u24 u25 u26 u27 : Value), a' = { tmps := #[.slice A n c, undef, .slice none 0 0, .int .i64 0, .slice A9 k c9, .int .i64 (p : Int), u6, u7, u8, u9, u10, u11, u12, u13, u14, u15, u16, u17, u18, u19, u20, u21, u22, u23, u24, u25, u26, u27], defers := [] } ∧ p ≤ n ∧ k * 10 ≤ p ∧
    OwnR w' w.heap.size A9 k c9 rs ∧ Hid (ListInv l (bytesOf rs) p) ∧ Below w.heap.size w w'

set_option maxRecDepth 100000 in
set_option maxHeartbeats 1000000 in
theorem list_any (A : Option Addr) (n c : Nat) (l : List UInt8) (w : World) (hr : RdB w w.heap.size A n l) (hn : n ≤ 40000000000000) (hc : n ≤ c) :
    Calls Try.prog 15 #[.slice A n c] w (Listed w (listB l)) := by
  have HL : Hid (l.length = n) := hr.len
  go_enter Try.func15, Try.ntmps15
  go_wp2_with fail
  refine wp_scope_jumps1 0 (ListJ w A n c l) (fun a' _ => n - (intOf (a'.tmps.getD 5 undef)).toNat) rfl ?_ ?_
  · intro hpass
    go_wp2_with fail
    go_step3
    rename_i kk
    refine kk _ _ (hpass _ _ ⟨0, 0, 0, none, [], _, _, _, _, _, _, _, _, _, _, _, _, _, _, _, _, _, _, _, _, _, _, rfl, by omega, by omega, OwnR.nil, ListInv.start l, Below.refl _ _⟩)
  · rintro a' w' ⟨p, k, c9, A9, rs, u6, u7, u8, u9, u10, u11, u12, u13, u14, u15, u16, u17, u18, u19, u20, u21, u22, u23, u24, u25, u26, u27, rfl, hp, hkp, hown, hinv, hbw⟩
    have hsz := hbw.size
    obtain ⟨A2, hsl, hrd⟩ := slice_l A n c p hp hc
    have hsl2 := fun W => hsl (p : Int) W rfl
    clear hsl
    have H1 := Lib.hid (fwhole_any A2 (n - p) (c - p) (l.drop p) w' ((hrd _ _ _ (hr.below hbw)).more hsz) (by omega) (by omega))
    cases hw : wholeB (l.drop p) with
    | none =>
      have HS := Lib.hid (hinv.out.stop hw)
      rw [hw] at H1
      unfold Wholed at H1
      clear hw
      go_wp2_with fail
      refine H1.out.mono ?_
      rintro e w1 ⟨A1, n1, c1, rfl, hown1, hb1⟩
      go_wp2_with fail
      simp only [Exit.jump]
      go_ret2
      exact listed_mk HS.out (hown.below hb1 (Nat.le_refl _)) (hbw.trans (hb1.mono hsz))
    | some r =>
      have hnx := hinv.out.next hw
      rw [HL.out] at hnx
      have HN := Lib.hid hnx.1
      have hnl := hnx.2
      rw [hw] at H1
      unfold Wholed at H1
      clear hw hnx
      go_wp2_with fail
      refine H1.out.mono ?_
      rintro e w1 ⟨A1, n1, c1, rfl, hown1, hb1⟩
      have hn1 : Hid (r.length = n1) := hown1.len
      have hz1 := hb1.size
      have hn1b : p + 10 + n1 ≤ n := by have := hn1.out; omega
      have hown1' : OwnB w1 w.heap.size A1 n1 c1 r := hown1.base_le (fun k _ hk => Nat.le_trans hsz hk)
      go_wp2_with (at_builtin; go_loud (refine wpList_append_row _ rfl (.tmp 19) (.tmp 21) rfl w.heap.size A9 k c9 rs rfl ((hown.below hb1 (Nat.le_refl _)).alloc _) ⟨A1, n1, c1, r⟩ (hown1'.alloc _) _ (some ⟨w1.heap.size, 0, none⟩) rfl (reads_row _ _ _ _ rfl) (by omega) (by simp; omega) ?_); intro A8 n8 c8 w2 hn8 hown2 hg2 hob2; have hn8 := Lib.hid hn8)
      have e : (p : Int) + (10 + (n1 : Int)) = ((p + 10 + n1 : Nat) : Int) := by omega
      rw [e]
      clear e
      go_step3
      have hb2 : Below w.heap.size w w2 := ((hbw.trans (hb1.mono hsz)).alloc (by omega) _).grown hg2 (by simp; omega) (fun g' e => (hown.lt g' e).1)
      rw [hn8.out] at hown2
      rw [hn1.out] at HN
      refine ⟨rfl, ⟨p + 10 + n1, k + 1, c8, A8, rs ++ [⟨A1, n1, c1, r⟩], _, _, _, _, _, _, _, _, _, _, _, _, _, _, _, _, _, _, _, _, _, _, rfl, hn1b, by omega, hown2, by rw [bytesOf_snoc]; exact HN, hb2⟩, ?_⟩
      simp [intOf]
      omega

end Go.Proofs.Ytkpckmdakiminaa
