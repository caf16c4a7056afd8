import Derived.Test.YtmkddhkpeiajhaaGreatDoorShaped
import Derived.Test.YtmkddhkpeiajhaaGreatDoorParser
import Derived.Test.YtmkddhkpeiajhaaGreatDoorRw2
import Derived.Deep.DeepCutAuto
import Derived.Deep.RegionHeldLaw
import Derived.StillTailTactics
import Derived.Test.YtmkddhkpeiajhaaGreatDoorRefParse
namespace Go.Proofs.YtmkddhkpeiajhaaGreatDoor
open Go.RowKit
theorem reads_later {w w' : World} {size n : Nat} {A : Option Addr} {xs : List Value} (h : Reads w w.heap.size size A n xs) (hl : Later w w') : Reads w' w'.heap.size size A n xs := (h.below hl).more hl.size
theorem Blk.set6 {w : World} {g : Nat} {t : TypeId} {y0 y1 y2 y3 y4 y5 x0 x1 x2 x3 x4 x5 : Value} (h : Blk w g t #[y0, y1, y2, y3, y4, y5]) : Blk (Proofs.YtmkddhkpeiajhaaGreatDoor.set6 w g x0 x1 x2 x3 x4 x5) g t #[x0, x1, x2, x3, x4, x5] := by
 unfold Proofs.YtmkddhkpeiajhaaGreatDoor.set6
 have h0 := (h.set_ 0 x0).set_ 1 x1
 simp only [List.setIfInBounds_toArray, List.set_cons_zero, List.set_cons_succ] at h0
 have h1 := (h0.set_ 2 x2).set_ 3 x3
 simp only [List.setIfInBounds_toArray, List.set_cons_zero, List.set_cons_succ] at h1
 have h2 := (h1.set_ 4 x4).set_ 5 x5
 simp only [List.setIfInBounds_toArray, List.set_cons_zero, List.set_cons_succ] at h2
 exact h2
end Go.Proofs.YtmkddhkpeiajhaaGreatDoor
namespace Go.Proofs.YtmkddhkpeiajhaaGreatDoor
open Go.RowKit
def RfC (w : World) (g : Nat) (S : ByteArray) (st : St) : Prop := Blk w g 132 #[.string S, .int .i64 (st.at_ : Int), .int .i64 (st.op : Int), .int .i64 (st.bad : Int), .int .i64 (st.fr : Int), .int .i64 0]
section
variable {w w' : World} {g : Nat} {S : ByteArray} {st : St}
theorem RfC.later (h : RfC w g S st) (hl : Later w w') : RfC w' g S st := blkL hl h
theorem RfC.c0 (h : RfC w g S st) : w.cell? ⟨g, 0, none⟩ = some (.string S) := h.cell 0
theorem RfC.c1 (h : RfC w g S st) : w.cell? ⟨g, 1, none⟩ = some (.int .i64 (st.at_ : Int)) := h.cell 1
theorem RfC.c2 (h : RfC w g S st) : w.cell? ⟨g, 2, none⟩ = some (.int .i64 (st.op : Int)) := h.cell 2
theorem RfC.c3 (h : RfC w g S st) : w.cell? ⟨g, 3, none⟩ = some (.int .i64 (st.bad : Int)) := h.cell 3
theorem RfC.c4 (h : RfC w g S st) : w.cell? ⟨g, 4, none⟩ = some (.int .i64 (st.fr : Int)) := h.cell 4
theorem RfC.f (h : RfC w g S st) (i : Nat) : w.frozen? ⟨g, i, none⟩ = false := h.frozen i
theorem RfC.setAt (h : RfC w g S st) (a : Nat) (x : Int) (hx : x = (a : Int)) : RfC (w.setCell ⟨g, 1, none⟩ (.int .i64 x)) g S (stAt st a) := by subst hx; exact h.set_ 1 _
theorem RfC.setOp (h : RfC w g S st) (a : Nat) (x : Int) (hx : x = (a : Int)) : RfC (w.setCell ⟨g, 2, none⟩ (.int .i64 x)) g S (stOp st a) := by subst hx; exact h.set_ 2 _
theorem RfC.spares (h : RfC w g S st) (lo : Nat → Prop) : Spares w lo (fun k => k = g) := spares_blk lo h (by decide)
end
def atF (w : World) (g : Nat) : Nat := match w.cell? ⟨g, 1, none⟩ with | some v => (intOf v).toNat | none => 0
theorem RfC.atF {w : World} {g : Nat} {S : ByteArray} {st : St} (h : RfC w g S st) : atF w g = st.at_ := by
 unfold Proofs.YtmkddhkpeiajhaaGreatDoor.atF
 rw [h.c1]
 rfl
def RetTS (w : World) (g : Nat) (lo : Nat → Prop) (S : ByteArray) (R : Tree × St) (e : Ending) (w' : World) : Prop :=
 ∃ (k a b c d : Int) (A : Option Addr) (n cp : Nat), e = .returned (.agg #[.int .i64 k, .int .u64 a, .int .u64 b, .int .u64 c, .int .u64 d, .slice A n cp]) ∧ ReC w' lo R.1 ⟨k, a, b, c, d, A, n, cp⟩ ∧ RfC w' g S R.2 ∧ Fr w w' (fun k => k = g)
theorem RetTS.store6 {w w1 : World} {g b g1 : Nat} {lo lo' : Nat → Prop} {S : ByteArray} {R : Tree × St} {t : Tree} {st : St} {k a b' c d : Int} {A : Option Addr} {n cp : Nat} {y : Array Value} (hR : R = (t, st)) (hC : ReC w1 lo' t ⟨k, a, b', c, d, A, n, cp⟩) (h : RfC w1 g S st) (hF : Fr w w1 (fun k => k = g))
  (hg : g1 = b) (hB : Blk w1 b 98 y) (hn : ¬ lo' b) (hw : w.heap.size ≤ b) (hlo : ∀ k, lo' k → lo k) :
  RetTS w g lo S R (.returned (.agg #[.int .i64 k, .int .u64 a, .int .u64 b', .int .u64 c, .int .u64 d, .slice A n cp])) (set6 w1 g1 (.int .i64 k) (.int .u64 a) (.int .u64 b') (.int .u64 c) (.int .u64 d) (.slice A n cp)) := by
 subst hR hg
 have hf := Fr.set6 (w := w1) g1 (.int .i64 k) (.int .u64 a) (.int .u64 b') (.int .u64 c) (.int .u64 d) (.slice A n cp)
 refine ⟨k, a, b', c, d, A, n, cp, rfl, ?_, Blk.fr h hf (Blk.ne_ h hB (by decide)), Fr.trans hF hf (fun k hk e => by omega)⟩
 exact ReC.weaken (fun k _ h => hlo k h) _ (ReC.fr hf (spares_not _ hn) _ hC)
theorem fails_any (g : Nat) (S : ByteArray) (st : St) (A E : Int) (a e : Nat) (w : World) (h : RfC w g S st) (hA : A = (a : Int)) (hE : E = (e : Int)) :
  Calls Tryz.prog 72 #[.pointer (some ⟨g, 0, none⟩), .int .i64 E, .int .i64 A] w fun r w' => r = .returned (.agg #[.int .i64 0, .int .u64 0, .int .u64 0, .int .u64 0, .int .u64 0, .slice none 0 0]) ∧ RfC w' g S (stFault e a st) ∧ Fr w w' (fun k => k = g) := by
 have hg := h.lt
 subst hA hE
 by_cases hb : st.bad = 0
 ·have hq : stFault e a st = ⟨st.at_, st.op, e, a⟩ := if_pos hb
  have hbi : ((st.bad : Int) == 0) = true := by rw [hb]; rfl
  rw [hq]
  clear hq hb
  go_enter Tryz.func72, Tryz.ntmps72
  go_upto_region 1 with fail
  have h1 : RfC (w.alloc (.cells #[.int .i64 0, .int .u64 0, .int .u64 0, .int .u64 0, .int .u64 0, .slice none 0 0] 98)) g S st := h.alloc _
  have B2 := Blk.new w 98 #[.int .i64 0, .int .u64 0, .int .u64 0, .int .u64 0, .int .u64 0, .slice none 0 0]
  have hF : Fr w (w.alloc (.cells #[.int .i64 0, .int .u64 0, .int .u64 0, .int .u64 0, .int .u64 0, .slice none 0 0] 98)) (fun k => k = g) := (Fr.refl w _).alloc _
  obtain ⟨W1, hW1⟩ : ∃ W1, W1 = w.alloc (.cells #[.int .i64 0, .int .u64 0, .int .u64 0, .int .u64 0, .int .u64 0, .slice none 0 0] 98) := ⟨_, rfl⟩
  rw [← hW1] at h1 B2 hF ⊢
  clear hW1 h
  have c3 := h1.c3
  have f3 := h1.f 3
  have f4 := h1.f 4
  have c4 := h1.c4
  have hne : g ≠ w.heap.size := by omega
  obtain ⟨u0, u1, u2, u3, u4, u5, f0', f1', f2', f3', f4', f5'⟩ := cells6 B2
  have h2 : RfC ((W1.setCell ⟨g, 3, none⟩ (.int .i64 (e : Int))).setCell ⟨g, 4, none⟩ (.int .i64 (a : Int))) g S ⟨st.at_, st.op, e, a⟩ := by
   exact (h1.set_ 3 _).set_ 4 _
  have hF2 : Fr w ((W1.setCell ⟨g, 3, none⟩ (.int .i64 (e : Int))).setCell ⟨g, 4, none⟩ (.int .i64 (a : Int))) (fun k => k = g) := Fr.set (a := ⟨g, 4, none⟩) (Fr.set (a := ⟨g, 3, none⟩) hF (fun _ => rfl) _) (fun _ => rfl) _
  go_wp2_with fail
  refine bodyPost_ret (v := .agg #[.int .i64 0, .int .u64 0, .int .u64 0, .int .u64 0, .int .u64 0, .slice none 0 0]) (by simp [results, Tryz.results72, go_sem, u0, u1, u2, u3, u4, u5]) rfl ⟨rfl, ?_, ?_⟩
  ·exact Blk.fr h2 (Fr.set6 w.heap.size _ _ _ _ _ _) hne
  ·exact Fr.trans hF2 (Fr.set6 w.heap.size _ _ _ _ _ _) (fun k hk e => by omega)
 ·have hq : stFault e a st = st := if_neg hb
  have hbi : ((st.bad : Int) == 0) = false := by rw [beq_eq_false_iff_ne]; omega
  rw [hq]
  clear hq hb
  go_enter Tryz.func72, Tryz.ntmps72
  go_upto_region 1 with fail
  have h1 : RfC (w.alloc (.cells #[.int .i64 0, .int .u64 0, .int .u64 0, .int .u64 0, .int .u64 0, .slice none 0 0] 98)) g S st := h.alloc _
  have B2 := Blk.new w 98 #[.int .i64 0, .int .u64 0, .int .u64 0, .int .u64 0, .int .u64 0, .slice none 0 0]
  have hF : Fr w (w.alloc (.cells #[.int .i64 0, .int .u64 0, .int .u64 0, .int .u64 0, .int .u64 0, .slice none 0 0] 98)) (fun k => k = g) := (Fr.refl w _).alloc _
  obtain ⟨W1, hW1⟩ : ∃ W1, W1 = w.alloc (.cells #[.int .i64 0, .int .u64 0, .int .u64 0, .int .u64 0, .int .u64 0, .slice none 0 0] 98) := ⟨_, rfl⟩
  rw [← hW1] at h1 B2 hF ⊢
  clear hW1 h
  have c3 := h1.c3
  have hne : g ≠ w.heap.size := by omega
  obtain ⟨u0, u1, u2, u3, u4, u5, f0', f1', f2', f3', f4', f5'⟩ := cells6 B2
  go_wp2_with fail
  refine bodyPost_ret (v := .agg #[.int .i64 0, .int .u64 0, .int .u64 0, .int .u64 0, .int .u64 0, .slice none 0 0]) (by simp [results, Tryz.results72, go_sem, u0, u1, u2, u3, u4, u5]) rfl ⟨rfl, ?_, ?_⟩
  ·exact Blk.fr h1 (Fr.set6 w.heap.size _ _ _ _ _ _) hne
  ·exact Fr.trans hF (Fr.set6 w.heap.size _ _ _ _ _ _) (fun k hk e => by omega)
theorem isF_any (g : Nat) (S : ByteArray) (st : St) (c : Int) (cn : Nat) (v : Bool) (w : World) (h : RfC w g S st) (hc : c = (cn : Int)) (hv : isAt S.data.toList st.at_ cn = v) (_hs : S.size ≤ 1000000000) :
  Calls Tryz.prog 88 #[.pointer (some ⟨g, 0, none⟩), .int .u8 c] w fun e w' => e = .returned (.bool v) ∧ Later w w' := by
 have k0 : ∀ x : LW w, x.val.cell? ⟨g, 0, none⟩ = some (.string S) := LW.cell_ h.c0
 have k1 : ∀ x : LW w, x.val.cell? ⟨g, 1, none⟩ = some (.int .i64 (st.at_ : Int)) := LW.cell_ h.c1
 have HV := Lib.hid hv
 clear hv
 cases hx : S.data.toList[st.at_]? with
 | none =>
  have hle := str_none S _ hx
  have hve : false = v := by have := HV.out; unfold isAt at this; rw [hx] at this; exact this
  subst hve
  have hlt : decide (st.at_ < S.size) = false := by simp; omega
  clear hx
  go_enter Tryz.func88, Tryz.ntmps88
  go_wp2_with fail
  refine wp_region_laterq (by kernel_rfl) (by kernel_rfl) ?_
  repeat (go_big_quiet_step (fail))
  refine wpQuiet_nil ?_
  intro _ hwq
  obtain ⟨xz, rfl⟩ := hwq
  go_wp2_with fail
  go_ret
  exact ⟨rfl, xz.later⟩
 | some x =>
  obtain ⟨hi, he⟩ := str_get S _ x hx
  have hi1 : (st.at_ : Int) < (S.size : Int) := by omega
  have hve : ((S[st.at_].toNat : Int) == c) = v := by
   have := HV.out
   unfold isAt at this
   rw [hx] at this
   rw [he, hc, ← this]
   rw [Bool.eq_iff_iff, beq_iff_eq, beq_iff_eq]
   omega
  have HVE := Lib.hid hve
  clear hx he hve hc
  go_enter Tryz.func88, Tryz.ntmps88
  go_wp2_with fail
  refine wp_region_laterq (by kernel_rfl) (by kernel_rfl) ?_
  repeat (go_big_quiet_step (fail))
  refine wpQuiet_nil ?_
  intro _ hwq
  obtain ⟨xz, rfl⟩ := hwq
  go_wp2_with fail
  go_ret
  exact ⟨by rw [HVE.out]; rfl, xz.later⟩
theorem RetT.end6 {w w1 : World} {b g1 : Nat} {lo lo' : Nat → Prop} {t : Tree} {k a b' c d : Int} {A : Option Addr} {n cp : Nat} (hC : ReC w1 lo' t ⟨k, a, b', c, d, A, n, cp⟩) (hl : Later w w1) (hg : g1 = b) (hn : ¬ lo' b) (hw : w.heap.size ≤ b) (hlo : ∀ k, lo' k → lo k) :
  RetT w lo t (.returned (.agg #[.int .i64 k, .int .u64 a, .int .u64 b', .int .u64 c, .int .u64 d, .slice A n cp])) (set6 w1 g1 (.int .i64 k) (.int .u64 a) (.int .u64 b') (.int .u64 c) (.int .u64 d) (.slice A n cp)) := by
 subst hg
 refine ⟨k, a, b', c, d, A, n, cp, rfl, ?_, hl.set6 hw⟩
 exact ReC.weaken (fun k _ h => hlo k h) _ (ReC.fr (Fr.set6 g1 _ _ _ _ _ _) (spares_not _ hn) _ hC)
set_option maxHeartbeats 4000000 in
theorem twoT_any (lo : Nat → Prop) (kn : Int) (t1 t2 : Tree) (k1 a1 b1 c1 d1 : Int) (A1 : Option Addr) (n1 cp1 : Nat) (k2 a2 b2 c2 d2 : Int) (A2 : Option Addr) (n2 cp2 : Nat) (w : World) (h1 : ReC w lo t1 ⟨k1, a1, b1, c1, d1, A1, n1, cp1⟩) (h2 : ReC w lo t2 ⟨k2, a2, b2, c2, d2, A2, n2, cp2⟩) (hlo : Up w lo) :
  Calls Tryz.prog 104 #[.int .i64 kn, .agg #[.int .i64 k1, .int .u64 a1, .int .u64 b1, .int .u64 c1, .int .u64 d1, .slice A1 n1 cp1], .agg #[.int .i64 k2, .int .u64 a2, .int .u64 b2, .int .u64 c2, .int .u64 d2, .slice A2 n2 cp2]] w (RetT w lo (.node kn z4 [t1, t2])) := by
 go_enter Tryz.func104, Tryz.ntmps104
 go_upto_region 1 with fail
 obtain ⟨W1, hW1⟩ : ∃ W1, W1 = ((w.alloc (.cells #[.int .i64 k1, .int .u64 a1, .int .u64 b1, .int .u64 c1, .int .u64 d1, .slice A1 n1 cp1] 98)).alloc (.cells #[.int .i64 k2, .int .u64 a2, .int .u64 b2, .int .u64 c2, .int .u64 d2, .slice A2 n2 cp2] 98)).alloc (.cells #[.int .i64 0, .int .u64 0, .int .u64 0, .int .u64 0, .int .u64 0, .slice none 0 0] 98) := ⟨_, rfl⟩
 have B4 : Blk W1 w.heap.size 98 #[.int .i64 k1, .int .u64 a1, .int .u64 b1, .int .u64 c1, .int .u64 d1, .slice A1 n1 cp1] := by rw [hW1]; exact ((Blk.new w _ _).alloc _).alloc _
 have B5 : Blk W1 (w.heap.size + 1) 98 #[.int .i64 k2, .int .u64 a2, .int .u64 b2, .int .u64 c2, .int .u64 d2, .slice A2 n2 cp2] := by
  rw [hW1]
  have h := (Blk.new (w.alloc (.cells #[.int .i64 k1, .int .u64 a1, .int .u64 b1, .int .u64 c1, .int .u64 d1, .slice A1 n1 cp1] 98)) 98 #[.int .i64 k2, .int .u64 a2, .int .u64 b2, .int .u64 c2, .int .u64 d2, .slice A2 n2 cp2]).alloc (.cells #[.int .i64 0, .int .u64 0, .int .u64 0, .int .u64 0, .int .u64 0, .slice none 0 0] 98)
  simp only [World.size_alloc] at h
  exact h
 have B6 : Blk W1 (w.heap.size + 2) 98 #[.int .i64 0, .int .u64 0, .int .u64 0, .int .u64 0, .int .u64 0, .slice none 0 0] := by
  rw [hW1]
  have h := Blk.new ((w.alloc (.cells #[.int .i64 k1, .int .u64 a1, .int .u64 b1, .int .u64 c1, .int .u64 d1, .slice A1 n1 cp1] 98)).alloc (.cells #[.int .i64 k2, .int .u64 a2, .int .u64 b2, .int .u64 c2, .int .u64 d2, .slice A2 n2 cp2] 98)) 98 #[.int .i64 0, .int .u64 0, .int .u64 0, .int .u64 0, .int .u64 0, .slice none 0 0]
  simp only [World.size_alloc] at h
  exact h
 have hl1 : Later w W1 := by rw [hW1]; exact (((Later.refl w).alloc _).alloc _).alloc _
 have hsz : W1.heap.size = w.heap.size + 3 := by rw [hW1]; simp
 rw [← hW1]
 clear hW1
 have hup : Up W1 (fun g => lo g ∧ g ≠ w.heap.size + 2) := fun g hg => ⟨hlo g (by omega), by omega⟩
 have w1 : ReC W1 (fun g => lo g ∧ g ≠ w.heap.size + 2) t1 ⟨k1, a1, b1, c1, d1, A1, n1, cp1⟩ := (ReC.weaken (fun g hg h => ⟨h, by omega⟩) _ h1).later hl1
 have w2 : ReC W1 (fun g => lo g ∧ g ≠ w.heap.size + 2) t2 ⟨k2, a2, b2, c2, d2, A2, n2, cp2⟩ := (ReC.weaken (fun g hg h => ⟨h, by omega⟩) _ h2).later hl1
 have hK := ReC.two kn w1 w2 hup
 have hl2 := hl1.alloc (.cells #[.int .i64 k1, .int .u64 a1, .int .u64 b1, .int .u64 c1, .int .u64 d1, .slice A1 n1 cp1, .int .i64 k2, .int .u64 a2, .int .u64 b2, .int .u64 c2, .int .u64 d2, .slice A2 n2 cp2] 98)
 obtain ⟨u0, u1, u2, u3, u4, u5, -⟩ := cells6 B4
 obtain ⟨v0, v1, v2, v3, v4, v5, -⟩ := cells6 B5
 have D6 := B6.alloc (.cells #[.int .i64 k1, .int .u64 a1, .int .u64 b1, .int .u64 c1, .int .u64 d1, .slice A1 n1 cp1, .int .i64 k2, .int .u64 a2, .int .u64 b2, .int .u64 c2, .int .u64 d2, .slice A2 n2 cp2] 98)
 obtain ⟨z0, z1, z2, z3, z4, z5, y0, y1, y2, y3, y4, y5⟩ := cells6 D6
 obtain ⟨gn, hgn⟩ : ∃ gn, gn = W1.heap.size := ⟨_, rfl⟩
 rw [← hgn] at hK
 have HG := Lib.hid hgn
 clear w1 w2 hup hgn hsz B4 B5 B6 h1 h2
 go_wp2_with fail
 rw [← HG.out]
 refine bodyPost_ret (v := .agg #[.int .i64 kn, .int .u64 0, .int .u64 0, .int .u64 0, .int .u64 0, .slice (some ⟨gn, 0, none⟩) 2 2]) (by simp [results, Tryz.results104, go_sem, z0, z1, z2, z3, z4, z5]) rfl ?_
 exact RetT.end6 hK hl2 rfl (fun h => h.2 rfl) (by omega) (fun k h => h.1)
def RdTs (w : World) (lo : Nat → Prop) (A : Option Addr) (n : Nat) (ts : List Tree) : Prop :=
 ts.length = n ∧ ∃ xs : List ReX, ReCs w lo ts xs ∧ Reads w w.heap.size 6 A n (xs.flatMap reL)
theorem RdTs.weaken {w : World} {lo lo' : Nat → Prop} {A : Option Addr} {n : Nat} {ts : List Tree} (h : RdTs w lo A n ts) (hl : ∀ k, k < w.heap.size → lo k → lo' k) : RdTs w lo' A n ts := by
 obtain ⟨h1, xs, h2, h3⟩ := h
 exact ⟨h1, xs, ReCs.weaken hl _ h2, h3⟩
theorem OwnT.rd {w : World} {lo : Nat → Prop} {base n c : Nat} {A : Option Addr} {ts : List Tree} (h : OwnT w lo base A n c ts) : RdTs w lo A n ts := by
 obtain ⟨h1, xs, h2, h3⟩ := h
 exact ⟨h1, xs, ReCs.weaken (fun k _ hk => hk.1) ts h2, Reads.of_own h3⟩
theorem reads_six {w : World} {B n : Nat} {A : Option Addr} {xs : List ReX} (h : Reads w B 6 A n (xs.flatMap reL)) {i : Nat} (hi : i < n) {x : ReX} (hx : xs[i]? = some x) :
  ∃ b off, A = some ⟨b, off, none⟩ ∧ b < B ∧ w.cell? ⟨b, off + i * 6, none⟩ = some (.int .i64 x.k) ∧ w.cell? ⟨b, off + i * 6 + 1, none⟩ = some (.int .u64 x.a) ∧ w.cell? ⟨b, off + i * 6 + 2, none⟩ = some (.int .u64 x.b) ∧
   w.cell? ⟨b, off + i * 6 + 3, none⟩ = some (.int .u64 x.c) ∧ w.cell? ⟨b, off + i * 6 + 4, none⟩ = some (.int .u64 x.d) ∧ w.cell? ⟨b, off + i * 6 + 5, none⟩ = some (.slice x.A x.n x.cp) := by
 obtain ⟨ad, rfl, hb, hc⟩ := h.2 (by omega)
 have hl : 0 < xs.length := by have := (List.getElem?_eq_some_iff.1 hx).1; omega
 have h0 := hc 0 _ (flat6_get xs 0 0 xs[0] _ (List.getElem?_eq_getElem hl) rfl)
 obtain ⟨b, off, sp⟩ := ad
 have hsp : sp = none := by simpa [Addr.add] using World.cell?_spot h0
 subst hsp
 have g : ∀ j u, (reL x)[j]? = some u → w.cell? ⟨b, off + i * 6 + j, none⟩ = some u := fun j u hu => by
  have := hc _ _ (flat6_get xs i j x u hx hu)
  rw [Addr.add_lit] at this
  rw [Nat.add_assoc]
  exact this
 exact ⟨b, off, rfl, hb, g 0 _ rfl, g 1 _ rfl, g 2 _ rfl, g 3 _ rfl, g 4 _ rfl, g 5 _ rfl⟩
end Go.Proofs.YtmkddhkpeiajhaaGreatDoor
