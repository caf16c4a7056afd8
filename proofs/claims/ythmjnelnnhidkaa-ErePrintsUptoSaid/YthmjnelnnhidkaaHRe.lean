/-
  tailracehand.Re: a raw tree as a tree that is right; and its closure.
-/
import Derived.Test.YthmjnelnnhidkaaTwisted
namespace Go.Proofs.Ythmjnelnnhidkaa
open Go.RowKit

def abOf (n : Int) : Nat := if n % 2 = 0 then 97 else 98
def abcOf (n : Int) : Nat := if n % 3 = 0 then 97 else if n % 3 = 1 then 98 else 99
def reKid (f : HTree → Tree) (D : Nat) (t : HTree) (i : Nat) : Tree :=
  match t.kids[i]? with
  | some u => if 0 < D then f u else tOne (abOf (t.num + i))
  | none => tOne (abOf (t.num + i))
def hSet (n : Int) : Mem := fun b => decide (b = 97) || (decide (b = 98) && decide (n % 2 = 0)) || decide (n % 5 = 0)
/-- what the switch on a kind makes -/
def reSw (f : HTree → Tree) (D : Nat) (t : HTree) (k : Nat) : Tree :=
  if k = 5 ∨ k = 6 then .node 2 z4 [reKid f D t 0, reKid f D t 1]
  else if k = 7 ∨ k = 8 then .node 3 z4 [reKid f D t 0, reKid f D t 1]
  else if k = 9 then .node 4 z4 [reKid f D t 0]
  else if k = 10 then .node 5 z4 [reKid f D t 0]
  else if k = 11 then .node 6 z4 [reKid f D t 0]
  else if k = 0 ∨ k = 1 then tOne (abcOf t.num)
  else if k = 2 then .node 1 (w4 (hSet t.num)) []
  else if k = 3 then .node (if t.num % 3 = 0 then 0 else if t.num % 3 = 1 then 7 else 8) z4 []
  else tOne (abOf t.num)
def reStep (f : HTree → Tree) (D : Nat) (t : HTree) : Tree := reSw f D t (if D = 0 ∧ 4 < (t.kind % 12).toNat then 0 else (t.kind % 12).toNat)
/-- tailracehand.Re -/
def reF : Nat → HTree → Tree
  | 0, t => reStep (fun _ => tEmpty) 0 t
  | D + 1, t => reStep (reF D) (D + 1) t

theorem one_a (lo : Nat → Prop) (w : World) : Calls Try.prog 38 #[.int .u8 97] w (RetT w lo (tOne 97)) := refOne_any lo 97 (by decide) w
theorem one_b (lo : Nat → Prop) (w : World) : Calls Try.prog 38 #[.int .u8 98] w (RetT w lo (tOne 98)) := refOne_any lo 98 (by decide) w
theorem one_c (lo : Nat → Prop) (w : World) : Calls Try.prog 38 #[.int .u8 99] w (RetT w lo (tOne 99)) := refOne_any lo 99 (by decide) w
theorem RetT.store6 {w w1 : World} {b g1 : Nat} {t : Tree} {k a b' c d : Int} {A : Option Addr} {n cp : Nat} (h : ReC w1 (fun g => b ≤ g) t ⟨k, a, b', c, d, A, n, cp⟩) (hl : Later w w1) (hg : g1 < b) (hw : w.heap.size ≤ g1) :
    RetT w (fun g => w.heap.size ≤ g) t (.returned (.agg #[.int .i64 k, .int .u64 a, .int .u64 b', .int .u64 c, .int .u64 d, .slice A n cp])) (set6 w1 g1 (.int .i64 k) (.int .u64 a) (.int .u64 b') (.int .u64 c) (.int .u64 d) (.slice A n cp)) := by
  refine ⟨k, a, b', c, d, A, n, cp, rfl, ?_, hl.set6 hw⟩
  refine ReC.weaken (lo := fun g => b ≤ g) (fun k _ h => by omega) _ ?_
  exact ReC.fr (Fr.set6 g1 _ _ _ _ _ _) (spares_not _ (by omega)) _ h
theorem wrap_add2 (n : Int) (i : Nat) : IntKind.i64.wrap (n + (i : Int)) % 2 = (n + (i : Int)) % 2 := by rw [IntKind.wrap_i64]; omega
theorem ab_of {n N : Int} {q : Nat} (h : N % 2 = (q : Int)) (e : N % 2 = n % 2) : tOne (abOf n) = if q = 0 then tOne 97 else tOne 98 := by
  unfold abOf
  by_cases hq : q = 0
  · rw [if_pos hq, if_pos (by omega)]
  · rw [if_neg hq, if_neg (by omega)]
theorem abc_of {n : Int} {q : Nat} (h : n % 3 = (q : Int)) (_hq : q < 3) : tOne (abcOf n) = if q = 0 then tOne 97 else if q = 1 then tOne 98 else tOne 99 := by
  unfold abcOf
  by_cases h0 : q = 0
  · rw [if_pos h0, if_pos (by omega)]
  · rw [if_neg h0, if_neg (by omega)]
    by_cases h1 : q = 1
    · rw [if_pos h1, if_pos (by omega)]
    · rw [if_neg h1, if_neg (by omega)]
theorem kid_cells {w : World} {k n D : Int} {A : Option Addr} {m cp g2 g3 b off : Nat} {y0 y1 y2 : Value} (h2 : Blk w g2 59 #[.int .i64 k, .int .i64 n, .slice A m cp]) (h3 : Blk w g3 3 #[.int .i64 D])
    (e : w.cell? ⟨b, off, none⟩ = some y0 ∧ w.cell? ⟨b, off + 1, none⟩ = some y1 ∧ w.cell? ⟨b, off + 2, none⟩ = some y2) :
    w.cell? ⟨g2, 2, none⟩ = some (.slice A m cp) ∧ w.cell? ⟨g3, 0, none⟩ = some (.int .i64 D) ∧ w.cell? ⟨b, off, none⟩ = some y0 ∧ w.cell? ⟨b, off + 1, none⟩ = some y1 ∧ w.cell? ⟨b, off + 2, none⟩ = some y2 :=
  ⟨h2.cell 2, h3.cell 0, e⟩

/-- what Re makes of trees, at a depth -/
def ReAt (f : HTree → Tree) (M : Nat) (D : Int) : Prop :=
  ∀ (t : HTree) (k n : Int) (A : Option Addr) (m cp : Nat) (w : World), HdC w M t ⟨k, n, A, m, cp⟩ → Calls Try.prog 33 #[.agg #[.int .i64 k, .int .i64 n, .slice A m cp], .int .i64 D] w (RetT w (fun g => w.heap.size ≤ g) (f t))

set_option maxRecDepth 100000 in
set_option maxHeartbeats 16000000 in
theorem kid_any (f : HTree → Tree) (M : Nat) (D : Nat) (hf : 0 < D → ReAt f M ((D : Int) - 1)) (hD : D ≤ 100) (t : HTree) (k n : Int) (A : Option Addr) (m cp : Nat) (i : Nat) (g2 g3 : Nat) (w : World) (hC : HdC w M t ⟨k, n, A, m, cp⟩)
    (h2 : Blk w g2 59 #[.int .i64 k, .int .i64 n, .slice A m cp]) (h3 : Blk w g3 3 #[.int .i64 (D : Int)]) :
    Calls Try.prog 52 #[.int .i64 (i : Int), .pointer (some ⟨g2, 0, none⟩), .pointer (some ⟨g3, 0, none⟩)] w (RetT w (fun g => w.heap.size ≤ g) (reKid f D t i)) := by
  obtain ⟨k', n', ks⟩ := t
  have hC0 := hC
  unfold HdC at hC
  obtain ⟨hk, hn, -, -, hm, hmM, xs, hL, hKs⟩ := hC
  obtain rfl : k = k' := hk
  obtain rfl : n = n' := hn
  simp only at hm hmM hL
  obtain ⟨N, hN⟩ : ∃ N, IntKind.i64.wrap (n + (i : Int)) = N := ⟨_, rfl⟩
  obtain ⟨q, hq, hq1⟩ := pick_nat N 2 (by omega)
  obtain ⟨R, hR⟩ : ∃ R, R = reKid f D (.node k n ks) i := ⟨_, rfl⟩
  rw [← hR]
  have HR := Lib.hid hR
  have HNN := Lib.hid hN
  have HM := Lib.hid hm
  have HL := Lib.hid hL
  have HK := Lib.hid hKs
  have HF := Lib.hid hf
  clear hR hm hL hKs hf hC0
  by_cases hlt : i < m
  · have hlti : (i : Int) < (m : Int) := by omega
    obtain ⟨u, hu⟩ : ∃ u, ks[i]? = some u := ⟨_, List.getElem?_eq_getElem (by rw [HM.out]; exact hlt)⟩
    rcases Nat.eq_zero_or_pos D with rfl | hDp
    · have HRN : Hid (R = tOne (abOf (n + (i : Int)))) := by
        show _ = _
        rw [HR.out]; unfold reKid
        have e : (HTree.node k n ks).kids[i]? = some u := hu
        rw [e]; rfl
      have hz : ((0 : Nat) : Int) = 0 := rfl
      rw [hz] at h3
      clear hz hu HF
      have HR2 : Hid (R = if q = 0 then tOne 97 else tOne 98) := by show _ = _; rw [HRN.out]; exact ab_of hq.out (by rw [← HNN.out]; exact wrap_add2 n i)
      have hq2 : q = 0 ∨ q = 1 := by omega
      clear HR HRN
      go_enter Try.func52, Try.ntmps52
      go_upto_region 1 with fail
      have B2 := h2.alloc (.cells #[.int .i64 0, .int .u64 0, .int .u64 0, .int .u64 0, .int .u64 0, .slice none 0 0] 49)
      have B3 := h3.alloc (.cells #[.int .i64 0, .int .u64 0, .int .u64 0, .int .u64 0, .int .u64 0, .slice none 0 0] 49)
      have B4 := Blk.new w 49 #[.int .i64 0, .int .u64 0, .int .u64 0, .int .u64 0, .int .u64 0, .slice none 0 0]
      have c1 := B2.cell 1
      have c2 := B2.cell 2
      have c3 := B3.cell 0
      clear h2 h3 B2 B3
      rcases hq2 with rfl | rfl
      · have HRq : Hid (R = tOne 97) := by show _ = _; rw [HR2.out]; rfl
        go_wp2_with (go_at_call 26; (with_reducible refine (pick_at N 2 _ _ (by omega) (by omega) hq).mono ?_); rintro e w1 ⟨rfl, rfl⟩)
        refine (one_a (fun g => w.heap.size + 1 ≤ g) _).mono ?_
        rintro e w1 ⟨k1, a1, b1, c1, d1, A1, n1, cp1, rfl, hC1, hl1⟩
        have B4 := blkL hl1 (by repeat (first | (with_reducible exact B4) | (with_reducible apply Blk.drew) | (with_reducible apply Blk.alloc)))
        obtain ⟨u0, u1, u2, u3, u4, u5, f0, f1, f2, f3, f4, f5⟩ := cells6 B4
        have hl2 : Later w w1 := Later.trans (by repeat (first | (with_reducible exact (Later.refl w)) | (with_reducible apply Later.drew) | (with_reducible apply Later.alloc))) hl1
        clear hl1 B4
        go_wp2_with fail
        refine bodyPost_ret (v := .agg #[.int .i64 k1, .int .u64 a1, .int .u64 b1, .int .u64 c1, .int .u64 d1, .slice A1 n1 cp1]) (by simp [results, Try.results52, go_sem, u0, u1, u2, u3, u4, u5]) rfl ?_
        rw [HRq.out]
        exact RetT.store6 hC1 hl2 (Nat.lt_succ_self _) (Nat.le_refl _)
      · have HRq : Hid (R = tOne 98) := by show _ = _; rw [HR2.out]; rfl
        go_wp2_with (go_at_call 26; (with_reducible refine (pick_at N 2 _ _ (by omega) (by omega) hq).mono ?_); rintro e w1 ⟨rfl, rfl⟩)
        refine (one_b (fun g => w.heap.size + 1 ≤ g) _).mono ?_
        rintro e w1 ⟨k1, a1, b1, c1, d1, A1, n1, cp1, rfl, hC1, hl1⟩
        have B4 := blkL hl1 (by repeat (first | (with_reducible exact B4) | (with_reducible apply Blk.drew) | (with_reducible apply Blk.alloc)))
        obtain ⟨u0, u1, u2, u3, u4, u5, f0, f1, f2, f3, f4, f5⟩ := cells6 B4
        have hl2 : Later w w1 := Later.trans (by repeat (first | (with_reducible exact (Later.refl w)) | (with_reducible apply Later.drew) | (with_reducible apply Later.alloc))) hl1
        clear hl1 B4
        go_wp2_with fail
        refine bodyPost_ret (v := .agg #[.int .i64 k1, .int .u64 a1, .int .u64 b1, .int .u64 c1, .int .u64 d1, .slice A1 n1 cp1]) (by simp [results, Try.results52, go_sem, u0, u1, u2, u3, u4, u5]) rfl ?_
        rw [HRq.out]
        exact RetT.store6 hC1 hl2 (Nat.lt_succ_self _) (Nat.le_refl _)

    · have HRN : Hid (R = f u) := by
        show _ = _
        rw [HR.out]; unfold reKid
        have e : (HTree.node k n ks).kids[i]? = some u := hu
        rw [e]; show (if 0 < D then _ else _) = _; rw [if_pos hDp]
      have hDi : (0 : Int) < (D : Int) := by omega
      obtain ⟨x, hx, hCx⟩ := HK.out.get i u hu
      obtain ⟨jk, jn, jA, jm, jcp⟩ := x
      obtain ⟨b0, off, hA, hbs, e0, e1, e2⟩ := reads_three HL.out hlt hx
      have hkid : ∀ wx, Later w wx → wx.cell? ⟨b0, off + i * 3, none⟩ = some (.int .i64 jk) ∧ wx.cell? ⟨b0, off + i * 3 + 1, none⟩ = some (.int .i64 jn) ∧ wx.cell? ⟨b0, off + i * 3 + 2, none⟩ = some (.slice jA jm jcp) :=
        fun wx hwx => ⟨(hwx.cell (p := ⟨b0, _, none⟩) hbs).trans e0, (hwx.cell (p := ⟨b0, _, none⟩) hbs).trans e1, (hwx.cell (p := ⟨b0, _, none⟩) hbs).trans e2⟩
      have hih : ∀ wx, Later w wx → w.heap.size + 1 ≤ wx.heap.size → Calls Try.prog 33 #[.agg #[.int .i64 jk, .int .i64 jn, .slice jA jm jcp], .int .i64 ((D : Int) - 1)] wx (RetT wx (fun g => w.heap.size + 1 ≤ g) (f u)) :=
        fun wx hwx hsz => (HF.out hDp u jk jn jA jm jcp wx (HdC.later hwx u hCx)).mono fun e w' he => by
          obtain ⟨k1, a1, b1, c1, d1, A1, n1, cp1, e1, e2, e3⟩ := he
          exact ⟨k1, a1, b1, c1, d1, A1, n1, cp1, e1, ReC.weaken (fun g _ hg => by omega) _ e2, e3⟩
      have HKID := Lib.hid hkid
      have HIH := Lib.hid hih
      have hDw : IntKind.i64.wrap ((D : Int) - 1) = (D : Int) - 1 := by rw [IntKind.wrap_i64]; omega
      clear hih hkid hCx hu hx e0 e1 e2 HF hN HNN hq HR
      subst hA
      go_enter Try.func52, Try.ntmps52
      go_upto_region 1 with fail
      have B2 := h2.alloc (.cells #[.int .i64 0, .int .u64 0, .int .u64 0, .int .u64 0, .int .u64 0, .slice none 0 0] 49)
      have B3 := h3.alloc (.cells #[.int .i64 0, .int .u64 0, .int .u64 0, .int .u64 0, .int .u64 0, .slice none 0 0] 49)
      have B4 := Blk.new w 49 #[.int .i64 0, .int .u64 0, .int .u64 0, .int .u64 0, .int .u64 0, .slice none 0 0]
      have c1 := B2.cell 1
      have c2 := B2.cell 2
      have c3 := B3.cell 0
      have hn2 : g2 < w.heap.size := h2.lt
      have hn3 : g3 < w.heap.size := h3.lt
      have hne2 : g2 ≠ w.heap.size := by omega
      have hne3 : g3 ≠ w.heap.size := by omega
      have lw : Later w (w.alloc (.cells #[.int .i64 0, .int .u64 0, .int .u64 0, .int .u64 0, .int .u64 0, .slice none 0 0] 49)) := (Later.refl w).alloc _
      have lz : w.heap.size + 1 ≤ (w.alloc (.cells #[.int .i64 0, .int .u64 0, .int .u64 0, .int .u64 0, .int .u64 0, .slice none 0 0] 49)).heap.size := by simp
      obtain ⟨W1, hW1⟩ : ∃ W1, W1 = w.alloc (.cells #[.int .i64 0, .int .u64 0, .int .u64 0, .int .u64 0, .int .u64 0, .slice none 0 0] 49) := ⟨_, rfl⟩
      rw [← hW1] at B2 B3 B4 lw lz c1 c2 c3 ⊢
      clear hW1 h2 h3
      have lt : Later W1 W1 := Later.refl _
      have hge : w.heap.size ≤ w.heap.size := Nat.le_refl _
      go_wp2_with fail
      go_region_held_law (fun w' => w'.cell? ⟨g2, 2, none⟩ = some (.slice (some ⟨b0, off, none⟩) m cp) ∧ w'.cell? ⟨g3, 0, none⟩ = some (.int .i64 (D : Int)) ∧ w'.cell? ⟨b0, off + i * 3, none⟩ = some (.int .i64 jk) ∧ w'.cell? ⟨b0, off + i * 3 + 1, none⟩ = some (.int .i64 jn) ∧ w'.cell? ⟨b0, off + i * 3 + 2, none⟩ = some (.slice jA jm jcp))
        (exact kid_cells (by repeat (first | (with_reducible exact B2) | (with_reducible apply Blk.drew) | (with_reducible apply Blk.alloc) | (with_reducible refine Blk.far ?_ hne2 _))) (by repeat (first | (with_reducible exact B3) | (with_reducible apply Blk.drew) | (with_reducible apply Blk.alloc) | (with_reducible refine Blk.far ?_ hne3 _))) (HKID.out _ (by repeat (first | (with_reducible exact lw) | (with_reducible apply Later.drew) | (with_reducible apply Later.alloc) | (with_reducible refine Later.setCell ?_ hge _)))))
        (((go_at_call 33; (with_reducible refine (HIH.out _ (by repeat (first | (with_reducible exact lw) | (with_reducible apply Later.drew) | (with_reducible apply Later.alloc))) (Nat.le_trans lz (Later.size (by repeat (first | (with_reducible exact lt) | (with_reducible apply Later.drew) | (with_reducible apply Later.alloc)))))).mono ?_)); rintro e w1 ⟨k1, a1, b1, c1, d1, A1, n1, cp1, rfl, hC1, hl1⟩;
          have B4 := blkL hl1 (by repeat (first | (with_reducible exact B4) | (with_reducible apply Blk.drew) | (with_reducible apply Blk.alloc)));
          have B2 := blkL hl1 (by repeat (first | (with_reducible exact B2) | (with_reducible apply Blk.drew) | (with_reducible apply Blk.alloc)));
          have B3 := blkL hl1 (by repeat (first | (with_reducible exact B3) | (with_reducible apply Blk.drew) | (with_reducible apply Blk.alloc)));
          have f0 := B4.frozen 0;
          have f1 := B4.frozen 1;
          have f2 := B4.frozen 2;
          have f3 := B4.frozen 3;
          have f4 := B4.frozen 4;
          have f5 := B4.frozen 5;
          have u0 := B4.cell 0;
          have u1 := B4.cell 1;
          have u2 := B4.cell 2;
          have u3 := B4.cell 3;
          have u4 := B4.cell 4;
          have u5 := B4.cell 5;
          have lw : Later w w1 := Later.trans (by repeat (first | (with_reducible exact lw) | (with_reducible apply Later.drew) | (with_reducible apply Later.alloc))) hl1))
      all_goals
        go_wp2_with fail
        refine bodyPost_ret (v := .agg #[.int .i64 k1, .int .u64 a1, .int .u64 b1, .int .u64 c1, .int .u64 d1, .slice A1 n1 cp1]) (by simp [results, Try.results52, go_sem, u0, u1, u2, u3, u4, u5]) rfl ?_
        rw [HRN.out]
        exact RetT.store6 hC1 lw (Nat.lt_succ_self _) (Nat.le_refl _)
  · have HRN : Hid (R = tOne (abOf (n + (i : Int)))) := by
      show _ = _
      rw [HR.out]; unfold reKid
      have e : (HTree.node k n ks).kids[i]? = none := List.getElem?_eq_none (by show ks.length ≤ i; rw [HM.out]; omega)
      rw [e]
      rfl
    have hlti : decide (i < m) = false := by simp; omega
    clear HF hlt
    have HR2 : Hid (R = if q = 0 then tOne 97 else tOne 98) := by show _ = _; rw [HRN.out]; exact ab_of hq.out (by rw [← HNN.out]; exact wrap_add2 n i)
    have hq2 : q = 0 ∨ q = 1 := by omega
    clear HR HRN
    go_enter Try.func52, Try.ntmps52
    go_upto_region 1 with fail
    have B2 := h2.alloc (.cells #[.int .i64 0, .int .u64 0, .int .u64 0, .int .u64 0, .int .u64 0, .slice none 0 0] 49)
    have B3 := h3.alloc (.cells #[.int .i64 0, .int .u64 0, .int .u64 0, .int .u64 0, .int .u64 0, .slice none 0 0] 49)
    have B4 := Blk.new w 49 #[.int .i64 0, .int .u64 0, .int .u64 0, .int .u64 0, .int .u64 0, .slice none 0 0]
    have c1 := B2.cell 1
    have c2 := B2.cell 2
    have c3 := B3.cell 0
    clear h2 h3 B2 B3
    rcases hq2 with rfl | rfl
    · have HRq : Hid (R = tOne 97) := by show _ = _; rw [HR2.out]; rfl
      go_wp2_with (go_at_call 26; (with_reducible refine (pick_at N 2 _ _ (by omega) (by omega) hq).mono ?_); rintro e w1 ⟨rfl, rfl⟩)
      refine (one_a (fun g => w.heap.size + 1 ≤ g) _).mono ?_
      rintro e w1 ⟨k1, a1, b1, c1, d1, A1, n1, cp1, rfl, hC1, hl1⟩
      have B4 := blkL hl1 (by repeat (first | (with_reducible exact B4) | (with_reducible apply Blk.drew) | (with_reducible apply Blk.alloc)))
      obtain ⟨u0, u1, u2, u3, u4, u5, f0, f1, f2, f3, f4, f5⟩ := cells6 B4
      have hl2 : Later w w1 := Later.trans (by repeat (first | (with_reducible exact (Later.refl w)) | (with_reducible apply Later.drew) | (with_reducible apply Later.alloc))) hl1
      clear hl1 B4
      go_wp2_with fail
      refine bodyPost_ret (v := .agg #[.int .i64 k1, .int .u64 a1, .int .u64 b1, .int .u64 c1, .int .u64 d1, .slice A1 n1 cp1]) (by simp [results, Try.results52, go_sem, u0, u1, u2, u3, u4, u5]) rfl ?_
      rw [HRq.out]
      exact RetT.store6 hC1 hl2 (Nat.lt_succ_self _) (Nat.le_refl _)
    · have HRq : Hid (R = tOne 98) := by show _ = _; rw [HR2.out]; rfl
      go_wp2_with (go_at_call 26; (with_reducible refine (pick_at N 2 _ _ (by omega) (by omega) hq).mono ?_); rintro e w1 ⟨rfl, rfl⟩)
      refine (one_b (fun g => w.heap.size + 1 ≤ g) _).mono ?_
      rintro e w1 ⟨k1, a1, b1, c1, d1, A1, n1, cp1, rfl, hC1, hl1⟩
      have B4 := blkL hl1 (by repeat (first | (with_reducible exact B4) | (with_reducible apply Blk.drew) | (with_reducible apply Blk.alloc)))
      obtain ⟨u0, u1, u2, u3, u4, u5, f0, f1, f2, f3, f4, f5⟩ := cells6 B4
      have hl2 : Later w w1 := Later.trans (by repeat (first | (with_reducible exact (Later.refl w)) | (with_reducible apply Later.drew) | (with_reducible apply Later.alloc))) hl1
      clear hl1 B4
      go_wp2_with fail
      refine bodyPost_ret (v := .agg #[.int .i64 k1, .int .u64 a1, .int .u64 b1, .int .u64 c1, .int .u64 d1, .slice A1 n1 cp1]) (by simp [results, Try.results52, go_sem, u0, u1, u2, u3, u4, u5]) rfl ?_
      rw [HRq.out]
      exact RetT.store6 hC1 hl2 (Nat.lt_succ_self _) (Nat.le_refl _)

end Go.Proofs.Ythmjnelnnhidkaa
