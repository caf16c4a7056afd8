/-
  The contract of twin.
-/
import Derived.Test.YtmkddhkpeiajhaaDoorTreeAll
import Derived.Test.YtmkddhkpeiajhaaDoorShaped
namespace Go.Proofs.YtmkddhkpeiajhaaDoor
open Go.RowKit

theorem cells6 {w : World} {b : Nat} {t : TypeId} {x0 x1 x2 x3 x4 x5 : Value} (h : Blk w b t #[x0, x1, x2, x3, x4, x5]) :
    w.cell? ⟨b, 0, none⟩ = some x0 ∧ w.cell? ⟨b, 1, none⟩ = some x1 ∧ w.cell? ⟨b, 2, none⟩ = some x2 ∧ w.cell? ⟨b, 3, none⟩ = some x3 ∧ w.cell? ⟨b, 4, none⟩ = some x4 ∧ w.cell? ⟨b, 5, none⟩ = some x5 ∧
    w.frozen? ⟨b, 0, none⟩ = false ∧ w.frozen? ⟨b, 1, none⟩ = false ∧ w.frozen? ⟨b, 2, none⟩ = false ∧ w.frozen? ⟨b, 3, none⟩ = false ∧ w.frozen? ⟨b, 4, none⟩ = false ∧ w.frozen? ⟨b, 5, none⟩ = false :=
  ⟨h.cell 0, h.cell 1, h.cell 2, h.cell 3, h.cell 4, h.cell 5, h.frozen 0, h.frozen 1, h.frozen 2, h.frozen 3, h.frozen 4, h.frozen 5⟩
def set6 (w : World) (g : Nat) (x0 x1 x2 x3 x4 x5 : Value) : World :=
  (((((w.setCell ⟨g, 0, none⟩ x0).setCell ⟨g, 1, none⟩ x1).setCell ⟨g, 2, none⟩ x2).setCell ⟨g, 3, none⟩ x3).setCell ⟨g, 4, none⟩ x4).setCell ⟨g, 5, none⟩ x5
theorem Later.set6 {w w1 : World} {g : Nat} {x0 x1 x2 x3 x4 x5 : Value} (h : Later w w1) (hg : w.heap.size ≤ g) : Later w (set6 w1 g x0 x1 x2 x3 x4 x5) := by
  unfold Proofs.YtmkddhkpeiajhaaDoor.set6
  repeat (first | (with_reducible exact h) | (with_reducible refine Later.setCell ?_ hg _))
theorem Fr.set6 {w : World} (g : Nat) (x0 x1 x2 x3 x4 x5 : Value) : Fr w (set6 w g x0 x1 x2 x3 x4 x5) (fun k => k = g) := by
  unfold Proofs.YtmkddhkpeiajhaaDoor.set6
  repeat (first | (with_reducible exact Fr.refl _ _) | (with_reducible refine frG ?_ _))

/-- what 'twin' leaves -/
def RetRe (w : World) (t : Tree) (k a b c d : Int) (e : Ending) (w' : World) : Prop :=
  ∃ (A : Option Addr) (n cp : Nat), e = .returned (.agg #[.int .i64 k, .int .u64 a, .int .u64 b, .int .u64 c, .int .u64 d, .slice A n cp]) ∧ ReC w' (fun g => w.heap.size ≤ g) t ⟨k, a, b, c, d, A, n, cp⟩ ∧ Later w w'
theorem RetRe.mk {w w1 : World} {t : Tree} {k a b c d : Int} {A : Option Addr} {n cp g1 : Nat} (h : ReC w1 (fun g => w.heap.size + 2 ≤ g) t ⟨k, a, b, c, d, A, n, cp⟩) (hl : Later w w1) (v : Value) (hg : g1 = w.heap.size + 1) :
    RetRe w t k a b c d (.returned (.agg #[.int .i64 k, .int .u64 a, .int .u64 b, .int .u64 c, .int .u64 d, .slice A n cp])) (set6 (w1.setCell ⟨w.heap.size, 5, none⟩ v) g1 (.int .i64 k) (.int .u64 a) (.int .u64 b) (.int .u64 c) (.int .u64 d) (.slice A n cp)) := by
  subst hg
  refine ⟨A, n, cp, rfl, ?_, (Later.setCell (p := ⟨w.heap.size, 5, none⟩) hl (Nat.le_refl _) v).set6 (Nat.le_succ _)⟩
  refine ReC.weaken (lo := fun g => w.heap.size + 2 ≤ g) (fun k _ h => by omega) _ ?_
  refine ReC.fr (Fr.set6 (w.heap.size + 1) _ _ _ _ _ _) (spares_not _ (by omega)) _ ?_
  exact ReC.fr (frG (Fr.refl w1 (fun k => k = w.heap.size)) v) (spares_not _ (by omega)) _ h

/-- in the midst of 'twin' -/
def TwinAt (w : World) (k : Int) (s0 s1 s2 s3 : Nat) (A : Option Addr) (n cp : Nat) (ks : List Tree) (s3_ s9 : Value) (wr : World) : Prop :=
  ∃ (j : Nat) (Al : Option Addr) (cl : Nat), j ≤ n ∧ s9 = .int .i64 (j : Int) ∧ s3_ = .slice Al j cl ∧ OwnT wr (fun g => w.heap.size + 2 ≤ g) (w.heap.size + 2) Al j cl (ks.take j) ∧
    Blk wr w.heap.size 60 #[.int .i64 k, .int .u64 (s0 : Nat), .int .u64 (s1 : Nat), .int .u64 (s2 : Nat), .int .u64 (s3 : Nat), .slice A n cp] ∧ Blk wr (w.heap.size + 1) 60 #[.int .i64 0, .int .u64 0, .int .u64 0, .int .u64 0, .int .u64 0, .slice none 0 0] ∧ Later w wr

set_option maxHeartbeats 8000000 in
theorem twin_any : ∀ (fuel : Nat) (t : Tree) (lo : Nat → Prop) (k a b c d : Int) (A : Option Addr) (n cp : Nat) (w : World), SizeOf.sizeOf t ≤ fuel → thinT t → ReC w lo t ⟨k, a, b, c, d, A, n, cp⟩ →
    Calls Tryd.prog 80 #[.agg #[.int .i64 k, .int .u64 a, .int .u64 b, .int .u64 c, .int .u64 d, .slice A n cp]] w (RetRe w t k a b c d) := by
  intro fuel
  induction fuel with
  | zero => intro t lo k a b c d A n cp w hf; cases t; simp at hf
  | succ fuel ih =>
    intro t lo k a b c d A n cp w hf hth hC
    obtain ⟨k', s, ks⟩ := t
    unfold ReC at hC
    obtain ⟨hk, hset, hn, hcp, xs, hL, hKs⟩ := hC
    obtain rfl : k = k' := hk
    obtain ⟨s0, s1, s2, s3⟩ := s
    simp only at hset hn hcp hL
    obtain ⟨rfl, rfl, rfl, rfl⟩ := hset
    have hkl : ∀ t ∈ ks, SizeOf.sizeOf t ≤ fuel := fun t ht => by
      have := List.sizeOf_lt_of_mem ht
      simp at hf
      omega
    unfold thinT at hth
    obtain ⟨hth1, hth2⟩ := hth
    have hn2 : n ≤ 2 := by omega
    have HKL := Lib.hid hkl
    have HN := Lib.hid hn
    have HT := Lib.hid hth2
    clear hkl hf hn hth1 hth2
    go_enter Tryd.func80, Tryd.ntmps80
    go_wp2_with fail
    go_loopw [3, 9] (fun v3 v9 wr => TwinAt w k s0 s1 s2 s3 A n cp ks v3 v9 wr) (fun _ v9 _ => n - (intOf v9).toNat)
    case atStart => exact ⟨0, none, 0, by omega, rfl, rfl, OwnT.nil, (Blk.new w _ _).alloc _, blk_at (by simp), ((Later.refl w).alloc _).alloc _⟩
    case round =>
      obtain ⟨j, Al, cl, hj, rfl, rfl, hO, B1, B2, hl⟩ := hrel
      by_cases hlt : j < n
      · have hlti : (j : Int) < (n : Int) := by omega
        obtain ⟨tj, htj⟩ : ∃ tj, ks[j]? = some tj := ⟨_, List.getElem?_eq_getElem (by rw [HN.out]; exact hlt)⟩
        obtain ⟨x, hx, hCx⟩ := hKs.get j tj htj
        obtain ⟨jk, ja, jb, jc, jd, jA, jn, jp⟩ := x
        obtain ⟨b0, off, hA, e0, e1, e2, e3, e4, e5⟩ := (hL.fr (Fr.laterF hl) (spares_false _ _)).six hlt hx
        have hih : ∀ wx, Later wr wx → Calls Tryd.prog 80 #[.agg #[.int .i64 jk, .int .u64 ja, .int .u64 jb, .int .u64 jc, .int .u64 jd, .slice jA jn jp]] wx (RetRe wx tj jk ja jb jc jd) :=
          fun wx hwx => ih tj lo jk ja jb jc jd jA jn jp wx (HKL.out tj (List.mem_of_getElem? htj)) (thinL_get HT.out (List.mem_of_getElem? htj)) (hCx.later (hl.trans hwx))
        have htk : ks.take (j + 1) = ks.take j ++ [tj] := by
          obtain ⟨hq, e⟩ := List.getElem?_eq_some_iff.1 htj
          rw [List.take_succ_eq_append_getElem hq, e]
        have HIH := Lib.hid hih
        have HTK := Lib.hid htk
        have HHL := Lib.hid hL
        have HHK := Lib.hid hKs
        clear hih hCx htj hx hL hKs hcp htk
        subst hA
        go_wp2_with fail
        refine (HIH.out _ ((Later.refl _).alloc _)).mono ?_
        rintro e w1 ⟨A1, n1, cp1, rfl, h1, hl1⟩
        have hO1 := (hO.later ((Later.refl _).alloc _)).later hl1
        have hOl := hO.lt
        have D1 := blkL hl1 (B1.alloc _)
        have D2 := blkL hl1 (B2.alloc _)
        have hlw := (hl.alloc _).trans hl1
        have hsz1 : w.heap.size + 2 ≤ wr.heap.size := by have := B2.lt; omega
        have hr1 : ReC w1 (fun g => w.heap.size + 2 ≤ g ∧ ob Al ≠ some g) tj ⟨jk, ja, jb, jc, jd, A1, n1, cp1⟩ := ReC.weaken (fun g _ hg => by
          simp at hg
          exact ⟨by omega, fun e => by have := (hOl g e).2; omega⟩) tj h1
        clear h1 hO B1 B2 hl
        go_wp2_with (at_builtin; go_loud (refine wpList_append_t _ rfl (.tmp 13) (.tmp 16) rfl (fun g => w.heap.size + 2 ≤ g) (w.heap.size + 2) Al j cl (ks.take j) rfl (hO1.later ((Later.refl _).alloc _)) tj ⟨jk, ja, jb, jc, jd, A1, n1, cp1⟩ (hr1.later ((Later.refl _).alloc _)) _ _ rfl (reads_t w1 ⟨jk, ja, jb, jc, jd, A1, n1, cp1⟩ _) (by omega) (by simp; have := hl1.size; simp at this; omega) ?_); intro A9 n9 c9 w4 hn9 hown9 hg9)
        have hAl : ∀ g, ob Al = some g → w.heap.size + 2 ≤ g := fun g hg => (hOl g hg).1
        have G1 := (D1.alloc (.cells #[.int .i64 jk, .int .u64 ja, .int .u64 jb, .int .u64 jc, .int .u64 jd, .slice A1 n1 cp1] 60)).grown hg9 (fun e => by have := hAl _ e.symm; omega)
        have G2 := (D2.alloc (.cells #[.int .i64 jk, .int .u64 ja, .int .u64 jb, .int .u64 jc, .int .u64 jd, .slice A1 n1 cp1] 60)).grown hg9 (fun e => by have := hAl _ e.symm; omega)
        have G3 : Later w w4 := (hlw.alloc _).grown hg9 (fun g hg => by have := hAl g hg; omega)
        clear hg9 D1 D2 hlw hO1 hr1
        subst hn9
        go_roundw
        case rel => exact ⟨j + 1, A9, c9, by omega, by go_num, rfl, by rw [HTK.out]; exact hown9, G1, G2, G3⟩
        case measure => simp [intOf]; omega
      · obtain rfl : n = j := by omega
        have hO2 : OwnT wr (fun g => w.heap.size + 2 ≤ g) (w.heap.size + 2) Al n cl ks := by rw [List.take_of_length_le (by rw [HN.out]; exact Nat.le_refl _)] at hO; exact hO
        have hfin := hO2.tree (fun _ h => h) k (s0, s1, s2, s3)
        obtain ⟨u0, u1, u2, u3, u4, u5, f0, f1, f2, f3, f4, f5⟩ := cells6 B1
        obtain ⟨v0, v1, v2, v3, v4, v5, g0, g1, g2, g3, g4, g5⟩ := cells6 B2
        clear hO hO2 hKs hL
        go_wp2_with fail
        refine bodyPost_ret (v := .agg #[.int .i64 k, .int .u64 (s0 : Nat), .int .u64 (s1 : Nat), .int .u64 (s2 : Nat), .int .u64 (s3 : Nat), .slice Al n cl]) (by simp [results, Tryd.results80, go_sem, v0, v1, v2, v3, v4, v5]) rfl ?_
        exact RetRe.mk hfin hl _ rfl

end Go.Proofs.YtmkddhkpeiajhaaDoor
