/-
  Chapter 21's examples in 'known', by the contracts.
-/
import Derived.Test.YtmkddhkpeiajhaaDoorByF
namespace Go.Proofs.YtmkddhkpeiajhaaDoor
open Go.RowKit

theorem RdZ.lat {w w' : World} {A : Option Addr} {n : Nat} {ss : List (List UInt8)} (h : RdZ w w.heap.size A n ss) (hl : Later w w') : RdZ w' w'.heap.size A n ss := (RdZ.below h (hl.below (Nat.le_refl _))).more hl.size
theorem fk1 : wordsF [32, 32, 97, 32, 32, 98, 32] = [[97], [98]] := by decide +kernel
theorem fk2 : piecesC 58 [97, 58, 58, 98] = [[97], [], [98]] := by decide +kernel
/-- held against a literal -/
theorem strs_lit (w : World) (A : Option Addr) (n c : Nat) (ss : List (List UInt8)) (cs : Array Value) (h : RdZ w w.heap.size A n ss) (hcs : cs = (ss.map strCell).toArray) (hn : n < 1000000) :
    Calls Tryd.prog 16 #[.slice A n c, .slice (some ⟨w.heap.size, 0, none⟩) n n] (w.alloc (.cells cs 9)) fun e w' => e = .returned (.bool true) ∧ Later w w' := by
  subst hcs
  have hz : (w.alloc (.cells (ss.map strCell).toArray 9)).heap.size = w.heap.size + 1 := by simp
  have h1 := h.lat ((Later.refl w).alloc (.cells (ss.map strCell).toArray 9))
  have h2 := reads_cells w ss 9
  rw [← hz, h.len] at h2
  exact (strs_same _ _ A _ n c n ss h1 h2 (Nat.le_refl _) (by omega)).mono fun e w' ⟨he, hb⟩ => ⟨he, ((Later.refl w).alloc _).trans hb⟩

set_option maxRecDepth 100000 in
set_option maxHeartbeats 4000000 in
theorem fieldKnown_any (w : World) (hm : MaxL w) : Calls Tryd.prog 7 #[] w fun e w' => e = .returned (.bool true) ∧ Later w w' := by
  have h1 := fun (wx : World) => fsplit_words [32, 32, 97, 32, 32, 98, 32] wx (by decide) (by decide)
  rw [fk1] at h1
  have h2 := fun (wx : World) (hl : Later w wx) => fsplit_at 58 [97, 58, 58, 98] wx (hm.later hl) (by decide) (by decide) (by decide) (by decide)
  rw [fk2] at h2
  have H1 := Lib.hid h1
  have H2 := Lib.hid h2
  clear h1 h2 hm
  go_enter Tryd.func7, Tryd.ntmps7
  go_wp2_with fail
  refine (H1.out _).mono ?_
  rintro e w1 ⟨_, rfl, A1, n1, c1, rfl, hr1, hl1⟩
  have HR1 := Lib.hid hr1
  have HL1 := Lib.hid hl1
  have hn1 : n1 = 2 := hr1.len.symm
  subst hn1
  clear hr1 hl1
  go_wp2_with fail
  refine (H2.out _ HL1.out).mono ?_
  rintro e w2 ⟨_, rfl, A2, n2, c2, rfl, hr2, hl2⟩
  have hn2 : n2 = 3 := hr2.len.symm
  subst hn2
  have HR2 := Lib.hid hr2
  have HL2 := Lib.hid hl2
  clear hr2 hl2
  go_wp2_with fail
  refine (fsplit_re _).mono ?_
  rintro e w3 ⟨_, rfl, A3, n3, c3, rfl, hr3, hl3⟩
  have hn3 : n3 = 3 := hr3.len.symm
  subst hn3
  have HR3 := Lib.hid hr3
  have HL3 := Lib.hid hl3
  clear hr3 hl3
  go_wp2_with fail
  refine (strs_lit _ A1 2 c1 [[97], [98]] _ (HR1.out.lat (HL2.out.trans HL3.out)) rfl (by decide)).mono ?_
  rintro e w4 ⟨rfl, hl4⟩
  have HL4 := Lib.hid hl4
  clear hl4
  go_wp2_with fail
  refine (strs_lit _ A2 3 c2 [[97], [], [98]] _ (HR2.out.lat (HL3.out.trans HL4.out)) rfl (by decide)).mono ?_
  rintro e w5 ⟨rfl, hl5⟩
  have HL5 := Lib.hid hl5
  clear hl5
  go_wp2_with fail
  refine (strs_lit _ A3 3 c3 [[97], [98], [99]] _ (HR3.out.lat (HL4.out.trans HL5.out)) rfl (by decide)).mono ?_
  rintro e w6 ⟨rfl, hl6⟩
  go_wp2_with fail
  go_ret
  exact ⟨rfl, HL1.out.trans (HL2.out.trans (HL3.out.trans (HL4.out.trans (HL5.out.trans hl6))))⟩

end Go.Proofs.YtmkddhkpeiajhaaDoor
