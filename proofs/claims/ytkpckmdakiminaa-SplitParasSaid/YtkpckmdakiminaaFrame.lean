/-
  Contracts of frame.Frame and of the document's Frame.
-/
import Derived.Test.YtkpckmdakiminaaFrameLaw
import Derived.Test.YtkpckmdakiminaaRefSeal
import Derived.Test.YtkpckmdakiminaaRowsB
namespace Go.Proofs.Ytkpckmdakiminaa
open Go.RowKit

def Made (w : World) (l : List UInt8) (e : Ending) (w' : World) : Prop := ∃ A n c, e = .returned (.slice A n c) ∧ OwnB w' w.heap.size A n c l ∧ Below w.heap.size w w'

/-- bytes in a block of their own, as a row of the call's own -/
theorem OwnB.lit {w : World} {base n : Nat} (hb : base ≤ w.heap.size) (cs : Array Value) (l : List UInt8) (hn : l.length = n) (hm : n ≤ maxLen) (hcs : cs = (bv l).toArray) : OwnB (w.alloc (.cells cs 5)) base (some ⟨w.heap.size, 0, none⟩) n n l := by
  subst hcs
  refine ⟨by rw [bv_length]; omega, .inr ⟨w.heap.size, n, _, rfl, hb, heap_alloc_new w _, Nat.le_refl _, hm, by simp [bv_length, hn], ?_⟩⟩
  rw [List.take_of_length_le (by simp [bv_length, hn])]
theorem le4_cells {n : Nat} (h : n ≤ 4194304) : (#[.int .u8 ((n : Int) % 256), .int .u8 ((n : Int) / 256 % 256), .int .u8 ((n : Int) / 65536), .int .u8 ((n : Int) / 16777216)] : Array Value) = (bv (le4 n)).toArray := by
  unfold le4 bv
  simp only [List.map_cons, List.map_nil]
  rw [byt_toNat (by omega) (by omega), byt_toNat (by omega) (by omega), byt_toNat (by omega) (by omega), byt_toNat (by omega) (by omega)]

set_option maxRecDepth 100000 in
set_option maxHeartbeats 1000000 in
theorem frame_any (A : Option Addr) (n c : Nat) (l : List UInt8) (w : World) (hr : RdB w w.heap.size A n l) (hn : n ≤ 9223372036854775807) :
    Calls Try.prog 12 #[.slice A n c] w (Made w (frameB l)) := by
  have HL : Hid (l.length = n) := hr.len
  by_cases hb : 4194304 < n
  · have e : frameB l = [] := by unfold frameB; rw [if_pos (by rw [HL.out]; exact hb)]
    rw [e]
    clear e
    go_enter Try.func12, Try.ntmps12
    go_wp2_with fail
    go_ret
    exact ⟨_, _, _, rfl, OwnB.nil, Below.refl _ _⟩
  · have e : frameB l = le4 n ++ sealB l := by rw [frameB_eq (by rw [HL.out]; omega), HL.out]
    rw [e]
    clear e
    have hlit := OwnB.lit (w := w) (base := w.heap.size) (Nat.le_refl _) _ (le4 n) (le4_len n) (by unfold maxLen; omega) (le4_cells (n := n) (by omega))
    have hlit := Lib.hid hlit
    go_enter Try.func12, Try.ntmps12
    go_wp2_with fail
    refine (seal_any A n c l _ ((hr.alloc (Nat.le_refl _) _).more (by simp)) (by omega)).mono ?_
    rintro e w1 ⟨A1, n1, c1, rfl, hown1, hb1⟩
    have hz1 : w.heap.size + 1 ≤ w1.heap.size := by have := hb1.size; simp at this; omega
    have hown0 := hlit.out.below hb1 (fun k hk => (hlit.out.lt k hk).2)
    have hn1 : n1 = n + 6 := by rw [← hown1.len, sealB_len, HL.out]
    have hn1b : n1 ≤ 4194310 := by omega
    clear hn1
    go_wp2_with (at_builtin; refine wpList_append_b _ rfl (.tmp 21) (.tmp 23) rfl w.heap.size _ 4 4 _ rfl hown0 _ A1 n1 c1 _ rfl hown1.rd (by omega) (by omega) ?_; intro A2 n2 c2 w2 hown2 hg2 hob2)
    go_ret
    have hb1' : Below w.heap.size w w1 := ((Below.refl _ _).alloc (Nat.le_refl _) _).trans (hb1.mono (by simp))
    exact ⟨_, _, _, rfl, hown2, hb1'.grown hg2 (by omega) (by intro g hg; injection hg with hg; simp at hg; omega)⟩

set_option maxRecDepth 100000 in
set_option maxHeartbeats 1000000 in
theorem refFrame_any (A : Option Addr) (n c : Nat) (l : List UInt8) (w : World) (hr : RdB w w.heap.size A n l) (hn : n ≤ 9223372036854775807) :
    Calls Try.prog 13 #[.slice A n c] w (Made w (frameB l)) := by
  have HL : Hid (l.length = n) := hr.len
  by_cases hb : 4194304 < n
  · have e : frameB l = [] := by unfold frameB; rw [if_pos (by rw [HL.out]; exact hb)]
    rw [e]
    clear e
    go_enter Try.func13, Try.ntmps13
    go_wp2_with fail
    go_ret
    exact ⟨_, _, _, rfl, OwnB.nil, Below.refl _ _⟩
  · have e : frameB l = le4 n ++ sealB l := by rw [frameB_eq (by rw [HL.out]; omega), HL.out]
    rw [e]
    clear e
    have hlit := OwnB.lit (w := w) (base := w.heap.size) (Nat.le_refl _) _ (le4 n) (le4_len n) (by unfold maxLen; omega) (le4_cells (n := n) (by omega))
    have hlit := Lib.hid hlit
    go_enter Try.func13, Try.ntmps13
    go_wp2_with fail
    refine (refSeal_any A n c l _ ((hr.alloc (Nat.le_refl _) _).more (by simp)) (by omega)).mono ?_
    rintro e w1 ⟨A1, n1, c1, rfl, hown1, hb1⟩
    have hz1 : w.heap.size + 1 ≤ w1.heap.size := by have := hb1.size; simp at this; omega
    have hown0 := hlit.out.below hb1 (fun k hk => (hlit.out.lt k hk).2)
    have hn1 : n1 = n + 6 := by rw [← hown1.len, sealB_len, HL.out]
    have hn1b : n1 ≤ 4194310 := by omega
    clear hn1
    go_wp2_with (at_builtin; refine wpList_append_b _ rfl (.tmp 19) (.tmp 21) rfl w.heap.size _ 4 4 _ rfl hown0 _ A1 n1 c1 _ rfl hown1.rd (by omega) (by omega) ?_; intro A2 n2 c2 w2 hown2 hg2 hob2)
    go_ret
    have hb1' : Below w.heap.size w w1 := ((Below.refl _ _).alloc (Nat.le_refl _) _).trans (hb1.mono (by simp))
    exact ⟨_, _, _, rfl, hown2, hb1'.grown hg2 (by omega) (by intro g hg; injection hg with hg; simp at hg; omega)⟩

end Go.Proofs.Ytkpckmdakiminaa
