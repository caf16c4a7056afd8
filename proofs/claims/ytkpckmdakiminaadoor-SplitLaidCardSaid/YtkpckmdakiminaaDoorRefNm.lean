/-
  Contracts of the document's Num and Text.
-/
import Derived.Test.YtkpckmdakiminaaDoorWriter
import Derived.Test.YtkpckmdakiminaaDoorSlices
namespace Go.Proofs.YtkpckmdakiminaaDoor
open Go.RowKit

theorem num_round' {N f m : Nat} {cur : List UInt8} (hlt : ¬ m < 128) (hmf : Hid (m < 128 ^ (f + 1))) (hcur : Hid (nm N = cur ++ nmF f m)) :
    ∃ f', f = f' + 1 ∧ Hid (m / 128 < 128 ^ (f' + 1)) ∧ Hid (nm N = (cur ++ [byt ((m : Int) % 128 + 128)]) ++ nmF f' (m / 128)) := by
  obtain ⟨f', h1, h2, h3⟩ := num_round (l := []) hlt hmf (by show _ = _; rw [List.nil_append]; exact hcur.out)
  refine ⟨f', h1, h2, ?_⟩
  have h3 := h3.out
  rw [List.nil_append, or128] at h3
  rw [show ((m % 128 + 128 : Nat) : Int) = (m : Int) % 128 + 128 from by omega] at h3
  exact h3

set_option maxRecDepth 100000 in
set_option maxHeartbeats 400000 in
theorem refNum_any (N : Nat) (hN : N < 18446744073709551616) (w : World) : Calls Tryd.prog 35 #[.int .u64 (N : Int)] w (Made w (nm N)) := by
  go_enter Tryd.func35, Tryd.ntmps35
  go_wp2
  go_loopw [0, 3] (fun v s wr => ∃ (f m : Nat) (cur : List UInt8) (A : Option Addr) (n c : Nat), v = .int .u64 (m : Int) ∧ s = .slice A n c ∧ m < 18446744073709551616 ∧ Hid (m < 128 ^ (f + 1)) ∧ n + f ≤ 9 ∧ Hid (nm N = cur ++ nmF f m) ∧ OwnB wr w.heap.size A n c cur ∧ Below w.heap.size w wr)
    (fun v _ _ => (intOf v).toNat)
  case atStart => exact ⟨9, N, [], none, 0, 0, rfl, rfl, hN, (by show N < 128 ^ 10; omega), by omega, rfl, OwnB.nil, Below.refl _ _⟩
  case round =>
    obtain ⟨f, m, cur, A, n, c, rfl, rfl, hm, hmf, hnf, hcur, hown, hbw⟩ := hrel
    have hsz := hbw.size
    have HL : Hid (cur.length = n) := hown.len
    by_cases hlt : m < 128
    · go_wp2_with (at_builtin; refine wpList_append_b _ rfl (.tmp 15) (.tmp 18) rfl w.heap.size A n c cur rfl (hown.alloc _) _ _ 1 1 [_] rfl (rd_byt wr (by omega) (by omega)) (by omega) (by simp; omega) ?_; intro A' n' c' w1 hown1 hg1 hob)
      go_ret
      have e : nm N = cur ++ [byt m] := by rw [hcur.out, nmF_small hlt]
      exact ⟨_, _, _, rfl, by rw [e]; exact hown1, below_grown hbw hg1 hsz (fun k hk => (hown.lt k hk).1)⟩
    · go_wp2_with (at_builtin; refine wpList_append_b _ rfl (.tmp 6) (.tmp 11) rfl w.heap.size A n c cur rfl (hown.alloc _) _ _ 1 1 [_] rfl (rd_byt wr (by omega) (by omega)) (by omega) (by simp; omega) ?_; intro A' n' c' w1 hown1 hg1 hob)
      go_roundw
      case rel =>
        obtain ⟨f', hf', hmf', hcat⟩ := num_round' hlt hmf hcur
        have hl1 : n' + f' ≤ 9 := by have := hown1.len; rw [List.length_append, HL.out] at this; simp only [List.length_singleton] at this; omega
        exact ⟨f', m / 128, _, A', n', c', by go_num, rfl, by omega, hmf', hl1, hcat, hown1, below_grown hbw hg1 hsz (fun k hk => (hown.lt k hk).1)⟩
      case measure => simp [intOf]; omega

set_option maxRecDepth 100000 in
set_option maxHeartbeats 400000 in
theorem refText_any (str : ByteArray) (hs : str.size ≤ 140737488355318) (w : World) : Calls Tryd.prog 23 #[.string str] w (Made w (nm str.size ++ str.data.toList)) := by
  have hnl := nm_len str.size
  go_enter Tryd.func23, Tryd.ntmps23
  go_wp2_with fail
  refine (refNum_any str.size (by omega) w).mono ?_
  rintro e w1 ⟨A, n, c, rfl, hown, hbw⟩
  have hn : n ≤ 10 := by have := hown.len; omega
  have hsz := hbw.size
  go_wp2_with (refine wpList_append_str _ rfl (.tmp 6) (.tmp 7) rfl w.heap.size A n c (nm str.size) rfl hown str rfl (by omega) (by omega) ?_; intro A' n' c' w2 hown1 hg1 hob)
  go_ret
  exact ⟨_, _, _, rfl, hown1, hbw.grown hg1 hsz (fun k hk => (hown.lt k hk).1)⟩

end Go.Proofs.YtkpckmdakiminaaDoor
