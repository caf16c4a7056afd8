/-
  Contracts of the document's Sum, Seal and Unseal (tailraceref1): the same plain functions as the program's.
-/
import Derived.Test.YtkpckmdakiminaaSeal
import Derived.Deep.RegionHeldLaw
namespace Go.Proofs.Ytkpckmdakiminaa
open Go.RowKit

/-- the document's step of a sum, over numbers that are not below nought -/
theorem ref_step {l : List UInt8} {n k : Nat} (hl : l.length = n) (hk : k < n) {a b : Int} (h : Hid ((a, b) = sm (l.take k))) :
    Hid (((257 * a + ((l[k]?.getD 0).toNat : Int) + 1 + 3 * (16777199 - b)) % 16777199, (257 * b + 3 * a) % 16777199) = sm (l.take (k + 1))) := by
  have e := (sm_step hl hk h.out).out
  show _ = _
  rw [← e]
  unfold md
  congr 1
  · omega
  · omega
theorem ret_sum2 {n : Nat} {l : List UInt8} (hn : l.length = n) {a b p q : Int} (h : Hid ((a, b) = sm (l.take n))) (h2 : Hid ((p, q) = sm l)) :
    Ending.returned (.tuple #[.int .u64 a, .int .u64 b]) = .returned (.tuple #[.int .u64 p, .int .u64 q]) := by
  have h := h.out
  rw [List.take_of_length_le (by omega), ← h2.out] at h
  injection h with h1 h2
  rw [h1, h2]

set_option maxRecDepth 100000 in
set_option maxHeartbeats 400000 in
theorem refSum_any {p q : Int} (A : Option Addr) (n c : Nat) (l : List UInt8) (B : Nat) (w : World) (hr : RdB w B A n l) (hn : n ≤ 140737488355328) (h : Hid ((p, q) = sm l)) :
    Calls Try.prog 35 #[.slice A n c] w fun e w' => e = .returned (.tuple #[.int .u64 p, .int .u64 q]) ∧ w = w' := by
  go_enter Try.func35, Try.ntmps35
  go_wp2
  go_loop [2, 3, 4] (fun s t i => ∃ (k : Nat) (a b : Int), k ≤ n ∧ i = .int .i64 k ∧ s = .int .u64 a ∧ t = .int .u64 b ∧ 0 ≤ a ∧ a < 16777199 ∧ 0 ≤ b ∧ b < 16777199 ∧ Hid ((a, b) = sm (l.take k))) (fun _ _ i => n - (intOf i).toNat)
  case atStart => exact ⟨0, 1, 0, Nat.zero_le _, rfl, rfl, rfl, by omega, by omega, by omega, by omega, rfl⟩
  case round =>
    obtain ⟨k, a, b, hk, rfl, rfl, rfl, ha, ha', hb, hb', hs⟩ := hrel
    by_cases hlt : k < n
    · obtain ⟨g, off, rfl, _, hc⟩ := hr.at_ hlt
      have hx0 : (0 : Int) ≤ ((l[k]?.getD 0).toNat : Int) := by omega
      have hx1 : ((l[k]?.getD 0).toNat : Int) < 256 := by have := (l[k]?.getD 0).toNat_lt; omega
      go_wp2
      go_round
      case rel =>
        exact ⟨k + 1, _, _, by omega, by go_num, rfl, rfl, by omega, by omega, by omega, by omega, ref_step hr.len hlt hs⟩
      case measure => simp [intOf]; omega
    · go_wp2
      obtain rfl : k = n := by omega
      go_ret2
      exact ⟨ret_sum2 hr.len hs h, rfl⟩

set_option maxRecDepth 100000 in
set_option maxHeartbeats 1000000 in
theorem refSeal_any (A : Option Addr) (n c : Nat) (l : List UInt8) (w : World) (hr : RdB w w.heap.size A n l) (hn : n ≤ 140737488355200) :
    Calls Try.prog 29 #[.slice A n c] w fun e w' => ∃ A' n' c', e = .returned (.slice A' n' c') ∧ OwnB w' w.heap.size A' n' c' (sealB l) ∧ Below w.heap.size w w' := by
  obtain ⟨a, b, hab, ha, ha', hb, hb'⟩ : ∃ p q : Int, Hid ((p, q) = sm l) ∧ 0 ≤ p ∧ p < 16777199 ∧ 0 ≤ q ∧ q < 16777199 := ⟨(sm l).1, (sm l).2, rfl, sm_bd l⟩
  have HL : Hid (l.length = n) := hr.len
  go_enter Try.func29, Try.ntmps29
  go_wp2_with fail
  refine (refSum_any _ _ _ _ _ _ hr (by omega) hab).mono ?_
  rintro e w' ⟨rfl, rfl⟩
  go_wp2_with (first
    | (at_builtin; refine wpList_append_b _ rfl (.tmp 10) (.tmp 11) rfl w.heap.size _ 0 0 [] rfl (OwnB.made (Nat.le_refl _)) _ A n c l rfl (hr.alloc (Nat.le_refl _) _) (by omega) (by simp) ?_; intro A1 n1 c1 w1 hown1 hg1 hob1; have hb1 := below_grown (Below.refl w.heap.size w) hg1 (Nat.le_refl _) (by simp); have hs1 := hb1.size; have hn1 : n1 ≤ 140737488355200 := (by have := hown1.len; rw [List.nil_append, HL.out] at this; omega))
    | (at_builtin; refine wpList_append_b _ rfl (.tmp 12) (.tmp 29) rfl w.heap.size A1 n1 c1 ([] ++ l) rfl (hown1.alloc _) _ _ 6 6 _ rfl (rd6 w1 _ _ _ _ _ _ ⟨by omega, by omega⟩ ⟨by omega, by omega⟩ ⟨by omega, by omega⟩ ⟨by omega, by omega⟩ ⟨by omega, by omega⟩ ⟨by omega, by omega⟩) (by omega) (by simp; omega) ?_; intro A2 n2 c2 w2 hown2 hg2 hob2))
  have hb2 := below_grown hb1 hg2 (by omega) (fun k hk => (hown1.lt k hk).1)
  go_ret
  refine ⟨_, _, _, rfl, ?_, hb2⟩
  have e : sealB l = l ++ (trip a ++ trip b) := by
    show l ++ (trip (sm l).1 ++ trip (sm l).2) = l ++ (trip a ++ trip b)
    rw [← hab.out]
  rw [e]
  exact hown2

set_option maxRecDepth 100000 in
set_option maxHeartbeats 1000000 in
theorem refUnseal_any (A : Option Addr) (n c : Nat) (l : List UInt8) (w : World) (hr : RdB w w.heap.size A n l) (hn : n ≤ 140737488355200) (hc : n ≤ c) :
    Calls Try.prog 31 #[.slice A n c] w (Unsealed w l) := by
  have HL : Hid (l.length = n) := hr.len
  by_cases h6 : n < 6
  · go_enter Try.func31, Try.ntmps31
    go_wp2
    go_ret2
    exact unsealed_nil (unseal_short (by rw [HL.out]; exact h6)) (Below.refl _ _)
  · have hslice := hr.upto (k := n - 6) (by omega)
    have h60 : (6 : Int) ≤ (n : Int) := by omega
    have hcon := run_str (c := c) hr.drew
    have hs0 : (0 : Int) ≤ (n : Int) - 6 := by omega
    have hs1 : (n : Int) - 6 ≤ (c : Int) := by omega
    have hsd : RdB w.drew w.drew.heap.size A (n - 6) (l.take (n - 6)) := hslice
    have hrd : RdB w.drew w.drew.heap.size A n l := hr
    have hk : ((n : Int) - 6).toNat = n - 6 := by omega
    have HC := Lib.hid (refSeal_any A ((n : Int) - 6).toNat c _ w.drew (by rw [hk]; exact hsd) (by omega))
    clear hk
    by_cases heq : sealB (l.take (n - 6)) = l
    · have HE := Lib.hid heq
      have ht := seq_true heq
      clear heq
      go_enter Try.func31, Try.ntmps31
      go_wp2_with fail
      go_region_held_law (fun w' => (convert 23 9 (.slice A n c)).run Try.prog w' = .ok (.string (bstr l)) w') (with_reducible assumption)
        (first | (go_at_call 29; refine HC.out.mono ?_; rintro e w1 ⟨A', n', c', rfl, hown, hb1⟩; have hcon1 := run_str (c := c) (hrd.below hb1); have hcon2 := run_str (c := c') hown.rd))
      have hb1' : Below w.heap.size w w1 := below_of_drew hb1
      have hz := hb1'.size
      go_wp2_with (at_builtin; refine wpList_append_b _ rfl (.tmp 18) (.tmp 21) rfl w.heap.size _ 0 0 [] rfl (OwnB.made hz) _ A (n - 6) c _ rfl ((hslice.below hb1').alloc hz _) (by omega) (by simp; omega) ?_; intro A2 n2 c2 w2 hown2 hg2 hob2)
      go_ret2
      have hu : unsealB l = (l.take (n - 6), 0) := by
        have h := unseal_good (l := l) (by rw [HL.out]; exact h6) (by rw [HL.out]; exact HE.out)
        rw [HL.out] at h
        exact h
      exact unsealed_ok hu hown2 ((hb1'.alloc hz _).grown hg2 (by simp; omega) (by intro g hg; injection hg with hg; simp at hg; omega))
    · have HE := Lib.hid heq
      have ht := seq_false heq
      clear heq
      go_enter Try.func31, Try.ntmps31
      go_wp2_with fail
      go_region_held_law (fun w' => (convert 23 9 (.slice A n c)).run Try.prog w' = .ok (.string (bstr l)) w') (with_reducible assumption)
        (first | (go_at_call 29; refine HC.out.mono ?_; rintro e w1 ⟨A', n', c', rfl, hown, hb1⟩; have hcon1 := run_str (c := c) (hrd.below hb1); have hcon2 := run_str (c := c') hown.rd))
      have hb1' : Below w.heap.size w w1 := below_of_drew hb1
      go_wp2_with fail
      go_ret2
      exact unsealed_nil (unseal_bad (by rw [HL.out]; exact h6) (by rw [HL.out]; exact HE.out)) hb1'

end Go.Proofs.Ytkpckmdakiminaa
