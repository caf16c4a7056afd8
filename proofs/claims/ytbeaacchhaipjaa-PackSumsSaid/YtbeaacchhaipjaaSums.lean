/-
  The walk of PackSums (and of the law's 'sum'): it returns true and writes nothing that was there.
-/
import Derived.Test.YtbeaacchhaipjaaRefSeal
import Derived.Test.YtbeaacchhaipjaaKnown
import Derived.Deep.RegionHeldLaw
namespace Go.Proofs.Ytbeaacchhaipjaa
open Go.RowKit

set_option maxRecDepth 100000 in
set_option maxHeartbeats 400000 in
theorem lawSum_any (A : Option Addr) (n c : Nat) (l : List UInt8) (B : Nat) (w : World) (hr : RdB w B A n l) (hn : n ≤ 140737488355328) :
    Calls Try.prog 19 #[.slice A n c] w fun e w' => e = .returned (.bool true) ∧ w = w' := by
  obtain ⟨p, q, hpq, hp, hp', hq, hq'⟩ := sm_names l
  have o1 := ord_eq (a := p) (b := p) (by omega) rfl
  have o2 := ord_eq (a := q) (b := q) (by omega) rfl
  go_enter Try.func19, Try.ntmps19
  go_wp2_with fail
  refine (refSum_any _ _ _ _ _ _ hr hn hpq).mono ?_
  rintro e w' ⟨rfl, rfl⟩
  go_wp2_with fail
  refine (sum_at _ _ _ _ _ _ hr hn hpq).mono ?_
  rintro e w' ⟨rfl, rfl⟩
  go_wp2_with fail
  go_ret
  exact ⟨rfl, rfl⟩

theorem unseal_seal (l : List UInt8) : unsealB (sealB l) = (l, 0) := by
  have ht : (sealB l).take ((sealB l).length - 6) = l := by
    rw [sealB_len, Nat.add_sub_cancel]
    unfold sealB
    rw [List.take_left']
    rfl
  have h := unseal_good (l := sealB l) (by rw [sealB_len]; omega) (by rw [ht])
  rw [h, ht]

set_option maxRecDepth 100000 in
set_option maxHeartbeats 2000000 in
theorem sums_any (A : Option Addr) (n c : Nat) (l : List UInt8) (w : World) (hr : RdB w w.heap.size A n l) (hn : n ≤ 140737488351232) (hc : n ≤ c) :
    Calls Try.prog 4 #[.slice A n c] w fun e w' => e = .returned (.bool true) ∧ Below w.heap.size w w' := by
  have HL : Hid (l.length = n) := hr.len
  obtain ⟨xs, ex, hx⟩ : ∃ xs ex, Hid (unsealB l = (xs, ex)) := ⟨_, _, rfl⟩
  go_enter Try.func4, Try.ntmps4
  go_wp2_with (at_builtin; refine wpList_append_b _ rfl (.tmp 11) (.tmp 12) rfl w.heap.size _ 0 0 [] rfl (OwnB.made (Nat.le_refl _)) _ A n c l rfl (hr.alloc (Nat.le_refl _) _) (by omega) (by simp) ?_; intro A1 n1 c1 w1 hown1 hg1 hob1; have hb1 := below_grown (Below.refl w.heap.size w) hg1 (Nat.le_refl _) (by simp); have hs1 := hb1.size)
  rw [List.nil_append] at hown1
  have hn1 : n1 ≤ 140737488351232 := by have := hown1.len; rw [HL.out] at this; omega
  have hr1 := hr.below hb1
  refine (unseal_any A1 n1 c1 l w1 hown1.rd (by omega) hown1.cap).mono ?_
  rintro e w2 ⟨A2, n2, c2, rfl, hown2, hb2⟩
  rw [hx.out] at hown2
  rw [hx.out]
  have hs2 := hb2.size
  have hr2 := (hr1.more (B' := w1.heap.size) (by omega)).below hb2
  go_wp2_with fail
  refine (refUnseal_any A n c l w2 (hr2.more (by omega)) (by omega) hc).mono ?_
  rintro e w3 ⟨A3, n3, c3, rfl, hown3, hb3⟩
  rw [hx.out] at hown3
  rw [hx.out]
  have hs3 := hb3.size
  go_wp2_with fail
  have hr13 := (((hown1.rd).below hb2).more (B' := w2.heap.size) (by omega)).below hb3
  refine (seal_any A1 n1 c1 l w3 (hr13.more (by omega)) (by omega)).mono ?_
  rintro e w4 ⟨A4, n4, c4, rfl, hown4, hb4⟩
  have hs4 := hb4.size
  have hn4 : n4 ≤ 140737488351238 := by have := hown4.len; rw [sealB_len, HL.out] at this; omega
  go_wp2_with fail
  refine (unseal_any A4 n4 c4 _ w4 hown4.rd (by omega) hown4.cap).mono ?_
  rintro e w5 ⟨A5, n5, c5, rfl, hown5, hb5⟩
  rw [unseal_seal] at hown5
  rw [unseal_seal]
  have hs5 := hb5.size
  have q0 : RdB w5 w5.heap.size A n l := ((((hr2.more (B' := w2.heap.size) (by omega)).below hb3).more (B' := w3.heap.size) (by omega)).below hb4 |>.more (B' := w4.heap.size) (by omega)).below hb5 |>.more (by omega)
  have q1 : RdB w5 w5.heap.size A1 n1 l := ((hr13.more (B' := w3.heap.size) (by omega)).below hb4 |>.more (B' := w4.heap.size) (by omega)).below hb5 |>.more (by omega)
  have q2 : RdB w5 w5.heap.size A2 n2 xs := ((((hown2.rd.below hb3).more (B' := w3.heap.size) (by omega)).below hb4).more (B' := w4.heap.size) (by omega)).below hb5 |>.more (by omega)
  have q3 : RdB w5 w5.heap.size A3 n3 xs := ((hown3.rd.below hb4).more (B' := w4.heap.size) (by omega)).below hb5 |>.more (by omega)
  have q4 : RdB w5 w5.heap.size A4 n4 (sealB l) := (hown4.rd.below hb5).more (by omega)
  have q5 : RdB w5 w5.heap.size A5 n5 l := hown5.rd
  have hb6 : Below w.heap.size w w5 := (((hb1.trans (hb2.mono (by omega))).trans (hb3.mono (by omega))).trans (hb4.mono (by omega))).trans (hb5.mono (by omega))
  clear hown1 hown2 hown3 hown4 hown5 hb1 hb2 hb3 hb4 hb5 hr hr1 hr2 hr13 hob1 hg1
  have hS : ∀ w', (∀ A n l, RdB w5 w5.heap.size A n l → RdB w' w5.heap.size A n l) → ((convert 22 9 (.slice A n c)).run Try.prog w' = .ok (.string (bstr l)) w' ∧ (convert 22 9 (.slice A1 n1 c1)).run Try.prog w' = .ok (.string (bstr l)) w' ∧ (convert 22 9 (.slice A2 n2 c2)).run Try.prog w' = .ok (.string (bstr xs)) w' ∧ (convert 22 9 (.slice A3 n3 c3)).run Try.prog w' = .ok (.string (bstr xs)) w' ∧ (convert 22 9 (.slice A4 n4 c4)).run Try.prog w' = .ok (.string (bstr (sealB l))) w' ∧ (convert 22 9 (.slice A5 n5 c5)).run Try.prog w' = .ok (.string (bstr l)) w') :=
    fun w' h => ⟨run_str (h _ _ _ q0), run_str (h _ _ _ q1), run_str (h _ _ _ q2), run_str (h _ _ _ q3), run_str (h _ _ _ q4), run_str (h _ _ _ q5)⟩
  have HS := Lib.hid hS
  have k0 := hS w5.drew (fun _ _ _ h => h.drew)
  clear hS
  go_wp2_with fail
  go_region_held_law (fun w' => (convert 22 9 (.slice A n c)).run Try.prog w' = .ok (.string (bstr l)) w' ∧ (convert 22 9 (.slice A1 n1 c1)).run Try.prog w' = .ok (.string (bstr l)) w' ∧ (convert 22 9 (.slice A2 n2 c2)).run Try.prog w' = .ok (.string (bstr xs)) w' ∧ (convert 22 9 (.slice A3 n3 c3)).run Try.prog w' = .ok (.string (bstr xs)) w' ∧ (convert 22 9 (.slice A4 n4 c4)).run Try.prog w' = .ok (.string (bstr (sealB l))) w' ∧ (convert 22 9 (.slice A5 n5 c5)).run Try.prog w' = .ok (.string (bstr l)) w') (with_reducible assumption)
    (first
      | (go_at_call 15; refine (known_any _).mono ?_; rintro e w6 ⟨rfl, hb7⟩; have hb8 : Below w5.heap.size w5 w6 := below_of_drew hb7; have hs6 := hb8.size; have k1 := HS.out w6 (fun _ _ _ h => h.below hb8))
      | (go_at_call 19; refine (lawSum_any A1 n1 c1 l _ _ (q1.below hb8) (by omega)).mono ?_; rintro e w7 ⟨rfl, rfl⟩)
      | (go_at_call 20; refine (refSeal_any A n c l _ ((q0.below hb8).more (by omega)) (by omega)).mono ?_; rintro e w7 ⟨A', n', c', rfl, hown, hb9⟩; have hb10 : Below w5.heap.size w5 w7 := hb8.trans (hb9.mono (by omega)); have k2 := HS.out w7 (fun _ _ _ h => h.below hb10); have k3 := run_str (c := c') hown.rd))
  go_goals
  go_wp2_with fail
  go_ret
  exact ⟨rfl, hb6.trans (hb10.mono (by omega))⟩

end Go.Proofs.Ytbeaacchhaipjaa
