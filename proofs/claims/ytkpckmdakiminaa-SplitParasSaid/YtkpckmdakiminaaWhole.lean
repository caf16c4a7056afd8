/-
  The contract of frame.whole: the record of the frame at the beginning, if one is whole.
-/
import Derived.Test.YtkpckmdakiminaaFrame
import Derived.Laws.BitsAllLaws
import Derived.Deep.DeepCutAuto
namespace Go.Proofs.Ytkpckmdakiminaa
open Go.RowKit

theorem RdB.cell {w : World} {B n b off : Nat} {l : List UInt8} (h : RdB w B (some ⟨b, off, none⟩) n l) {k : Nat} (hk : k < n) : w.cell? ⟨b, off + k, none⟩ = some (.int .u8 ((l[k]?.getD 0).toNat : Int)) := by
  obtain ⟨b', off', e, _, hc⟩ := h.at_ hk
  injection e with e
  injection e with e1 e2
  subst e1; subst e2
  exact hc

/-- what whole returns: a row of the call's own, and whether a frame is whole -/
def Wholed (w : World) (r : Option (List UInt8)) (e : Ending) (w' : World) : Prop :=
  ∃ A n c, e = .returned (.tuple #[.slice A n c, .bool r.isSome]) ∧ OwnB w' w.heap.size A n c (r.getD []) ∧ Below w.heap.size w w'

theorem wholed_none {w w' : World} {r0 : Option (List UInt8)} {A : Option Addr} {n c : Nat} (h : r0 = none) (ho : OwnB w' w.heap.size A n c []) (hb : Below w.heap.size w w') : Wholed w r0 (.returned (.tuple #[.slice A n c, .bool false])) w' := by
  subst h; exact ⟨A, n, c, rfl, ho, hb⟩
theorem wholed_some {w w' : World} {r0 : Option (List UInt8)} {r : List UInt8} {A : Option Addr} {n c : Nat} (h : r0 = some r) (ho : OwnB w' w.heap.size A n c r) (hb : Below w.heap.size w w') : Wholed w r0 (.returned (.tuple #[.slice A n c, .bool true])) w' := by
  subst h; exact ⟨A, n, c, rfl, ho, hb⟩
theorem or4 {x0 x1 x2 x3 : Nat} (h0 : x0 < 256) (h1 : x1 < 256) (h2 : x2 < 256) (h3 : x3 < 256) :
    bits .or .u64 (bits .or .u64 (bits .or .u64 (x0 : Int) ((x1 : Int) * 256)) ((x2 : Int) * 65536)) ((x3 : Int) * 16777216) = ((x0 + 256 * x1 + 65536 * x2 + 16777216 * x3 : Nat) : Int) := by
  rw [show (x1 : Int) * 256 = ((256 * x1 : Nat) : Int) from by omega, show (x2 : Int) * 65536 = ((65536 * x2 : Nat) : Int) from by omega, show (x3 : Int) * 16777216 = ((16777216 * x3 : Nat) : Int) from by omega]
  rw [u64_or_nat _ _ (by omega) (by omega), Nat.or_comm, nat_join 8 _ _ (by omega) (by omega)]
  rw [u64_or_nat _ _ (by omega) (by omega), Nat.or_comm, nat_join 16 _ _ (by omega) (by omega)]
  rw [u64_or_nat _ _ (by omega) (by omega), Nat.or_comm, nat_join 24 _ _ (by omega) (by omega)]
  omega

set_option maxRecDepth 100000 in
set_option maxHeartbeats 1000000 in
theorem fwhole_any (A : Option Addr) (n c : Nat) (l : List UInt8) (w : World) (hr : RdB w w.heap.size A n l) (hn : n ≤ 140737488355328) (hc : n ≤ c) :
    Calls Try.prog 30 #[.slice A n c] w (Wholed w (wholeB l)) := by
  have HL : Hid (l.length = n) := hr.len
  by_cases h10 : n < 10
  · have HW : Hid (wholeB l = none) := whole_short (by rw [HL.out]; exact h10)
    go_enter Try.func30, Try.ntmps30
    go_wp2_with fail
    go_ret2
    exact wholed_none HW.out OwnB.nil (Below.refl _ _)
  · obtain ⟨b, off, rfl, hbB, c0⟩ := hr.at_ (k := 0) (by omega)
    have c1 := hr.cell (k := 1) (by omega)
    have c2 := hr.cell (k := 2) (by omega)
    have c3 := hr.cell (k := 3) (by omega)
    have hx0 := (l[0]?.getD 0).toNat_lt
    have hx1 := (l[1]?.getD 0).toNat_lt
    have hx2 := (l[2]?.getD 0).toNat_lt
    have hx3 := (l[3]?.getD 0).toNat_lt
    obtain ⟨v, hv⟩ : ∃ v, Hid (v = v4 l) := ⟨_, rfl⟩
    have hv4 : v = (l[0]?.getD 0).toNat + 256 * (l[1]?.getD 0).toNat + 65536 * (l[2]?.getD 0).toNat + 16777216 * (l[3]?.getD 0).toNat := hv.out
    generalize (l[0]?.getD 0).toNat = x0 at *
    generalize (l[1]?.getD 0).toNat = x1 at *
    generalize (l[2]?.getD 0).toNat = x2 at *
    generalize (l[3]?.getD 0).toNat = x3 at *
    have HV := Lib.hid hv4
    clear hv4
    rw [Nat.add_zero] at c0
    by_cases hm : 4194304 < v
    · have HW : Hid (wholeB l = none) := by show _ = _; unfold wholeB; rw [HL.out, if_neg h10, ← hv.out, if_pos (.inl hm)]
      go_enter Try.func30, Try.ntmps30
      go_wp2_with fail
      go_quiet (fail)
      go_upto_region 4 with (fail)
      rw [or4 hx0 hx1 hx2 hx3, ← HV.out]
      go_wp2_with fail
      go_ret2
      exact wholed_none HW.out OwnB.nil (below_drewN (Below.refl _ _) _)
    · by_cases hm2 : n - 10 < v
      · have HW : Hid (wholeB l = none) := by show _ = _; unfold wholeB; rw [HL.out, if_neg h10, ← hv.out, if_pos (.inr hm2)]
        go_enter Try.func30, Try.ntmps30
        go_wp2_with fail
        go_quiet (fail)
        go_upto_region 4 with (fail)
        rw [or4 hx0 hx1 hx2 hx3, ← HV.out]
        go_wp2_with fail
        go_ret2
        exact wholed_none HW.out OwnB.nil (below_drewN (Below.refl _ _) _)
      · have hsl := (hr.upto (k := 10 + v) (by omega)).from (k := 4) (cap := c) (by omega) (by omega)
        rw [if_neg (by omega)] at hsl
        have hdt : (l.take (10 + v)).drop 4 = (l.drop 4).take (6 + v) := by rw [List.drop_take]; congr 1; omega
        rw [hdt] at hsl
        clear hdt
        have hw : wholeB l = if (unsealB ((l.drop 4).take (6 + v))).2 = 0 then some (unsealB ((l.drop 4).take (6 + v))).1 else none := by
          unfold wholeB; rw [HL.out, if_neg h10, ← hv.out, if_neg (by omega)]
        obtain ⟨L, hL⟩ : ∃ L, Hid ((l.drop 4).take (6 + v) = L) := ⟨_, rfl⟩
        rw [hL.out] at hsl hw
        have H1 := Lib.hid fun nq => unseal_any (some ⟨b, off + 4, none⟩) (10 + v - 4) (c - 4) L (w.drewN nq) hsl (by omega) (by omega)
        have hnil : (unsealB L).2 ≠ 0 → (unsealB L).1 = [] := by
          intro h
          unfold unsealB at h ⊢
          split
          · rfl
          · rename_i c
            rw [if_neg c] at h
            split
            · rename_i c2; rw [if_pos c2] at h; exact absurd rfl h
            · rfl
        have hnil := Lib.hid hnil
        unfold Unsealed at H1
        obtain ⟨r, er, hre⟩ : ∃ r er, Hid (unsealB L = (r, er)) := ⟨_, _, rfl⟩
        rw [hre.out] at hnil hw
        simp only [hre.out] at H1
        clear hL
        by_cases h0 : er = 0
        · subst h0
          rw [if_pos rfl] at hw
          have HW := Lib.hid hw
          clear hw
          go_enter Try.func30, Try.ntmps30
          go_wp2_with fail
          go_quiet (fail)
          go_upto_region 4 with (fail)
          rw [or4 hx0 hx1 hx2 hx3, ← HV.out]
          go_wp2_with fail
          refine (H1.out _).mono ?_
          rintro e w1 ⟨A1, n1, c1, rfl, hown1, hb1⟩
          go_wp2_with fail
          go_ret2
          exact wholed_some HW.out hown1 (below_of_drewN hb1)
        · rw [if_neg h0] at hw
          have HW := Lib.hid hw
          clear hw
          have hrn : r = [] := hnil.out h0
          subst hrn
          have h0' : (er == 0) = false := beq_eq_false_iff_ne.2 h0
          clear h0
          go_enter Try.func30, Try.ntmps30
          go_wp2_with fail
          go_quiet (fail)
          go_upto_region 4 with (fail)
          rw [or4 hx0 hx1 hx2 hx3, ← HV.out]
          go_wp2_with fail
          refine (H1.out _).mono ?_
          rintro e w1 ⟨A1, n1, c1, rfl, hown1, hb1⟩
          go_wp2_with fail
          go_ret2
          exact wholed_none HW.out hown1 (below_of_drewN hb1)

end Go.Proofs.Ytkpckmdakiminaa
