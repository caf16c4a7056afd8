/-
  The walk of PackTurned: it returns true and writes nothing that was there.
-/
import Derived.Test.YtbeaacchhaipjaaTurnedLaw
import Derived.Test.YtbeaacchhaipjaaKnown
import Derived.Test.YtbeaacchhaipjaaPick
import Derived.StillTailTactics
namespace Go.Proofs.Ytbeaacchhaipjaa
open Go.RowKit

theorem xor_bd (x : UInt8) (v : Nat) (h1 : 1 ≤ v) (h2 : v < 256) : 0 ≤ bits .xor .u8 (x.toNat : Int) (v : Int) ∧ bits .xor .u8 (x.toNat : Int) (v : Int) < 256 ∧ byt (bits .xor .u8 (x.toNat : Int) (v : Int)) ≠ x := by
  have hx := x.toNat_lt
  rw [u8_xor_nat _ _ hx h2]
  have hb : x.toNat ^^^ v < 2 ^ 8 := Nat.xor_lt_two_pow hx h2
  refine ⟨by omega, by omega, fun h => ?_⟩
  have h3 := congrArg UInt8.toNat h
  unfold byt at h3
  rw [Int.toNat_natCast, UInt8.toNat_ofNat', Nat.mod_eq_of_lt hb] at h3
  have h4 : x.toNat ^^^ (x.toNat ^^^ v) = 0 := by rw [h3, Nat.xor_self]
  rw [← Nat.xor_assoc, Nat.xor_self, Nat.zero_xor] at h4
  omega

set_option maxRecDepth 100000 in
set_option maxHeartbeats 1000000 in
theorem turned_any (A : Option Addr) (n c : Nat) (l : List UInt8) (at_ by_ : Int) (w : World) (hr : RdB w w.heap.size A n l) (hn : n ≤ 140737488351232) :
    Calls Try.prog 5 #[.slice A n c, .int .i64 at_, .int .i64 by_] w fun e w' => e = .returned (.bool true) ∧ Below w.heap.size w w' := by
  have HL : Hid (l.length = n) := hr.len
  obtain ⟨k, hk, hkn⟩ := pick_nat at_ ((n : Int) + 6) (by omega)
  obtain ⟨j, hj, hjn⟩ := pick_nat by_ 255 (by omega)
  go_enter Try.func5, Try.ntmps5
  go_wp2_with fail
  refine (seal_any A n c l w hr (by omega)).mono ?_
  rintro e w1 ⟨A1, n1, c1, rfl, hown1, hb1⟩
  have hn1 : n1 = n + 6 := by have := hown1.len; rw [sealB_len, HL.out] at this; omega
  subst hn1
  have hs1 := hb1.size
  have ht1 : ((((n + 6 : Nat) : Int)) != (n : Int) + 6) = false := by rw [bne_eq_false_iff_eq]; omega
  go_wp2_with fail
  refine (known_any _).mono ?_
  rintro e w2 ⟨rfl, hb2⟩
  have hs2 := hb2.size
  go_wp2_with fail
  refine (pick_at at_ ((n : Int) + 6) k _ (by omega) (by omega) hk).mono ?_
  rintro e w' ⟨rfl, rfl⟩
  have hown2 := hown1.below (hb2) (fun k hk => (hown1.lt k hk).2)
  obtain ⟨g, rfl, hbg, hgl, hcell, hfz, hst⟩ := hown2.store (k := k) (by omega)
  have hk0 : (0 : Int) ≤ (k : Int) := by omega
  have hkc : (k : Int) < ((n : Int) + 6) := by omega
  go_wp2_with fail
  refine wp_region_still_tail 12 (by kernel_rfl) (by kernel_rfl) ?_
  simp only [List.take_succ_cons, List.take_zero, List.drop_succ_cons, List.drop_zero]
  repeat still_step
  still_call ((pick_at by_ 255 j _ (by omega) (by omega) hj).mono fun _ _ h => ⟨h.1, h.2.symm⟩)
  repeat still_step
  refine wpStill_nil ?_
  change wpList _ _ _ _ _ w2.drew
  go_wp2_with fail
  have hx := xor_bd ((sealB l)[k]?.getD 0) (1 + j) (by omega) (by omega)
  rw [show ((1 + j : Nat) : Int) = 1 + (j : Int) from by omega] at hx
  obtain ⟨hown3, hg3⟩ := hst _ hx.1 hx.2.1
  have hb3 : Below w.heap.size w (w2.setCell ⟨g, k, none⟩ (.int .u8 (bits BinOp.xor IntKind.u8 (((sealB l)[k]?.getD 0).toNat : Int) (1 + (j : Int))))) := (hb1.trans (hb2.mono (by omega))).grown hg3 (by omega) (by intro g' e; injection e with e; omega)
  have hu := unseal_turned (l := l) (k := k) (by rw [HL.out]; omega) hx.2.2
  refine (unseal_any _ (n + 6) c1 _ _ hown3.drew.rd (by omega) hown3.cap).mono ?_
  rintro e w4 ⟨A4, n4, c4, rfl, hown4, hb4⟩
  rw [hu] at hown4
  rw [hu]
  have hn4 : n4 = 0 := by have := hown4.len; simp at this; omega
  subst hn4
  have hb5 : Below w.heap.size w w4 := hb3.trans ((below_of_drew hb4).mono hb3.size)
  go_wp2_with fail
  go_ret
  exact ⟨rfl, hb5⟩

end Go.Proofs.Ytbeaacchhaipjaa
