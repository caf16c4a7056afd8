/-
  The walk of SplitPieces.
-/
import Derived.Test.YtkpckmdakiminaaDoorAllCut
import Derived.Test.YtkpckmdakiminaaDoorSeps
import Derived.Test.YtkpckmdakiminaaDoorSpk
import Derived.Test.YtkpckmdakiminaaDoorBytesW
namespace Go.Proofs.YtkpckmdakiminaaDoor
open Go.RowKit

set_option maxRecDepth 100000 in
set_option maxHeartbeats 2000000 in
theorem spPieces_any (most : Int) (A : Option Addr) (n c : Nat) (l : List UInt8) (Ak : Option Addr) (nk ck : Nat) (ks : List Int) (rs : Int) (near : Bool) (w : World) (hr : RdB w w.heap.size A n l) (hc : n ≤ c) (hn : n ≤ 9223372036854775807)
    (hk : RdI w w.heap.size Ak nk ks) (hck : nk ≤ ck) (hnk : nk ≤ 9223372036854775807) (hS : SepsAt w) :
    Calls Tryd.prog 3 #[.int .i64 most, .slice A n c, .slice Ak nk ck, .int .i64 rs, .bool near] w fun e w' => e = .returned (.bool true) ∧ Below w.heap.size w w' := by
  obtain ⟨k, hkk, hk12⟩ := pick_nat most 12 (by decide)
  have hk12 : k < 12 := by omega
  obtain ⟨m, hmk⟩ : ∃ m : Nat, m = 1 + k := ⟨_, rfl⟩
  have hm1 : 1 ≤ m := by omega
  have hm2 : m ≤ 200 := by omega
  obtain ⟨t, ht, ht5⟩ := pick_nat rs 5 (by decide)
  have ht5 : t < 5 := by omega
  have ht5i : (t : Int) < 5 := by omega
  obtain ⟨p, hp1, hp2, hmin⟩ : ∃ p : Nat, p ≤ 300 ∧ p ≤ n ∧ (p = n ∧ (n : Int) ≤ 300 ∨ p = 300 ∧ ¬ (n : Int) ≤ 300) := by
    by_cases h : n ≤ 300
    · exact ⟨n, by omega, by omega, .inl ⟨rfl, by omega⟩⟩
    · exact ⟨300, by omega, by omega, .inr ⟨rfl, by omega⟩⟩
  obtain ⟨pk, hpk1, hpk2, hmink⟩ : ∃ p : Nat, p ≤ 40 ∧ p ≤ nk ∧ (p = nk ∧ (nk : Int) ≤ 40 ∨ p = 40 ∧ ¬ (nk : Int) ≤ 40) := by
    by_cases h : nk ≤ 40
    · exact ⟨nk, by omega, by omega, .inl ⟨rfl, by omega⟩⟩
    · exact ⟨40, by omega, by omega, .inr ⟨rfl, by omega⟩⟩
  have hrp := hr.upto hp2
  have hkp := hk.upto hpk2
  clear hr hk
  have hmi : (1 : Int) + (k : Int) = (m : Int) := by omega
  have HM := Lib.hid hmi
  have HMK := Lib.hid hmk
  clear hmi hmk
  go_enter Tryd.func3, Tryd.ntmps3
  go_upto_region 1 with fail
  go_cut [0] (fun s0 wx => s0 = .int .i64 (m : Int) ∧ wx = w)
  case first =>
    go_wp2_with fail
    refine (pick_at most 12 k w (by decide) (by decide) hkk).mono ?_
    rintro e w' ⟨rfl, rfl⟩
    go_wp2_with fail
    go_meet
    exact ⟨by rw [← HM.out], rfl⟩
  case rest =>
    obtain ⟨rfl, hwc⟩ := hcut
    subst hwc
    go_upto_region 2 with fail
    go_cut [1] (fun s1 wx => s1 = .slice A p c ∧ wx = wc)
    case first =>
      rcases hmin with ⟨rfl, h3⟩ | ⟨rfl, h3⟩
      all_goals
        go_wp2_with fail
        go_meet
        exact ⟨rfl, rfl⟩
    case rest =>
      obtain ⟨rfl, hwc⟩ := hcut
      subst hwc
      clear hmin
      have HB := Lib.hid (bytesW_any A p c _ wc hrp (by omega))
      go_upto_if 24 with (fail)
      go_cut [1] (fun s1 wx => ∃ A1 c1 L, s1 = .slice A1 p c1 ∧ RdB wx wx.heap.size A1 p L ∧ p ≤ c1 ∧ Below wc.heap.size wc wx)
      case first =>
        cases near with
        | false =>
          go_wp2_with fail
          go_meet
          exact ⟨A, c, _, rfl, hrp, by omega, Below.refl _ _⟩
        | true =>
          go_wp2_with fail
          refine HB.out.mono ?_
          rintro e w' ⟨A1, L, rfl, hL, hb⟩
          go_wp2_with fail
          go_meet
          exact ⟨A1, p, L, rfl, hL, by omega, hb⟩
      case rest =>
        obtain ⟨A1, c1, L, rfl, hL, hc1, hbx⟩ := hcut
        have hz1 := hbx.size
        have hS1 := hS.below hbx hS.lt
        obtain ⟨sep, hsep, hcs⟩ := hS1.at_ ht5
        have hkp1 := (hkp.below hbx).more hz1
        clear HB hrp hkp hsep hS
        obtain ⟨w0, hw0⟩ : ∃ w0 : World, wc = w0 := ⟨_, rfl⟩
        subst hw0
        go_wp2_with fail
        refine (pick_at rs 5 t _ (by decide) (by decide) ht).mono ?_
        rintro e w' ⟨rfl, rfl⟩
        go_wp2_with fail
        have HA := Lib.hid (allCut_any m hm1 hm2 A1 p c1 L sep none 0 0 [] wc hL hc1 (by omega) RdI.nil (by omega))
        have HA2 := Lib.hid fun W (h : RdB W W.heap.size A1 p L) (h2 : RdI W W.heap.size Ak pk (ks.take pk)) => allCut_any m hm1 hm2 A1 p c1 L sep Ak pk ck (ks.take pk) W h hc1 (by omega) h2 (by omega)
        obtain ⟨T, hT⟩ : ∃ T, Hid (recsOf sep m L = T) := ⟨_, rfl⟩
        rw [hT.out] at HA
        simp only [hT.out] at HA2
        refine HA.out.mono ?_
        rintro e w2 ⟨Ax, nx, cx, rfl, hox, hnx, hb2⟩
        have hz2 := hb2.size
        go_upto_region 7 with fail
        go_cut [14, 15] (fun s14 s15 wx => ∃ Ay ny cy, s14 = .slice Ay ny cy ∧ s15 = .bool true ∧ OwnS wx w2.heap.size Ay ny cy T ∧ Below w2.heap.size w2 wx)
        case first =>
          have HA3 := Lib.hid (HA2.out w2 ((hL.below hb2).more hz2) ((hkp1.below hb2).more hz2))
          clear HA HA2
          rcases hmink with ⟨rfl, h3⟩ | ⟨rfl, h3⟩
          all_goals
            go_wp2_with fail
            refine HA3.out.mono ?_
            rintro e w3 ⟨Ay, ny, cy, rfl, hoy, hny, hb3⟩
            go_wp2_with fail
            go_meet
            exact ⟨Ay, ny, cy, rfl, rfl, hoy, hb3⟩
        case rest =>
          obtain ⟨Ay, ny, cy, rfl, rfl, hoy, hb3⟩ := hcut
          clear HA HA2 hmink
          rename_i w3
          have hz3 := hb3.size
          obtain rfl : ny = nx := by rw [← hoy.len, hox.len]
          have q1 := (hox.rd.below hb3).more hz3
          have q2 := hoy.rd
          go_wp2_with fail
          refine (spk_any _).mono ?_
          rintro e5 w5 ⟨rfl, hb5⟩
          have hz5 := hb5.size
          go_wp2_with fail
          refine (strs_same w5 _ Ax Ay _ cx cy T (q1.below hb5) (q2.below hb5) hz5 (by omega)).mono ?_
          rintro e6 w6 ⟨rfl, hb6⟩
          go_wp2_with fail
          go_ret
          exact ⟨rfl, (((hbx.trans (hb2.mono hz1)).trans (hb3.mono (by omega))).trans (hb5.mono (by omega))).trans (hb6.mono (by omega))⟩

end Go.Proofs.YtkpckmdakiminaaDoor
