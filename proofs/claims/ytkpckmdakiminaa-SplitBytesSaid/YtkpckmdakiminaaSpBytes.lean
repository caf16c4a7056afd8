/-
  The walk of SplitBytes: of one byte as the separator the records are what stands between.
-/
import Derived.Test.YtkpckmdakiminaaAll
import Derived.Test.YtkpckmdakiminaaRecsLaw
import Derived.Test.YtkpckmdakiminaaSpKnown
import Derived.Test.YtkpckmdakiminaaRefList
import Derived.Test.YtkpckmdakiminaaPick
namespace Go.Proofs.Ytkpckmdakiminaa
open Go.RowKit

def curOf (L : List UInt8) (f i : Nat) : List UInt8 := (L.drop f).take (i - f)
theorem curOf_next {L : List UInt8} {f i : Nat} {x : UInt8} (hf : f ≤ i) (hx : L[i]? = some x) : curOf L f (i + 1) = curOf L f i ++ [x] := by
  unfold curOf
  obtain ⟨hl, e⟩ := List.getElem?_eq_some_iff.1 hx
  have h1 : (L.drop f)[i - f]? = some x := by rw [List.getElem?_drop, show f + (i - f) = i from by omega]; exact hx
  obtain ⟨h2, h3⟩ := List.getElem?_eq_some_iff.1 h1
  rw [show i + 1 - f = (i - f) + 1 from by omega, List.take_succ_eq_append_getElem h2, h3]
theorem curOf_self (L : List UInt8) (i : Nat) : curOf L i i = [] := by unfold curOf; simp
theorem curOf_cut {L : List UInt8} {f i m e : Nat} (_hf : f ≤ i) (he : e = if i < f + m then i else f + m) : (L.take e).drop f = (curOf L f i).take m := by
  unfold curOf
  rw [List.drop_take, List.take_take]
  congr 1
  subst he
  split <;> omega
theorem recs_step {d x : UInt8} {m i : Nat} {L cur : List UInt8} (hx : L[i]? = some x) : recs d m cur (L.drop i) = if x = d then cur.take m :: recs d m [] (L.drop (i + 1)) else recs d m (cur ++ [x]) (L.drop (i + 1)) := by
  obtain ⟨hl, e⟩ := List.getElem?_eq_some_iff.1 hx
  rw [List.drop_eq_getElem_cons hl, e, recs]

set_option maxRecDepth 100000 in
set_option maxHeartbeats 4000000 in
theorem spBytes_any (most : Int) (A : Option Addr) (n c : Nat) (l : List UInt8) (rs : UInt8) (w : World) (hr : RdB w w.heap.size A n l) (hc : n ≤ c) (hn : n ≤ 9223372036854775807) :
    Calls Try.prog 8 #[.int .i64 most, .slice A n c, .int .u8 (rs.toNat : Int)] w fun e w' => e = .returned (.bool true) ∧ Below w.heap.size w w' := by
  obtain ⟨k, hk, hk12⟩ := pick_nat most 12 (by decide)
  have hk12 : k < 12 := by omega
  obtain ⟨m, hmk⟩ : ∃ m : Nat, m = 1 + k := ⟨_, rfl⟩
  have hm1 : 1 ≤ m := by omega
  have hm2 : m ≤ 12 := by omega
  obtain ⟨p, hp1, hp2, hmin⟩ : ∃ p : Nat, p ≤ 300 ∧ p ≤ n ∧ (p = n ∧ (n : Int) ≤ 300 ∨ p = 300 ∧ ¬ (n : Int) ≤ 300) := by
    by_cases h : n ≤ 300
    · exact ⟨n, by omega, by omega, .inl ⟨rfl, by omega⟩⟩
    · exact ⟨300, by omega, by omega, .inr ⟨rfl, by omega⟩⟩
  have hrp := hr.upto hp2
  obtain ⟨L, hL⟩ : ∃ L, Hid (l.take p = L) := ⟨_, rfl⟩
  rw [hL.out] at hrp
  clear hL
  have hmi : (1 : Int) + (k : Int) = (m : Int) := by omega
  have HM := Lib.hid hmi
  have HMK := Lib.hid hmk
  clear hmi hmk
  go_enter Try.func8, Try.ntmps8
  go_upto_region 1 with fail
  go_cut [0] (fun s0 wx => s0 = .int .i64 (m : Int) ∧ wx = w)
  case first =>
    go_wp2_with fail
    refine (pick_at most 12 k w (by decide) (by decide) hk).mono ?_
    rintro e w' ⟨rfl, rfl⟩
    go_wp2_with fail
    go_meet
    exact ⟨by rw [← HM.out], rfl⟩
  case rest =>
    obtain ⟨rfl, hwc⟩ := hcut
    subst hwc
    go_upto_region 2 with fail
    go_cut [1] (fun s1 wx => s1 = .slice A p c ∧ wx = wc)
    case first =>
      rcases hmin with ⟨rfl, h3⟩ | ⟨rfl, h3⟩
      all_goals
        go_wp2_with fail
        go_meet
        exact ⟨rfl, rfl⟩
    case rest =>
      obtain ⟨rfl, hwc⟩ := hcut
      subst hwc
      clear hmin
      have ro := rd_one wc rs
      have k1 := run_str (c := 1) ro
      have HA := Lib.hid fun W h => all_any m hm1 (by omega) A p c L [rs] W h (by omega) (by omega)
      go_wp2_with fail
      refine (HA.out _ ((hrp.alloc (Nat.le_refl _) _).more (by simp))).mono ?_
      rintro e w2 ⟨Ax, nx, cx, rfl, hox, hnx, hbx⟩
      obtain ⟨W, hW⟩ : ∃ W, Hid (recs rs m [] L = W) := ⟨_, rfl⟩
      rw [show recsOf [rs] m L = W from (recsOf_one rs m hm1 L).trans hW.out] at hox
      have hbx : Below wc.heap.size wc w2 := ((Below.refl _ _).alloc (Nat.le_refl _) _).trans (hbx.mono (by simp))
      have hz2 : wc.heap.size ≤ w2.heap.size := hbx.size
      clear k1 ro
      go_wp2_with fail
      go_loopw [9, 10, 11] (fun v9 v10 v11 wr => ∃ (f i n9 c9 : Nat) (A9 : Option Addr) (ss : List (List UInt8)), v9 = .slice A9 n9 c9 ∧ v10 = .int .i64 (f : Int) ∧ v11 = .int .i64 (i : Int) ∧ f ≤ i ∧ i ≤ p ∧ n9 ≤ i ∧ OwnS wr w2.heap.size A9 n9 c9 ss ∧ Hid (ss ++ recs rs m (curOf L f i) (L.drop i) = W) ∧ Below w2.heap.size w2 wr) (fun _ _ i _ => p - (intOf i).toNat)
      case atStart => exact ⟨0, 0, 0, 0, none, [], rfl, rfl, rfl, by omega, by omega, by omega, OwnS.nil, by rw [curOf_self]; exact hW, Below.refl _ _⟩
      case round =>
        obtain ⟨f, i, n9, c9, A9, ss, rfl, rfl, rfl, hfi, hip, hni, hown, hinv, hbw⟩ := hrel
        have hsz := hbw.size
        have hrw : RdB wr wc.heap.size A p L := (hrp.below hbx).below (hbw.mono hz2)
        obtain ⟨e, he, hec⟩ : ∃ e : Nat, e = (if i < f + m then i else f + m) ∧ (e = i ∧ (i : Int) ≤ (f : Int) + (m : Int) ∨ e = f + m ∧ ¬ (i : Int) ≤ (f : Int) + (m : Int)) := by
          by_cases h : i < f + m
          · exact ⟨i, by rw [if_pos h], by omega⟩
          · exact ⟨f + m, by rw [if_neg h], by omega⟩
        have hct := curOf_cut (L := L) hfi he
        have hfe : f ≤ e := by omega
        have hep : e ≤ p := by omega
        obtain ⟨A3, hsl, hrd⟩ := slice_lh A p c f e hfe hep (by omega)
        have hrd3 := hrd wr wc.heap.size L hrw
        rw [← List.drop_take, hct] at hrd3
        obtain ⟨q, hq⟩ : ∃ q, Hid (e - f = q) := ⟨_, rfl⟩
        rw [hq.out] at hrd3
        simp only [hq.out] at hsl
        have k3 := run_str (c := c - f) hrd3
        obtain ⟨Y, hY⟩ : ∃ Y, Hid ((curOf L f i).take m = Y) := ⟨_, rfl⟩
        rw [hY.out] at k3 hrd3
        clear hct hrd he
        by_cases hlt : i < p
        · have hlti : (i : Int) < (p : Int) := by omega
          have hl9 : i < L.length := by rw [hrw.len]; exact hlt
          obtain ⟨x, hx⟩ : ∃ x, L[i]? = some x := ⟨_, List.getElem?_eq_getElem hl9⟩
          obtain ⟨b, off, rfl, hb, hcx⟩ := hrw.at_ hlt
          rw [hx] at hcx
          have hcx : wr.cell? ⟨b, off + i, none⟩ = some (.int .u8 (x.toNat : Int)) := hcx
          have HX := Lib.hid (recs_step (d := rs) (m := m) (cur := curOf L f i) hx)
          have HN := Lib.hid (curOf_next (x := x) hfi hx)
          clear hx
          by_cases hxd : x = rs
          · have hxe := byte_eq hxd
            have hi2 : Hid ((ss ++ [Y]) ++ recs rs m (curOf L (i + 1) (i + 1)) (L.drop (i + 1)) = W) := by
              have := hinv.out
              rw [HX.out, if_pos hxd, hY.out] at this
              rw [curOf_self, List.append_assoc]; exact this
            clear hxd hinv
            go_upto_region 10 with fail
            go_cut [9] from 29 to 54 (fun s9 wx => ∃ (c4 : Nat) (A4 : Option Addr), s9 = .slice A4 (n9 + 1) c4 ∧ OwnS wx w2.heap.size A4 (n9 + 1) c4 (ss ++ [Y]) ∧ Below w2.heap.size w2 wx)
            case first =>
              rcases hec with ⟨rfl, h3⟩ | ⟨rfl, h3⟩
              all_goals
                go_wp2_with (at_builtin; go_loud (refine wpList_append_s _ rfl (.tmp 41) (.tmp 51) rfl w2.heap.size A9 n9 c9 ss rfl (hown.alloc _) Y _ _ rfl (reads_s wr Y _) (by omega) (by simp; omega) ?_); intro A4 n4 c4 w4 hn4 hown4 hg4)
                go_meet
                subst hn4
                exact ⟨c4, A4, rfl, hown4, (hbw.alloc hsz _).grown hg4 (by simp; omega) (fun k hk => (hown.lt k hk).1)⟩
            case rest =>
              obtain ⟨c4, A4, rfl, hown4, hbw4⟩ := hcut
              clear k3 hrd3 hsl hec
              go_wp2_with fail
              go_roundw
              case rel => exact ⟨i + 1, i + 1, n9 + 1, c4, A4, _, rfl, by go_num, by go_num, by omega, by omega, by omega, hown4, hi2, hbw4⟩
              case measure => simp [intOf]; omega
          · have hxe := byte_ne hxd
            have hi2 : Hid (ss ++ recs rs m (curOf L f (i + 1)) (L.drop (i + 1)) = W) := by
              have := hinv.out
              rw [HX.out, if_neg hxd] at this
              show _ = _
              rw [HN.out]; exact this
            clear hxd hinv k3 hrd3 hsl hec
            go_wp2_with fail
            go_roundw
            case rel => exact ⟨f, i + 1, n9, c9, A9, ss, rfl, rfl, by go_num, by omega, by omega, by omega, hown, hi2, hbw⟩
            case measure => simp [intOf]; omega
        · obtain rfl : i = p := by omega
          have hd0 : L.drop i = [] := List.drop_eq_nil_of_le (by rw [hrw.len]; exact Nat.le_refl _)
          have hcl : (curOf L f i).length = i - f := by unfold curOf; rw [List.length_take, List.length_drop, hrw.len]; omega
          have HI := Lib.hid hinv.out
          rw [hd0, recs] at HI
          have hcl := Lib.hid hcl
          clear hinv hd0
          go_upto_if 58 with (fail)
          go_cut [9] (fun s9 wx => ∃ (n4 c4 : Nat) (A4 : Option Addr), s9 = .slice A4 n4 c4 ∧ OwnS wx w2.heap.size A4 n4 c4 W ∧ n4 ≤ i + 1 ∧ Below w2.heap.size w2 wx)
          case first =>
            by_cases hfp : f < i
            · have hfpi : (f : Int) < (i : Int) := by omega
              have hW2 : Hid (ss ++ [Y] = W) := by
                have := HI.out
                rw [if_neg (fun e0 => by have h9 := hcl.out; rw [e0] at h9; simp at h9; omega), hY.out] at this
                exact this
              clear HI
              rcases hec with ⟨rfl, h3⟩ | ⟨rfl, h3⟩
              all_goals
                go_wp2_with (at_builtin; go_loud (refine wpList_append_s _ rfl (.tmp 59) (.tmp 70) rfl w2.heap.size A9 n9 c9 ss rfl (hown.alloc _) Y _ _ rfl (reads_s wr Y _) (by omega) (by simp; omega) ?_); intro A4 n4 c4 w4 hn4 hown4 hg4)
                go_meet
                subst hn4
                exact ⟨_, c4, A4, rfl, by rw [← hW2.out]; exact hown4, by omega, (hbw.alloc hsz _).grown hg4 (by simp; omega) (fun k hk => (hown.lt k hk).1)⟩
            · have hfpi : ¬ (f : Int) < (i : Int) := by omega
              have hW2 : Hid (ss = W) := by
                have := HI.out
                rw [if_pos (List.eq_nil_of_length_eq_zero (by rw [hcl.out]; omega)), List.append_nil] at this
                exact this
              clear HI k3 hrd3 hsl hec
              go_wp2_with fail
              go_meet
              exact ⟨_, c9, A9, rfl, by rw [← hW2.out]; exact hown, by omega, hbw⟩
          case rest =>
            obtain ⟨n4, c4, A4, rfl, hown4, hn4, hbw4⟩ := hcut
            clear k3 hrd3 hsl hec HI
            have hz4 := hbw4.size
            obtain rfl : n4 = nx := by rw [← hown4.len, hox.len]
            have q1 := (hox.rd.below hbw4).more hz4
            have q2 := hown4.rd
            go_wp2_with fail
            refine (spk_any _).mono ?_
            rintro e5 w5 ⟨rfl, hb5⟩
            have hz5 := hb5.size
            go_wp2_with fail
            refine (strs_same w5 _ Ax A4 _ cx c4 W (q1.below hb5) (q2.below hb5) hz5 (by omega)).mono ?_
            rintro e6 w6 ⟨rfl, hb6⟩
            go_wp2_with fail
            go_ret
            exact ⟨rfl, ((hbx.trans (hbw4.mono hz2)).trans (hb5.mono (by omega))).trans (hb6.mono (by omega))⟩

end Go.Proofs.Ytkpckmdakiminaa
