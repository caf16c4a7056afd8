/-
  The contract of law 7's all, of bytes that come in pieces.
-/
import Derived.Test.YtkpckmdakiminaaDoorAll
import Derived.Test.YtkpckmdakiminaaDoorPiecesLaw
import Derived.Test.YtkpckmdakiminaaDoorInts
import Derived.Test.YtkpckmdakiminaaDoorPick
import Derived.Deep.DeepCutAuto
namespace Go.Proofs.YtkpckmdakiminaaDoor
open Go.RowKit

/-- nothing more is told, but of bytes that come -/
def Told (rs : List UInt8) (N : Nat) (s : Sp) : Prop := drain rs (N + 1) s = ([], s)

set_option maxRecDepth 100000 in
set_option maxHeartbeats 4000000 in
theorem allCut_any (m : Nat) (hm1 : 1 ≤ m) (hm2 : m ≤ 200) (A : Option Addr) (n c : Nat) (l rs : List UInt8) (Ak : Option Addr) (nk ck : Nat) (ks : List Int) (w : World) (hr : RdB w w.heap.size A n l) (hc : n ≤ c) (hn : n ≤ 100000) (hk : RdI w w.heap.size Ak nk ks) (hnk : nk ≤ 100000) :
    Calls Tryd.prog 8 #[.int .i64 (m : Int), .slice A n c, .slice Ak nk ck, .string (bstr rs), .bool true] w fun e w' =>
      ∃ A' n' c', e = .returned (.tuple #[.slice A' n' c', .bool true]) ∧ OwnS w' w.heap.size A' n' c' (recsOf rs m l) ∧ n' ≤ n + 1 ∧ Below w.heap.size w w' := by
  have hl := hr.len
  obtain ⟨N, hN⟩ : ∃ N, Hid (N = n) := ⟨n, rfl⟩
  have hN9 : N ≤ 100000 := by rw [hN.out]; exact hn
  have hl : l.length = N := by rw [hN.out]; exact hl
  obtain ⟨D, dr⟩ : ∃ D, Hid (drain rs (N + 1) ((Sp.init m).feed l) = D) := ⟨_, rfl⟩
  obtain ⟨T, tt⟩ : ∃ T, Hid (recsOf rs m l = T) := ⟨_, rfl⟩
  have hT : Hid (D.1 ++ lasts rs (N + 2) D.2 = T) := by
    have := tt.out
    unfold recsOf at this
    rw [hl, dr.out] at this
    exact this
  rw [tt.out]
  clear tt
  have HL := Lib.hid hl
  clear hl
  go_enter Tryd.func8, Tryd.ntmps8
  go_wp2_with fail
  refine (new_any m hm1 hm2 w).mono ?_
  rintro e w1 ⟨g, rfl, hs1, hb1⟩
  have H1 : All w.heap.size w w1 g (Sp.init m) none 0 0 [] := ⟨hb1.size, hb1, OwnS.nil, _, _, hs1⟩
  have hr1 := hr.below hb1
  clear hs1 hr
  go_wp2_with fail
  go_loopw [1, 14, 15] (fun v1 v14 v15 wr => ∃ A1 n1 c1 y i s ss Ao no co, v1 = .slice A1 n1 c1 ∧ v14 = .slice Ao no co ∧ v15 = .int .i64 ((i : Nat) : Int) ∧ n1 ≤ c1 ∧ i ≤ nk + 1 ∧ RdB wr w.heap.size A1 n1 y ∧ All w.heap.size w wr g s Ao no co ss ∧
    Hid (ss ++ (drain rs (N + 1) (s.feed y)).1 = D.1 ∧ (drain rs (N + 1) (s.feed y)).2 = D.2) ∧ (i = 0 ∨ Hid (Told rs N s)) ∧ (i ≤ nk ∨ n1 = 0) ∧ no + s.size + n1 ≤ N) (fun v1 _ i _ => nk + 1 - (intOf i).toNat)
  case atStart => exact ⟨A, n, c, l, 0, Sp.init m, [], none, 0, 0, rfl, rfl, rfl, hc, by omega, hr1, H1, ⟨by rw [dr.out]; rfl, by rw [dr.out]⟩, .inl rfl, by omega, by rw [hN.out]; simp [Sp.init, Sp.size]⟩
  case round =>
    obtain ⟨A1, n1, c1, y, i, s, ss, Ao, no, co, rfl, rfl, rfl, hc1, hi, hry, HA, hinv, hfed, hend, hno⟩ := hrel
    have hik : Hid (RdI wr w.heap.size Ak nk ks) := (hk.below HA.2.1)
    by_cases hgo : 0 < n1 ∨ i = 0
    · go_upto_region 6 with fail
      go_cut [38] from 32 to 74 (fun v wx => v = .bool true ∧ wx = wr)
      case first =>
        rcases Nat.eq_zero_or_pos n1 with rfl | h01
        · obtain rfl : i = 0 := by omega
          go_wp2_with fail
          go_meet
          exact ⟨rfl, rfl⟩
        · have h02 : (0 : Int) < (n1 : Int) := by omega
          go_wp2_with fail
          go_meet
          exact ⟨rfl, rfl⟩
      case rest =>
        obtain ⟨rfl, hwc⟩ := hcut
        subst hwc
        go_upto_if 46 with (fail)
        go_cut [16] from 32 to 74 (fun v wx => ∃ q : Nat, v = .int .i64 (q : Int) ∧ q ≤ n1 ∧ (i < nk ∨ q = n1) ∧ wx = wc)
        case first =>
          by_cases hin : i < nk
          · obtain ⟨b, off, x, rfl, hb, hx, hcx⟩ := hik.out.at_ hin
            obtain ⟨q, hq, hq2⟩ := pick_nat x ((n1 : Int) + 1) (by omega)
            have hini : (i : Int) < (nk : Int) := by omega
            have hx := Lib.hid hx
            go_wp2_with fail
            refine (pick_at x ((n1 : Int) + 1) q _ (by omega) (by omega) hq).mono ?_
            rintro e w' ⟨rfl, rfl⟩
            go_wp2_with fail
            go_meet
            exact ⟨q, rfl, by omega, .inl hin, rfl⟩
          · have hini : ¬ (i : Int) < (nk : Int) := by omega
            go_wp2_with fail
            go_meet
            exact ⟨n1, rfl, Nat.le_refl _, .inr rfl, rfl⟩
        case rest =>
          obtain ⟨q, rfl, hq1, hqn, hwc⟩ := hcut
          subst hwc
          have hrz0 := s.rest_size
          have hyl : y.length = n1 := hry.len
          have HF := Lib.hid (HA.feed_ A1 q c1 (y.take q) w.heap.size (hry.upto hq1) (by omega))
          obtain ⟨A2, hsl, hrd⟩ := slice_l A1 n1 c1 q hq1 hc1
          have hry2 := hrd wc w.heap.size y hry
          have hB0 := HA.1
          have hA1 := HA.2.1
          have hyd : y.take q ++ y.drop q = y := List.take_append_drop _ _
          obtain ⟨E, hE⟩ : ∃ E, Hid (drain rs (N + 1) (s.feed (y.take q)) = E) := ⟨_, rfl⟩
          have hps := pieces_step rs (N := N) (s := s) (x := y.take q) (y := y.drop q) (by rw [hyd, hyl]; omega)
          have hpe := pieces_end rs (N := N) (s := s.feed (y.take q)) (by rw [Sp.feed_size, List.length_take]; omega)
          have hf : ∀ t : Sp, t.feed [] = t := fun t => by unfold Sp.feed; rw [List.append_nil]
          rw [hyd, hE.out] at hps
          rw [hE.out, hf] at hpe
          have hinv2 : Hid ((ss ++ E.1) ++ (drain rs (N + 1) (E.2.feed (y.drop q))).1 = D.1 ∧ (drain rs (N + 1) (E.2.feed (y.drop q))).2 = D.2) := by
            have := hinv.out
            rw [hps.1, hps.2] at this
            exact ⟨by rw [List.append_assoc]; exact this.1, this.2⟩
          have htold : Hid (Told rs N E.2) := hpe
          have hdl : (y.drop q).length = n1 - q := by rw [List.length_drop, hyl]
          have htl : (y.take q).length = q := by rw [List.length_take, hyl]; omega
          have hz0 : (s.feed (y.take q)).size = s.size + q := by rw [Sp.feed_size, htl]
          have hdl := Lib.hid hdl
          have hz0 := Lib.hid hz0
          clear hry hrd hyd hps hpe hf hinv hfed HA hyl htl
          go_wp2_with fail
          refine HF.out.mono ?_
          rintro e w2 ⟨rfl, HA2⟩
          have hry3 : RdB w2 w.heap.size A2 (n1 - q) (y.drop q) := hry2.keep fun p hp => (HA2.2.1.cell hp).trans (hA1.cell hp).symm
          go_wp2_with fail
          go_loopw [14] (fun v wr => ∃ s1 ss1 Ao no1 co, v = .slice Ao no1 co ∧ All w.heap.size w wr g s1 Ao no1 co ss1 ∧ Hid (ss1 ++ (drain rs (N + 1) s1).1 = ss ++ E.1 ∧ (drain rs (N + 1) s1).2 = E.2) ∧ no1 + s1.size ≤ no + s.size + q) (fun v _ => N - sliceLen v)
          case atStart => exact ⟨_, _, _, _, _, rfl, HA2, ⟨by rw [hE.out], by rw [hE.out]⟩, by rw [hz0.out]; omega⟩
          case round =>
            obtain ⟨s1, ss1, Ao, no1, co, rfl, HB, hinv, hno1⟩ := hrel
            have hrz := s1.rest_size
            cases hx : s1.next rs with
            | mk x s' =>
              cases x with
              | none =>
                have hle := (Sp.next_none hx).2
                have HN := HB.next_ (by omega) rs _ _ hx
                have hd := drain_none hx (k := N + 1) (by omega)
                have hfin : Hid (ss ++ E.1 = ss1 ∧ E.2 = s') := by
                  have := hinv.out
                  rw [hd] at this
                  obtain ⟨e1, e2⟩ := this
                  rw [List.append_nil] at e1
                  exact ⟨e1.symm, e2.symm⟩
                have HNh := Lib.hid HN
                clear HN hx hd hinv
                go_wp2_with fail
                refine HNh.out.mono ?_
                rintro e w3 ⟨rfl, HC⟩
                have hry4 : RdB w3 w.heap.size A2 (n1 - q) (y.drop q) := hry3.keep fun p hp => (HC.2.1.cell hp).trans (HA2.2.1.cell hp).symm
                go_wp2_with fail
                go_roundw
                case rel =>
                  refine ⟨A2, n1 - q, c1 - q, y.drop q, i + 1, s', ss1, Ao, no1, co, rfl, rfl, by go_num, by omega, by omega, hry4, HC, ?_, ?_, by omega, by omega⟩
                  · rw [← hfin.out.1, ← hfin.out.2]; exact hinv2
                  · rw [← hfin.out.2]; exact .inr htold
                case measure => simp [intOf]; omega
              | some r =>
                have hlt := (Sp.next_some hx).2
                have HN := HB.next_ (by omega) rs _ _ hx
                have hd := drain_some hx (k := N + 1) (by omega)
                have hinv3 : Hid ((ss1 ++ [r]) ++ (drain rs (N + 1) s').1 = ss ++ E.1 ∧ (drain rs (N + 1) s').2 = E.2) := by
                  have := hinv.out
                  rw [hd] at this
                  exact ⟨by rw [List.append_assoc]; exact this.1, this.2⟩
                have HNh := Lib.hid HN
                clear HN hx hd hinv
                go_wp2_with fail
                refine HNh.out.mono ?_
                rintro e w3 ⟨rfl, HC⟩
                have hB3 := HC.1
                go_wp2_with (at_builtin; go_loud (refine wpList_append_s _ rfl (.tmp 71) (.tmp 73) rfl w.heap.size Ao no1 co ss1 rfl (HC.2.2.1.alloc _) r _ _ rfl (reads_s w3 r _) (by omega) (by simp; omega) ?_); intro A9 n9 c9 w4 hn9 hown9 hg9)
                go_roundw
                case rel => exact ⟨s', ss1 ++ [r], A9, n9, c9, by rw [hn9], HC.grown hown9 hg9, hinv3, by omega⟩
                case measure => simp [sliceLen]; omega
    · have hn0 : n1 = 0 := by omega
      have hi0 : 0 < i := by omega
      subst hn0
      have hy0 : y = [] := List.eq_nil_of_length_eq_zero hry.len
      subst hy0
      have hi0i : ((i : Int) == 0) = false := beq_eq_false_iff_ne.2 (by omega)
      have hfin : Hid (ss = D.1 ∧ s = D.2) := by
        have h1 := hinv.out
        have hf : s.feed [] = s := by unfold Sp.feed; rw [List.append_nil]
        rcases hfed with h | h
        · omega
        · have h2 : drain rs (N + 1) s = ([], s) := h.out
          rw [hf, h2, List.append_nil] at h1
          exact h1
      have hT2 : Hid (ss ++ lasts rs (N + 2) s = T) := by
        have := hT.out
        rw [← hfin.out.1, ← hfin.out.2] at this
        exact this
      clear hinv hfed hfin hik
      go_wp2_with fail
      go_loopw [14] (fun v wr => ∃ s ss Ao no co, v = .slice Ao no co ∧ All w.heap.size w wr g s Ao no co ss ∧ Hid (ss ++ lasts rs (N + 2) s = T) ∧ no + s.size2 ≤ N + 1) (fun v _ => N + 1 - sliceLen v)
      case atStart => exact ⟨_, _, _, _, _, rfl, HA, hT2, by have := s.size_size2.2; omega⟩
      case round =>
        obtain ⟨s, ss, Ao, no, co, rfl, HB, hinv, hno⟩ := hrel
        have hrz := s.rest_size
        have hrz2 := s.size_size2.1
        cases hx : s.last rs with
        | mk x s' =>
          cases x with
          | none =>
            have HN := HB.last_ (by omega) rs _ _ hx
            have hfin : Hid (T = ss) := by
              have := hinv.out
              rw [lasts_none hx, List.append_nil] at this
              exact this.symm
            have HNh := Lib.hid HN
            clear HN hx hinv
            go_wp2_with fail
            refine HNh.out.mono ?_
            rintro e w3 ⟨rfl, HC⟩
            go_wp2_with fail
            go_ret2
            refine ⟨Ao, no, co, rfl, ?_, by have := hN.out; omega, HC.2.1⟩
            rw [hfin.out]; exact HC.2.2.1
          | some r =>
            have hlt := (Sp.last_some hx).2
            have HN := HB.last_ (by omega) rs _ _ hx
            have hinv2 : Hid ((ss ++ [r]) ++ lasts rs (N + 2) s' = T) := by
              have := hinv.out
              rw [lasts_some hx (by omega)] at this
              show _ = _
              rw [List.append_assoc]; exact this
            have HNh := Lib.hid HN
            clear HN hx hinv
            go_wp2_with fail
            refine HNh.out.mono ?_
            rintro e w3 ⟨rfl, HC⟩
            have hB3 := HC.1
            go_wp2_with (at_builtin; go_loud (refine wpList_append_s _ rfl (.tmp 84) (.tmp 86) rfl w.heap.size Ao no co ss rfl (HC.2.2.1.alloc _) r _ _ rfl (reads_s w3 r _) (by omega) (by simp; omega) ?_); intro A9 n9 c9 w4 hn9 hown9 hg9)
            go_roundw
            case rel => exact ⟨s', ss ++ [r], A9, n9, c9, by rw [hn9], HC.grown hown9 hg9, hinv2, by omega⟩
            case measure => simp [sliceLen]; omega

end Go.Proofs.YtkpckmdakiminaaDoor
