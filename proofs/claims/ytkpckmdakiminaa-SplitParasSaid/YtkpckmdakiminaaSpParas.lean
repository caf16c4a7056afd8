/-
  The walk of SplitParas.
-/
import Derived.Test.YtkpckmdakiminaaAll
import Derived.Test.YtkpckmdakiminaaParasLaw
import Derived.Test.YtkpckmdakiminaaSpKnown
import Derived.Test.YtkpckmdakiminaaBytesW
import Derived.Test.YtkpckmdakiminaaRefList
import Derived.IntWalk
import Derived.WalkSpells
namespace Go.Proofs.Ytkpckmdakiminaa
open Go.RowKit

theorem run_ix (x : List UInt8) (k : Nat) (y : UInt8) (h : x[k]? = some y) (K : IntKind) (W : World) : (Instr.index 9 (.string (bstr x)) (.int K (k : Int))).run Try.prog W = .ok (.int .u8 (y.toNat : Int)) W := by
  obtain ⟨hl, e⟩ := List.getElem?_eq_some_iff.1 h
  have hz : (bstr x).size = x.length := by show x.toArray.size = _; simp
  rw [run_index_string (h := Try.underlying9), dif_pos ⟨by omega, by rw [hz]; omega⟩]
  subst e
  rfl

theorem bstr_at {x : List UInt8} {k : Nat} {y : UInt8} (h : x[k]? = some y) {hk : k < (bstr x).size} : (bstr x)[k]'hk = y := by
  obtain ⟨hl, e⟩ := List.getElem?_eq_some_iff.1 h
  subst e
  rfl

theorem pre_split {R : List (List UInt8)} {j : Nat} {x : List UInt8} (h : R[j]? = some x) : R = R.take j ++ x :: R.drop (j + 1) := by
  obtain ⟨hl, e⟩ := List.getElem?_eq_some_iff.1 h
  rw [← e, ← List.drop_eq_getElem_cons hl, List.take_append_drop]
theorem pre_len {R : List (List UInt8)} {j k : Nat} {x : List UInt8} (h : R[j]? = some x) : (filt (R.take j).flatten ++ filt (x.take k)).length ≤ (filt R.flatten).length := by
  rw [← filt_append]
  refine List.Sublist.length_le (List.Sublist.filter _ ?_)
  conv => rhs; rw [pre_split h]
  rw [List.flatten_append, List.flatten_cons]
  exact List.Sublist.append_left ((List.take_sublist _ _).trans (List.sublist_append_left _ _)) _
theorem pre_next {R : List (List UInt8)} {j : Nat} {x : List UInt8} (h : R[j]? = some x) : filt (R.take (j + 1)).flatten = filt (R.take j).flatten ++ filt x := by
  obtain ⟨hl, e⟩ := List.getElem?_eq_some_iff.1 h
  rw [List.take_succ_eq_append_getElem hl, e, List.flatten_append, filt_append]
  simp
theorem filt_next {x : List UInt8} {k : Nat} {y : UInt8} (h : x[k]? = some y) : filt (x.take (k + 1)) = filt (x.take k) ++ filt [y] := by
  obtain ⟨hl, e⟩ := List.getElem?_eq_some_iff.1 h
  rw [List.take_succ_eq_append_getElem hl, e, filt_append]
theorem bstr_append (a b : List UInt8) : bstr a ++ bstr b = bstr (a ++ b) := by
  apply ByteArray.ext
  simp [bstr]
theorem bstr_one {x : List UInt8} {k : Nat} {y : UInt8} (h : x[k]? = some y) : (bstr x).extract k (k + 1) = bstr [y] := by
  obtain ⟨hl, e⟩ := List.getElem?_eq_some_iff.1 h
  apply ByteArray.ext
  rw [ByteArray.data_extract]
  apply Array.ext'
  simp only [bstr, Array.toList_extract, List.extract_eq_take_drop]
  rw [List.drop_eq_getElem_cons (by simpa using hl), show k + 1 - k = 1 from by omega, ← e]
  rfl

set_option maxRecDepth 100000 in
set_option maxHeartbeats 2000000 in
theorem spParas_any (A : Option Addr) (n c : Nat) (l : List UInt8) (w : World) (hr : RdB w w.heap.size A n l) (hc : n ≤ c) :
    Calls Try.prog 9 #[.slice A n c] w fun e w' => e = .returned (.bool true) ∧ Below w.heap.size w w' := by
  obtain ⟨p, hp1, hp2, hmin⟩ : ∃ p : Nat, p ≤ 200 ∧ p ≤ n ∧ (p = n ∧ (n : Int) ≤ 200 ∨ p = 200 ∧ ¬ (n : Int) ≤ 200) := by
    by_cases h : n ≤ 200
    · exact ⟨n, by omega, by omega, .inl ⟨rfl, by omega⟩⟩
    · exact ⟨200, by omega, by omega, .inr ⟨rfl, by omega⟩⟩
  have HB := Lib.hid (bytesW_any A p c _ w (hr.upto hp2) (by omega))
  clear hr
  go_enter Try.func9, Try.ntmps9
  go_upto_region 1 with fail
  go_cut [0] (fun s0 wx => ∃ A1 L, s0 = .slice A1 p p ∧ RdB wx wx.heap.size A1 p L ∧ Below w.heap.size w wx)
  case first =>
    rcases hmin with ⟨rfl, h3⟩ | ⟨rfl, h3⟩
    all_goals
      go_wp2_with fail
      refine HB.out.mono ?_
      rintro e w' ⟨A1, L, rfl, hL, hb⟩
      go_wp2_with fail
      go_meet
      exact ⟨A1, L, rfl, hL, hb⟩
  case rest =>
    obtain ⟨A1, L, rfl, hL, hbc⟩ := hcut
    clear hmin HB
    have HA := Lib.hid (all_any 200 (by decide) (by decide) A1 p p L [] wc hL (Nat.le_refl _) (by omega))
    have hLl := Lib.hid hL.len
    obtain ⟨R, hR⟩ : ∃ R, Hid (recsOf [] 200 L = R) := ⟨_, rfl⟩
    rw [hR.out] at HA
    have HP := Lib.hid (paras_all 200 L (by rw [hLl.out]; exact hp1) R hR.out)
    have HQ := Lib.hid (paras_most 200 L R hR.out)
    go_wp2_with fail
    refine HA.out.mono ?_
    rintro e w2 ⟨Ax, nx, cx, rfl, hox, hnx, hb2⟩
    have hz2 := hb2.size
    have hzc := hbc.size
    go_wp2_with fail
    refine (spk_any w2).mono ?_
    rintro e3 w3 ⟨rfl, hb3⟩
    have hz3 := hb3.size
    have hrx := (hox.rd.below hb3)
    have hrL := (hL.below hb2).below (hb3.mono hz2)
    go_wp2_with fail
    go_loopw [5, 6] (fun v i wr => ∃ j : Nat, j ≤ nx ∧ i = .int .i64 (j : Int) ∧ v = .string (bstr (filt (R.take j).flatten)) ∧ Below w3.heap.size w3 wr) (fun _ i _ => nx - (intOf i).toNat)
    case atStart => exact ⟨0, by omega, rfl, rfl, Below.refl _ _⟩
    case round =>
      obtain ⟨j, hj, rfl, rfl, hbw⟩ := hrel
      by_cases hlt : j < nx
      · obtain ⟨b, off, x, rfl, hb, hxx, hc1⟩ := (hrx.below (hbw.mono hz3)).at_ hlt
        have hg := (HP.out.1 x (List.mem_of_getElem? hxx))
        obtain ⟨g1, g2, g3⟩ := hg
        have hlx : 0 < x.length := List.length_pos_iff.2 g1
        obtain ⟨m, hm⟩ : ∃ m, m = x.length := ⟨_, rfl⟩
        obtain ⟨a0, ha0⟩ : ∃ a0, x[0]? = some a0 := ⟨_, List.getElem?_eq_getElem hlx⟩
        obtain ⟨a9, ha9⟩ : ∃ a9, x[m - 1]? = some a9 := ⟨_, List.getElem?_eq_getElem (by omega)⟩
        have hn0 : ¬ a0 = 10 := fun e => g2 (by rw [ha0, e])
        have hn9 : ¬ a9 = 10 := fun e => by
          obtain ⟨y, hy, _⟩ := g3 (m - 1) (by rw [ha9, e])
          have := (List.getElem?_eq_some_iff.1 hy).1
          omega
        have q0 : ∀ h, ((((bstr x)[0]'h).toNat : Int) == 10) = false := fun h => by rw [bstr_at ha0]; exact byte_ne (d := 10) hn0
        have q9 : ∀ h, ((((bstr x)[m - 1]'h).toNat : Int) == 10) = false := fun h => by rw [bstr_at ha9]; exact byte_ne (d := 10) hn9
        have e9 : ((m : Int) - 1).toNat = m - 1 := by omega
        have hz : (bstr x).size = m := by show x.toArray.size = _; rw [hm]; simp
        have he : ((bstr x).toList == []) = false := by rw [bstr_toList, beq_eq_false_iff_ne]; exact g1
        have hm1 : 0 < m := by omega
        have hji : (j : Int) < (nx : Int) := by omega
        have hm200 : m ≤ 200 := by rw [hm]; exact HQ.out x (List.mem_of_getElem? hxx)
        have hwm : IntKind.i64.wrap ((m : Int) - 1) = (m : Int) - 1 := IntWalk.i64_in _ (by omega)
        have hm2 : (0 : Int) ≤ (m : Int) - 1 := by omega
        have hm3 : (1 : Int) ≤ (m : Int) := by omega
        have hm4 : (m : Int) - 1 < (m : Int) := by omega
        have hm5 : m - 1 < m := by omega
        have G3 := Lib.hid g3
        have HM := Lib.hid hm
        have HXX := Lib.hid hxx
        clear hm hxx g1 g2 g3 ha0 ha9 hn0 hn9 hox hrx hlx
        have hlx2 : 0 < m := hm1
        go_wp2_with fail
        go_quiet (fail)
        clear q0 q9 he
        try clear hwm
        try clear e9
        go_wp2_with fail
        go_loop [5, 7] (fun v k9 => ∃ k : Nat, k ≤ m ∧ k9 = .int .i64 (k : Int) ∧ v = .string (bstr (filt (R.take j).flatten ++ filt (x.take k)))) (fun _ k9 => m - (intOf k9).toNat)
        case atStart => exact ⟨0, by omega, rfl, by simp [filt]⟩
        case round =>
          obtain ⟨k, hk, rfl, rfl⟩ := hrel
          obtain ⟨G, hG⟩ : ∃ G, Hid (filt (R.take j).flatten ++ filt (x.take k) = G) := ⟨_, rfl⟩
          have hGs : (bstr G).size ≤ 200 := by
            show G.toArray.size ≤ 200
            rw [List.size_toArray, ← hG.out]
            have h1 := pre_len (k := k) HXX.out
            rw [HP.out.2] at h1
            have h2 : (filt L).length ≤ L.length := List.length_filter_le _ _
            have h3 := hLl.out
            omega
          rw [hG.out]
          by_cases hkm : k < m
          · have hkmi : (k : Int) < (m : Int) := by omega
            obtain ⟨y, hy⟩ : ∃ y, x[k]? = some y := ⟨_, List.getElem?_eq_getElem (by rw [← HM.out]; exact hkm)⟩
            have HN := Lib.hid (filt_next hy)
            have k1 : (0 : Int) ≤ (k : Int) + 1 := by omega
            have k2 : ((k : Int) + 1).toNat = k + 1 := by omega
            have hxs : k + 1 ≤ m := by omega
            have hxs2 : (k : Int) + 1 ≤ (m : Int) := by omega
            by_cases hyd : y = 10
            · have q : ∀ h, ((((bstr x)[k]'h).toNat : Int) != 10) = false := fun h => by rw [bstr_at hy, hyd]; rfl
              obtain ⟨y2, hy2, hy3⟩ := G3.out k (by rw [hy, hyd])
              have q2 : ∀ h, ((((bstr x)[k + 1]'h).toNat : Int) == 10) = false := fun h => by rw [bstr_at hy2]; exact byte_ne (d := 10) hy3
              have hk1 : k + 1 < m := by have := (List.getElem?_eq_some_iff.1 hy2).1; rw [HM.out]; exact this
              have hk2 : (k : Int) + 1 < (m : Int) := by omega
              have HY := Lib.hid hy
              have HYD := Lib.hid hyd
              clear hy hyd hy2 hy3
              go_wp2_with fail
              go_round
              case rel => exact ⟨k + 1, by omega, by go_num, by rw [HN.out, HYD.out, filt_feed, List.append_nil, hG.out]⟩
              case measure => simp [intOf]; omega
            · have q : ∀ h, ((((bstr x)[k]'h).toNat : Int) != 10) = true := fun h => by rw [bstr_at hy]; have := byte_ne (d := 10) hyd; show (!_) = true; exact congrArg (!·) this
              have HY := Lib.hid hy
              have HYD := Lib.hid hyd
              clear hy hyd
              go_wp2_with fail
              go_round
              case rel => exact ⟨k + 1, by omega, by go_num, by rw [HN.out, filt_other HYD.out, ← List.append_assoc, hG.out, bstr_one HY.out, bstr_append]⟩
              case measure => simp [intOf]; omega
          · obtain rfl : k = m := by omega
            go_wp2_with fail
            go_roundw
            case rel => exact ⟨j + 1, by omega, by go_num, by rw [← hG.out, pre_next HXX.out, (List.take_of_length_le (by rw [← HM.out]; exact Nat.le_refl _) : x.take k = x)], below_drewN hbw _⟩
            case measure => simp [intOf]; omega
      · obtain rfl : j = nx := by omega
        have hRj : R.take j = R := List.take_of_length_le (by rw [hox.len]; exact Nat.le_refl _)
        rw [hRj, HP.out.2]
        clear hox hRj hrx
        have hrw := hrL.below (hbw.mono (by omega))
        go_wp2_with fail
        go_loop [8, 9] (fun v i => ∃ k : Nat, k ≤ p ∧ i = .int .i64 (k : Int) ∧ v = .string (bstr (filt (L.take k)))) (fun _ i => p - (intOf i).toNat)
        case atStart => exact ⟨0, by omega, rfl, rfl⟩
        case round =>
          obtain ⟨k, hk, rfl, rfl⟩ := hrel
          obtain ⟨G, hG⟩ : ∃ G, Hid (filt (L.take k) = G) := ⟨_, rfl⟩
          have hGs : (bstr G).size ≤ 200 := by
            show G.toArray.size ≤ 200
            rw [List.size_toArray, ← hG.out]
            have h2 : (filt (L.take k)).length ≤ (L.take k).length := List.length_filter_le _ _
            have h3 := List.length_take_le k L
            omega
          rw [hG.out]
          by_cases hkm : k < p
          · have hkmi : (k : Int) < (p : Int) := by omega
            obtain ⟨y, hy⟩ : ∃ y, L[k]? = some y := ⟨_, List.getElem?_eq_getElem (by rw [hLl.out]; exact hkm)⟩
            have HN := Lib.hid (filt_next hy)
            obtain ⟨A3, hsl, hrd⟩ := slice_lh A1 p p k (k + 1) (by omega) (by omega) (by omega)
            have hrd3 := hrd wr wc.heap.size L hrw
            have hone : (L.take (k + 1)).drop k = [y] := by
              obtain ⟨hl, e⟩ := List.getElem?_eq_some_iff.1 hy
              rw [List.take_succ_eq_append_getElem hl, e, List.drop_left' (by rw [List.length_take]; omega)]
            have hsl1 : ∀ W : World, (Instr.slice 23 (.slice A1 p p) (some (.int .i64 (k : Int))) (some (.int .i64 ((k : Int) + 1))) none).run Try.prog W = .ok (.slice A3 1 (p - k)) W := fun W => by
              have := hsl (k : Int) ((k : Int) + 1) W rfl (by omega)
              rwa [Nat.add_sub_cancel_left] at this
            rw [Nat.add_sub_cancel_left] at hrd3
            rw [List.drop_take, Nat.add_sub_cancel_left] at hone
            rw [hone] at hrd3
            have k3 := run_str (c := p - k) hrd3
            obtain ⟨b, off, rfl, hb, hcx⟩ := hrw.at_ hkm
            rw [hy] at hcx
            have hcx : wr.cell? ⟨b, off + k, none⟩ = some (.int .u8 (y.toNat : Int)) := hcx
            clear hsl hrd hone hrd3
            by_cases hyd : y = 10
            · have q : ((y.toNat : Int) != 10) = false := by rw [hyd]; rfl
              have HYD := Lib.hid hyd
              clear hy hyd
              go_wp2_with fail
              go_round
              case rel => exact ⟨k + 1, by omega, by go_num, by rw [HN.out, HYD.out, filt_feed, List.append_nil, hG.out]⟩
              case measure => simp [intOf]; omega
            · have q : ((y.toNat : Int) != 10) = true := by have := byte_ne (d := 10) hyd; show (!_) = true; exact congrArg (!·) this
              have HYD := Lib.hid hyd
              clear hy hyd
              have hone1 : ¬ 9223372036854775807 < (bstr G).size + (bstr [y]).size := by have : (bstr [y]).size = 1 := rfl; omega
              go_wp2_with fail
              go_round
              case rel => exact ⟨k + 1, by omega, by go_num, by rw [HN.out, filt_other HYD.out, hG.out, bstr_append]⟩
              case measure => simp [intOf]; omega
          · obtain rfl : k = p := by omega
            have hGL : G = filt L := by rw [← hG.out, List.take_of_length_le (by rw [hLl.out]; exact Nat.le_refl _)]
            have hss := seq_true hGL.symm
            clear hGL
            go_wp2_with fail
            go_ret
            exact ⟨rfl, ((hbc.trans (hb2.mono hzc)).trans (hb3.mono (by omega))).trans (hbw.mono (by omega))⟩

end Go.Proofs.Ytkpckmdakiminaa
