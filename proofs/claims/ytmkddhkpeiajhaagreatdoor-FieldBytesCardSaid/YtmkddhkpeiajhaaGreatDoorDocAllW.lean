import Derived.Test.YtmkddhkpeiajhaaGreatDoorByF
import Derived.Deep.CutBlock
import Derived.Deep.DeepCutAuto
namespace Go.Proofs.YtmkddhkpeiajhaaGreatDoor
open Go.RowKit
theorem lastNE_nil (a : Nat) : lastNE [] a = false := rfl
theorem lastNE_last {out : List (Nat × Nat)} {u : Nat × Nat} {n : Nat} (hn : out.length = n + 1) (hu : out[n]? = some u) (a : Nat) : lastNE out a = (decide (u.2 = a) && decide (u.1 < a)) := by
 unfold lastNE
 rw [List.getLast?_eq_getElem?, show out.length - 1 = n by omega, hu]
theorem allD_none {fd : Nat → Option (Nat × Nat)} {len f p : Nat} {out : List (Nat × Nat)} (hp : p ≤ len) (h : fd p = none) : allD fd len (f + 1) p out = out := by rw [allD, if_pos hp, h]
theorem allD_some {fd : Nat → Option (Nat × Nat)} {len f p : Nat} {out : List (Nat × Nat)} {u : Nat × Nat} (hp : p ≤ len) (h : fd p = some u) : allD fd len (f + 1) p out = if u.1 = u.2 ∧ lastNE out u.1 = true then allD fd len f (u.1 + 1) out else allD fd len f (if u.1 = u.2 then u.2 + 1 else u.2) (out ++ [u]) := by rw [allD, if_pos hp, h]
theorem allD_end {fd : Nat → Option (Nat × Nat)} {len f p : Nat} {out : List (Nat × Nat)} (hp : ¬ p ≤ len) : allD fd len (f + 1) p out = out := by rw [allD, if_neg hp]
set_option maxRecDepth 100000 in
set_option maxHeartbeats 8000000 in
theorem docAll_any (S : ByteArray) (hS : S.size ≤ 100000) (r : Rx) (hk : okR r) (lo : Nat → Prop) (k a b c d : Int) (A : Option Addr) (n cp : Nat) (w : World) (hC : ReC w lo (rxT r) ⟨k, a, b, c, d, A, n, cp⟩) :
  Calls Tryz.prog 60 #[.agg #[.int .i64 k, .int .u64 a, .int .u64 b, .int .u64 c, .int .u64 d, .slice A n cp], .string S] w fun e w' => ∃ A' n' c', e = .returned (.slice A' n' c') ∧ OwnQ w' w.heap.size A' n' c' (allM r S.data.toList) ∧ Later w w' := by
 have hlen : S.data.toList.length = S.size := rfl
 have hbd : ∀ lo, lo ≤ S.size → ∀ h, findF (machF r) S.data.toList lo S.size = some h → lo ≤ h.1 ∧ h.1 ≤ h.2 ∧ h.2 ≤ S.size := fun lo hlo u hu => by
  have hl := find_law r S.data.toList lo S.size hlo (Nat.le_refl _)
  rw [hu] at hl
  obtain ⟨h1, h2, h3, _⟩ := hl
  have := Mt.mono S.data.toList r h3 h2
  exact ⟨h1, this.1, this.2⟩
 have hT0 : allM r S.data.toList = allD (fun p => findF (machF r) S.data.toList p S.size) S.size (S.size + 2) 0 [] := by
  unfold allM
  exact allD_start _ _ _ hbd
 obtain ⟨T, hT⟩ : ∃ T, T = allM r S.data.toList := ⟨_, rfl⟩
 rw [← hT] at hT0 ⊢
 have HT0 := Lib.hid hT0.symm
 have HBD := Lib.hid hbd
 obtain ⟨W0, hW0⟩ : ∃ W0, W0 = w.alloc (.cells #[.int .i64 k, .int .u64 a, .int .u64 b, .int .u64 c, .int .u64 d, .slice A n cp] 98) := ⟨_, rfl⟩
 have B0 : Blk W0 w.heap.size 98 #[.int .i64 k, .int .u64 a, .int .u64 b, .int .u64 c, .int .u64 d, .slice A n cp] := by rw [hW0]; exact Blk.new w _ _
 have hl0 : Later w W0 := by rw [hW0]; exact (Later.refl w).alloc _
 have hC0 := hC.later hl0
 have HL := Lib.hid hl0
 have HC := Lib.hid hC0
 have HB0 := Lib.hid B0
 clear hT hT0 hbd hl0 hC hC0 B0 hlen
 go_enter Tryz.func60, Tryz.ntmps60
 go_upto_region 1 with fail
 rw [← hW0]
 clear hW0
 go_wp2_with fail
 go_loopw [5, 6] (fun s5 s6 wr => ∃ (f p : Nat) (A5 : Option Addr) (m q : Nat) (out : List (Nat × Nat)), s5 = .slice A5 m q ∧ s6 = .int .i64 (p : Int) ∧ OwnQ wr W0.heap.size A5 m q out ∧ Hid (allD (fun p => findF (machF r) S.data.toList p S.size) S.size f p out = T) ∧ S.size + 2 ≤ f + p ∧ p ≤ S.size + 1 ∧ m ≤ p ∧ Later W0 wr) (fun _ s6 _ => S.size + 2 - (intOf s6).toNat)
 case atStart => exact ⟨S.size + 2, 0, none, 0, 0, [], rfl, rfl, OwnQ.nil, HT0, by omega, by omega, Nat.le_refl _, Later.refl _⟩
 case round =>
  obtain ⟨f, p, A5, m, q, out, rfl, rfl, hown, HT, hf, hp, hm, hlr⟩ := hrel
  have HLR := Lib.hid hlr
  by_cases hle : p ≤ S.size
  ·have hlei : (p : Int) ≤ (S.size : Int) := by omega
   obtain ⟨f, rfl⟩ : ∃ f', f = f' + 1 := ⟨f - 1, by omega⟩
   have HA := Lib.hid (docFind_any S (by omega) r hk lo k a b c d A n cp p hle wr (HC.out.later hlr))
   obtain ⟨z0, z1, z2, z3, z4, z5, -⟩ := cells6 (blkL hlr HB0.out)
   obtain ⟨R, hR⟩ : ∃ R, Hid (findF (machF r) S.data.toList p S.size = R) := ⟨_, rfl⟩
   rw [hR.out] at HA
   cases R with
   | none =>
    have HTN : Hid (out = T) := (allD_none (fd := fun p => findF (machF r) S.data.toList p S.size) hle hR.out).symm.trans HT.out
    clear hlr HT
    go_wp2_with fail
    refine HA.out.mono ?_
    rintro e w1 ⟨he, hl1⟩
    obtain rfl : e = .returned (.tuple #[.int .i64 0, .int .i64 0, .bool false]) := he
    have HO := Lib.hid ((hown.later hl1).base_le HL.out.size)
    have HL1 : Hid (Later w w1) := HL.out.trans (HLR.out.trans hl1)
    clear hl1
    go_wp2_with fail
    go_ret
    exact ⟨A5, m, q, rfl, by rw [← HTN.out]; exact HO.out, HL1.out⟩
   | some u =>
    obtain ⟨x, y⟩ := u
    obtain ⟨hpx, hxy, hys⟩ := HBD.out p hle (x, y) hR.out
    have HTN : Hid ((if x = y ∧ lastNE out x = true then allD (fun p => findF (machF r) S.data.toList p S.size) S.size f (x + 1) out else allD (fun p => findF (machF r) S.data.toList p S.size) S.size f (if x = y then y + 1 else y) (out ++ [(x, y)])) = T) := (allD_some (fd := fun p => findF (machF r) S.data.toList p S.size) (u := (x, y)) hle hR.out).symm.trans HT.out
    have hpx : p ≤ x := hpx
    have hxy : x ≤ y := hxy
    have hys : y ≤ S.size := hys
    clear hlr HT
    go_wp2_with fail
    refine HA.out.mono ?_
    rintro e w1 ⟨he, hl1⟩
    obtain rfl : e = .returned (.tuple #[.int .i64 (x : Int), .int .i64 (y : Int), .bool true]) := he
    have hown := hown.later hl1
    have HLR : Hid (Later W0 w1) := HLR.out.trans hl1
    clear hl1 HA hR z0 z1 z2 z3 z4 z5
    go_upto_region 8 with fail
    go_cut [54] (fun v wx => v = .bool (decide (x = y) && lastNE out x) ∧ wx = w1)
    case first =>
     by_cases hxe : x = y
     ·subst hxe
      have hml := hown.1
      cases m with
      | zero =>
       obtain rfl : out = [] := List.length_eq_zero_iff.1 hml
       go_wp2_with fail
       go_meet
       exact ⟨by rw [lastNE_nil]; simp, rfl⟩
      | succ m =>
       obtain ⟨u, hu⟩ : ∃ u, out[m]? = some u := ⟨_, List.getElem?_eq_getElem (by omega)⟩
       obtain ⟨g, rfl, _, _, hc1, hc2⟩ := hown.at_ hu
       have hla := Lib.hid (lastNE_last hml hu x)
       have hm0 : (0 : Int) < ((m + 1 : Nat) : Int) := by omega
       have hm1 : ((m + 1 : Nat) : Int) - 1 = (m : Int) := by omega
       obtain ⟨u1, u2⟩ := u
       have hc1 : w1.cell? ⟨g, m * 2, none⟩ = some (.int .i64 (u1 : Int)) := hc1
       have hc2 : w1.cell? ⟨g, m * 2 + 1, none⟩ = some (.int .i64 (u2 : Int)) := hc2
       by_cases h2 : u2 = x
       ·subst h2
        by_cases h1 : u1 < u2
        ·have h1i : (u1 : Int) < (u2 : Int) := by omega
         go_wp2_with fail
         go_meet
         exact ⟨by rw [hla.out]; simp [h1], rfl⟩
        ·have h1i : ¬ (u1 : Int) < (u2 : Int) := by omega
         go_wp2_with fail
         go_meet
         exact ⟨by rw [hla.out]; simp [h1], rfl⟩
       ·have h2i : ((u2 : Int) == (x : Int)) = false := beq_eq_false_iff_ne.2 (by omega)
        go_wp2_with fail
        go_meet
        exact ⟨by rw [hla.out]; simp [h2], rfl⟩
     ·have hxi : ((x : Int) == (y : Int)) = false := beq_eq_false_iff_ne.2 (by omega)
      go_wp2_with fail
      go_meet
      exact ⟨by simp [hxe], rfl⟩
    case rest =>
     obtain ⟨rfl, hwc⟩ := hcut
     subst hwc
     cases hcs : (decide (x = y) && lastNE out x) with
     | true =>
      have h := HTN.out
      rw [Bool.and_eq_true, decide_eq_true_eq] at hcs
      rw [if_pos hcs] at h
      have HTM := Lib.hid h
      clear h HTN hcs
      go_wp2_with fail
      go_roundw
      case rel => exact ⟨f, x + 1, A5, m, q, out, rfl, by go_num, hown, HTM, by omega, by omega, by omega, HLR.out⟩
      case measure => first | (simp [intOf]; done) | (simp [intOf]; omega)
     | false =>
      have h := HTN.out
      rw [if_neg (by intro hh; rw [Bool.and_eq_false_iff] at hcs; rcases hcs with e | e; exact (of_decide_eq_false e) hh.1; rw [e] at hh; exact absurd hh.2 (by decide))] at h
      have hsz := HLR.out.size
      have hsz0 := HL.out.size
      by_cases hxe : x = y
      ·subst hxe
       rw [if_pos rfl] at h
       have HTM := Lib.hid h
       clear h HTN hcs
       go_wp2_with (at_builtin; refine wpList_append_q _ rfl (.tmp 57) (.tmp 61) rfl W0.heap.size A5 m q _ rfl (hown.later ((Later.refl _).alloc _)) (x, x) _ _ rfl (reads_pr _ x x) (by omega) (by simp; omega) ?_; intro A9 n9 c9 w9 hn9 hown9 hg9)
       have hl9 : Later W0 w9 := (HLR.out.alloc _).grown hg9 (fun k hk => (hown.lt hk).2)
       go_wp2_with fail
       go_roundw
       case rel => exact ⟨f, x + 1, A9, n9, c9, _, by rw [hn9], by go_num, hown9, HTM, by omega, by omega, by omega, hl9⟩
       case measure => first | (simp [intOf]; done) | (simp [intOf]; omega)
      ·rw [if_neg hxe] at h
       have HTM := Lib.hid h
       have hxi : ((x : Int) == (y : Int)) = false := beq_eq_false_iff_ne.2 (by omega)
       clear h HTN hcs
       go_wp2_with (at_builtin; refine wpList_append_q _ rfl (.tmp 57) (.tmp 61) rfl W0.heap.size A5 m q _ rfl (hown.later ((Later.refl _).alloc _)) (x, y) _ _ rfl (reads_pr _ x y) (by omega) (by simp; omega) ?_; intro A9 n9 c9 w9 hn9 hown9 hg9)
       have hl9 : Later W0 w9 := (HLR.out.alloc _).grown hg9 (fun k hk => (hown.lt hk).2)
       go_wp2_with fail
       go_roundw
       case rel => exact ⟨f, y, A9, n9, c9, _, by rw [hn9], rfl, hown9, HTM, by omega, by omega, by omega, hl9⟩
       case measure => first | (simp [intOf]; done) | (simp [intOf]; omega)
  ·have hlei : ¬ (p : Int) ≤ (S.size : Int) := by omega
   obtain rfl : p = S.size + 1 := by omega
   obtain ⟨f, rfl⟩ : ∃ f', f = f' + 1 := ⟨f - 1, by omega⟩
   have HTN : Hid (out = T) := (allD_end hle).symm.trans HT.out
   have HO := Lib.hid (hown.base_le HL.out.size)
   clear hlr HT
   go_wp2_with fail
   go_ret
   exact ⟨A5, m, q, rfl, by rw [← HTN.out]; exact HO.out, HL.out.trans HLR.out⟩
end Go.Proofs.YtmkddhkpeiajhaaGreatDoor
namespace Go.Proofs.YtmkddhkpeiajhaaGreatDoor
open Go.RowKit
def RetN (w : World) (ss : List (List UInt8)) (v : Value) (w' : World) : Prop :=
 ∃ A n c, v = .slice A n c ∧ RdZ w' w'.heap.size A n ss ∧ n ≤ c ∧ (∀ k, ob A = some k → w.heap.size ≤ k) ∧ Later w w'
theorem RetZ.n {w w' : World} {ss : List (List UInt8)} {v : Value} (h : RetZ w ss v w') : RetN w ss v w' := by
 obtain ⟨A, n, c, rfl, h1, h2⟩ := h
 exact ⟨A, n, c, rfl, h1.rd, h1.cap, fun k hk => (h1.lt k hk).1, h2⟩
theorem split_atn (c : UInt8) (L : List UInt8) (w : World) (hm : MaxL w) (hL : L.length ≤ 1000000) :
  Calls Tryz.prog 54 #[.string (bstr L), .string (bstr [c])] w fun e w' => ∃ v, e = .returned v ∧ RetN w (piecesC c L) v w' := by
 obtain ⟨m, hm⟩ := hm
 refine (Tryz.strings_Split (bstr L) (bstr [c]) m w (by show L.length < _; omega) hm (Nat.le_refl 1)).mono ?_
 rintro e w' ⟨rfl, rfl⟩
 refine ⟨_, rfl, _, _, _, rfl, ?_, Nat.le_refl _, fun k hk => by have e : w.heap.size = k := Option.some.inj hk; omega, (Later.refl w).alloc _⟩
 rw [split_cells, count_cells]
 have h := reads_cells w (piecesC c L) 9
 have hz : (w.alloc (.cells ((piecesC c L).map strCell).toArray 9)).heap.size = w.heap.size + 1 := by simp
 rw [← hz] at h
 exact h
set_option maxRecDepth 100000 in
set_option maxHeartbeats 4000000 in
theorem plain_atn (c : UInt8) (L : List UInt8) (w : World) (hm : MaxL w) (hL : L.length ≤ 1000000) (hn : L ≠ []) (h32 : c ≠ 32) (h92 : c ≠ 92) :
  Calls Tryz.prog 42 #[.string (bstr L), .string (bstr [c])] w fun e w' => ∃ v, e = .returned (.tuple #[v, .bool true]) ∧ RetN w (piecesC c L) v w' := by
 have hsp := fun (wx : World) (hl : Later w wx) => split_atn c L wx (hm.later hl) hL
 have e1 : (bstr L).toList.isEmpty = false := by rw [bstr_toList]; cases L with | nil => exact absurd rfl hn | cons _ _ => rfl
 have e2 : ((bstr [c]).toList == [32]) = false := by rw [bstr_toList]; simpa using h32
 have e3 : (bstr [c]).toList.isEmpty = false := by rw [bstr_toList]; rfl
 have e4 : ((bstr [c]).toList == [92]) = false := by rw [bstr_toList]; simpa using h92
 have e5 : (bstr [c]).size = 1 := rfl
 obtain ⟨S, hS⟩ : ∃ S, S = bstr L := ⟨_, rfl⟩
 obtain ⟨T, hT⟩ : ∃ T, T = bstr [c] := ⟨_, rfl⟩
 rw [← hS, ← hT] at hsp ⊢
 rw [← hS] at e1
 rw [← hT] at e2 e3 e4 e5
 have HSP := Lib.hid hsp
 clear hS hT hsp hn h32 h92 hm
 go_enter Tryz.func42, Tryz.ntmps42
 go_wp2_with fail
 refine (HSP.out _ (Later.refl _)).mono ?_
 rintro e w1 ⟨v, rfl, hv⟩
 have HV := Lib.hid hv
 clear hv
 go_wp2_with fail
 go_ret2
 exact ⟨v, rfl, HV.out⟩
set_option maxRecDepth 100000 in
set_option maxHeartbeats 8000000 in
theorem plain_charz (L : List UInt8) (w : World) (hL : L.length ≤ 1000000) (hn : L ≠ []) :
  Calls Tryz.prog 42 #[.string (bstr L), .string ⟨#[]⟩] w fun e w' => ∃ v, e = .returned (.tuple #[v, .bool true]) ∧ RetZ w (L.map fun c => [c]) v w' := by
 have e1 : (bstr L).toList.isEmpty = false := by rw [bstr_toList]; cases L with | nil => exact absurd rfl hn | cons _ _ => rfl
 have hsz : (bstr L).size = L.length := rfl
 clear hn
 go_enter Tryz.func42, Tryz.ntmps42
 go_wp2_with fail
 go_loopw [6, 21] (fun s6 s21 wr => ∃ (k : Nat) (A : Option Addr) (n c : Nat), k ≤ L.length ∧ s6 = .slice A n c ∧ s21 = .int .i64 (k : Int) ∧ OwnZ wr w.heap.size A n c ((L.take k).map fun c => [c]) ∧ Later w wr) (fun _ s21 _ => L.length - (intOf s21).toNat)
 case atStart => exact ⟨0, none, 0, 0, Nat.zero_le _, rfl, rfl, OwnZ.nil, Later.refl _⟩
 case round =>
  obtain ⟨k, A, n, c, hk, rfl, rfl, hown, hlr⟩ := hrel
  have hnl := hown.len
  rw [List.length_map, List.length_take] at hnl
  have HLR := Lib.hid hlr
  have hsw := hlr.size
  clear hlr
  by_cases hlt : k < L.length
  ·have hlti : (k : Int) < (L.length : Int) := by omega
   have hnb : n ≤ 1000000 := by omega
   obtain ⟨x, hx⟩ : ∃ x, L[k]? = some x := ⟨_, List.getElem?_eq_getElem hlt⟩
   have hex : ((bstr L).extract k (k + 1)).data.toList = [x] := by
    obtain ⟨h1, h2⟩ := List.getElem?_eq_some_iff.1 hx
    rw [Lib.extract_data, show k + 1 - k = 1 by omega]
    show (L.drop k).take 1 = [x]
    rw [List.drop_eq_getElem_cons h1, h2]
    rfl
   have hst : (L.take (k + 1)).map (fun c => [c]) = (L.take k).map (fun c => [c]) ++ [[x]] := by rw [List.take_add_one, hx, List.map_append]; rfl
   have HEX := Lib.hid hex
   have HST := Lib.hid hst
   clear hnl hex hst hx
   go_wp2_with (at_builtin; refine wpList_append_z _ rfl (.tmp 24) (.tmp 30) rfl w.heap.size A n c _ rfl (hown.later ((Later.refl _).alloc _)) _ _ _ rfl (reads_b _ _ _) (by omega) (by simp; omega) ?_; intro A9 n9 c9 w9 hn9 hown9 hg9)
   have hl9 : Later w w9 := (HLR.out.alloc _).grown hg9 (fun q hq => (hown.lt q hq).1)
   rw [HEX.out, ← HST.out] at hown9
   go_wp2_with fail
   go_roundw
   case rel => exact ⟨k + 1, A9, n9, c9, by omega, by rw [hn9], by go_num, hown9, hl9⟩
   case measure => first | (simp [intOf]; done) | (simp [intOf]; omega)
  ·obtain rfl : L.length = k := by omega
   rw [List.take_length] at hown
   go_wp2_with fail
   go_ret2
   exact ⟨_, rfl, _, _, _, rfl, hown, HLR.out⟩
end Go.Proofs.YtmkddhkpeiajhaaGreatDoor
namespace Go.Proofs.YtmkddhkpeiajhaaGreatDoor
open Go.RowKit
theorem piece_hit (c : UInt8) (l : List UInt8) (i : Nat) (hc : l[i]? = some c) (hno : ∀ j : Nat, j < i → l[j]? ≠ some c) : piecesC c l = l.take i :: piecesC c (l.drop (i + 1)) := by
 obtain ⟨hil, e⟩ := List.getElem?_eq_some_iff.1 hc
 rcases Lib.index_spec l [c] with ⟨h, hn⟩ | ⟨k, h, hk, hocc, hn⟩
 ·have h1 := hn i (by omega)
  rw [occ_at hc] at h1
  cases h1
 ·have hck : l[k]? = some c := Lib.occAt_head rfl hocc
  obtain rfl : k = i := by
   rcases Nat.lt_trichotomy k i with h1 | h1 | h1
   ·exact absurd hck (hno k h1)
   ·exact h1
   ·have h2 := hn i h1
    rw [occ_at hc] at h2
    cases h2
  have hct := Lib.count_hit (s := l) (sub := [c]) (by simp) h
  unfold piecesC
  rw [hct, Nat.add_comm 1, Lib.splitK, if_neg (by rw [h]; simp), h]
  simp
theorem piece_miss (c : UInt8) (l : List UInt8) (hno : ∀ j : Nat, l[j]? ≠ some c) : piecesC c l = [l] := by
 rcases Lib.index_spec l [c] with ⟨h, _⟩ | ⟨k, h, hk, hocc, hn⟩
 ·unfold piecesC
  rw [Lib.count_miss h, Lib.splitK]
 ·exact absurd (Lib.occAt_head rfl hocc) (hno k)
set_option maxHeartbeats 2000000 in
theorem rblank_any (c : UInt8) (x : Int) (hx : x = (c.toNat : Int)) (w : World) : Calls Tryz.prog 58 #[.int .u8 x] w fun e w' => e = .returned (.bool (blankB c)) ∧ w' = w := by
 obtain ⟨R, hR⟩ : ∃ R, R = blankB c := ⟨_, rfl⟩
 rw [← hR]
 subst hx
 by_cases h9 : (9 : Int) ≤ (c.toNat : Int)
 ·by_cases h13 : (c.toNat : Int) ≤ 13
  ·obtain rfl : R = true := by rw [hR]; unfold blankB; rw [decide_eq_true (by omega), decide_eq_true (by omega)]; rfl
   clear hR
   go_enter Tryz.func58, Tryz.ntmps58
   go_wp2_with fail
   go_ret
   exact ⟨rfl, rfl⟩
  ·by_cases h32 : (c.toNat : Int) = 32
   ·obtain rfl : R = true := by rw [hR]; unfold blankB; rw [decide_eq_true (p := c.toNat = 32) (by omega), Bool.or_true]
    rw [h32]
    clear hR
    go_enter Tryz.func58, Tryz.ntmps58
    go_wp2_with fail
    go_ret
    exact ⟨rfl, rfl⟩
   ·obtain rfl : R = false := by rw [hR]; unfold blankB; rw [decide_eq_false (p := c.toNat ≤ 13) (by omega), decide_eq_false (p := c.toNat = 32) (by omega)]; simp
    have hq : ((c.toNat : Int) == 32) = false := by rw [beq_eq_false_iff_ne]; exact h32
    clear hR
    go_enter Tryz.func58, Tryz.ntmps58
    go_wp2_with fail
    go_ret
    exact ⟨rfl, rfl⟩
 ·obtain rfl : R = false := by rw [hR]; unfold blankB; rw [decide_eq_false (p := 9 ≤ c.toNat) (by omega), decide_eq_false (p := c.toNat = 32) (by omega)]; rfl
  have hq : ((c.toNat : Int) == 32) = false := by rw [beq_eq_false_iff_ne]; omega
  clear hR
  go_enter Tryz.func58, Tryz.ntmps58
  go_wp2_with fail
  go_ret
  exact ⟨rfl, rfl⟩
set_option maxRecDepth 100000 in
set_option maxHeartbeats 8000000 in
theorem rsplit_wordz (L : List UInt8) (w : World) (hL : L.length ≤ 1000000) (hn : L ≠ []) :
  Calls Tryz.prog 46 #[.string (bstr L), .string (bstr [32])] w fun e w' => ∃ v, e = .returned (.tuple #[v, .int .i64 0]) ∧ RetZ w (wordsF L) v w' := by
 have e1 : (bstr L).toList.isEmpty = false := by rw [bstr_toList]; cases L with | nil => exact absurd rfl hn | cons _ _ => rfl
 have e2 : ((bstr [32]).toList == [32]) = true := by rw [bstr_toList]; rfl
 have hsz : (bstr L).size = L.length := rfl
 obtain ⟨T, hT⟩ : ∃ T, T = bstr [32] := ⟨_, rfl⟩
 rw [← hT] at e2 ⊢
 clear hT hn
 go_enter Tryz.func46, Tryz.ntmps46
 go_wp2_with fail
 go_loopw [6, 7, 8] (fun s3 s4 s5 wr => ∃ i : Nat, i ≤ L.length + 1 ∧ WdAt w L i s3 s4 s5 wr) (fun _ _ s5 _ => L.length + 1 - (intOf s5).toNat)
 case atStart => exact ⟨0, Nat.zero_le _, none, 0, 0, rfl, rfl, rfl, OwnZ.nil, Later.refl _⟩
 case round =>
  obtain ⟨i, hi, A, n, c, rfl, rfl, rfl, hown, hlw⟩ := hrel
  have hbd := wIter_bd L i
  have hnl := hown.len
  obtain ⟨q, hq⟩ : ∃ q, q = (wIter L i).2 := ⟨_, rfl⟩
  rw [← hq] at hbd ⊢
  have HQ := Lib.hid hq
  clear hq
  by_cases hle : i ≤ L.length
  ·have hlei : (i : Int) ≤ (L.length : Int) := by omega
   by_cases hlt : i < L.length
   ·have hlti : (i : Int) < (L.length : Int) := by omega
    have hnei : ((i : Int) == (L.length : Int)) = false := beq_eq_false_iff_ne.2 (by omega)
    obtain ⟨x, hx⟩ : ∃ x, L[i]? = some x := ⟨_, List.getElem?_eq_getElem hlt⟩
    obtain ⟨hxi, hxe⟩ := str_gz L i x hx
    have hx256 := x.toNat_lt
    cases hb : blankB x with
    | true =>
     have HB : Calls Tryz.prog 58 #[.int .u8 (x.toNat : Int)] wr fun e w' => e = .returned (.bool true) ∧ w' = wr := by have h := rblank_any x _ rfl wr; rw [hb] at h; exact h
     by_cases h0 : 0 ≤ q
     ·have hnext := w_blank hx hb (by rw [← HQ.out]; exact h0)
      rw [← HQ.out] at hnext
      obtain ⟨fr, rfl⟩ : ∃ fr : Nat, q = (fr : Int) := ⟨q.toNat, by omega⟩
      rw [Int.toNat_natCast] at hnext
      have hfi : (fr : Int) ≤ (i : Int) := by omega
      clear hb hx
      go_wp2_with fail
      refine HB.mono ?_
      rintro e w1 ⟨rfl, rfl⟩
      go_wp2_with (at_builtin; go_loud (refine wpList_append_z _ rfl (.tmp 52) (.tmp 57) rfl w.heap.size A n c _ rfl (hown.later ((Later.refl _).alloc _)) _ _ _ rfl (reads_b _ _ _) (by omega) (by have := hlw.size; simp; omega) ?_); intro A9 n9 c9 w9 hn9 hown9 hg9)
      have hl9 : Later w w9 := (hlw.alloc _).grown hg9 (fun k hk => (hown.lt k hk).1)
      rw [Lib.extract_data] at hown9
      go_wp2_with fail
      go_roundw
      case rel => exact ⟨i + 1, by omega, A9, n9, c9, by rw [hn9], by rw [hnext], by go_num, by rw [hnext]; exact hown9, hl9⟩
      case measure => first | (simp [intOf]; done) | (simp [intOf]; omega)
     ·have hnext := w_skip hx hb (by rw [← HQ.out]; exact h0)
      clear hb hx
      go_wp2_with fail
      refine HB.mono ?_
      rintro e w1 ⟨rfl, rfl⟩
      go_wp2_with fail
      go_roundw
      case rel => exact ⟨i + 1, by omega, A, n, c, rfl, by rw [hnext]; try exact congrArg (Value.int IntKind.i64) HQ.out, by go_num, by rw [hnext]; exact hown, hlw⟩
      case measure => first | (simp [intOf]; done) | (simp [intOf]; omega)
    | false =>
     have HB : Calls Tryz.prog 58 #[.int .u8 (x.toNat : Int)] wr fun e w' => e = .returned (.bool false) ∧ w' = wr := by have h := rblank_any x _ rfl wr; rw [hb] at h; exact h
     by_cases h0 : q < 0
     ·have hnext := w_begin hx hb (by rw [← HQ.out]; exact h0)
      clear hb hx
      go_wp2_with fail
      refine HB.mono ?_
      rintro e w1 ⟨rfl, rfl⟩
      go_wp2_with fail
      go_roundw
      case rel => exact ⟨i + 1, by omega, A, n, c, rfl, by rw [hnext]; try exact congrArg (Value.int IntKind.i64) HQ.out, by go_num, by rw [hnext]; exact hown, hlw⟩
      case measure => first | (simp [intOf]; done) | (simp [intOf]; omega)
     ·have hnext := w_in hx hb (by rw [← HQ.out]; exact h0)
      clear hb hx
      go_wp2_with fail
      refine HB.mono ?_
      rintro e w1 ⟨rfl, rfl⟩
      go_wp2_with fail
      go_roundw
      case rel => exact ⟨i + 1, by omega, A, n, c, rfl, by rw [hnext]; try exact congrArg (Value.int IntKind.i64) HQ.out, by go_num, by rw [hnext]; exact hown, hlw⟩
      case measure => first | (simp [intOf]; done) | (simp [intOf]; omega)
   ·obtain rfl : L.length = i := by omega
    have hx : L[L.length]? = none := List.getElem?_eq_none (Nat.le_refl _)
    have hlti : ¬ ((L.length : Nat) : Int) < (L.length : Int) := by omega
    have hnei : (((L.length : Nat) : Int) == (L.length : Int)) = true := beq_self_eq_true _
    by_cases h0 : 0 ≤ q
    ·have hnext := w_end hx (by rw [← HQ.out]; exact h0)
     rw [← HQ.out] at hnext
     obtain ⟨fr, rfl⟩ : ∃ fr : Nat, q = (fr : Int) := ⟨q.toNat, by omega⟩
     rw [Int.toNat_natCast] at hnext
     have hfi : (fr : Int) ≤ (L.length : Int) := by omega
     clear hx
     go_wp2_with (at_builtin; go_loud (refine wpList_append_z _ rfl (.tmp 52) (.tmp 57) rfl w.heap.size A n c _ rfl (hown.later ((Later.refl _).alloc _)) _ _ _ rfl (reads_b _ _ _) (by omega) (by have := hlw.size; simp; omega) ?_); intro A9 n9 c9 w9 hn9 hown9 hg9)
     have hl9 : Later w w9 := (hlw.alloc _).grown hg9 (fun k hk => (hown.lt k hk).1)
     rw [Lib.extract_data] at hown9
     go_wp2_with fail
     go_roundw
     case rel => exact ⟨L.length + 1, by omega, A9, n9, c9, by rw [hn9], by rw [hnext], by go_num, by rw [hnext]; exact hown9, hl9⟩
     case measure => first | (simp [intOf]; done) | (simp [intOf]; omega)
    ·have hnext := w_skip_end hx (by rw [← HQ.out]; exact h0)
     clear hx
     go_wp2_with fail
     go_roundw
     case rel => exact ⟨L.length + 1, by omega, A, n, c, rfl, by rw [hnext]; try exact congrArg (Value.int IntKind.i64) HQ.out, by go_num, by rw [hnext]; exact hown, hlw⟩
     case measure => first | (simp [intOf]; done) | (simp [intOf]; omega)
  ·obtain rfl : i = L.length + 1 := by omega
   have hlei : ¬ ((L.length + 1 : Nat) : Int) ≤ (L.length : Int) := by omega
   go_wp2_with fail
   go_ret2
   exact ⟨_, rfl, A, n, c, rfl, hown, hlw⟩
set_option maxRecDepth 100000 in
theorem rsplit_nil (T : ByteArray) (w : World) :
  Calls Tryz.prog 46 #[.string ⟨#[]⟩, .string T] w fun e w' => e = .returned (.tuple #[.slice none 0 0, .int .i64 0]) ∧ w' = w := by
 go_enter Tryz.func46, Tryz.ntmps46
 go_wp2_with fail
 go_ret2
 exact ⟨rfl, rfl⟩
set_option maxRecDepth 100000 in
set_option maxHeartbeats 8000000 in
theorem rsplit_charz (L : List UInt8) (w : World) (hL : L.length ≤ 1000000) (hn : L ≠ []) :
  Calls Tryz.prog 46 #[.string (bstr L), .string ⟨#[]⟩] w fun e w' => ∃ v, e = .returned (.tuple #[v, .int .i64 0]) ∧ RetZ w (L.map fun c => [c]) v w' := by
 have e1 : (bstr L).toList.isEmpty = false := by rw [bstr_toList]; cases L with | nil => exact absurd rfl hn | cons _ _ => rfl
 have hsz : (bstr L).size = L.length := rfl
 clear hn
 go_enter Tryz.func46, Tryz.ntmps46
 go_wp2_with fail
 go_loopw [6, 10] (fun s6 s21 wr => ∃ (k : Nat) (A : Option Addr) (n c : Nat), k ≤ L.length ∧ s6 = .slice A n c ∧ s21 = .int .i64 (k : Int) ∧ OwnZ wr w.heap.size A n c ((L.take k).map fun c => [c]) ∧ Later w wr) (fun _ s21 _ => L.length - (intOf s21).toNat)
 case atStart => exact ⟨0, none, 0, 0, Nat.zero_le _, rfl, rfl, OwnZ.nil, Later.refl _⟩
 case round =>
  obtain ⟨k, A, n, c, hk, rfl, rfl, hown, hlr⟩ := hrel
  have hnl := hown.len
  rw [List.length_map, List.length_take] at hnl
  have HLR := Lib.hid hlr
  have hsw := hlr.size
  clear hlr
  by_cases hlt : k < L.length
  ·have hlti : (k : Int) < (L.length : Int) := by omega
   have hnb : n ≤ 1000000 := by omega
   obtain ⟨x, hx⟩ : ∃ x, L[k]? = some x := ⟨_, List.getElem?_eq_getElem hlt⟩
   have hex : ((bstr L).extract k (k + 1)).data.toList = [x] := by
    obtain ⟨h1, h2⟩ := List.getElem?_eq_some_iff.1 hx
    rw [Lib.extract_data, show k + 1 - k = 1 by omega]
    show (L.drop k).take 1 = [x]
    rw [List.drop_eq_getElem_cons h1, h2]
    rfl
   have hst : (L.take (k + 1)).map (fun c => [c]) = (L.take k).map (fun c => [c]) ++ [[x]] := by rw [List.take_add_one, hx, List.map_append]; rfl
   have HEX := Lib.hid hex
   have HST := Lib.hid hst
   clear hnl hex hst hx
   go_wp2_with (at_builtin; refine wpList_append_z _ rfl (.tmp 69) (.tmp 75) rfl w.heap.size A n c _ rfl (hown.later ((Later.refl _).alloc _)) _ _ _ rfl (reads_b _ _ _) (by omega) (by simp; omega) ?_; intro A9 n9 c9 w9 hn9 hown9 hg9)
   have hl9 : Later w w9 := (HLR.out.alloc _).grown hg9 (fun q hq => (hown.lt q hq).1)
   rw [HEX.out, ← HST.out] at hown9
   go_wp2_with fail
   go_roundw
   case rel => exact ⟨k + 1, A9, n9, c9, by omega, by rw [hn9], by go_num, hown9, hl9⟩
   case measure => first | (simp [intOf]; done) | (simp [intOf]; omega)
  ·obtain rfl : L.length = k := by omega
   rw [List.take_length] at hown
   go_wp2_with fail
   go_ret2
   exact ⟨_, rfl, _, _, _, rfl, hown, HLR.out⟩
def PcAt (w : World) (c : UInt8) (L : List UInt8) (i : Nat) (s6 s11 s12 : Value) (wr : World) : Prop :=
 ∃ (A : Option Addr) (n cp : Nat) (out : List (List UInt8)) (fr : Nat), s6 = .slice A n cp ∧ s11 = .int .i64 (fr : Int) ∧ s12 = .int .i64 (i : Int) ∧ OwnZ wr w.heap.size A n cp out ∧ Later w wr ∧ out.length ≤ i ∧
  (if i ≤ L.length then fr ≤ i ∧ piecesC c L = out ++ piecesC c (L.drop fr) ∧ (∀ j : Nat, fr ≤ j → j < i → L[j]? ≠ some c) else piecesC c L = out)
set_option maxRecDepth 100000 in
set_option maxHeartbeats 8000000 in
theorem rsplit_at (c : UInt8) (L : List UInt8) (w : World) (hL : L.length ≤ 1000000) (hn : L ≠ []) (h32 : c ≠ 32) (h92 : c ≠ 92) :
  Calls Tryz.prog 46 #[.string (bstr L), .string (bstr [c])] w fun e w' => ∃ v, e = .returned (.tuple #[v, .int .i64 0]) ∧ RetZ w (piecesC c L) v w' := by
 have e1 : (bstr L).toList.isEmpty = false := by rw [bstr_toList]; cases L with | nil => exact absurd rfl hn | cons _ _ => rfl
 have e2 : ((bstr [c]).toList == [32]) = false := by rw [bstr_toList]; simpa using h32
 have e3 : (bstr [c]).toList.isEmpty = false := by rw [bstr_toList]; rfl
 have e4 : ((bstr [c]).toList == [92]) = false := by rw [bstr_toList]; simpa using h92
 have e5 : (bstr [c]).size = 1 := rfl
 have hsz : (bstr L).size = L.length := rfl
 obtain ⟨T, hT⟩ : ∃ T, T = bstr [c] := ⟨_, rfl⟩
 rw [← hT] at e2 e3 e4 e5 ⊢
 have hT0 : ∃ h : 0 < T.size, T[0] = c := by subst hT; exact ⟨(by show 0 < 1; decide), rfl⟩
 obtain ⟨hT0, hTc⟩ := hT0
 clear hT hn
 go_enter Tryz.func46, Tryz.ntmps46
 go_wp2_with fail
 go_loopw [6, 11, 12] (fun s6 s11 s12 wr => ∃ i : Nat, i ≤ L.length + 1 ∧ PcAt w c L i s6 s11 s12 wr) (fun _ _ s12 _ => L.length + 1 - (intOf s12).toNat)
 case atStart => exact ⟨0, Nat.zero_le _, none, 0, 0, [], 0, rfl, rfl, rfl, OwnZ.nil, Later.refl _, Nat.le_refl _, by rw [if_pos (Nat.zero_le _)]; exact ⟨Nat.le_refl _, rfl, fun j h1 h2 => by omega⟩⟩
 case round =>
  obtain ⟨i, hi, A, n, cp, out, fr, rfl, rfl, rfl, hown, hlw, hol, hinv⟩ := hrel
  have hnl := hown.len
  by_cases hle : i ≤ L.length
  ·rw [if_pos hle] at hinv
   obtain ⟨hfi, hpc, hno⟩ := hinv
   have hfii : (fr : Int) ≤ (i : Int) := by omega
   have hlei : (i : Int) ≤ (L.length : Int) := by omega
   have HPC := Lib.hid hpc
   have HNO := Lib.hid hno
   clear hpc hno
   by_cases hlt : i < L.length
   ·have hlti : (i : Int) < (L.length : Int) := by omega
    have hnei : ((i : Int) == (L.length : Int)) = false := beq_eq_false_iff_ne.2 (by omega)
    obtain ⟨x, hx⟩ : ∃ x, L[i]? = some x := ⟨_, List.getElem?_eq_getElem hlt⟩
    obtain ⟨hxi, hxe⟩ := str_gz L i x hx
    have hx256 := x.toNat_lt
    by_cases hxc : x = c
    ·have hq : (((bstr L)[i].toNat : Int) == (c.toNat : Int)) = true := by rw [hxe, hxc]; exact beq_self_eq_true _
     have hnext : Hid (piecesC c L = (out ++ [(L.drop fr).take (i - fr)]) ++ piecesC c (L.drop (i + 1))) := by
      show _ = _
      rw [HPC.out, piece_hit c (L.drop fr) (i - fr) (by rw [List.getElem?_drop, show fr + (i - fr) = i by omega, hx, hxc]) (fun j hj => by rw [List.getElem?_drop]; exact HNO.out _ (by omega) (by omega)), List.drop_drop, show fr + (i - fr + 1) = i + 1 by omega]
      simp
     clear hx hxe hxc
     go_wp2_with fail
     go_quiet (fail)
     go_wp2_with (at_builtin; go_loud (refine wpList_append_z _ rfl (.tmp 104) (.tmp 109) rfl w.heap.size A n cp _ rfl (hown.later (((Later.refl _).drewN _).alloc _)) _ _ _ rfl (reads_b _ _ _) (by omega) (by have := hlw.size; simp; omega) ?_); intro A9 n9 c9 w9 hn9 hown9 hg9)
     have hl9 : Later w w9 := ((hlw.drewN _).alloc _).grown hg9 (fun k hk => (hown.lt k hk).1)
     rw [Lib.extract_data] at hown9
     go_wp2_with fail
     go_roundw
     case rel => exact ⟨i + 1, by omega, A9, n9, c9, _, i + 1, by rw [hn9], by go_num, by go_num, hown9, hl9, by rw [List.length_append]; simp; omega, by rw [if_pos (by omega)]; exact ⟨Nat.le_refl _, hnext.out, fun j h1 h2 => by omega⟩⟩
     case measure => first | (simp [intOf]; done) | (simp [intOf]; omega)
    ·have hq : (((bstr L)[i].toNat : Int) == (c.toNat : Int)) = false := by
      rw [hxe, beq_eq_false_iff_ne]
      intro h
      exact hxc (UInt8.toNat_inj.1 (by omega))
     have HX := Lib.hid hx
     clear hx hxe
     go_wp2_with fail
     go_quiet (fail)
     go_wp2_with fail
     go_roundw
     case rel => exact ⟨i + 1, by omega, A, n, cp, out, fr, rfl, rfl, by go_num, hown, hlw.drewN _, by omega, by
      rw [if_pos (by omega)]
      refine ⟨by omega, HPC.out, fun j h1 h2 => ?_⟩
      by_cases hj : j < i
      ·exact HNO.out j h1 hj
      ·obtain rfl : j = i := by omega
       rw [HX.out]; intro h; exact hxc (Option.some.inj h)⟩
     case measure => first | (simp [intOf]; done) | (simp [intOf]; omega)
   ·obtain rfl : L.length = i := by omega
    have hnei : (((L.length : Nat) : Int) == (L.length : Int)) = true := beq_self_eq_true _
    have hnext : Hid (piecesC c L = out ++ [(L.drop fr).take (L.length - fr)]) := by
     show _ = _
     rw [HPC.out, piece_miss c (L.drop fr) (fun j => by
      rw [List.getElem?_drop]
      by_cases hj : fr + j < L.length
      ·exact HNO.out _ (by omega) hj
      ·rw [List.getElem?_eq_none (by omega)]; simp), List.take_of_length_le (by rw [List.length_drop]; omega)]
    go_wp2_with fail
    go_quiet (fail)
    go_wp2_with (at_builtin; go_loud (refine wpList_append_z _ rfl (.tmp 104) (.tmp 109) rfl w.heap.size A n cp _ rfl (hown.later (((Later.refl _).drewN _).alloc _)) _ _ _ rfl (reads_b _ _ _) (by omega) (by have := hlw.size; simp; omega) ?_); intro A9 n9 c9 w9 hn9 hown9 hg9)
    have hl9 : Later w w9 := ((hlw.drewN _).alloc _).grown hg9 (fun k hk => (hown.lt k hk).1)
    rw [Lib.extract_data] at hown9
    go_wp2_with fail
    go_roundw
    case rel => exact ⟨L.length + 1, by omega, A9, n9, c9, _, L.length + 1, by rw [hn9], by go_num, by go_num, hown9, hl9, by rw [List.length_append]; simp; omega, by rw [if_neg (by omega)]; exact hnext.out⟩
    case measure => first | (simp [intOf]; done) | (simp [intOf]; omega)
  ·obtain rfl : i = L.length + 1 := by omega
   rw [if_neg hle] at hinv
   have hlei : ¬ ((L.length + 1 : Nat) : Int) ≤ (L.length : Int) := by omega
   have HINV := Lib.hid hinv
   clear hinv
   go_wp2_with fail
   go_ret2
   exact ⟨_, rfl, A, n, cp, rfl, by rw [HINV.out]; exact hown, hlw⟩
end Go.Proofs.YtmkddhkpeiajhaaGreatDoor
