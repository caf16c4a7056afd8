import Derived.Test.YtmkddhkpeiajhaaGreatDoorAtW
import Derived.Test.YtmkddhkpeiajhaaGreatDoorFieldLaw
import Derived.Test.YtmkddhkpeiajhaaGreatDoorRunAll
import Derived.Test.YtmkddhkpeiajhaaGreatDoorStepLaw
import Derived.Test.YtmkddhkpeiajhaaGreatDoorLeaf
namespace Go.Proofs.YtmkddhkpeiajhaaGreatDoor
open Go.RowKit
def rF : Rx := .plus (.set (287948901175001088, 0, 0, 0))
theorem bfp : parseF [91, 48, 45, 57, 93, 43] = (rxT rF, 0, 0) := by kernel_rfl
theorem bfr : rightT (rxT rF) = true := by kernel_rfl
theorem bfk : okR rF := ⟨by decide, by decide, by decide, by decide⟩
theorem bfa : allF (fun p => findF (machF rF) [97, 49, 98, 50, 50, 99] p 6) 6 8 0 (-1) [] = [(1, 2), (3, 5)] := by kernel_rfl
def outK : Nat → List (List UInt8)
 | 0 => []
 | 1 => [[97]]
 | _ => [[97], [98]]
def fromK : Nat → Int
 | 0 => 0
 | 1 => 2
 | _ => 5
theorem cf (n : Nat) (hn : n ≤ 1000000) : ∀ W : World, (convert 106 3 (.float .f64 (fl (n : Int)))).run Tryz.prog W = .ok (.int .i64 (n : Int)) W := fun W => conv_fi n hn W
theorem lt_fl (a b : Int) (ha : a.natAbs < 2 ^ 53) (hb : b.natAbs < 2 ^ 53) (h : a < b) : (FloatKind.f64.format.order (fl a) (fl b) == some Ordering.lt) = true := by
 show (Ieee.double.order (fl a) (fl b) == some Ordering.lt) = true
 rw [fl_order a b ha hb, show compare a b = Ordering.lt from Int.compare_eq_lt.2 h]
 rfl
set_option maxRecDepth 100000 in
set_option maxHeartbeats 8000000 in
theorem by_at (w : World) (mb g : Nat) (hM : RunsM w mb g (machF rF).1 (machF rF).2) :
  Calls Tryz.prog 44 #[.string (bstr [97, 49, 98, 50, 50, 99]), .pointer (some ⟨g, 0, none⟩)] w fun e w' => ∃ A n c, e = .returned (.slice A n c) ∧ OwnZ w' w.heap.size A n c [[97], [98], [99]] ∧ Later w w' := by
 have hall := all_at (bstr [97, 49, 98, 50, 50, 99]) w mb g rF hM (by decide) _ bfa
 obtain ⟨S, hS⟩ : ∃ S, S = bstr [97, 49, 98, 50, 50, 99] := ⟨_, rfl⟩
 rw [← hS] at hall ⊢
 have hsz : S.size = 6 := by rw [hS]; rfl
 have x0 : (S.extract 0 1).data.toList = [97] := by rw [hS]; rfl
 have x1 : (S.extract 2 3).data.toList = [98] := by rw [hS]; rfl
 have x2 : (S.extract 5 6).data.toList = [99] := by rw [hS]; rfl
 have X0 := Lib.hid x0
 have X1 := Lib.hid x1
 have X2 := Lib.hid x2
 have HALL := Lib.hid hall
 clear hS hM hall x0 x1 x2
 go_enter Tryz.func44, Tryz.ntmps44
 go_wp2_with fail
 refine HALL.out.mono ?_
 rintro e w1 ⟨A, n, c, rfl, hown, hl1⟩
 have hn : n = 2 := hown.1.symm
 subst hn
 obtain ⟨ga, rfl, _, _, y0⟩ := hown.at_ (k := 0) (x := (1, 2)) rfl
 obtain ⟨gb, hgb, _, _, y1⟩ := hown.at_ (k := 1) (x := (3, 5)) rfl
 injection hgb with hgb
 injection hgb with hgb
 subst hgb
 have y0 : w1.cell? ⟨ga, 0, none⟩ = some (.complex .f64 (fl 1) (fl 2)) := y0
 have y1 : w1.cell? ⟨ga, 1, none⟩ = some (.complex .f64 (fl 3) (fl 5)) := y1
 have HY : Hid (w1.cell? ⟨ga, 0, none⟩ = some (.complex .f64 (fl 1) (fl 2)) ∧ w1.cell? ⟨ga, 1, none⟩ = some (.complex .f64 (fl 3) (fl 5))) := ⟨y0, y1⟩
 have HL1 := Lib.hid hl1
 clear y0 y1 hown hl1 HALL
 have o0 : (FloatKind.f64.format.order (fl 1) (fl 2) == some Ordering.lt) = true := lt_fl 1 2 (by decide) (by decide) (by decide)
 have o1 : (FloatKind.f64.format.order (fl 3) (fl 5) == some Ordering.lt) = true := lt_fl 3 5 (by decide) (by decide) (by decide)
 have v1 : ∀ W : World, (convert 106 3 (.float .f64 (fl 1))).run Tryz.prog W = .ok (.int .i64 1) W := cf 1 (by decide)
 have v2 : ∀ W : World, (convert 106 3 (.float .f64 (fl 2))).run Tryz.prog W = .ok (.int .i64 2) W := cf 2 (by decide)
 have v3 : ∀ W : World, (convert 106 3 (.float .f64 (fl 3))).run Tryz.prog W = .ok (.int .i64 3) W := cf 3 (by decide)
 have v5 : ∀ W : World, (convert 106 3 (.float .f64 (fl 5))).run Tryz.prog W = .ok (.int .i64 5) W := cf 5 (by decide)
 go_wp2_with fail
 go_loopw [5, 6, 13] (fun s5 s6 s13 wr => ∃ (k : Nat) (f : Int) (A : Option Addr) (n c : Nat), k ≤ 2 ∧ s5 = .slice A n c ∧ s6 = .int .i64 f ∧ f = fromK k ∧ s13 = .int .i64 (k : Int) ∧ OwnZ wr w1.heap.size A n c (outK k) ∧ Later w1 wr) (fun _ _ s13 _ => 2 - (intOf s13).toNat)
 case atStart => exact ⟨0, 0, none, 0, 0, Nat.zero_le _, rfl, rfl, rfl, rfl, OwnZ.nil, Later.refl _⟩
 case round =>
  obtain ⟨k, f, A, n, c, hk, rfl, rfl, hf, rfl, hown, hlr⟩ := hrel
  have y0 : wr.cell? ⟨ga, 0, none⟩ = some (.complex .f64 (fl 1) (fl 2)) := by rw [Later.cell hlr (World.block_lt_of_cell? _ _ HY.out.1), HY.out.1]
  have y1 : wr.cell? ⟨ga, 1, none⟩ = some (.complex .f64 (fl 3) (fl 5)) := by rw [Later.cell hlr (World.block_lt_of_cell? _ _ HY.out.2), HY.out.2]
  have hnl := hown.len
  have hlw : Hid (Later w wr) := HL1.out.trans hlr
  have HLR := Lib.hid hlr
  have HLO : Hid (∀ q, ob A = some q → w1.heap.size ≤ q) := fun q hq => (hown.lt q hq).1
  have hsw1 := hlr.size
  have hsw := hlw.out.size
  clear hlr
  rcases (show k = 0 ∨ k = 1 ∨ k = 2 by omega) with rfl | rfl | rfl
  ·have hnb : n ≤ 2 := by rw [← hnl]; decide
   replace hf : f = 0 := hf
   subst hf
   clear hnl
   go_wp2_with (at_builtin; go_loud (refine wpList_append_z _ rfl (.tmp 22) (.tmp 29) rfl w1.heap.size A n c _ rfl (hown.later ((Later.refl _).alloc _)) _ _ _ rfl (reads_b _ _ _) (by omega) (by simp; omega) ?_); intro A9 n9 c9 w9 hn9 hown9 hg9)
   have hl9 : Later w1 w9 := (HLR.out.alloc _).grown hg9 (fun q hq => (HLO.out q hq))
   rw [X0.out] at hown9
   go_wp2_with fail
   go_roundw
   case rel => exact ⟨1, 2, A9, n9, c9, by omega, by rw [hn9], rfl, rfl, by go_num, hown9, hl9⟩
   case measure => first | (simp [intOf]; done) | (simp [intOf]; omega)
  ·have hnb : n ≤ 2 := by rw [← hnl]; decide
   replace hf : f = 2 := hf
   subst hf
   clear hnl
   go_wp2_with (at_builtin; go_loud (refine wpList_append_z _ rfl (.tmp 22) (.tmp 29) rfl w1.heap.size A n c _ rfl (hown.later ((Later.refl _).alloc _)) _ _ _ rfl (reads_b _ _ _) (by omega) (by simp; omega) ?_); intro A9 n9 c9 w9 hn9 hown9 hg9)
   have hl9 : Later w1 w9 := (HLR.out.alloc _).grown hg9 (fun q hq => (HLO.out q hq))
   rw [X1.out] at hown9
   go_wp2_with fail
   go_roundw
   case rel => exact ⟨2, 5, A9, n9, c9, by omega, by rw [hn9], rfl, rfl, by go_num, hown9, hl9⟩
   case measure => first | (simp [intOf]; done) | (simp [intOf]; omega)
  ·have hnb : n ≤ 2 := by rw [← hnl]; decide
   replace hf : f = 5 := hf
   subst hf
   clear hnl
   go_wp2_with (at_builtin; refine wpList_append_z _ rfl (.tmp 35) (.tmp 39) rfl w1.heap.size A n c _ rfl (hown.later ((Later.refl _).alloc _)) _ _ _ rfl (reads_b _ _ _) (by omega) (by simp; omega) ?_; intro A9 n9 c9 w9 hn9 hown9 hg9)
   have hl9 : Later w w9 := (hlw.out.alloc _).grown hg9 (fun q hq => Nat.le_trans HL1.out.size (HLO.out q hq))
   rw [X2.out] at hown9
   go_wp2_with fail
   go_ret
   exact ⟨A9, n9, c9, by rw [hn9]; rfl, OwnZ.base_le hown9 HL1.out.size, hl9⟩
set_option maxRecDepth 100000 in
set_option maxHeartbeats 4000000 in
theorem plain_no (S T : ByteArray) (w : World) (e1 : S.toList.isEmpty = false) (e2 : (T.toList == [32]) = false) (e3 : T.toList.isEmpty = false) (e5 : ((T.size : Int) == 1) = false) :
  Calls Tryz.prog 42 #[.string S, .string T] w fun e w' => e = .returned (.tuple #[.slice none 0 0, .bool false]) ∧ Later w w' := by
 go_enter Tryz.func42, Tryz.ntmps42
 go_wp2_with fail
 go_ret2
 exact ⟨rfl, Later.refl _⟩
set_option maxRecDepth 100000 in
set_option maxHeartbeats 4000000 in
theorem fsplit_re (w : World) :
  Calls Tryz.prog 19 #[.string (bstr [97, 49, 98, 50, 50, 99]), .string (bstr [91, 48, 45, 57, 93, 43])] w fun e w' => ∃ v, e = .returned (.tuple #[v, .int .i64 0]) ∧ RetSs w [[97], [98], [99]] v w' := by
 have hp := fun (wx : World) => plain_no (bstr [97, 49, 98, 50, 50, 99]) (bstr [91, 48, 45, 57, 93, 43]) wx (by rw [bstr_toList]; rfl) (by rw [bstr_toList]; rfl) (by rw [bstr_toList]; rfl) (by rfl)
 haveI hTxi : Txt (bstr [91, 48, 45, 57, 93, 43]) := Txt.of _ (by decide +kernel)
 have hnw := fun (wx : World) => new_at (bstr [91, 48, 45, 57, 93, 43]) rF wx (by decide) bfp bfr bfk
 have hby := by_at
 obtain ⟨S, hS⟩ : ∃ S, S = bstr [97, 49, 98, 50, 50, 99] := ⟨_, rfl⟩
 obtain ⟨T, hT⟩ : ∃ T, T = bstr [91, 48, 45, 57, 93, 43] := ⟨_, rfl⟩
 rw [← hS] at hp hby ⊢
 rw [← hT] at hp hnw ⊢
 have HP := Lib.hid hp
 have HN := Lib.hid hnw
 have HB := Lib.hid hby
 clear hS hT hp hnw hby
 go_enter Tryz.func19, Tryz.ntmps19
 go_wp2_with fail
 refine (HP.out _).mono ?_
 rintro e w1 ⟨rfl, hl1⟩
 have HL1 := Lib.hid hl1
 clear hl1
 go_wp2_with fail
 refine (HN.out _).mono ?_
 rintro e w2 ⟨g, rfl, hM, hl2⟩
 have HM := Lib.hid hM
 have HL2 := Lib.hid hl2
 clear hM hl2
 go_wp2_with fail
 refine (HB.out _ _ g HM.out).mono ?_
 rintro e w3 ⟨A, n, c, rfl, ho, hl3⟩
 have HO := Lib.hid ho
 have HL3 := Lib.hid hl3
 clear ho hl3
 go_wp2_with fail
 go_ret2
 exact ⟨_, rfl, A, n, c, rfl, HO.out.rd, HL1.out.trans (HL2.out.trans HL3.out)⟩
end Go.Proofs.YtmkddhkpeiajhaaGreatDoor
namespace Go.Proofs.YtmkddhkpeiajhaaGreatDoor
open Go.RowKit
def byL (S : List UInt8) : Nat → List (Nat × Nat) → List (List UInt8)
 | f, [] => [S.drop f]
 | f, u :: r => if u.1 < u.2 then ((S.drop f).take (u.1 - f)) :: byL S u.2 r else byL S f r
def InRow (m : Nat) : Nat → List (Nat × Nat) → Prop
 | f, [] => f ≤ m
 | f, u :: r => f ≤ m ∧ u.1 ≤ m ∧ u.2 ≤ m ∧ (if u.1 < u.2 then f ≤ u.1 ∧ InRow m u.2 r else InRow m f r)
theorem InRow.le {m : Nat} : ∀ {f : Nat} {R : List (Nat × Nat)}, InRow m f R → f ≤ m
 | _, [], h => h
 | _, _ :: _, h => h.1
theorem lt_flb (a b : Nat) (ha : a ≤ 1000000) (hb : b ≤ 1000000) : (FloatKind.f64.format.order (fl (a : Int)) (fl (b : Int)) == some Ordering.lt) = decide (a < b) := by
 show (Ieee.double.order (fl (a : Int)) (fl (b : Int)) == some Ordering.lt) = _
 rw [fl_order (a : Int) (b : Int) (by omega) (by omega)]
 by_cases h : a < b
 ·rw [decide_eq_true h, show compare (a : Int) (b : Int) = Ordering.lt from Int.compare_eq_lt.2 (by omega)]; rfl
 ·rw [decide_eq_false h]
  rcases Nat.lt_or_ge b a with h1 | h1
  ·rw [show compare (a : Int) (b : Int) = Ordering.gt from Int.compare_eq_gt.2 (by omega)]; rfl
  ·rw [show compare (a : Int) (b : Int) = Ordering.eq from Int.compare_eq_eq.2 (by omega)]; rfl
set_option maxRecDepth 100000 in
set_option maxHeartbeats 8000000 in
theorem by_any (L : List UInt8) (hL : L.length ≤ 100000) (R : List (Nat × Nat)) (hR : R.length ≤ 100000) (hin : InRow L.length 0 R) (v : Value) (w : World)
  (hall : Calls Tryz.prog 57 #[v, .string (bstr L)] w (RetAll w R)) :
  Calls Tryz.prog 44 #[.string (bstr L), v] w fun e w' => ∃ A n c, e = .returned (.slice A n c) ∧ OwnZ w' w.heap.size A n c (byL L 0 R) ∧ Later w w' := by
 have hsz : (bstr L).size = L.length := rfl
 have HALL := Lib.hid hall
 obtain ⟨T, hT⟩ : ∃ T, T = byL L 0 R := ⟨_, rfl⟩
 rw [← hT]
 have HT0 : Hid ([] ++ byL L 0 (R.drop 0) = T) := by rw [hT]; rfl
 have HIN := Lib.hid hin
 clear hall hT hin
 go_enter Tryz.func44, Tryz.ntmps44
 go_wp2_with fail
 refine HALL.out.mono ?_
 rintro e w1 ⟨A, n, c, rfl, hown, hl1⟩
 have hn : n = R.length := hown.1.symm
 have HO := Lib.hid hown
 have HL1 := Lib.hid hl1
 have HN := Lib.hid hn
 have hn2 : n ≤ 100000 := by omega
 clear hown hl1 HALL hn
 go_wp2_with fail
 go_loopw [5, 6, 13] (fun s5 s6 s13 wr => ∃ (k f : Nat) (A5 : Option Addr) (m d : Nat) (out : List (List UInt8)), k ≤ n ∧ m ≤ k ∧ s5 = .slice A5 m d ∧ s6 = .int .i64 (f : Int) ∧ s13 = .int .i64 (k : Int) ∧ OwnZ wr w1.heap.size A5 m d out ∧ Hid (out ++ byL L f (R.drop k) = T) ∧ Hid (InRow L.length f (R.drop k)) ∧ Later w1 wr) (fun _ _ s13 _ => n - (intOf s13).toNat)
 case atStart => exact ⟨0, 0, none, 0, 0, [], Nat.zero_le _, Nat.zero_le _, rfl, rfl, rfl, OwnZ.nil, HT0, HIN, Later.refl _⟩
 case round =>
  obtain ⟨k, f, A5, m, d, out, hk, hmk, rfl, rfl, rfl, hrow, hT, hI, hlr⟩ := hrel
  have HLR := Lib.hid hlr
  have hsw := hlr.size
  have hfl := hI.out.le
  by_cases hlt : k < n
  ·have hlti : (k : Int) < (n : Int) := by omega
   obtain ⟨u, hu⟩ : ∃ u, R[k]? = some u := ⟨_, List.getElem?_eq_getElem (by rw [← HN.out]; exact hlt)⟩
   obtain ⟨a, b⟩ := u
   have hdrop : R.drop k = (a, b) :: R.drop (k + 1) := by
    obtain ⟨h1, h2⟩ := List.getElem?_eq_some_iff.1 hu
    rw [List.drop_eq_getElem_cons h1, h2]
   obtain ⟨ga, rfl, _, _, hc⟩ := (HO.out.later hlr).at_ hu
   replace hc : wr.cell? ⟨ga, k, none⟩ = some (.complex .f64 (fl (a : Int)) (fl (b : Int))) := hc
   have hin := hI.out
   have ht := hT.out
   rw [hdrop] at hin ht
   obtain ⟨_, ha, hb, hif⟩ := hin
   have hord := lt_flb a b (by omega) (by omega)
   by_cases hab : a < b
   ·rw [if_pos hab] at hif
    rw [decide_eq_true hab] at hord
    rw [byL, if_pos hab] at ht
    obtain ⟨hfa, hin2⟩ := hif
    have v1 : ∀ W : World, (convert 106 3 (.float .f64 (fl (a : Int)))).run Tryz.prog W = .ok (.int .i64 (a : Int)) W := cf a (by omega)
    have v2 : ∀ W : World, (convert 106 3 (.float .f64 (fl (b : Int)))).run Tryz.prog W = .ok (.int .i64 (b : Int)) W := cf b (by omega)
    have hfai : (f : Int) ≤ (a : Int) := by omega
    have hali : (a : Int) ≤ (L.length : Int) := by omega
    have HTN : Hid ((out ++ [(L.drop f).take (a - f)]) ++ byL L b (R.drop (k + 1)) = T) := by rw [List.append_assoc]; exact ht
    have HIN2 := Lib.hid hin2
    have hml : m = out.length := hrow.len.symm
    clear hu hdrop ht hin2 hlr hT hI hml hab
    go_wp2_with (at_builtin; refine wpList_append_z _ rfl (.tmp 22) (.tmp 29) rfl w1.heap.size A5 m d _ rfl (hrow.later ((Later.refl _).alloc _)) _ _ _ rfl (reads_b _ _ _) (by omega) (by simp; omega) ?_; intro A9 n9 c9 w9 hn9 hown9 hg9)
    have hl9 : Later w1 w9 := (HLR.out.alloc _).grown hg9 (fun q hq => (hrow.lt q hq).1)
    rw [Lib.extract_data] at hown9
    go_wp2_with fail
    go_roundw
    case rel => exact ⟨k + 1, b, A9, n9, c9, _, by omega, by omega, by rw [hn9], rfl, by go_num, hown9, HTN, HIN2, hl9⟩
    case measure => first | (simp [intOf]; done) | (simp [intOf]; omega)
   ·rw [if_neg hab] at hif
    rw [decide_eq_false hab] at hord
    rw [byL, if_neg hab] at ht
    have HTN := Lib.hid ht
    have HIN2 := Lib.hid hif
    clear hu hdrop ht hif hT hI hab
    go_wp2_with fail
    go_roundw
    case rel => exact ⟨k + 1, f, A5, m, d, out, by omega, by omega, rfl, rfl, by go_num, hrow, HTN, HIN2, hlr⟩
    case measure => first | (simp [intOf]; done) | (simp [intOf]; omega)
  ·obtain rfl : n = k := by omega
   have ht := hT.out
   rw [List.drop_of_length_le (by rw [HN.out]; exact Nat.le_refl _), byL] at ht
   have HTN := Lib.hid ht
   have hfli : (f : Int) ≤ (L.length : Int) := by omega
   have hlw : Hid (Later w wr) := HL1.out.trans hlr
   clear ht hT hI
   go_wp2_with (at_builtin; refine wpList_append_z _ rfl (.tmp 35) (.tmp 39) rfl w1.heap.size A5 m d _ rfl (hrow.later ((Later.refl _).alloc _)) _ _ _ rfl (reads_b _ _ _) (by omega) (by simp; omega) ?_; intro A9 n9 c9 w9 hn9 hown9 hg9)
   have hl9 : Later w w9 := (hlw.out.alloc _).grown hg9 (fun q hq => Nat.le_trans HL1.out.size (hrow.lt q hq).1)
   rw [Lib.extract_data] at hown9
   go_wp2_with fail
   go_ret
   have he : List.take (L.length - f) (List.drop f (bstr L).data.toList) = L.drop f := List.take_of_length_le (by show (L.drop f).length ≤ _; rw [List.length_drop]; exact Nat.le_refl _)
   refine ⟨A9, n9, c9, by rw [hn9]; rfl, ?_, hl9⟩
   have h9 := OwnZ.base_le hown9 HL1.out.size
   rw [he] at h9
   rw [← HTN.out]
   exact h9
end Go.Proofs.YtmkddhkpeiajhaaGreatDoor
namespace Go.Proofs.YtmkddhkpeiajhaaGreatDoor
def rowEnd : Nat → List (Nat × Nat) → Nat
 | f, [] => f
 | f, u :: r => rowEnd (if u.1 < u.2 then u.2 else f) r
theorem inRow_snoc (m : Nat) (u : Nat × Nat) (h1 : u.1 ≤ m) (h2 : u.2 ≤ m) : ∀ (R : List (Nat × Nat)) (f : Nat), InRow m f R → (u.1 < u.2 → rowEnd f R ≤ u.1) → InRow m f (R ++ [u]) ∧ rowEnd f (R ++ [u]) = (if u.1 < u.2 then u.2 else rowEnd f R)
 | [], f, h, hu => by
  refine ⟨⟨h, h1, h2, ?_⟩, rfl⟩
  split
  ·exact ⟨hu (by assumption), h2⟩
  ·exact h
 | x :: r, f, h, hu => by
  obtain ⟨a, b, c, d⟩ := h
  by_cases hx : x.1 < x.2
  ·rw [if_pos hx] at d
   have ih := inRow_snoc m u h1 h2 r x.2 d.2 (fun hh => by have := hu hh; rw [rowEnd, if_pos hx] at this; exact this)
   refine ⟨⟨a, b, c, by rw [if_pos hx]; exact ⟨d.1, ih.1⟩⟩, ?_⟩
   rw [List.cons_append, rowEnd, rowEnd, if_pos hx]
   exact ih.2
  ·rw [if_neg hx] at d
   have ih := inRow_snoc m u h1 h2 r f d (fun hh => by have := hu hh; rw [rowEnd, if_neg hx] at this; exact this)
   refine ⟨⟨a, b, c, by rw [if_neg hx]; exact ih.1⟩, ?_⟩
   rw [List.cons_append, rowEnd, rowEnd, if_neg hx]
   exact ih.2
theorem allF_row (fd : Nat → Option (Nat × Nat)) (len : Nat) (hb : ∀ lo, lo ≤ len → ∀ h, fd lo = some h → lo ≤ h.1 ∧ h.1 ≤ h.2 ∧ h.2 ≤ len) : ∀ (f p : Nat) (bh : Int) (out : List (Nat × Nat)), InRow len 0 out → rowEnd 0 out ≤ p → InRow len 0 (allF fd len f p bh out) ∧ (allF fd len f p bh out).length ≤ out.length + f
 | 0, p, bh, out, h, _ => ⟨h, Nat.le_refl _⟩
 | f + 1, p, bh, out, h, hp => by
  rw [allF]
  by_cases hpl : p ≤ len
  ·rw [if_pos hpl]
   cases hfd : fd p with
   | none => exact ⟨h, Nat.le_add_right _ _⟩
   | some u =>
    obtain ⟨h1, h2, h3⟩ := hb p hpl u hfd
    have hs := inRow_snoc len u (by omega) h3 out 0 h (fun _ => by omega)
    show InRow len 0 (if u.1 < u.2 then _ else if (u.1 : Int) = bh then _ else _) ∧ (if u.1 < u.2 then _ else if (u.1 : Int) = bh then _ else _ : List (Nat × Nat)).length ≤ _
    by_cases h12 : u.1 < u.2
    ·rw [if_pos h12]
     rw [if_pos h12] at hs
     have ih := allF_row fd len hb f u.2 (u.2 : Int) (out ++ [u]) hs.1 (by rw [hs.2]; exact Nat.le_refl _)
     rw [List.length_append, List.length_cons, List.length_nil] at ih
     exact ⟨ih.1, by omega⟩
    ·rw [if_neg h12]
     rw [if_neg h12] at hs
     by_cases hbh : (u.1 : Int) = bh
     ·rw [if_pos hbh]
      have ih := allF_row fd len hb f (u.2 + 1) bh out h (by omega)
      exact ⟨ih.1, by omega⟩
     ·rw [if_neg hbh]
      have ih := allF_row fd len hb f (u.2 + 1) bh (out ++ [u]) hs.1 (by rw [hs.2]; omega)
      rw [List.length_append, List.length_cons, List.length_nil] at ih
      exact ⟨ih.1, by omega⟩
  ·rw [if_neg hpl]
   exact ⟨h, Nat.le_add_right _ _⟩
end Go.Proofs.YtmkddhkpeiajhaaGreatDoor
namespace Go.Proofs.YtmkddhkpeiajhaaGreatDoor
def lastNE (out : List (Nat × Nat)) (a : Nat) : Bool :=
 match out.getLast? with
 | some u => decide (u.2 = a) && decide (u.1 < a)
 | none => false
def allD (fd : Nat → Option (Nat × Nat)) (len : Nat) : Nat → Nat → List (Nat × Nat) → List (Nat × Nat)
 | 0, _, out => out
 | f + 1, p, out =>
  match (if p ≤ len then fd p else none) with
  | none => out
  | some h => if h.1 = h.2 ∧ lastNE out h.1 = true then allD fd len f (h.1 + 1) out else allD fd len f (if h.1 = h.2 then h.2 + 1 else h.2) (out ++ [h])
theorem allD_eq (fd : Nat → Option (Nat × Nat)) (len : Nat) (hb : ∀ lo, lo ≤ len → ∀ h, fd lo = some h → lo ≤ h.1 ∧ h.1 ≤ h.2 ∧ h.2 ≤ len) : ∀ (f p : Nat) (bh : Int) (out : List (Nat × Nat)),
  bh ≤ (p : Int) → (bh = (p : Int) → lastNE out p = true) → (∀ a, lastNE out a = true → bh = (a : Int)) → allF fd len f p bh out = allD fd len f p out
 | 0, _, _, _, _, _, _ => rfl
 | f + 1, p, bh, out, h1, h2, h3 => by
  rw [allF, allD]
  by_cases hpl : p ≤ len
  ·rw [if_pos hpl]
   cases hfd : fd p with
   | none => rfl
   | some u =>
    obtain ⟨g1, g2, g3⟩ := hb p hpl u hfd
    have hlast : ∀ a, lastNE (out ++ [u]) a = (decide (u.2 = a) && decide (u.1 < a)) := fun a => by unfold lastNE; rw [List.getLast?_append]; rfl
    show (if u.1 < u.2 then _ else if (u.1 : Int) = bh then _ else _) = (if u.1 = u.2 ∧ lastNE out u.1 = true then _ else _)
    by_cases h12 : u.1 < u.2
    ·have hne : ¬ (u.1 = u.2) := by omega
     rw [if_pos h12, if_neg (fun hh => hne hh.1), if_neg hne]
     refine allD_eq fd len hb f u.2 (u.2 : Int) (out ++ [u]) (Int.le_refl _) (fun _ => ?_) (fun a ha => ?_)
     ·rw [hlast]; simp; exact h12
     ·rw [hlast] at ha
      simp at ha
      omega
    ·have he : u.1 = u.2 := by omega
     rw [if_neg h12]
     by_cases hbh : (u.1 : Int) = bh
     ·have hp : p = u.1 := by omega
      have hl : lastNE out u.1 = true := by rw [← hp]; exact h2 (by omega)
      rw [if_pos hbh, if_pos ⟨he, hl⟩, he]
      exact allD_eq fd len hb f (u.2 + 1) bh out (by omega) (fun h => by omega) h3
     ·have hl : ¬ (u.1 = u.2 ∧ lastNE out u.1 = true) := fun hh => hbh (h3 _ hh.2).symm
      rw [if_neg hbh, if_neg hl, if_pos he]
      refine allD_eq fd len hb f (u.2 + 1) bh (out ++ [u]) (by omega) (fun h => by omega) (fun a ha => ?_)
      rw [hlast] at ha
      simp at ha
      omega
  ·rw [if_neg hpl]
theorem allD_start (fd : Nat → Option (Nat × Nat)) (len f : Nat) (hb : ∀ lo, lo ≤ len → ∀ h, fd lo = some h → lo ≤ h.1 ∧ h.1 ≤ h.2 ∧ h.2 ≤ len) : allF fd len f 0 (-1) [] = allD fd len f 0 [] :=
 allD_eq fd len hb f 0 (-1) [] (by decide) (fun h => absurd h (by decide)) (fun a h => by cases h)
end Go.Proofs.YtmkddhkpeiajhaaGreatDoor
namespace Go.Proofs.YtmkddhkpeiajhaaGreatDoor
open Go.RowKit
def allM (r : Rx) (L : List UInt8) : List (Nat × Nat) := allF (fun p => findF (machF r) L p L.length) L.length (L.length + 2) 0 (-1) []
theorem allM_row (r : Rx) (L : List UInt8) : InRow L.length 0 (allM r L) ∧ (allM r L).length ≤ L.length + 2 := by
 have h := allF_row (fun p => findF (machF r) L p L.length) L.length (fun lo hlo u hu => by
  have hl := find_law r L lo L.length hlo (Nat.le_refl _)
  have hu : findF (machF r) L lo L.length = some u := hu
  rw [hu] at hl
  obtain ⟨h1, h2, h3, _⟩ := hl
  have := Mt.mono L r h3 h2
  exact ⟨h1, this.1, this.2⟩) (L.length + 2) 0 (-1) [] (Nat.zero_le _) (Nat.le_refl _)
 exact ⟨h.1, by have := h.2; simp at this; exact this⟩
def IsRx (F : List UInt8) : Prop := F ≠ [32] ∧ F ≠ [] ∧ (F.length ≠ 1 ∨ F = [92])
theorem plain_rx (L F : List UInt8) (w : World) (hn : L ≠ []) (hF : IsRx F) :
  Calls Tryz.prog 42 #[.string (bstr L), .string (bstr F)] w fun e w' => e = .returned (.tuple #[.slice none 0 0, .bool false]) ∧ Later w w' := by
 have e1 : (bstr L).toList.isEmpty = false := by rw [bstr_toList]; cases L with | nil => exact absurd rfl hn | cons _ _ => rfl
 have e2 : ((bstr F).toList == [32]) = false := by rw [bstr_toList]; exact beq_eq_false_iff_ne.2 hF.1
 have e3 : (bstr F).toList.isEmpty = false := by rw [bstr_toList]; cases F with | nil => exact absurd rfl hF.2.1 | cons _ _ => rfl
 rcases hF.2.2 with h | h
 ·exact plain_no (bstr L) (bstr F) w e1 e2 e3 (by rw [beq_eq_false_iff_ne]; show ¬ ((F.length : Int) = 1); omega)
 ·have e4 : ((bstr F).toList == [92]) = true := by rw [bstr_toList, h]; rfl
  have e5 : ((bstr F).size : Int) = 1 := by rw [h]; rfl
  obtain ⟨S, hS⟩ : ∃ S, S = bstr L := ⟨_, rfl⟩
  obtain ⟨T, hT⟩ : ∃ T, T = bstr F := ⟨_, rfl⟩
  rw [← hS] at e1 ⊢
  rw [← hT] at e2 e3 e4 e5 ⊢
  clear hS hT h hF hn
  go_enter Tryz.func42, Tryz.ntmps42
  go_wp2_with fail
  go_ret2
  exact ⟨rfl, Later.refl _⟩
set_option maxRecDepth 100000 in
set_option maxHeartbeats 4000000 in
theorem fsplit_rx (r : Rx) (L F : List UInt8) (w : World) (hL : L.length ≤ 90000) (hn : L ≠ []) (hF : IsRx F) (hTx : txtB F = true) (hFl : F.length ≤ 1000000) (hp : parseF F = (rxT r, 0, 0)) (hr : rightT (rxT r) = true) (hk : okR r) :
  Calls Tryz.prog 19 #[.string (bstr L), .string (bstr F)] w fun e w' => ∃ v, e = .returned (.tuple #[v, .int .i64 0]) ∧ RetZ w (byL L 0 (allM r L)) v w' := by
 have hpl := fun (wx : World) => plain_rx L F wx hn hF
 haveI hTxi : Txt (bstr F) := Txt.of F hTx
 have hnw := fun (wx : World) => new_at (bstr F) r wx (by show F.length ≤ _; omega) hp hr hk
 have hby := fun (wx : World) (mb g : Nat) (hM : RunsM wx mb g (machF r).1 (machF r).2) => by_any L (by omega) (allM r L) (by have := (allM_row r L).2; omega) (allM_row r L).1 (.pointer (some ⟨g, 0, none⟩)) wx (all_at (bstr L) wx mb g r hM (by show L.length ≤ _; omega) _ rfl)
 obtain ⟨T, hT⟩ : ∃ T, T = byL L 0 (allM r L) := ⟨_, rfl⟩
 rw [← hT] at hby ⊢
 obtain ⟨S, hS⟩ : ∃ S, S = bstr L := ⟨_, rfl⟩
 obtain ⟨U, hU⟩ : ∃ U, U = bstr F := ⟨_, rfl⟩
 rw [← hS] at hpl hby ⊢
 rw [← hU] at hpl hnw ⊢
 have HP := Lib.hid hpl
 have HN := Lib.hid hnw
 have HB := Lib.hid hby
 clear hS hU hT hpl hnw hby hp
 go_enter Tryz.func19, Tryz.ntmps19
 go_wp2_with fail
 refine (HP.out _).mono ?_
 rintro e w1 ⟨rfl, hl1⟩
 have HL1 := Lib.hid hl1
 clear hl1
 go_wp2_with fail
 refine (HN.out _).mono ?_
 rintro e w2 ⟨g, rfl, hM, hl2⟩
 have HM := Lib.hid hM
 have HL2 : Hid (Later w w2) := HL1.out.trans hl2
 clear hM hl2
 go_wp2_with fail
 refine (HB.out _ _ g HM.out).mono ?_
 rintro e w3 ⟨A, n, c, rfl, ho, hl3⟩
 have HO := Lib.hid (OwnZ.base_le ho HL2.out.size)
 have HL3 := Lib.hid hl3
 clear ho hl3
 go_wp2_with fail
 go_ret2
 exact ⟨_, rfl, A, n, c, rfl, HO.out, HL2.out.trans HL3.out⟩
set_option maxRecDepth 100000 in
set_option maxHeartbeats 4000000 in
theorem fsplit_err (L F : List UInt8) (w : World) (hn : L ≠ []) (hF : IsRx F) (hTx : txtB F = true) (hFl : F.length ≤ 1000000) (hp : (parseF F).2.2 ≠ 0) :
  Calls Tryz.prog 19 #[.string (bstr L), .string (bstr F)] w fun e w' => e = .returned (.tuple #[.slice none 0 0, .int .i64 47]) ∧ Later w w' := by
 have hpl := fun (wx : World) => plain_rx L F wx hn hF
 haveI hTxi : Txt (bstr F) := Txt.of F hTx
 have hnw : ∀ wx : World, Calls Tryz.prog 43 #[.string (bstr F)] wx fun e w' => ∃ a b : Int, (b != 0) = true ∧ e = .returned (.tuple #[.pointer none, .int .i64 a, .int .i64 b]) ∧ Later wx w' := fun wx =>
  (new_any (bstr F) wx (by show F.length ≤ _; omega)).mono fun e w' h => by
   rcases h with ⟨h1, h2, h3⟩ | ⟨g, r, h1, _⟩
   ·exact ⟨_, _, by rw [bne_iff_ne]; intro e; exact h1 (by omega), h2, h3⟩
   ·exact absurd (congrArg (fun x => x.2.2) h1) hp
 obtain ⟨S, hS⟩ : ∃ S, S = bstr L := ⟨_, rfl⟩
 obtain ⟨T, hT⟩ : ∃ T, T = bstr F := ⟨_, rfl⟩
 rw [← hS, ← hT] at hpl
 rw [← hT] at hnw
 rw [← hS, ← hT]
 have HP := Lib.hid hpl
 have HN := Lib.hid hnw
 clear hS hT hpl hnw hp
 go_enter Tryz.func19, Tryz.ntmps19
 go_wp2_with fail
 refine (HP.out _).mono ?_
 rintro e w1 ⟨rfl, hl1⟩
 have HL1 := Lib.hid hl1
 clear hl1
 go_wp2_with fail
 refine (HN.out _).mono ?_
 rintro e w2 ⟨a, b, hb, rfl, hl2⟩
 go_wp2_with fail
 go_ret2
 exact ⟨rfl, HL1.out.trans hl2⟩
end Go.Proofs.YtmkddhkpeiajhaaGreatDoor
namespace Go.Proofs.YtmkddhkpeiajhaaGreatDoor
open Go.RowKit
def prL (u : Nat × Nat) : List Value := [.int .i64 (u.1 : Int), .int .i64 (u.2 : Int)]
def OwnQ (w : World) (base : Nat) (A : Option Addr) (n c : Nat) (l : List (Nat × Nat)) : Prop := l.length = n ∧ w.ownsRow base 110 2 (.slice A n c) n (l.flatMap prL)
theorem pair_info : (Tryz.prog.info? 110).map (fun i => (i.zero, i.size, i.bytes)) = some (some (.agg #[.int .i64 0, .int .i64 0]), 2, 16) := by kernel_rfl
section
variable {w w' : World} {base n c : Nat} {A : Option Addr} {ls : List (Nat × Nat)}
theorem OwnQ.nil : OwnQ w base none 0 0 [] := ⟨rfl, World.ownsRow_nil _ _ _ _⟩
theorem OwnQ.later (h : OwnQ w base A n c ls) (hl : Later w w') : OwnQ w' base A n c ls := ⟨h.1, ownsRow_fr h.2 (Fr.laterF hl) (fun _ _ h => h)⟩
theorem OwnQ.base_le {b' : Nat} (h : OwnQ w base A n c ls) (hb : b' ≤ base) : OwnQ w b' A n c ls := by
 refine ⟨h.1, h.2.1, ?_⟩
 rcases h.2.2 with h2 | ⟨g, cap, cur, e, h1, h3⟩
 ·exact .inl h2
 ·exact .inr ⟨g, cap, cur, e, by omega, h3⟩
theorem OwnQ.lt (h : OwnQ w base A n c ls) {k : Nat} (hk : ob A = some k) : k < w.heap.size ∧ base ≤ k := by
 have := own_row_blk h.2 hk
 exact ⟨this.1, this.2.1⟩
theorem OwnQ.at_ (h : OwnQ w base A n c ls) {k : Nat} {x : Nat × Nat} (hx : ls[k]? = some x) : ∃ g, A = some ⟨g, 0, none⟩ ∧ g < w.heap.size ∧ base ≤ g ∧ w.cell? ⟨g, k * 2, none⟩ = some (.int .i64 (x.1 : Int)) ∧ w.cell? ⟨g, k * 2 + 1, none⟩ = some (.int .i64 (x.2 : Int)) := by
 have hk : k < n := by have := (List.getElem?_eq_some_iff.1 hx).1; have := h.1; omega
 obtain ⟨g, cap, hv, hb, hlt⟩ := World.ownsRow.form h.2 (by omega)
 injection hv with hA
 subst hA
 refine ⟨g, rfl, hlt, hb, ?_, ?_⟩
 ·rw [World.ownsRow.cellAt h.2 (k * 2) (by omega)]
  exact flatw_get ls k 0 x _ hx rfl
 ·rw [World.ownsRow.cellAt h.2 (k * 2 + 1) (by omega)]
  exact flatw_get ls k 1 x _ hx rfl
end
theorem wpList_append_q (w : World) {ops : Array Oper} {rest : List Oper} {o : Oper} {a : Act} {Q : Exit → Act → World → Prop} (hgd : o.guard = none) (s x : Operand)
  (ho : o.op = .call { callee := .builtin .append, args := #[s, x], argTypes := #[108, 108] })
  (base : Nat) (A : Option Addr) (n c : Nat) (l : List (Nat × Nat)) (hs : a.eval s = .slice A n c) (hown : OwnQ w base A n c l) (y : Nat × Nat)
  (B : Nat) (A2 : Option Addr) (hx : a.eval x = .slice A2 1 1) (hr : Reads w B 2 A2 1 (prL y)) (hbd : n < 1000000000) (hbase : base ≤ w.heap.size)
  (h : ∀ A' n' c' w', n' = n + 1 → OwnQ w' base A' n' c' (l ++ [y]) → w.grownBy w' (ob A) → wpList Tryz.prog ops Q rest (a.put o.dst (.slice A' n' c')) w') :
  wpList Tryz.prog ops Q (o :: rest) a w := by
 obtain ⟨i0, hi, hz0, hz1, hz2⟩ := info_parts pair_info
 refine wpList_append_any w hgd s x 108 ho base 110 i0 _ 2 16 Tryz.underlying108 hi hz0 hz1 hz2 rfl (by decide) (.slice A n c) n _ hs hown.2 B A2 1 1 (prL y) hx hr (by intro u hu; simp [prL] at hu; rcases hu with rfl | rfl <;> rfl) (by unfold maxLen; omega) (by omega) hbase ?_
 intro v' w' h2 h3 _
 have hv : ∃ A' c', v' = .slice A' (n + 1) c' := by
  rcases h2.2 with ⟨_, e⟩ | ⟨g, cap, cur, rfl, _⟩
  ·omega
  ·exact ⟨_, _, rfl⟩
 obtain ⟨A', c', rfl⟩ := hv
 rw [ob_own] at h3
 exact h A' _ c' w' rfl ⟨by rw [List.length_append, hown.1]; rfl, by rw [List.flatMap_append, List.flatMap_cons, List.flatMap_nil, List.append_nil]; exact h2⟩ h3
theorem reads_pr (w : World) (x y : Nat) : Reads (w.alloc (.cells #[.int .i64 (x : Int), .int .i64 (y : Int)] 110)) (w.heap.size + 1) 2 (some ⟨w.heap.size, 0, none⟩) 1 (prL (x, y)) := reads_wk w x y _ rfl
theorem docAt_any (S : ByteArray) (hS : S.size ≤ 1000000) (r : Rx) (hk : okR r) (lo : Nat → Prop) (k a b c d : Int) (A : Option Addr) (n cp : Nat) (f : Nat) (hf : f ≤ S.size) (w : World) (hC : ReC w lo (rxT r) ⟨k, a, b, c, d, A, n, cp⟩) :
  Calls Tryz.prog 93 #[.agg #[.int .i64 k, .int .u64 a, .int .u64 b, .int .u64 c, .int .u64 d, .slice A n cp], .string S, .int .i64 (f : Int)] w fun e w' => ((∀ j, ¬ Mt S.data.toList r f j) ∧ e = .returned (.tuple #[.int .i64 0, .bool false]) ∨ ∃ q : Nat, (Mt S.data.toList r f q ∧ q ≤ S.size ∧ ∀ j, Mt S.data.toList r f j → j ≤ q) ∧ e = .returned (.tuple #[.int .i64 (q : Int), .bool true])) ∧ Later w w' :=
 (at_walk S hS r (step_any S hS r hk) lo k a b c d A n cp f hf w hC).mono fun e w' ⟨⟨C, hs, he⟩, hl⟩ => by
  refine ⟨?_, hl⟩
  have hlen : S.data.toList.length = S.size := rfl
  rcases at_law (x := S.data.toList) hs hf with ⟨h1, h2⟩ | ⟨q, h1, h2, h3, h4⟩
  ·rw [hlen] at h1
   rw [h1] at he
   exact .inl ⟨h2, he⟩
  ·rw [hlen] at h1
   rw [h1] at he
   exact .inr ⟨q, ⟨h2, h3, h4⟩, he⟩
def findV : Option (Nat × Nat) → Value
 | none => .tuple #[.int .i64 0, .int .i64 0, .bool false]
 | some u => .tuple #[.int .i64 (u.1 : Int), .int .i64 (u.2 : Int), .bool true]
set_option maxRecDepth 100000 in
set_option maxHeartbeats 4000000 in
theorem docFind_any (S : ByteArray) (hS : S.size ≤ 1000000) (r : Rx) (hk : okR r) (lo : Nat → Prop) (k a b c d : Int) (A : Option Addr) (n cp : Nat) (p : Nat) (hp : p ≤ S.size) (w : World) (hC : ReC w lo (rxT r) ⟨k, a, b, c, d, A, n, cp⟩) :
  Calls Tryz.prog 74 #[.agg #[.int .i64 k, .int .u64 a, .int .u64 b, .int .u64 c, .int .u64 d, .slice A n cp], .string S, .int .i64 (p : Int)] w fun e w' => e = .returned (findV (findF (machF r) S.data.toList p S.size)) ∧ Later w w' := by
 have hB := find_law r S.data.toList p S.size hp (Nat.le_refl _)
 obtain ⟨R, hR⟩ : ∃ R, R = findF (machF r) S.data.toList p S.size := ⟨_, rfl⟩
 rw [← hR] at hB ⊢
 have HB := Lib.hid hB
 obtain ⟨W0, hW0⟩ : ∃ W0, W0 = w.alloc (.cells #[.int .i64 k, .int .u64 a, .int .u64 b, .int .u64 c, .int .u64 d, .slice A n cp] 98) := ⟨_, rfl⟩
 have B0 : Blk W0 w.heap.size 98 #[.int .i64 k, .int .u64 a, .int .u64 b, .int .u64 c, .int .u64 d, .slice A n cp] := by rw [hW0]; exact Blk.new w _ _
 have hl0 : Later w W0 := by rw [hW0]; exact (Later.refl w).alloc _
 have hC0 := hC.later hl0
 have hmx : max (0 : Int) (p : Int) = (p : Int) := by omega
 have HL := Lib.hid hl0
 have HC := Lib.hid hC0
 have HB0 := Lib.hid B0
 have hSi : (S.size : Int) ≤ 1000000 := by omega
 clear hR hB hl0 hC hC0 B0
 go_enter Tryz.func74, Tryz.ntmps74
 go_upto_region 1 with fail
 rw [← hW0]
 clear hW0
 go_wp2_with fail
 go_loopw [9] (fun s9 wr => ∃ i : Nat, p ≤ i ∧ i ≤ S.size + 1 ∧ s9 = .int .i64 (i : Int) ∧ Hid (∀ q, p ≤ q → q < i → ∀ j, ¬ Mt S.data.toList r q j) ∧ Later W0 wr) (fun s9 _ => S.size + 1 - (intOf s9).toNat)
 case atStart => exact ⟨p, Nat.le_refl _, by omega, rfl, fun q h1 h2 => by omega, Later.refl _⟩
 case round =>
  obtain ⟨i, hpi, hi, rfl, HN, hlr⟩ := hrel
  have HLR := Lib.hid hlr
  by_cases hle : i ≤ S.size
  ·have hlei : (i : Int) ≤ (S.size : Int) := by omega
   have HA := Lib.hid (docAt_any S hS r hk lo k a b c d A n cp i hle wr (HC.out.later hlr))
   obtain ⟨z0, z1, z2, z3, z4, z5, -⟩ := cells6 (blkL hlr HB0.out)
   clear hlr hle
   go_wp2_with fail
   refine HA.out.mono ?_
   rintro e w1 ⟨⟨hno, rfl⟩ | ⟨q, hq, rfl⟩, hl1⟩
   ·have HNO : Hid (∀ q, p ≤ q → q < i + 1 → ∀ j, ¬ Mt S.data.toList r q j) := fun q h1 h2 => by
     by_cases h : q < i
     ·exact HN.out q h1 h
     ·obtain rfl : q = i := by omega
      exact hno
    have HL1 := Lib.hid hl1
    clear hno hl1
    go_wp2_with fail
    go_roundw
    case rel => exact ⟨i + 1, by omega, by omega, by go_num, HNO, HLR.out.trans HL1.out⟩
    case measure => first | (simp [intOf]; done) | (simp [intOf]; omega)
   ·have HQ := Lib.hid hq
    have HL1 := Lib.hid hl1
    clear hq hl1
    go_wp2_with fail
    go_ret3
    have he : R = some (i, q) := best_first (x := S.data.toList) HB.out hpi (by have : S.data.toList.length = S.size := rfl; omega) HQ.out.1 HQ.out.2.2 (fun q h1 h2 => HN.out q h1 h2)
    exact ⟨by rw [he]; rfl, HL.out.trans (HLR.out.trans HL1.out)⟩
  ·have hlei : ¬ (i : Int) ≤ (S.size : Int) := by omega
   clear hlr
   go_wp2_with fail
   go_ret3
   have he : R = none := best_none (x := S.data.toList) HB.out (fun q h1 h2 => HN.out q h1 (by have : S.data.toList.length = S.size := rfl; omega))
   exact ⟨by rw [he]; rfl, HL.out.trans HLR.out⟩
end Go.Proofs.YtmkddhkpeiajhaaGreatDoor
