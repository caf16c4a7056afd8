/-
  Package field's By and Split at a regular expression: chapter 21's example.
-/
import Derived.Test.YtmkddhkpeiajhaaDoorSplitF
import Derived.Test.YtmkddhkpeiajhaaDoorRunAll
namespace Go.Proofs.YtmkddhkpeiajhaaDoor
open Go.RowKit

def rF : Rx := .plus (.set (287948901175001088, 0, 0, 0))
theorem bfp : parseF [91, 48, 45, 57, 93, 43] = (rxT rF, 0, 0) := by kernel_rfl
theorem bfr : rightT (rxT rF) = true := by kernel_rfl
theorem bfk : okR rF := ⟨by decide, by decide, by decide, by decide⟩
theorem bfa : allF (fun p => findF (machF rF) [97, 49, 98, 50, 50, 99] p 6) 6 8 0 (-1) [] = [(1, 2), (3, 5)] := by kernel_rfl
def outK : Nat → List (List UInt8)
  | 0 => []
  | 1 => [[97]]
  | _ => [[97], [98]]
def fromK : Nat → Int
  | 0 => 0
  | 1 => 2
  | _ => 5
theorem cf (n : Nat) (hn : n ≤ 1000000) : ∀ W : World, (convert 68 3 (.float .f64 (fl (n : Int)))).run Tryd.prog W = .ok (.int .i64 (n : Int)) W := fun W => conv_fi n hn W
theorem lt_fl (a b : Int) (ha : a.natAbs < 2 ^ 53) (hb : b.natAbs < 2 ^ 53) (h : a < b) : (FloatKind.f64.format.order (fl a) (fl b) == some Ordering.lt) = true := by
  show (Ieee.double.order (fl a) (fl b) == some Ordering.lt) = true
  rw [fl_order a b ha hb, show compare a b = Ordering.lt from Int.compare_eq_lt.2 h]
  rfl

set_option maxRecDepth 100000 in
set_option maxHeartbeats 8000000 in
theorem by_at (w : World) (mb g : Nat) (hM : RunsM w mb g (machF rF).1 (machF rF).2) :
    Calls Tryd.prog 20 #[.string (bstr [97, 49, 98, 50, 50, 99]), .pointer (some ⟨g, 0, none⟩)] w fun e w' => ∃ A n c, e = .returned (.slice A n c) ∧ OwnZ w' w.heap.size A n c [[97], [98], [99]] ∧ Later w w' := by
  have hall := all_at (bstr [97, 49, 98, 50, 50, 99]) w mb g rF hM (by decide) _ bfa
  obtain ⟨S, hS⟩ : ∃ S, S = bstr [97, 49, 98, 50, 50, 99] := ⟨_, rfl⟩
  rw [← hS] at hall ⊢
  have hsz : S.size = 6 := by rw [hS]; rfl
  have x0 : (S.extract 0 1).data.toList = [97] := by rw [hS]; rfl
  have x1 : (S.extract 2 3).data.toList = [98] := by rw [hS]; rfl
  have x2 : (S.extract 5 6).data.toList = [99] := by rw [hS]; rfl
  have X0 := Lib.hid x0
  have X1 := Lib.hid x1
  have X2 := Lib.hid x2
  have HALL := Lib.hid hall
  clear hS hM hall x0 x1 x2
  go_enter Tryd.func20, Tryd.ntmps20
  go_wp2_with fail
  refine HALL.out.mono ?_
  rintro e w1 ⟨A, n, c, rfl, hown, hl1⟩
  have hn : n = 2 := hown.1.symm
  subst hn
  obtain ⟨ga, rfl, _, _, y0⟩ := hown.at_ (k := 0) (x := (1, 2)) rfl
  obtain ⟨gb, hgb, _, _, y1⟩ := hown.at_ (k := 1) (x := (3, 5)) rfl
  injection hgb with hgb
  injection hgb with hgb
  subst hgb
  have y0 : w1.cell? ⟨ga, 0, none⟩ = some (.complex .f64 (fl 1) (fl 2)) := y0
  have y1 : w1.cell? ⟨ga, 1, none⟩ = some (.complex .f64 (fl 3) (fl 5)) := y1
  have HY : Hid (w1.cell? ⟨ga, 0, none⟩ = some (.complex .f64 (fl 1) (fl 2)) ∧ w1.cell? ⟨ga, 1, none⟩ = some (.complex .f64 (fl 3) (fl 5))) := ⟨y0, y1⟩
  have HL1 := Lib.hid hl1
  clear y0 y1 hown hl1 HALL
  have o0 : (FloatKind.f64.format.order (fl 1) (fl 2) == some Ordering.lt) = true := lt_fl 1 2 (by decide) (by decide) (by decide)
  have o1 : (FloatKind.f64.format.order (fl 3) (fl 5) == some Ordering.lt) = true := lt_fl 3 5 (by decide) (by decide) (by decide)
  have v1 : ∀ W : World, (convert 68 3 (.float .f64 (fl 1))).run Tryd.prog W = .ok (.int .i64 1) W := cf 1 (by decide)
  have v2 : ∀ W : World, (convert 68 3 (.float .f64 (fl 2))).run Tryd.prog W = .ok (.int .i64 2) W := cf 2 (by decide)
  have v3 : ∀ W : World, (convert 68 3 (.float .f64 (fl 3))).run Tryd.prog W = .ok (.int .i64 3) W := cf 3 (by decide)
  have v5 : ∀ W : World, (convert 68 3 (.float .f64 (fl 5))).run Tryd.prog W = .ok (.int .i64 5) W := cf 5 (by decide)
  go_wp2_with fail
  go_loopw [5, 6, 13] (fun s5 s6 s13 wr => ∃ (k : Nat) (f : Int) (A : Option Addr) (n c : Nat), k ≤ 2 ∧ s5 = .slice A n c ∧ s6 = .int .i64 f ∧ f = fromK k ∧ s13 = .int .i64 (k : Int) ∧ OwnZ wr w1.heap.size A n c (outK k) ∧ Later w1 wr) (fun _ _ s13 _ => 2 - (intOf s13).toNat)
  case atStart => exact ⟨0, 0, none, 0, 0, Nat.zero_le _, rfl, rfl, rfl, rfl, OwnZ.nil, Later.refl _⟩
  case round =>
    obtain ⟨k, f, A, n, c, hk, rfl, rfl, hf, rfl, hown, hlr⟩ := hrel
    have y0 : wr.cell? ⟨ga, 0, none⟩ = some (.complex .f64 (fl 1) (fl 2)) := by rw [Later.cell hlr (World.block_lt_of_cell? _ _ HY.out.1), HY.out.1]
    have y1 : wr.cell? ⟨ga, 1, none⟩ = some (.complex .f64 (fl 3) (fl 5)) := by rw [Later.cell hlr (World.block_lt_of_cell? _ _ HY.out.2), HY.out.2]
    have hnl := hown.len
    have hlw : Hid (Later w wr) := HL1.out.trans hlr
    have HLR := Lib.hid hlr
    have HLO : Hid (∀ q, ob A = some q → w1.heap.size ≤ q) := fun q hq => (hown.lt q hq).1
    have hsw1 := hlr.size
    have hsw := hlw.out.size
    clear hlr
    rcases (show k = 0 ∨ k = 1 ∨ k = 2 by omega) with rfl | rfl | rfl
    · have hnb : n ≤ 2 := by rw [← hnl]; decide
      replace hf : f = 0 := hf
      subst hf
      clear hnl
      go_wp2_with (at_builtin; go_loud (refine wpList_append_z _ rfl (.tmp 22) (.tmp 29) rfl w1.heap.size A n c _ rfl (hown.later ((Later.refl _).alloc _)) _ _ _ rfl (reads_b _ _ _) (by omega) (by simp; omega) ?_); intro A9 n9 c9 w9 hn9 hown9 hg9)
      have hl9 : Later w1 w9 := (HLR.out.alloc _).grown hg9 (fun q hq => (HLO.out q hq))
      rw [X0.out] at hown9
      go_wp2_with fail
      go_roundw
      case rel => exact ⟨1, 2, A9, n9, c9, by omega, by rw [hn9], rfl, rfl, by go_num, hown9, hl9⟩
      case measure => first | (simp [intOf]; done) | (simp [intOf]; omega)
    · have hnb : n ≤ 2 := by rw [← hnl]; decide
      replace hf : f = 2 := hf
      subst hf
      clear hnl
      go_wp2_with (at_builtin; go_loud (refine wpList_append_z _ rfl (.tmp 22) (.tmp 29) rfl w1.heap.size A n c _ rfl (hown.later ((Later.refl _).alloc _)) _ _ _ rfl (reads_b _ _ _) (by omega) (by simp; omega) ?_); intro A9 n9 c9 w9 hn9 hown9 hg9)
      have hl9 : Later w1 w9 := (HLR.out.alloc _).grown hg9 (fun q hq => (HLO.out q hq))
      rw [X1.out] at hown9
      go_wp2_with fail
      go_roundw
      case rel => exact ⟨2, 5, A9, n9, c9, by omega, by rw [hn9], rfl, rfl, by go_num, hown9, hl9⟩
      case measure => first | (simp [intOf]; done) | (simp [intOf]; omega)
    · have hnb : n ≤ 2 := by rw [← hnl]; decide
      replace hf : f = 5 := hf
      subst hf
      clear hnl
      go_wp2_with (at_builtin; refine wpList_append_z _ rfl (.tmp 35) (.tmp 39) rfl w1.heap.size A n c _ rfl (hown.later ((Later.refl _).alloc _)) _ _ _ rfl (reads_b _ _ _) (by omega) (by simp; omega) ?_; intro A9 n9 c9 w9 hn9 hown9 hg9)
      have hl9 : Later w w9 := (hlw.out.alloc _).grown hg9 (fun q hq => Nat.le_trans HL1.out.size (HLO.out q hq))
      rw [X2.out] at hown9
      go_wp2_with fail
      go_ret
      exact ⟨A9, n9, c9, by rw [hn9]; rfl, OwnZ.base_le hown9 HL1.out.size, hl9⟩

set_option maxRecDepth 100000 in
set_option maxHeartbeats 4000000 in
theorem plain_no (S T : ByteArray) (w : World) (e1 : S.toList.isEmpty = false) (e2 : (T.toList == [32]) = false) (e3 : T.toList.isEmpty = false) (e5 : ((T.size : Int) == 1) = false) :
    Calls Tryd.prog 18 #[.string S, .string T] w fun e w' => e = .returned (.tuple #[.slice none 0 0, .bool false]) ∧ Later w w' := by
  go_enter Tryd.func18, Tryd.ntmps18
  go_wp2_with fail
  go_ret2
  exact ⟨rfl, Later.refl _⟩

set_option maxRecDepth 100000 in
set_option maxHeartbeats 4000000 in
theorem fsplit_re (w : World) :
    Calls Tryd.prog 6 #[.string (bstr [97, 49, 98, 50, 50, 99]), .string (bstr [91, 48, 45, 57, 93, 43])] w fun e w' => ∃ v, e = .returned (.tuple #[v, .int .i64 0]) ∧ RetSs w [[97], [98], [99]] v w' := by
  have hp := fun (wx : World) => plain_no (bstr [97, 49, 98, 50, 50, 99]) (bstr [91, 48, 45, 57, 93, 43]) wx (by rw [bstr_toList]; rfl) (by rw [bstr_toList]; rfl) (by rw [bstr_toList]; rfl) (by rfl)
  have hnw := fun (wx : World) => new_at (bstr [91, 48, 45, 57, 93, 43]) rF wx (by decide) bfp bfr bfk
  have hby := by_at
  obtain ⟨S, hS⟩ : ∃ S, S = bstr [97, 49, 98, 50, 50, 99] := ⟨_, rfl⟩
  obtain ⟨T, hT⟩ : ∃ T, T = bstr [91, 48, 45, 57, 93, 43] := ⟨_, rfl⟩
  rw [← hS] at hp hby ⊢
  rw [← hT] at hp hnw ⊢
  have HP := Lib.hid hp
  have HN := Lib.hid hnw
  have HB := Lib.hid hby
  clear hS hT hp hnw hby
  go_enter Tryd.func6, Tryd.ntmps6
  go_wp2_with fail
  refine (HP.out _).mono ?_
  rintro e w1 ⟨rfl, hl1⟩
  have HL1 := Lib.hid hl1
  clear hl1
  go_wp2_with fail
  refine (HN.out _).mono ?_
  rintro e w2 ⟨g, rfl, hM, hl2⟩
  have HM := Lib.hid hM
  have HL2 := Lib.hid hl2
  clear hM hl2
  go_wp2_with fail
  refine (HB.out _ _ g HM.out).mono ?_
  rintro e w3 ⟨A, n, c, rfl, ho, hl3⟩
  have HO := Lib.hid ho
  have HL3 := Lib.hid hl3
  clear ho hl3
  go_wp2_with fail
  go_ret2
  exact ⟨_, rfl, A, n, c, rfl, HO.out.rd, HL1.out.trans (HL2.out.trans HL3.out)⟩

end Go.Proofs.YtmkddhkpeiajhaaDoor
