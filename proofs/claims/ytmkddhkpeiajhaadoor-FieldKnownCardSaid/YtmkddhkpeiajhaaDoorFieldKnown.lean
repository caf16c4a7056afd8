/-
  FieldKnown: chapter 21's examples.
-/
import Derived.Test.YtmkddhkpeiajhaaDoorFieldKn
import Derived.Test.YtmkddhkpeiajhaaDoorRecAll
namespace Go.Proofs.YtmkddhkpeiajhaaDoor
open Go.RowKit

theorem plain_chars (w : World) :
    Calls Tryd.prog 18 #[.string (bstr [97, 98]), .string ⟨#[]⟩] w fun e w' => ∃ v, e = .returned (.tuple #[v, .bool true]) ∧ RetSs w [[97], [98]] v w' := by
  obtain ⟨S, hS⟩ : ∃ S, S = bstr [97, 98] := ⟨_, rfl⟩
  rw [← hS]
  have hsz : S.size = 2 := by rw [hS]; rfl
  have e1 : S.toList.isEmpty = false := by rw [hS, bstr_toList]; rfl
  have x0 : (S.extract 0 1).data.toList = [97] := by rw [hS]; rfl
  have x1 : (S.extract 1 2).data.toList = [98] := by rw [hS]; rfl
  have X0 := Lib.hid x0
  have X1 := Lib.hid x1
  clear hS x0 x1
  go_enter Tryd.func18, Tryd.ntmps18
  go_wp2_with fail
  go_loopw [6, 21] (fun s6 s21 wr => ∃ (k : Nat) (A : Option Addr) (n c : Nat), k ≤ 2 ∧ s6 = .slice A n c ∧ s21 = .int .i64 (k : Int) ∧ OwnZ wr w.heap.size A n c ([[97], [98]].take k) ∧ Later w wr) (fun _ s21 _ => 2 - (intOf s21).toNat)
  case atStart => exact ⟨0, none, 0, 0, Nat.zero_le _, rfl, rfl, OwnZ.nil, Later.refl _⟩
  case round =>
    obtain ⟨k, A, n, c, hk, rfl, rfl, hown, hlr⟩ := hrel
    have hnl := hown.len
    have HLR := Lib.hid hlr
    have hsw := hlr.size
    clear hlr
    rcases (show k = 0 ∨ k = 1 ∨ k = 2 by omega) with rfl | rfl | rfl
    · have hnb : n ≤ 2 := by rw [← hnl]; decide
      clear hnl
      go_wp2_with (at_builtin; refine wpList_append_z _ rfl (.tmp 24) (.tmp 30) rfl w.heap.size A n c _ rfl (hown.later ((Later.refl _).alloc _)) _ _ _ rfl (reads_b _ _ _) (by omega) (by simp; omega) ?_; intro A9 n9 c9 w9 hn9 hown9 hg9)
      have hl9 : Later w w9 := (HLR.out.alloc _).grown hg9 (fun q hq => (hown.lt q hq).1)
      rw [X0.out] at hown9
      go_wp2_with fail
      go_roundw
      case rel => exact ⟨1, A9, n9, c9, by omega, by rw [hn9], by go_num, hown9, hl9⟩
      case measure => first | (simp [intOf]; done) | (simp [intOf]; omega)
    · have hnb : n ≤ 2 := by rw [← hnl]; decide
      clear hnl
      go_wp2_with (at_builtin; refine wpList_append_z _ rfl (.tmp 24) (.tmp 30) rfl w.heap.size A n c _ rfl (hown.later ((Later.refl _).alloc _)) _ _ _ rfl (reads_b _ _ _) (by omega) (by simp; omega) ?_; intro A9 n9 c9 w9 hn9 hown9 hg9)
      have hl9 : Later w w9 := (HLR.out.alloc _).grown hg9 (fun q hq => (hown.lt q hq).1)
      rw [X1.out] at hown9
      go_wp2_with fail
      go_roundw
      case rel => exact ⟨2, A9, n9, c9, by omega, by rw [hn9], by go_num, hown9, hl9⟩
      case measure => first | (simp [intOf]; done) | (simp [intOf]; omega)
    · go_wp2_with fail
      go_ret2
      exact ⟨_, rfl, RetSs.own hown HLR.out⟩
theorem fsplit_chars (w : World) :
    Calls Tryd.prog 6 #[.string (bstr [97, 98]), .string ⟨#[]⟩] w fun e w' => ∃ v, e = .returned (.tuple #[v, .int .i64 0]) ∧ RetSs w [[97], [98]] v w' :=
  fsplit_plain _ _ (fun a v b => RetSs a [[97], [98]] v b) w fun wx _ => plain_chars wx

theorem bad_at : (parseF [40, 40]).2.2 ≠ 0 := by decide +kernel
set_option maxRecDepth 100000 in
set_option maxHeartbeats 4000000 in
theorem fsplit_bad (w : World) :
    Calls Tryd.prog 6 #[.string (bstr [97, 98]), .string (bstr [40, 40])] w fun e w' => e = .returned (.tuple #[.slice none 0 0, .int .i64 47]) ∧ Later w w' := by
  have hp := fun (wx : World) => plain_no (bstr [97, 98]) (bstr [40, 40]) wx (by rw [bstr_toList]; rfl) (by rw [bstr_toList]; rfl) (by rw [bstr_toList]; rfl) (by rfl)
  have hnw : ∀ wx : World, Calls Tryd.prog 19 #[.string (bstr [40, 40])] wx fun e w' => ∃ a b : Int, (b != 0) = true ∧ e = .returned (.tuple #[.pointer none, .int .i64 a, .int .i64 b]) ∧ Later wx w' := fun wx =>
    (new_any (bstr [40, 40]) wx (by decide)).mono fun e w' h => by
      rcases h with ⟨h1, h2, h3⟩ | ⟨g, r, h1, _⟩
      · exact ⟨_, _, by rw [bne_iff_ne]; intro e; exact h1 (by omega), h2, h3⟩
      · exact absurd (congrArg (fun x => x.2.2) h1) bad_at
  obtain ⟨S, hS⟩ : ∃ S, S = bstr [97, 98] := ⟨_, rfl⟩
  obtain ⟨T, hT⟩ : ∃ T, T = bstr [40, 40] := ⟨_, rfl⟩
  rw [← hS, ← hT] at hp
  rw [← hT] at hnw
  rw [← hS, ← hT]
  have HP := Lib.hid hp
  have HN := Lib.hid hnw
  clear hS hT hp hnw
  go_enter Tryd.func6, Tryd.ntmps6
  go_wp2_with fail
  refine (HP.out _).mono ?_
  rintro e w1 ⟨rfl, hl1⟩
  have HL1 := Lib.hid hl1
  clear hl1
  go_wp2_with fail
  refine (HN.out _).mono ?_
  rintro e w2 ⟨a, b, hb, rfl, hl2⟩
  go_wp2_with fail
  go_ret2
  exact ⟨rfl, HL1.out.trans hl2⟩
theorem recPut_bad (g : Nat) (S T : ByteArray) (w : World) : Calls Tryd.prog 14 #[.pointer (some ⟨g, 0, none⟩), .int .i64 0, .string S, .string T] w fun e w' => e = .returned (.int .i64 45) ∧ Later w w' := by
  go_enter Tryd.func14, Tryd.ntmps14
  go_wp2_with fail
  go_ret
  exact ⟨rfl, Later.refl _⟩
theorem recSetNF_bad (g : Nat) (T : ByteArray) (w : World) : Calls Tryd.prog 17 #[.pointer (some ⟨g, 0, none⟩), .int .i64 (-1), .string T] w fun e w' => e = .returned (.int .i64 45) ∧ Later w w' := by
  go_enter Tryd.func17, Tryd.ntmps17
  go_wp2_with fail
  go_ret
  exact ⟨rfl, Later.refl _⟩
theorem later_frk {w w1 w2 : World} {g : Nat} (h : Later w w1) (hf : Fr w1 w2 (fun k => k = g)) (hg : w.heap.size ≤ g) : Later w w2 :=
  ⟨hf.os.trans h.os, hf.tape.trans h.tape, hf.output.trans h.output, Nat.le_trans h.size hf.size, fun k hk => (hf.block k (Nat.lt_of_lt_of_le hk h.size) (by show ¬ k = g; omega)).trans (h.block k hk)⟩
theorem fw : wordsF [97, 32, 98] = [[97], [98]] := by decide +kernel
theorem fput : putL [[97], [98]] 3 [100] = [[97], [98], [], [100]] := by decide +kernel
theorem fjn : Lib.join [[97], [98], [], [100]] [45] = [97, 45, 98, 45, 45, 100] := by decide +kernel

set_option maxRecDepth 100000 in
set_option maxHeartbeats 16000000 in
theorem fieldKnownLaw_any (w : World) (hm : MaxL w) : Calls Tryd.prog 5 #[] w fun e w' => e = .returned (.bool true) ∧ Later w w' := by
  have hst : ∀ (g : Nat) (wx : World), RcOk wx g [] [] → Calls Tryd.prog 11 #[.pointer (some ⟨g, 0, none⟩), .string ⟨#[97, 32, 98]⟩, .string ⟨#[32]⟩] wx fun e w' => e = .returned (.int .i64 0) ∧ RcOk w' g [97, 32, 98] [[97], [98]] ∧ Fr wx w' (fun k => k = g) := fun g wx h => by
    have h1 := recSet_any g [] [] [97, 32, 98] wx h (by decide) (by rw [fw]; decide)
    rw [fw] at h1
    exact h1
  have hpt : ∀ (g : Nat) (wx : World), RcOk wx g [97, 32, 98] [[97], [98]] → g < wx.heap.size → Calls Tryd.prog 14 #[.pointer (some ⟨g, 0, none⟩), .int .i64 4, .string ⟨#[100]⟩, .string ⟨#[45]⟩] wx fun e w' => e = .returned (.int .i64 0) ∧ RcOk w' g [97, 45, 98, 45, 45, 100] [[97], [98], [], [100]] ∧ Fr wx w' (fun k => k = g) := fun g wx h hg => by
    have h1 := recPut_any g 3 [97, 32, 98] [100] [[97], [98]] [45] wx h hg (by decide) (by decide) (by decide) (by rw [fput, fjn]; decide)
    rw [fput, fjn] at h1
    exact h1
  have HST := Lib.hid hst
  have HPT := Lib.hid hpt
  have HM := Lib.hid hm
  clear hst hpt hm
  go_enter Tryd.func5, Tryd.ntmps5
  go_wp2_with fail
  refine (fsplit_chars _).mono ?_
  rintro e w1 ⟨_, rfl, A1, n1, c1, rfl, hr1, hl1⟩
  have hn1 : n1 = 2 := hr1.len.symm
  subst hn1
  have HR1 := Lib.hid hr1
  have HL1 := Lib.hid hl1
  clear hr1 hl1
  go_wp2_with fail
  refine (fsplit_bad _).mono ?_
  rintro e w2 ⟨rfl, hl2⟩
  have HL2 : Hid (Later w w2) := HL1.out.trans hl2
  have HR2 := Lib.hid (HR1.out.lat hl2)
  clear hl2
  go_wp2_with fail
  refine (recNew_any _).mono ?_
  rintro e w3 ⟨rfl, hrc, hl3⟩
  obtain ⟨g, hg⟩ : ∃ g, g = w2.heap.size := ⟨_, rfl⟩
  rw [← hg] at hrc ⊢
  have hgw : w.heap.size ≤ g := by rw [hg]; exact HL2.out.size
  have hg2 : w2.heap.size ≤ g := by omega
  have HRC := Lib.hid hrc
  have HL3 := Lib.hid hl3
  have HLW3 : Hid (Later w w3) := HL2.out.trans hl3
  clear hrc hl3 hg
  go_wp2_with fail
  refine (fieldKnown_any _ (HM.out.later HLW3.out)).mono ?_
  rintro e w4 ⟨rfl, hl4⟩
  have HRC4 := Lib.hid (HRC.out.later hl4)
  have HL4 : Hid (Later w2 w4) := HL3.out.trans hl4
  clear hl4 HRC
  go_wp2_with fail
  refine (HST.out g _ HRC4.out).mono ?_
  rintro e w5 ⟨rfl, hr5, hf5⟩
  have HL5 : Hid (Later w2 w5) := later_frk HL4.out hf5 hg2
  have hg5 : g < w5.heap.size := by obtain ⟨_, _, _, hB, _, _⟩ := hr5; exact hB.lt
  have HR5 := Lib.hid hr5
  clear hr5 hf5 HRC4
  go_wp2_with fail
  refine (HPT.out g _ HR5.out hg5).mono ?_
  rintro e w6 ⟨rfl, hr6, hf6⟩
  have HL6 : Hid (Later w2 w6) := later_frk HL5.out hf6 hg2
  have HR6 := Lib.hid hr6
  clear hr6 hf6
  go_wp2_with fail
  refine (recGet_in g 1 _ _ [98] _ HR6.out (by decide) rfl).mono ?_
  rintro e w7 ⟨rfl, hl7⟩
  have HL7 := Lib.hid hl7
  clear hl7
  go_wp2_with fail
  refine (recGet_out g 9 _ _ _ (HR6.out.later HL7.out) (by decide) (by decide) (by decide)).mono ?_
  rintro e w8 ⟨rfl, hl8⟩
  have HL8 : Hid (Later w6 w8) := HL7.out.trans hl8
  clear hl8
  go_wp2_with fail
  refine (recGet_far g 101 _ (by decide)).mono ?_
  rintro e w9 ⟨rfl, hl9⟩
  have HL9 : Hid (Later w6 w9) := HL8.out.trans hl9
  clear hl9
  go_wp2_with fail
  refine (strs_lit _ A1 2 c1 [[97], [98]] _ (HR2.out.lat (HL6.out.trans HL9.out)) rfl (by decide)).mono ?_
  rintro e w10 ⟨rfl, hl10⟩
  have HL10 : Hid (Later w6 w10) := HL9.out.trans hl10
  clear hl10
  go_wp2_with fail
  refine (recText_any g _ _ _ (HR6.out.later HL10.out)).mono ?_
  rintro e w11 ⟨rfl, hl11⟩
  have HL11 : Hid (Later w6 w11) := HL10.out.trans hl11
  have t1 : (bstr [98]).toList = [98] := bstr_toList _
  have t2 : (bstr [97, 45, 98, 45, 45, 100]).toList = [97, 45, 98, 45, 45, 100] := bstr_toList _
  clear hl11
  go_wp2_with fail
  refine (recNF_any g _ _ _ (HR6.out.later HL11.out)).mono ?_
  rintro e w12 ⟨rfl, hl12⟩
  have HL12 : Hid (Later w6 w12) := HL11.out.trans hl12
  clear hl12
  go_wp2_with fail
  refine (recPut_bad g _ _ _).mono ?_
  rintro e w13 ⟨rfl, hl13⟩
  have HL13 : Hid (Later w6 w13) := HL12.out.trans hl13
  clear hl13
  go_wp2_with fail
  refine (recSetNF_bad g _ _).mono ?_
  rintro e w14 ⟨rfl, hl14⟩
  go_wp2_with fail
  go_ret
  exact ⟨rfl, HL2.out.trans (HL6.out.trans (HL13.out.trans hl14))⟩

end Go.Proofs.YtmkddhkpeiajhaaDoor
