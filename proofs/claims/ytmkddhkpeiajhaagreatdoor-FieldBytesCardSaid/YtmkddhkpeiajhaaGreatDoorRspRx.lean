import Derived.Test.YtmkddhkpeiajhaaGreatDoorDocAllW
import Derived.Test.YtmkddhkpeiajhaaGreatDoorFieldLaw
import Derived.Laws.CopyOwn
import Derived.Lib.Join
namespace Go.Proofs.YtmkddhkpeiajhaaGreatDoor
open Go.RowKit
def Parsed (w : World) (r : Rx) (e : Ending) (w' : World) : Prop :=
 ∃ (k a b c d : Int) (A : Option Addr) (n cp : Nat), e = .returned (.tuple #[.agg #[.int .i64 k, .int .u64 a, .int .u64 b, .int .u64 c, .int .u64 d, .slice A n cp], .int .i64 0, .int .i64 0]) ∧ (∃ lo, ReC w' lo (rxT r) ⟨k, a, b, c, d, A, n, cp⟩) ∧ Later w w'
set_option maxRecDepth 100000 in
set_option maxHeartbeats 8000000 in
theorem rsplit_rx (r : Rx) (L F : List UInt8) (w : World) (hL : L.length ≤ 90000) (hn : L ≠ []) (hF : IsRx F) (hk : okR r) (hparse : ∀ wx, Calls Tryz.prog 59 #[.string (bstr F)] wx (Parsed wx r)) :
  Calls Tryz.prog 46 #[.string (bstr L), .string (bstr F)] w fun e w' => ∃ v, e = .returned (.tuple #[v, .int .i64 0]) ∧ RetZ w (byL L 0 (allM r L)) v w' := by
 have e1 : (bstr L).toList.isEmpty = false := by rw [bstr_toList]; cases L with | nil => exact absurd rfl hn | cons _ _ => rfl
 have e2 : ((bstr F).toList == [32]) = false := by rw [bstr_toList]; exact beq_eq_false_iff_ne.2 hF.1
 have e3 : (bstr F).toList.isEmpty = false := by rw [bstr_toList]; cases F with | nil => exact absurd rfl hF.2.1 | cons _ _ => rfl
 have e4 : ((((bstr F).size : Nat) : Int) == 1) = false ∨ ((((bstr F).size : Nat) : Int) == 1) = true ∧ ((bstr F).toList == [92]) = true := by
  rcases hF.2.2 with h | h
  ·exact .inl (by rw [beq_eq_false_iff_ne]; show ¬ ((F.length : Int) = 1); omega)
  ·exact .inr ⟨by rw [h]; rfl, by rw [bstr_toList, h]; rfl⟩
 have hsz : (bstr L).size = L.length := rfl
 obtain ⟨hin, hRl⟩ := allM_row r L
 obtain ⟨U, hU⟩ : ∃ U, U = bstr F := ⟨_, rfl⟩
 rw [← hU] at e2 e3 e4 hparse ⊢
 have hall := fun (wx : World) (lo : Nat → Prop) (k a b c d : Int) (A : Option Addr) (n cp : Nat) (hC : ReC wx lo (rxT r) ⟨k, a, b, c, d, A, n, cp⟩) => docAll_any (bstr L) (by show L.length ≤ _; omega) r hk lo k a b c d A n cp wx hC
 obtain ⟨R, hR⟩ : ∃ R, R = allM r L := ⟨_, rfl⟩
 have hall : ∀ (wx : World) (lo : Nat → Prop) (k a b c d : Int) (A : Option Addr) (n cp : Nat) (hC : ReC wx lo (rxT r) ⟨k, a, b, c, d, A, n, cp⟩), Calls Tryz.prog 60 #[.agg #[.int .i64 k, .int .u64 a, .int .u64 b, .int .u64 c, .int .u64 d, .slice A n cp], .string (bstr L)] wx fun e w' => ∃ A' n' c', e = .returned (.slice A' n' c') ∧ OwnQ w' wx.heap.size A' n' c' R ∧ Later wx w' := by rw [hR]; exact hall
 rw [← hR] at hin hRl ⊢
 obtain ⟨T, hT⟩ : ∃ T, T = byL L 0 R := ⟨_, rfl⟩
 rw [← hT]
 have HT0 : Hid ([] ++ byL L 0 (R.drop 0) = T) := by rw [hT]; rfl
 have HIN := Lib.hid hin
 have HP := Lib.hid hparse
 have HA := Lib.hid hall
 clear hT hin hparse hall hR hU hn hF
 go_enter Tryz.func46, Tryz.ntmps46
 rcases e4 with e4 | ⟨e4, e5⟩
 all_goals
  go_wp2_with fail
  refine (HP.out _).mono ?_
  rintro e w1 ⟨k, a, b, c, d, Ar, nr, cr, rfl, ⟨lo, hC⟩, hl1⟩
  obtain ⟨W1, hW1⟩ : ∃ W1, W1 = w1.alloc (.cells #[.int .i64 k, .int .u64 a, .int .u64 b, .int .u64 c, .int .u64 d, .slice Ar nr cr] 98) := ⟨_, rfl⟩
  have B1 : Blk W1 w1.heap.size 98 #[.int .i64 k, .int .u64 a, .int .u64 b, .int .u64 c, .int .u64 d, .slice Ar nr cr] := by rw [hW1]; exact Blk.new w1 _ _
  have hlW : Later w1 W1 := by rw [hW1]; exact (Later.refl w1).alloc _
  have HCW := Lib.hid (hC.later hlW)
  have HLW : Hid (Later w W1) := Later.trans hl1 hlW
  obtain ⟨z0, z1, z2, z3, z4, z5, -⟩ := cells6 B1
  clear hC hl1 hlW B1
  go_upto_region 32 with fail
  rw [← hW1]
  clear hW1
  go_wp2_with fail
  refine (HA.out W1 lo k a b c d Ar nr cr HCW.out).mono ?_
  rintro e w2 ⟨A, n, cp, rfl, hown, hl2⟩
  have hn : n = R.length := hown.1.symm
  have HO := Lib.hid hown
  have HL2 : Hid (Later w w2) := HLW.out.trans hl2
  have HN := Lib.hid hn
  have hn2 : n ≤ 100000 := by omega
  clear hown hl2 hn z0 z1 z2 z3 z4 z5 HCW HLW
  go_wp2_with fail
  go_loopw [6, 17, 18] (fun s5 s6 s13 wr => ∃ (k f : Nat) (A5 : Option Addr) (m d : Nat) (out : List (List UInt8)), k ≤ n ∧ m ≤ k ∧ s5 = .slice A5 m d ∧ s6 = .int .i64 (f : Int) ∧ s13 = .int .i64 (k : Int) ∧ OwnZ wr w2.heap.size A5 m d out ∧ Hid (out ++ byL L f (R.drop k) = T) ∧ Hid (InRow L.length f (R.drop k)) ∧ Later w2 wr) (fun _ _ s13 _ => n - (intOf s13).toNat)
  case atStart => exact ⟨0, 0, none, 0, 0, [], Nat.zero_le _, Nat.zero_le _, rfl, rfl, rfl, OwnZ.nil, HT0, HIN, Later.refl _⟩
  case round =>
   obtain ⟨k, f, A5, m, d, out, hk, hmk, rfl, rfl, rfl, hrow, hT, hI, hlr⟩ := hrel
   have HLR := Lib.hid hlr
   have hsw := hlr.size
   have hfl := hI.out.le
   by_cases hlt : k < n
   ·have hlti : (k : Int) < (n : Int) := by omega
    obtain ⟨u, hu⟩ : ∃ u, R[k]? = some u := ⟨_, List.getElem?_eq_getElem (by rw [← HN.out]; exact hlt)⟩
    obtain ⟨a, b⟩ := u
    have hdrop : R.drop k = (a, b) :: R.drop (k + 1) := by
     obtain ⟨h1, h2⟩ := List.getElem?_eq_some_iff.1 hu
     rw [List.drop_eq_getElem_cons h1, h2]
    have HU := Lib.hid hu
    obtain ⟨ga, rfl, _, _, hc1, hc2⟩ := (HO.out.later hlr).at_ hu
    replace hc1 : wr.cell? ⟨ga, k * 2, none⟩ = some (.int .i64 (a : Int)) := hc1
    replace hc2 : wr.cell? ⟨ga, k * 2 + 1, none⟩ = some (.int .i64 (b : Int)) := hc2
    have hin := hI.out
    have ht := hT.out
    rw [hdrop] at hin ht
    obtain ⟨_, ha, hb, hif⟩ := hin
    by_cases hab : a < b
    ·rw [if_pos hab] at hif
     rw [byL, if_pos hab] at ht
     obtain ⟨hfa, hin2⟩ := hif
     have habi : (a : Int) < (b : Int) := by omega
     have hfai : (f : Int) ≤ (a : Int) := by omega
     have hali : (a : Int) ≤ (L.length : Int) := by omega
     have HTN : Hid ((out ++ [(L.drop f).take (a - f)]) ++ byL L b (R.drop (k + 1)) = T) := by rw [List.append_assoc]; exact ht
     have HIN2 := Lib.hid hin2
     have hml : m = out.length := hrow.len.symm
     clear hu hdrop ht hin2 hlr hT hI hml hab
     go_wp2_with fail
     go_quiet (fail)
     have hd1 : (wr.drewN nq).cell? ⟨ga, k * 2, none⟩ = some (.int .i64 (a : Int)) := hc1
     go_wp2_with (at_builtin; refine wpList_append_z _ rfl (.tmp 142) (.tmp 151) rfl w2.heap.size A5 m d _ rfl (hrow.later (((Later.refl _).drewN _).alloc _)) _ _ _ rfl (reads_b _ _ _) (by omega) (by simp; omega) ?_; intro A9 n9 c9 w9 hn9 hown9 hg9; have hl9 : Later w2 w9 := ((HLR.out.drewN _).alloc _).grown hg9 (fun q hq => (hrow.lt q hq).1); obtain ⟨ga', hga, _, _, hd3, hd4⟩ := (HO.out.later hl9).at_ HU.out; (obtain rfl : ga = ga' := by injection hga with h; injection h); replace hd4 : w9.cell? ⟨ga, k * 2 + 1, none⟩ = some (.int .i64 (b : Int)) := hd4; clear hga)
     rw [Lib.extract_data] at hown9
     go_wp2_with fail
     go_roundw
     case rel => exact ⟨k + 1, b, A9, n9, c9, _, by omega, by omega, by rw [hn9], rfl, by go_num, hown9, HTN, HIN2, hl9⟩
     case measure => first | (simp [intOf]; done) | (simp [intOf]; omega)
    ·rw [if_neg hab] at hif
     rw [byL, if_neg hab] at ht
     have habi : ¬ (a : Int) < (b : Int) := by omega
     have HTN := Lib.hid ht
     have HIN2 := Lib.hid hif
     clear hu hdrop ht hif hT hI hab hlr
     go_wp2_with fail
     go_quiet (fail)
     go_wp2_with fail
     go_roundw
     case rel => exact ⟨k + 1, f, A5, m, d, out, by omega, by omega, rfl, rfl, by go_num, hrow.later ((Later.refl _).drewN _), HTN, HIN2, HLR.out.drewN _⟩
     case measure => first | (simp [intOf]; done) | (simp [intOf]; omega)
   ·obtain rfl : n = k := by omega
    have ht := hT.out
    rw [List.drop_of_length_le (by rw [HN.out]; exact Nat.le_refl _), byL] at ht
    have HTN := Lib.hid ht
    have hfli : (f : Int) ≤ (L.length : Int) := by omega
    have hlw : Hid (Later w wr) := HL2.out.trans hlr
    clear ht hT hI
    go_wp2_with (at_builtin; refine wpList_append_z _ rfl (.tmp 158) (.tmp 162) rfl w2.heap.size A5 m d _ rfl (hrow.later ((Later.refl _).alloc _)) _ _ _ rfl (reads_b _ _ _) (by omega) (by simp; omega) ?_; intro A9 n9 c9 w9 hn9 hown9 hg9)
    have hl9 : Later w w9 := (hlw.out.alloc _).grown hg9 (fun q hq => Nat.le_trans HL2.out.size (hrow.lt q hq).1)
    rw [Lib.extract_data] at hown9
    go_wp2_with fail
    go_ret2
    have he : List.take (L.length - f) (List.drop f (bstr L).data.toList) = L.drop f := List.take_of_length_le (by show (L.drop f).length ≤ _; rw [List.length_drop]; exact Nat.le_refl _)
    refine ⟨_, rfl, A9, n9, c9, congrArg (fun x => Value.slice A9 x c9) hn9.symm, ?_, hl9⟩
    have h9 := OwnZ.base_le hown9 HL2.out.size
    rw [he] at h9
    rw [← HTN.out]
    exact h9
set_option maxRecDepth 100000 in
theorem rsplit_err (L F : List UInt8) (w : World) (hn : L ≠ []) (hF : IsRx F) (hparse : ∀ wx, Calls Tryz.prog 59 #[.string (bstr F)] wx fun e w' => ∃ (at_ er k a b c d : Int) (A : Option Addr) (n cp : Nat), (er != 0) = true ∧ e = .returned (.tuple #[.agg #[.int .i64 k, .int .u64 a, .int .u64 b, .int .u64 c, .int .u64 d, .slice A n cp], .int .i64 at_, .int .i64 er]) ∧ Later wx w') :
  Calls Tryz.prog 46 #[.string (bstr L), .string (bstr F)] w fun e w' => e = .returned (.tuple #[.slice none 0 0, .int .i64 47]) ∧ Later w w' := by
 have e1 : (bstr L).toList.isEmpty = false := by rw [bstr_toList]; cases L with | nil => exact absurd rfl hn | cons _ _ => rfl
 have e2 : ((bstr F).toList == [32]) = false := by rw [bstr_toList]; exact beq_eq_false_iff_ne.2 hF.1
 have e3 : (bstr F).toList.isEmpty = false := by rw [bstr_toList]; cases F with | nil => exact absurd rfl hF.2.1 | cons _ _ => rfl
 have e4 : ((((bstr F).size : Nat) : Int) == 1) = false ∨ ((((bstr F).size : Nat) : Int) == 1) = true ∧ ((bstr F).toList == [92]) = true := by
  rcases hF.2.2 with h | h
  ·exact .inl (by rw [beq_eq_false_iff_ne]; show ¬ ((F.length : Int) = 1); omega)
  ·exact .inr ⟨by rw [h]; rfl, by rw [bstr_toList, h]; rfl⟩
 obtain ⟨U, hU⟩ : ∃ U, U = bstr F := ⟨_, rfl⟩
 rw [← hU] at e2 e3 e4 hparse ⊢
 have HP := Lib.hid hparse
 clear hparse hU hn hF
 go_enter Tryz.func46, Tryz.ntmps46
 rcases e4 with e4 | ⟨e4, e5⟩
 all_goals
  go_wp2_with fail
  refine (HP.out _).mono ?_
  rintro e w1 ⟨p, q, k, a, b, c, d, Ar, nr, cr, hq, rfl, hl1⟩
  go_wp2_with fail
  go_ret2
  exact ⟨rfl, hl1.alloc _⟩
end Go.Proofs.YtmkddhkpeiajhaaGreatDoor
namespace Go.Proofs.YtmkddhkpeiajhaaGreatDoor
open Go.RowKit
theorem blkLz {w w' : World} {g : Nat} {t : TypeId} {cs : Array Value} (hl : Later w w') (h : Blk w g t cs) : Blk w' g t cs := h.below hl h.lt
theorem RdZ.latz {w w' : World} {A : Option Addr} {n : Nat} {ss : List (List UInt8)} (h : RdZ w w.heap.size A n ss) (hl : Later w w') : RdZ w' w'.heap.size A n ss := (RdZ.below h (hl.below (Nat.le_refl _))).more hl.size
theorem frLz {w w' : World} {p : Nat → Prop} (h : Later w w') : Fr w w' p := ⟨h.os, h.tape, h.output, h.size, fun k hk _ => h.block k hk⟩
def RcOk (M : Nat) (w : World) (g : Nat) (T : List UInt8) (ss : List (List UInt8)) : Prop :=
 ∃ A n c, Blk w g 52 #[.string (bstr T), .slice A n c] ∧ RdZ w w.heap.size A n ss ∧ ∀ k, ob A = some k → k ≠ g ∧ M ≤ k
variable {M : Nat}
theorem RcOk.later {w w' : World} {g : Nat} {T : List UInt8} {ss : List (List UInt8)} (h : RcOk M w g T ss) (hl : Later w w') : RcOk M w' g T ss := by
 obtain ⟨A, n, c, h1, h2, h3⟩ := h
 exact ⟨A, n, c, blkLz hl h1, h2.latz hl, h3⟩
theorem recText_any (g : Nat) (T : List UInt8) (ss : List (List UInt8)) (w : World) (h : RcOk M w g T ss) :
  Calls Tryz.prog 31 #[.pointer (some ⟨g, 0, none⟩)] w fun e w' => e = .returned (.string (bstr T)) ∧ Later w w' := by
 obtain ⟨A, n, c, hB, _, _⟩ := h
 have c0 : w.cell? ⟨g, 0, none⟩ = some (.string (bstr T)) := hB.cell 0
 clear hB
 go_enter Tryz.func31, Tryz.ntmps31
 go_wp2_with fail
 go_ret
 exact ⟨rfl, Later.refl _⟩
theorem recNF_any (g : Nat) (T : List UInt8) (ss : List (List UInt8)) (w : World) (h : RcOk M w g T ss) :
  Calls Tryz.prog 32 #[.pointer (some ⟨g, 0, none⟩)] w fun e w' => e = .returned (.int .i64 (ss.length : Int)) ∧ Later w w' := by
 obtain ⟨A, n, c, hB, hr, _⟩ := h
 have c1 : w.cell? ⟨g, 1, none⟩ = some (.slice A n c) := hB.cell 1
 have HN := Lib.hid hr.len
 clear hB hr
 go_enter Tryz.func32, Tryz.ntmps32
 go_wp2_with fail
 go_ret
 exact ⟨by rw [HN.out]; rfl, Later.refl _⟩
set_option maxHeartbeats 2000000 in
theorem recGet_in (g i : Nat) (T : List UInt8) (ss : List (List UInt8)) (x : List UInt8) (w : World) (h : RcOk M w g T ss) (hi : i < 100) (hx : ss[i]? = some x) :
  Calls Tryz.prog 29 #[.pointer (some ⟨g, 0, none⟩), .int .i64 ((i : Int) + 1)] w fun e w' => e = .returned (.tuple #[.string (bstr x), .bool true, .int .i64 0]) ∧ Later w w' := by
 obtain ⟨A, n, c, hB, hr, _⟩ := h
 have c1 : w.cell? ⟨g, 1, none⟩ = some (.slice A n c) := hB.cell 1
 have hl : i < n := by have := (List.getElem?_eq_some_iff.1 hx).1; have := hr.len; omega
 obtain ⟨b0, off, y, rfl, _, hy, hc⟩ := hr.at_ hl
 rw [hx] at hy
 injection hy with hy
 subst hy
 have q0 : ((i : Int) + 1 == 0) = false := by rw [beq_eq_false_iff_ne]; omega
 have q1 : ¬ (i : Int) + 1 < 0 := by omega
 have q2 : ¬ (100 : Int) < (i : Int) + 1 := by omega
 have q3 : ¬ (n : Int) < (i : Int) + 1 := by omega
 have q4 : (i : Int) + 1 - 1 = (i : Int) := by omega
 have q5 : (i : Int) < (n : Int) := by omega
 clear hB hr hx
 go_enter Tryz.func29, Tryz.ntmps29
 go_wp2_with fail
 exact bodyPost_ret (v := .tuple #[.string (bstr x), .bool true, .int .i64 0]) (by simp [results, Tryz.results29, go_sem]) rfl ⟨rfl, Later.refl _⟩
def rec2 (w : World) (g : Nat) (T : ByteArray) (v : Value) : World := (w.setCell ⟨g, 0, none⟩ (.string T)).setCell ⟨g, 1, none⟩ v
theorem rec2_fr (w : World) (g : Nat) (T : ByteArray) (v : Value) : Fr w (rec2 w g T v) (fun k => k = g) := Fr.set (a := ⟨g, 1, none⟩) (Fr.set (a := ⟨g, 0, none⟩) (Fr.refl w (fun k => k = g)) (fun _ => rfl) _) (fun _ => rfl) _
theorem rec2_ok {w : World} {g n c : Nat} {A : Option Addr} {x y : Value} {T : List UInt8} {ss : List (List UInt8)} (hB : Blk w g 52 #[x, y]) (hr : RdZ w w.heap.size A n ss) (hA : ∀ k, ob A = some k → k ≠ g ∧ M ≤ k) : RcOk M (rec2 w g (bstr T) (.slice A n c)) g T ss := by
 refine ⟨A, n, c, (hB.set_ 0 _).set_ 1 _, ?_, hA⟩
 have hf := rec2_fr w g (bstr T) (.slice A n c)
 refine ⟨hr.1, fun hn => ?_⟩
 obtain ⟨ad, e, hb, hc⟩ := hr.2 hn
 subst e
 refine ⟨ad, rfl, Nat.lt_of_lt_of_le hb hf.size, fun j u hu => ?_⟩
 have h1 := hc j u hu
 rw [← h1]
 exact World.cell?_of_block (hf.block _ (by rw [block_of_add]; exact hb) (by rw [block_of_add]; exact (hA _ rfl).1))
set_option maxHeartbeats 2000000 in
theorem recKeep_any (g : Nat) (T : List UInt8) (ss : List (List UInt8)) (x y : Value) (A : Option Addr) (n c : Nat) (w : World) (hB : Blk w g 52 #[x, y]) (hT : T.length ≤ 256) (hr : RdZ w w.heap.size A n ss) (hn : n ≤ 100) (hA : ∀ k, ob A = some k → k ≠ g ∧ M ≤ k) :
  Calls Tryz.prog 45 #[.pointer (some ⟨g, 0, none⟩), .string (bstr T), .slice A n c] w fun e w' => e = .returned (.int .i64 0) ∧ RcOk M w' g T ss ∧ Fr w w' (fun k => k = g) := by
 have HK : Hid (RcOk M (rec2 w g (bstr T) (.slice A n c)) g T ss) := rec2_ok hB hr hA
 have c0 : w.cell? ⟨g, 0, none⟩ = some x := hB.cell 0
 have c1 : w.cell? ⟨g, 1, none⟩ = some y := hB.cell 1
 have f0 : w.frozen? ⟨g, 0, none⟩ = false := hB.frozen 0
 have f1 : w.frozen? ⟨g, 1, none⟩ = false := hB.frozen 1
 have q1 : ¬ (256 : Int) < ((bstr T).size : Int) := by show ¬ (256 : Int) < (T.length : Int); omega
 have q2 : ¬ (100 : Int) < (n : Int) := by omega
 clear hB hr hA
 go_enter Tryz.func45, Tryz.ntmps45
 go_wp2_with fail
 go_ret
 exact ⟨rfl, HK.out, rec2_fr _ _ _ _⟩
end Go.Proofs.YtmkddhkpeiajhaaGreatDoor
namespace Go.Proofs.YtmkddhkpeiajhaaGreatDoor
open Go.RowKit
variable {M : Nat}
def padL (ss : List (List UInt8)) (n : Nat) : List (List UInt8) := ss.take n ++ List.replicate (n - (ss.take n).length) []
theorem padL_len (ss : List (List UInt8)) (n : Nat) : (padL ss n).length = n := by unfold padL; rw [List.length_append, List.length_replicate, List.length_take]; omega
theorem rd_of_blk {w : World} {gl : Nat} {t : TypeId} {ss : List (List UInt8)} (h : Blk w gl t (ss.map strCell).toArray) : RdZ w w.heap.size (some ⟨gl, 0, none⟩) ss.length ss := by
 refine ⟨by rw [List.length_map, Nat.mul_one], fun _ => ⟨_, rfl, h.lt, fun j u hu => ?_⟩⟩
 rw [Addr.add_lit, Nat.zero_add, h.cell, List.getElem?_toArray]
 exact hu
theorem made_strs (n : Nat) (hn : n ≤ 1000000) (w : World) : (Instr.makeSlice 27 (.int .i64 (n : Int)) (.int .i64 (n : Int))).run Tryz.prog w = .ok (.slice (some ⟨w.heap.size, 0, none⟩) n n) (w.alloc (.cells ((List.replicate n ([] : List UInt8)).map strCell).toArray 9)) := by
 obtain ⟨i0, hi, hz0, hz1, hz2⟩ := info_parts string_info
 have hz : madeCells (Value.string ⟨#[]⟩).cells n = ((List.replicate n ([] : List UInt8)).map strCell).toArray := by
  apply Array.ext'
  simp [madeCells, Value.cells, strCell]
  refine List.ext_getElem (by simp) fun i h1 h2 => ?_
  simp [Nat.mod_one]
  rfl
 have hr := run_make (P := Tryz.prog) w 27 9 i0 (.string ⟨#[]⟩) Tryz.underlying27 hi hz0 .i64 .i64 n n (by omega) (Int.le_refl _) (by rw [hz2]; omega)
 rw [hz1] at hr
 rw [← hz]
 have h2 : (n : Int) ≤ 9223372036854775807 := by omega
 simpa [h2] using hr
theorem splice_cells (ss : List (List UInt8)) (n : Nat) : splice ((List.replicate n ([] : List UInt8)).map strCell) 0 ((ss.take n).map strCell) = (padL ss n).map strCell := by
 unfold splice padL
 rw [List.map_append, List.take_zero, List.nil_append, Nat.zero_add, List.length_map, ← List.map_drop, List.drop_replicate]
set_option maxRecDepth 100000 in
set_option maxHeartbeats 4000000 in
theorem recResized_any (g n : Nat) (T : List UInt8) (ss : List (List UInt8)) (w : World) (h : RcOk M w g T ss) (hn : n ≤ 100) :
  Calls Tryz.prog 47 #[.pointer (some ⟨g, 0, none⟩), .int .i64 (n : Int)] w fun e w' => ∃ gl, e = .returned (.slice (some ⟨gl, 0, none⟩) n n) ∧ Blk w' gl 9 ((padL ss n).map strCell).toArray ∧ w.heap.size ≤ gl ∧ Later w w' := by
 obtain ⟨A, m, c, hB, hr, _⟩ := h
 have hmk := made_strs n (by omega) w
 obtain ⟨W, hW⟩ : ∃ W, W = w.alloc (.cells ((List.replicate n ([] : List UInt8)).map strCell).toArray 9) := ⟨_, rfl⟩
 have hl1 : Later w W := by rw [hW]; exact (Later.refl w).alloc _
 have c1 : W.cell? ⟨g, 1, none⟩ = some (.slice A m c) := (blkLz hl1 hB).cell 1
 have hrW := hr.latz hl1
 have hG : W.heap[w.heap.size]? = some (.cells ((List.replicate n ([] : List UInt8)).map strCell).toArray 9 (0, 0)) := by rw [hW]; exact heap_alloc_new w _
 have hml : ss.length = m := hr.len
 rw [← hW] at hmk
 have HG := Lib.hid hG
 have HR := Lib.hid hrW
 have HL := Lib.hid hl1
 have HM := Lib.hid hml
 clear hB hr hrW hG hW hl1 hml
 go_enter Tryz.func47, Tryz.ntmps47
 have k1 : ((ss.take n).map strCell).length = Nat.min m n := by rw [List.length_map, List.length_take, HM.out]; exact Nat.min_comm _ _
 have k2 : 0 < ((ss.take n).map strCell).length → (some ⟨w.heap.size, 0, none⟩ : Option Addr) = some ⟨w.heap.size, 0, none⟩ ∧ ∃ ad, A = some ad ∧ ∀ j v, ((ss.take n).map strCell)[j]? = some v → W.cell? (ad.add j) = some v := by
  intro hp
  refine ⟨rfl, ?_⟩
  have hm0 : 0 < m := by rw [k1] at hp; exact Nat.lt_of_lt_of_le hp (Nat.min_le_left _ _)
  obtain ⟨ad, e, _, hc⟩ := HR.out.2 hm0
  refine ⟨ad, e, fun j v hv => hc j v ?_⟩
  rw [List.map_take] at hv
  rw [List.getElem?_take] at hv
  split at hv
  ·exact hv
  ·cases hv
 have k3 : 0 + ((ss.take n).map strCell).length ≤ ((List.replicate n ([] : List UInt8)).map strCell).length := by rw [k1, List.length_map, List.length_replicate, Nat.zero_add]; exact Nat.min_le_right _ _
 have k4 : ∀ v ∈ (ss.take n).map strCell, v.oneCell' = true := by
  intro v hv
  obtain ⟨x, _, rfl⟩ := List.mem_map.1 hv
  rfl
 have K1 := Lib.hid k1
 have K2 := Lib.hid k2
 have K3 := Lib.hid k3
 have K4 := Lib.hid k4
 clear k1 k2 k3 k4
 go_wp2_with (refine wpList_copy_splice (o := ⟨some 13, _, _, _, _, _⟩) rfl (.tmp 8) (.tmp 12) 27 27 rfl 9 (by kernel_rfl) (by kernel_rfl) _ _ n n m c rfl rfl w.heap.size 0 ((List.replicate n ([] : List UInt8)).map strCell) 9 HG.out ((ss.take n).map strCell) K1.out K2.out K3.out K4.out w.heap.size w HL.out (Nat.le_refl _) ?_; intro w3 hg3 hb3)
 go_ret
 refine ⟨_, rfl, ?_, Nat.le_refl _, hb3⟩
 rw [← splice_cells]
 exact hg3.out
end Go.Proofs.YtmkddhkpeiajhaaGreatDoor
namespace Go.Proofs.YtmkddhkpeiajhaaGreatDoor
open Go.RowKit
variable {M : Nat}
theorem jstep (sep : List UInt8) (ss : List (List UInt8)) (i : Nat) (x : List UInt8) (h : ss[i]? = some x) : Lib.join (ss.take (i + 1)) sep = (if i = 0 then [] else Lib.join (ss.take i) sep ++ sep) ++ x := by
 cases ss with
 | nil => cases h
 | cons a r =>
  cases i with
  | zero =>
   injection h with h
   subst h
   simp [Lib.join_one]
  | succ i =>
   have h : r[i]? = some x := h
   rw [if_neg (by omega), List.take_succ_cons, List.take_succ_cons, Lib.join_cons, Lib.join_cons, Lib.joinTail_take_succ sep r i x h]
   simp
theorem jle (sep : List UInt8) (ss : List (List UInt8)) : ∀ (d i : Nat), i + d = ss.length → (Lib.join (ss.take i) sep).length ≤ (Lib.join ss sep).length
 | 0, i, h => by rw [List.take_of_length_le (by omega)]; exact Nat.le_refl _
 | d + 1, i, h => by
  have h1 := jle sep ss d (i + 1) (by omega)
  obtain ⟨x, hx⟩ : ∃ x, ss[i]? = some x := ⟨_, List.getElem?_eq_getElem (by omega)⟩
  rw [jstep sep ss i x hx, List.length_append] at h1
  by_cases hi : i = 0
  ·subst hi; simp [Lib.join_nil]
  ·rw [if_neg hi, List.length_append] at h1
   omega
theorem map_bstr (ss : List (List UInt8)) : (ss.map bstr).map (·.data.toList) = ss := by
 rw [List.map_map]
 conv => rhs; rw [← List.map_id ss]
 exact List.map_congr_left fun _ _ => rfl
theorem join_at (A : Option Addr) (n c : Nat) (ss : List (List UInt8)) (sep : List UInt8) (w : World) (hr : RdZ w w.heap.size A n ss) (hc : n ≤ c) (hn : n ≤ 100) (hlen : (Lib.join ss sep).length ≤ 256) :
  Calls Tryz.prog 61 #[.slice A n c, .string (bstr sep)] w fun e w' => e = .returned (.string (bstr (Lib.join ss sep))) ∧ Later w w' := by
 by_cases h0 : n = 0
 ·have hs : ss = [] := List.eq_nil_of_length_eq_zero (by rw [hr.len, h0])
  subst hs h0
  exact (Tryz.strings_Join_none A c (bstr sep) w).mono fun e w' ⟨h1, h2⟩ => ⟨h1, by rw [h2]; exact Later.refl _⟩
 ·obtain ⟨ad, e, hb, hall⟩ := hr.2 (by omega)
  obtain ⟨b0, off, x0, hA, _, _, _⟩ := hr.at_ (k := 0) (by omega)
  subst e
  injection hA with hA
  subst hA
  have hl : (ss.map bstr).length = n := by rw [List.length_map, hr.len]
  have h := Tryz.strings_Join b0 off c (ss.map bstr) (bstr sep) w (fun j x hx => by
   have h1 := hall j (Value.string x) (by
    rw [List.getElem?_map] at hx ⊢
    cases hq : ss[j]? with
    | none => rw [hq] at hx; cases hx
    | some y => rw [hq] at hx; injection hx with hx; subst hx; rfl)
   rw [Addr.add_lit] at h1
   exact h1) hb (by rw [hl]; omega) (by rw [hl]; exact hc) (by rw [map_bstr]; show (Lib.join ss sep).length ≤ _; omega)
  rw [hl, map_bstr] at h
  exact h.mono fun e w' ⟨h1, h2⟩ => ⟨h1, h2⟩
set_option maxRecDepth 100000 in
set_option maxHeartbeats 4000000 in
theorem recJoin_any (g gl : Nat) (T : List UInt8) (s0 ss : List (List UInt8)) (sep : List UInt8) (w : World) (h : RcOk M w g T s0) (hB : Blk w gl 9 (ss.map strCell).toArray) (hne : gl ≠ g ∧ M ≤ gl) (hn : ss.length ≤ 100) (hlen : (Lib.join ss sep).length ≤ 256) :
  Calls Tryz.prog 48 #[.pointer (some ⟨g, 0, none⟩), .slice (some ⟨gl, 0, none⟩) ss.length ss.length, .string (bstr sep)] w fun e w' => e = .returned (.int .i64 0) ∧ RcOk M w' g (Lib.join ss sep) ss ∧ Fr w w' (fun k => k = g) := by
 obtain ⟨A, m, c, hG, _, _⟩ := h
 obtain ⟨n, hnn⟩ : ∃ n, n = ss.length := ⟨_, rfl⟩
 have HB := Lib.hid hB
 have HG := Lib.hid hG
 have HN := Lib.hid hnn
 have hn2 : n ≤ 100 := by omega
 rw [← hnn]
 have hsz : (bstr sep).size = sep.length := rfl
 have HJN : Hid (∀ wx, Later w wx → Calls Tryz.prog 61 #[.slice (some ⟨gl, 0, none⟩) n n, .string (bstr sep)] wx fun e w' => e = .returned (.string (bstr (Lib.join ss sep))) ∧ Later wx w') := fun wx hl => by
  have hr := rd_of_blk (blkLz hl hB)
  rw [← hnn] at hr
  exact join_at _ n n ss sep wx hr (Nat.le_refl _) hn2 hlen
 clear hG hB hnn hn
 go_enter Tryz.func48, Tryz.ntmps48
 go_wp2_with fail
 go_loopw [7, 12] (fun s7 s12 wr => ∃ i : Nat, i ≤ n ∧ s7 = .int .i64 ((Lib.join (ss.take i) sep).length : Int) ∧ s12 = .int .i64 (i : Int) ∧ wr = w) (fun _ s12 _ => n - (intOf s12).toNat)
 case atStart => exact ⟨0, Nat.zero_le _, rfl, rfl, rfl⟩
 case round =>
  obtain ⟨i, hi, rfl, rfl, rfl⟩ := hrel
  by_cases hlt : i < n
  ·have hlti : (i : Int) < (n : Int) := by omega
   obtain ⟨x, hx⟩ : ∃ x, ss[i]? = some x := ⟨_, List.getElem?_eq_getElem (by rw [← HN.out]; exact hlt)⟩
   have hcl : wr.cell? ⟨gl, i, none⟩ = some (.string (bstr x)) := by rw [HB.out.cell, List.getElem?_toArray, List.getElem?_map, hx]; rfl
   have hst := jstep sep ss i x hx
   have hle := jle sep ss (ss.length - (i + 1)) (i + 1) (by have := HN.out; omega)
   rw [hst] at hle
   have sx : (bstr x).size = x.length := rfl
   obtain ⟨m0, hm0⟩ : ∃ m0, m0 = (Lib.join (ss.take i) sep).length := ⟨_, rfl⟩
   have hst2 := congrArg List.length hst
   rw [← hm0]
   by_cases hi0 : i = 0
   ·subst hi0
    have hz : m0 = 0 := by rw [hm0]; rfl
    rw [if_pos rfl] at hst2 hle
    rw [List.nil_append] at hst2 hle
    have HST := Lib.hid hst2
    subst hz
    clear hst hst2 hm0 hx
    go_wp2_with fail
    go_roundw
    case rel => exact ⟨1, by omega, congrArg (fun z : Nat => Value.int IntKind.i64 (z : Int)) HST.out.symm, by go_num, trivial⟩
    case measure => first | (simp [intOf]; done) | (simp [intOf]; omega)
   ·rw [if_neg hi0, List.length_append, List.length_append, ← hm0] at hst2
    rw [if_neg hi0, List.length_append, List.length_append, ← hm0] at hle
    have hi1 : (0 : Int) < (i : Int) := by omega
    have HST := Lib.hid hst2
    clear hst hst2 hm0 hx
    go_wp2_with fail
    go_roundw
    case rel => exact ⟨i + 1, by omega, congrArg (Value.int IntKind.i64) (by have := HST.out; omega), by go_num, trivial⟩
    case measure => first | (simp [intOf]; done) | (simp [intOf]; omega)
  ·obtain rfl : n = i := by omega
   go_wp2_with fail
   refine (HJN.out _ (Later.refl _)).mono ?_
   rintro e w2 ⟨rfl, hl2⟩
   have hG2 := blkLz hl2 HG.out
   have hr2 := rd_of_blk (blkLz hl2 HB.out)
   rw [← HN.out] at hr2
   have HK : Hid (RcOk M (rec2 w2 g (bstr (Lib.join ss sep)) (.slice (some ⟨gl, 0, none⟩) n n)) g (Lib.join ss sep) ss) := rec2_ok hG2 hr2 (fun k hk => (Option.some.inj hk : gl = k) ▸ hne)
   have c0 : w2.cell? ⟨g, 0, none⟩ = some (.string (bstr T)) := hG2.cell 0
   have c1 : w2.cell? ⟨g, 1, none⟩ = some (.slice A m c) := hG2.cell 1
   have f0 : w2.frozen? ⟨g, 0, none⟩ = false := hG2.frozen 0
   have f1 : w2.frozen? ⟨g, 1, none⟩ = false := hG2.frozen 1
   have HL := Lib.hid hl2
   clear hG2 hr2 hl2
   go_wp2_with fail
   go_ret
   exact ⟨rfl, HK.out, (frLz HL.out).trans (rec2_fr _ _ _ _) (fun _ _ h => h)⟩
def putL (ss : List (List UInt8)) (i : Nat) (x : List UInt8) : List (List UInt8) := (padL ss (max (i + 1) ss.length)).set i x
theorem putL_len (ss : List (List UInt8)) (i : Nat) (x : List UInt8) : (putL ss i x).length = max (i + 1) ss.length := by unfold putL; rw [List.length_set, padL_len]
set_option maxRecDepth 100000 in
set_option maxHeartbeats 4000000 in
theorem recPut_any (g i : Nat) (T x : List UInt8) (ss : List (List UInt8)) (sep : List UInt8) (w : World) (h : RcOk M w g T ss) (hg : g < w.heap.size) (hi : i < 100) (hs : ss.length ≤ 100) (hx : x.length ≤ 256) (hlen : (Lib.join (putL ss i x) sep).length ≤ 256) (hM : M ≤ w.heap.size) :
  Calls Tryz.prog 25 #[.pointer (some ⟨g, 0, none⟩), .int .i64 ((i : Int) + 1), .string (bstr x), .string (bstr sep)] w fun e w' => e = .returned (.int .i64 0) ∧ RcOk M w' g (Lib.join (putL ss i x) sep) (putL ss i x) ∧ Fr w w' (fun k => k = g) := by
 obtain ⟨N, hN⟩ : ∃ N, N = max (i + 1) ss.length := ⟨_, rfl⟩
 have hrz : ∀ wx, Later w wx → Calls Tryz.prog 47 #[.pointer (some ⟨g, 0, none⟩), .int .i64 (N : Int)] wx fun e w' => ∃ gl, e = .returned (.slice (some ⟨gl, 0, none⟩) N N) ∧ Blk w' gl 9 ((padL ss N).map strCell).toArray ∧ wx.heap.size ≤ gl ∧ Later wx w' := fun wx hl => recResized_any g N T ss wx (h.later hl) (by omega)
 have hjn : ∀ (wx : World) (gl : Nat), RcOk M wx g T ss → Blk wx gl 9 (((padL ss N).set i x).map strCell).toArray → gl ≠ g ∧ M ≤ gl → Calls Tryz.prog 48 #[.pointer (some ⟨g, 0, none⟩), .slice (some ⟨gl, 0, none⟩) N N, .string (bstr sep)] wx fun e w' => e = .returned (.int .i64 0) ∧ RcOk M w' g (Lib.join (putL ss i x) sep) (putL ss i x) ∧ Fr wx w' (fun k => k = g) := fun wx gl hr hb hne => by
  have hp : putL ss i x = (padL ss N).set i x := by unfold putL; rw [hN]
  have hl : ((padL ss N).set i x).length = N := by rw [List.length_set, padL_len]
  have hj := recJoin_any g gl T ss ((padL ss N).set i x) sep wx hr hb hne (by rw [hl]; omega) (by rw [← hp]; exact hlen)
  rw [hl] at hj
  rw [hp]
  exact hj
 have HR := Lib.hid h
 obtain ⟨A, m, c, hG, hr, _⟩ := h
 have c1 : w.cell? ⟨g, 1, none⟩ = some (.slice A m c) := hG.cell 1
 have hml := hr.len
 have q0 : ¬ (i : Int) + 1 < 1 := by omega
 have q1 : ¬ (100 : Int) < (i : Int) + 1 := by omega
 have q2 : ¬ (256 : Int) < ((bstr x).size : Int) := by show ¬ (256 : Int) < (x.length : Int); omega
 have q3 : max ((i : Int) + 1) (m : Int) = (N : Int) := by omega
 have q4 : (i : Int) + 1 - 1 = (i : Int) := by omega
 have q5 : (i : Int) < (N : Int) := by omega
 have hiN : i < N := by omega
 have HRZ := Lib.hid hrz
 have HJ := Lib.hid hjn
 obtain ⟨X, hX⟩ : ∃ X, X = bstr x := ⟨_, rfl⟩
 have HX := Lib.hid hX
 rw [← hX] at q2 ⊢
 clear hG hr hrz hjn hN hlen hX
 go_enter Tryz.func25, Tryz.ntmps25
 go_wp2_with fail
 refine (HRZ.out _ (Later.refl _)).mono ?_
 rintro e w1 ⟨gl, rfl, hB1, hgl, hl1⟩
 obtain ⟨v0, cv⟩ : ∃ v, w1.cell? ⟨gl, i, none⟩ = some v := ⟨_, by rw [hB1.cell, List.getElem?_toArray]; exact List.getElem?_eq_getElem (by rw [List.length_map, padL_len]; exact hiN)⟩
 have fv : w1.frozen? ⟨gl, i, none⟩ = false := hB1.frozen i
 have hl2 : Later w (w1.setCell ⟨gl, i, none⟩ (.string X)) := Below.setCell hl1 (p := ⟨gl, i, none⟩) hgl _
 have hB2 : Blk (w1.setCell ⟨gl, i, none⟩ (.string X)) gl 9 (((padL ss N).set i x).map strCell).toArray := by
  have h := hB1.set_ i (.string X)
  rw [show ((padL ss N).map strCell).toArray.setIfInBounds i (.string X) = (((padL ss N).set i x).map strCell).toArray by rw [List.setIfInBounds_toArray, List.map_set, HX.out]; rfl] at h
  exact h
 have hne : gl ≠ g ∧ M ≤ gl := ⟨by omega, by omega⟩
 have HJ2 := Lib.hid (HJ.out _ gl (HR.out.later hl2) hB2 hne)
 have HL2 := Lib.hid hl2
 clear hB1 hB2 hl1 hl2 HRZ
 go_wp2_with fail
 refine HJ2.out.mono ?_
 rintro e w3 ⟨rfl, hr3, hf3⟩
 have H3 := Lib.hid hr3
 have F3 := Lib.hid hf3
 clear hr3 hf3
 go_wp2_with fail
 go_ret
 exact ⟨rfl, H3.out, (frLz HL2.out).trans F3.out (fun _ _ h => h)⟩
end Go.Proofs.YtmkddhkpeiajhaaGreatDoor
namespace Go.Proofs.YtmkddhkpeiajhaaGreatDoor
end Go.Proofs.YtmkddhkpeiajhaaGreatDoor
