import Derived.Test.YtmkddhkpeiajhaaGreatDoorDocAllW
import Derived.Test.YtmkddhkpeiajhaaGreatDoorRspRx
namespace Go.Proofs.YtmkddhkpeiajhaaGreatDoor
open Go.RowKit
variable {M : Nat}
def RecNo (w : World) (n : Int) (e : Ending) (w' : World) : Prop := e = .returned (.int .i64 n) ∧ Later w w'
def RecYes (M : Nat) (w : World) (g : Nat) (T : List UInt8) (ss : List (List UInt8)) (e : Ending) (w' : World) : Prop := e = .returned (.int .i64 0) ∧ RcOk M w' g T ss ∧ Fr w w' (fun k => k = g)
set_option maxHeartbeats 2000000 in
theorem recKeep_many (g : Nat) (T : List UInt8) (A : Option Addr) (n c : Nat) (w : World) (hT : T.length ≤ 256) (hn : 100 < n) :
  Calls Tryz.prog 45 #[.pointer (some ⟨g, 0, none⟩), .string (bstr T), .slice A n c] w (RecNo w 45) := by
 have q1 : ¬ (256 : Int) < ((bstr T).size : Int) := by show ¬ (256 : Int) < (T.length : Int); omega
 have q2 : (100 : Int) < (n : Int) := by omega
 go_enter Tryz.func45, Tryz.ntmps45
 go_wp2_with fail
 go_ret
 exact ⟨rfl, Later.refl _⟩
set_option maxHeartbeats 4000000 in
theorem recSet_gen (g : Nat) (T : List UInt8) (s0 ss : List (List UInt8)) (L F : List UInt8) (w : World) (h : RcOk M w g T s0) (hM : M ≤ w.heap.size) (hL : L.length ≤ 256)
  (hsp : Calls Tryz.prog 19 #[.string (bstr L), .string (bstr F)] w fun e w' => ∃ v, e = .returned (.tuple #[v, .int .i64 0]) ∧ RetN w ss v w') :
  Calls Tryz.prog 22 #[.pointer (some ⟨g, 0, none⟩), .string (bstr L), .string (bstr F)] w fun e w' => if ss.length ≤ 100 then RecYes M w g L ss e w' else RecNo w 45 e w' := by
 obtain ⟨A, n, c, hB, hr, hA⟩ := h
 have hlt := hB.lt
 have q1 : ¬ (256 : Int) < ((bstr L).size : Int) := by show ¬ (256 : Int) < (L.length : Int); omega
 have hkp : ∀ (wx : World) (A2 : Option Addr) (n2 c2 : Nat), Later w wx → RdZ wx wx.heap.size A2 n2 ss → (∀ k, ob A2 = some k → w.heap.size ≤ k) → Calls Tryz.prog 45 #[.pointer (some ⟨g, 0, none⟩), .string (bstr L), .slice A2 n2 c2] wx fun e w' => if ss.length ≤ 100 then RecYes M wx g L ss e w' else RecNo wx 45 e w' := fun wx A2 n2 c2 hl hrd hob => by
  by_cases h100 : ss.length ≤ 100
  ·simp only [if_pos h100]
   exact recKeep_any g L ss _ _ A2 n2 c2 wx (blkLz hl hB) hL hrd (by have := hrd.len; omega) (fun k hk => by have := hob k hk; exact ⟨by omega, by omega⟩)
  ·simp only [if_neg h100]
   exact recKeep_many g L A2 n2 c2 wx hL (by have := hrd.len; omega)
 obtain ⟨S, hS⟩ : ∃ S, S = bstr L := ⟨_, rfl⟩
 rw [← hS] at hsp q1 hkp ⊢
 obtain ⟨U, hU⟩ : ∃ U, U = bstr F := ⟨_, rfl⟩
 rw [← hU] at hsp ⊢
 have HSP := Lib.hid hsp
 have HKP := Lib.hid hkp
 clear hB hr hA hsp hkp hS hU
 go_enter Tryz.func22, Tryz.ntmps22
 go_wp2_with fail
 refine HSP.out.mono ?_
 rintro e w1 ⟨_, rfl, A2, n2, c2, rfl, hrd, _, hob, hl⟩
 have HL := Lib.hid hl
 have HK := Lib.hid (HKP.out w1 A2 n2 c2 hl hrd hob)
 clear hl hrd hob HKP
 go_wp2_with fail
 refine HK.out.mono ?_
 intro e w2 he
 by_cases h100 : ss.length ≤ 100
 ·rw [if_pos h100] at he
  obtain ⟨rfl, hr2, hf2⟩ := he
  have HR := Lib.hid hr2
  have HF := Lib.hid hf2
  clear hr2 hf2
  go_wp2_with fail
  go_ret
  exact ⟨rfl, HR.out, (frLz HL.out).trans HF.out (fun k _ h => h)⟩
 ·rw [if_neg h100] at he
  obtain ⟨rfl, hl2⟩ := he
  have HL2 := Lib.hid hl2
  clear hl2
  go_wp2_with fail
  go_ret
  exact ⟨rfl, HL.out.trans HL2.out⟩
theorem recSet_long (g : Nat) (S U : ByteArray) (w : World) (hL : 256 < S.size) :
  Calls Tryz.prog 22 #[.pointer (some ⟨g, 0, none⟩), .string S, .string U] w (RecNo w 43) := by
 have q1 : (256 : Int) < (S.size : Int) := by omega
 go_enter Tryz.func22, Tryz.ntmps22
 go_wp2_with fail
 go_ret
 exact ⟨rfl, Later.refl _⟩
theorem recSet_err (g : Nat) (S U : ByteArray) (w : World) (hL : S.size ≤ 256)
  (hsp : Calls Tryz.prog 19 #[.string S, .string U] w fun e w' => e = .returned (.tuple #[.slice none 0 0, .int .i64 47]) ∧ Later w w') :
  Calls Tryz.prog 22 #[.pointer (some ⟨g, 0, none⟩), .string S, .string U] w (RecNo w 47) := by
 have q1 : ¬ (256 : Int) < (S.size : Int) := by omega
 have HSP := Lib.hid hsp
 clear hsp
 go_enter Tryz.func22, Tryz.ntmps22
 go_wp2_with fail
 refine HSP.out.mono ?_
 rintro e w1 ⟨rfl, hl1⟩
 go_wp2_with fail
 go_ret
 exact ⟨rfl, hl1⟩
theorem recPut_out (g : Nat) (i : Int) (S T : ByteArray) (w : World) (hi : i < 1 ∨ 100 < i) : Calls Tryz.prog 25 #[.pointer (some ⟨g, 0, none⟩), .int .i64 i, .string S, .string T] w (RecNo w 45) := by
 by_cases h1 : i < 1
 ·go_enter Tryz.func25, Tryz.ntmps25
  go_wp2_with fail
  go_ret
  exact ⟨rfl, Later.refl _⟩
 ·have h2 : (100 : Int) < i := by omega
  clear hi
  go_enter Tryz.func25, Tryz.ntmps25
  go_wp2_with fail
  go_ret
  exact ⟨rfl, Later.refl _⟩
theorem recPut_long (g : Nat) (i : Int) (S T : ByteArray) (w : World) (h1 : 1 ≤ i) (h2 : i ≤ 100) (hS : 256 < S.size) : Calls Tryz.prog 25 #[.pointer (some ⟨g, 0, none⟩), .int .i64 i, .string S, .string T] w (RecNo w 43) := by
 have q1 : ¬ i < 1 := by omega
 have q2 : ¬ (100 : Int) < i := by omega
 have q3 : (256 : Int) < (S.size : Int) := by omega
 clear h1 h2
 go_enter Tryz.func25, Tryz.ntmps25
 go_wp2_with fail
 go_ret
 exact ⟨rfl, Later.refl _⟩
set_option maxRecDepth 100000 in
set_option maxHeartbeats 4000000 in
theorem recJoin_over (g : Nat) (A : Option Addr) (n c : Nat) (ss : List (List UInt8)) (sep : List UInt8) (w : World) (hr : RdZ w w.heap.size A n ss) (hn : n ≤ 100) (hlen : 256 < (Lib.join ss sep).length) (hss : ∀ x ∈ ss, x.length ≤ 1000000) (hsep : sep.length ≤ 1000000) :
  Calls Tryz.prog 48 #[.pointer (some ⟨g, 0, none⟩), .slice A n c, .string (bstr sep)] w (RecNo w 43) := by
 have HR := Lib.hid hr
 have HN := Lib.hid hr.len
 have HLN := Lib.hid hlen
 have HSS := Lib.hid hss
 have hsz : (bstr sep).size = sep.length := rfl
 clear hr hlen hss
 go_enter Tryz.func48, Tryz.ntmps48
 go_wp2_with fail
 go_loopw [7, 12] (fun s7 s12 wr => ∃ (i m0 : Nat), i ≤ n ∧ m0 ≤ 256 ∧ s7 = .int .i64 (m0 : Int) ∧ Hid (m0 = (Lib.join (ss.take i) sep).length) ∧ s12 = .int .i64 (i : Int) ∧ wr = w) (fun _ s12 _ => n - (intOf s12).toNat)
 case atStart => exact ⟨0, 0, Nat.zero_le _, Nat.zero_le _, rfl, rfl, rfl, rfl⟩
 case round =>
  obtain ⟨i, m0, hi, hm, rfl, HM0, rfl, rfl⟩ := hrel
  by_cases hlt : i < n
  ·have hlti : (i : Int) < (n : Int) := by omega
   obtain ⟨b0, off, x, rfl, _, hx, hcl⟩ := HR.out.at_ hlt
   have hxl := HSS.out x (List.mem_of_getElem? hx)
   have hst := congrArg List.length (jstep sep ss i x hx)
   have sx : (bstr x).size = x.length := rfl
   by_cases hi0 : i = 0
   ·subst hi0
    rw [if_pos rfl, List.nil_append] at hst
    have hz : m0 = 0 := by rw [HM0.out]; rfl
    have hcl0 : wr.cell? ⟨b0, off, none⟩ = some (.string (bstr x)) := hcl
    have HST := Lib.hid hst
    subst hz
    clear hst hx hcl HM0
    by_cases hov : 256 < x.length
    ·have hovi : (256 : Int) < (x.length : Int) := by omega
     go_wp2_with fail
     go_ret
     exact ⟨rfl, Later.refl _⟩
    ·have hovi : ¬ (256 : Int) < (x.length : Int) := by omega
     go_wp2_with fail
     go_roundw
     case rel => exact ⟨1, x.length, by omega, by omega, rfl, HST.out.symm, by go_num, trivial⟩
     case measure => first | (simp [intOf]; done) | (simp [intOf]; omega)
   ·have hi1 : (0 : Int) < (i : Int) := by omega
    rw [if_neg hi0, List.length_append, List.length_append, ← HM0.out] at hst
    have HST := Lib.hid hst
    clear hst hx HM0
    by_cases hov : 256 < m0 + sep.length + x.length
    ·have hovi : (256 : Int) < (m0 : Int) + (sep.length : Int) + (x.length : Int) := by omega
     go_wp2_with fail
     go_ret
     exact ⟨rfl, Later.refl _⟩
    ·have hovi : ¬ (256 : Int) < (m0 : Int) + (sep.length : Int) + (x.length : Int) := by omega
     go_wp2_with fail
     go_roundw
     case rel => exact ⟨i + 1, m0 + sep.length + x.length, by omega, by omega, congrArg (Value.int IntKind.i64) (by omega), HST.out.symm, by go_num, trivial⟩
     case measure => first | (simp [intOf]; done) | (simp [intOf]; omega)
  ·obtain rfl : n = i := by omega
   have h1 := HM0.out
   rw [List.take_of_length_le (by rw [HN.out]; exact Nat.le_refl _)] at h1
   have h2 := HLN.out
   omega
end Go.Proofs.YtmkddhkpeiajhaaGreatDoor
namespace Go.Proofs.YtmkddhkpeiajhaaGreatDoor
open Go.RowKit
variable {M : Nat}
theorem pad_small {ss : List (List UInt8)} {x : List UInt8} {M : Nat} (hs : ∀ y ∈ ss, y.length ≤ M) (hx : x.length ≤ M) (N i : Nat) : ∀ y ∈ (padL ss N).set i x, y.length ≤ M := by
 intro y hy
 rcases List.mem_or_eq_of_mem_set hy with h | h
 ·unfold padL at h
  rcases List.mem_append.1 h with h | h
  ·exact hs y (List.mem_of_mem_take h)
  ·rw [(List.mem_replicate.1 h).2]; exact Nat.zero_le _
 ·rw [h]; exact hx
set_option maxRecDepth 100000 in
set_option maxHeartbeats 4000000 in
theorem recPut_over (g i : Nat) (T x : List UInt8) (ss : List (List UInt8)) (sep : List UInt8) (w : World) (h : RcOk M w g T ss) (hg : g < w.heap.size) (hi : i < 100) (hs : ss.length ≤ 100) (hx : x.length ≤ 256) (hlen : 256 < (Lib.join (putL ss i x) sep).length) (hss : ∀ y ∈ ss, y.length ≤ 1000000) (hsep : sep.length ≤ 1000000) :
  Calls Tryz.prog 25 #[.pointer (some ⟨g, 0, none⟩), .int .i64 ((i : Int) + 1), .string (bstr x), .string (bstr sep)] w (RecNo w 43) := by
 obtain ⟨N, hN⟩ : ∃ N, N = max (i + 1) ss.length := ⟨_, rfl⟩
 have hrz : ∀ wx, Later w wx → Calls Tryz.prog 47 #[.pointer (some ⟨g, 0, none⟩), .int .i64 (N : Int)] wx fun e w' => ∃ gl, e = .returned (.slice (some ⟨gl, 0, none⟩) N N) ∧ Blk w' gl 9 ((padL ss N).map strCell).toArray ∧ wx.heap.size ≤ gl ∧ Later wx w' := fun wx hl => recResized_any g N T ss wx (h.later hl) (by omega)
 have hjn : ∀ (wx : World) (gl : Nat), RcOk M wx g T ss → Blk wx gl 9 (((padL ss N).set i x).map strCell).toArray → gl ≠ g → Calls Tryz.prog 48 #[.pointer (some ⟨g, 0, none⟩), .slice (some ⟨gl, 0, none⟩) N N, .string (bstr sep)] wx (RecNo wx 43) := fun wx gl hr hb hne => by
  have hp : putL ss i x = (padL ss N).set i x := by unfold putL; rw [hN]
  have hl : ((padL ss N).set i x).length = N := by rw [List.length_set, padL_len]
  have hrd := rd_of_blk hb
  rw [hl] at hrd
  exact recJoin_over g _ N N ((padL ss N).set i x) sep wx hrd (by omega) (by rw [← hp]; exact hlen) (pad_small hss (by omega) N i) hsep
 have HR := Lib.hid h
 obtain ⟨A, m, c, hG, hr, _⟩ := h
 have c1 : w.cell? ⟨g, 1, none⟩ = some (.slice A m c) := hG.cell 1
 have hml := hr.len
 have q0 : ¬ (i : Int) + 1 < 1 := by omega
 have q1 : ¬ (100 : Int) < (i : Int) + 1 := by omega
 have q2 : ¬ (256 : Int) < ((bstr x).size : Int) := by show ¬ (256 : Int) < (x.length : Int); omega
 have q3 : max ((i : Int) + 1) (m : Int) = (N : Int) := by omega
 have q4 : (i : Int) + 1 - 1 = (i : Int) := by omega
 have q5 : (i : Int) < (N : Int) := by omega
 have hiN : i < N := by omega
 have HRZ := Lib.hid hrz
 have HJ := Lib.hid hjn
 obtain ⟨X, hX⟩ : ∃ X, X = bstr x := ⟨_, rfl⟩
 have HX := Lib.hid hX
 rw [← hX] at q2 ⊢
 clear hG hr hrz hjn hN hlen hX
 go_enter Tryz.func25, Tryz.ntmps25
 go_wp2_with fail
 refine (HRZ.out _ (Later.refl _)).mono ?_
 rintro e w1 ⟨gl, rfl, hB1, hgl, hl1⟩
 obtain ⟨v0, cv⟩ : ∃ v, w1.cell? ⟨gl, i, none⟩ = some v := ⟨_, by rw [hB1.cell, List.getElem?_toArray]; exact List.getElem?_eq_getElem (by rw [List.length_map, padL_len]; exact hiN)⟩
 have fv : w1.frozen? ⟨gl, i, none⟩ = false := hB1.frozen i
 have hl2 : Later w (w1.setCell ⟨gl, i, none⟩ (.string X)) := Below.setCell hl1 (p := ⟨gl, i, none⟩) hgl _
 have hB2 : Blk (w1.setCell ⟨gl, i, none⟩ (.string X)) gl 9 (((padL ss N).set i x).map strCell).toArray := by
  have h := hB1.set_ i (.string X)
  rw [show ((padL ss N).map strCell).toArray.setIfInBounds i (.string X) = (((padL ss N).set i x).map strCell).toArray by rw [List.setIfInBounds_toArray, List.map_set, HX.out]; rfl] at h
  exact h
 have hne : gl ≠ g := by omega
 have HJ2 := Lib.hid (HJ.out _ gl (HR.out.later hl2) hB2 hne)
 have HL2 := Lib.hid hl2
 clear hB1 hB2 hl1 hl2 HRZ
 go_wp2_with fail
 refine HJ2.out.mono ?_
 rintro e w3 ⟨rfl, hl3⟩
 have H3 := Lib.hid hl3
 clear hl3
 go_wp2_with fail
 go_ret
 exact ⟨rfl, HL2.out.trans H3.out⟩
set_option maxRecDepth 100000 in
set_option maxHeartbeats 4000000 in
theorem recSetNF_gen (g N : Nat) (T : List UInt8) (ss : List (List UInt8)) (sep : List UInt8) (w : World) (h : RcOk M w g T ss) (hg : g < w.heap.size) (hM : M ≤ w.heap.size) (hN : N ≤ 100) (hss : ∀ y ∈ ss, y.length ≤ 1000000) (hsep : sep.length ≤ 1000000) :
  Calls Tryz.prog 27 #[.pointer (some ⟨g, 0, none⟩), .int .i64 (N : Int), .string (bstr sep)] w fun e w' => if (Lib.join (padL ss N) sep).length ≤ 256 then RecYes M w g (Lib.join (padL ss N) sep) (padL ss N) e w' else RecNo w 43 e w' := by
 have hrz := recResized_any g N T ss w h hN
 have hjn : ∀ (wx : World) (gl : Nat), RcOk M wx g T ss → Blk wx gl 9 ((padL ss N).map strCell).toArray → gl ≠ g ∧ M ≤ gl → Calls Tryz.prog 48 #[.pointer (some ⟨g, 0, none⟩), .slice (some ⟨gl, 0, none⟩) N N, .string (bstr sep)] wx fun e w' => if (Lib.join (padL ss N) sep).length ≤ 256 then RecYes M wx g (Lib.join (padL ss N) sep) (padL ss N) e w' else RecNo wx 43 e w' := fun wx gl hr hb hne => by
  have hl := padL_len ss N
  by_cases h256 : (Lib.join (padL ss N) sep).length ≤ 256
  ·simp only [if_pos h256]
   have hj := recJoin_any g gl T ss (padL ss N) sep wx hr hb hne (by rw [hl]; omega) h256
   rw [hl] at hj
   exact hj
  ·simp only [if_neg h256]
   have hrd := rd_of_blk hb
   rw [hl] at hrd
   exact recJoin_over g _ N N (padL ss N) sep wx hrd (by omega) (by omega) (fun y hy => by
    unfold padL at hy
    rcases List.mem_append.1 hy with h | h
    ·exact hss y (List.mem_of_mem_take h)
    ·rw [(List.mem_replicate.1 h).2]; exact Nat.zero_le _) hsep
 have q0 : ¬ (N : Int) < 0 := by omega
 have q1 : ¬ (100 : Int) < (N : Int) := by omega
 have HR := Lib.hid h
 have HRZ := Lib.hid hrz
 have HJ := Lib.hid hjn
 clear hrz hjn h hss
 obtain ⟨Q, hQ⟩ : ∃ Q : Prop, Q = ((Lib.join (padL ss N) sep).length ≤ 256) := ⟨_, rfl⟩
 go_enter Tryz.func27, Tryz.ntmps27
 go_wp2_with fail
 refine HRZ.out.mono ?_
 rintro e w1 ⟨gl, rfl, hB1, hgl, hl1⟩
 have HJ2 := Lib.hid (HJ.out _ gl (HR.out.later hl1) hB1 ⟨by omega, by omega⟩)
 have HL1 := Lib.hid hl1
 clear hB1 hl1 HJ
 go_wp2_with fail
 refine HJ2.out.mono ?_
 intro e w3 he
 by_cases h256 : (Lib.join (padL ss N) sep).length ≤ 256
 ·rw [if_pos h256] at he
  obtain ⟨rfl, hr3, hf3⟩ := he
  have H3 := Lib.hid hr3
  have F3 := Lib.hid hf3
  clear hr3 hf3
  go_wp2_with fail
  go_ret
  exact ⟨rfl, H3.out, (frLz HL1.out).trans F3.out (fun _ _ h => h)⟩
 ·rw [if_neg h256] at he
  obtain ⟨rfl, hl3⟩ := he
  have H3 := Lib.hid hl3
  clear hl3
  go_wp2_with fail
  go_ret
  exact ⟨rfl, HL1.out.trans H3.out⟩
theorem recSetNF_out (g : Nat) (i : Int) (T : ByteArray) (w : World) (hi : i < 0 ∨ 100 < i) : Calls Tryz.prog 27 #[.pointer (some ⟨g, 0, none⟩), .int .i64 i, .string T] w (RecNo w 45) := by
 by_cases h1 : i < 0
 ·go_enter Tryz.func27, Tryz.ntmps27
  go_wp2_with fail
  go_ret
  exact ⟨rfl, Later.refl _⟩
 ·have h2 : (100 : Int) < i := by omega
  clear hi
  go_enter Tryz.func27, Tryz.ntmps27
  go_wp2_with fail
  go_ret
  exact ⟨rfl, Later.refl _⟩
end Go.Proofs.YtmkddhkpeiajhaaGreatDoor
namespace Go.Proofs.YtmkddhkpeiajhaaGreatDoor
open Go.RowKit
variable {M : Nat}
def RwOk (M : Nat) (w : World) (g : Nat) (T : List UInt8) (ss : List (List UInt8)) : Prop :=
 ∃ A n c, Blk w g 29 #[.string (bstr T), .slice A n c] ∧ RdZ w w.heap.size A n ss ∧ n ≤ c ∧ ∀ k, ob A = some k → k ≠ g ∧ M ≤ k
theorem RdZ.keepz {w w' : World} {p : Nat → Prop} {A : Option Addr} {n : Nat} {ss : List (List UInt8)} (hr : RdZ w w.heap.size A n ss) (hf : Fr w w' p) (hp : ∀ k, ob A = some k → ¬ p k) : RdZ w' w'.heap.size A n ss := by
 refine ⟨hr.1, fun hn => ?_⟩
 obtain ⟨ad, e, hb, hc⟩ := hr.2 hn
 subst e
 refine ⟨ad, rfl, Nat.lt_of_lt_of_le hb hf.size, fun j u hu => ?_⟩
 have h1 := hc j u hu
 rw [← h1]
 exact World.cell?_of_block (hf.block _ (by rw [block_of_add]; exact hb) (by rw [block_of_add]; exact hp _ rfl))
theorem RwOk.later {w w' : World} {g : Nat} {T : List UInt8} {ss : List (List UInt8)} (h : RwOk M w g T ss) (hl : Later w w') : RwOk M w' g T ss := by
 obtain ⟨A, n, c, h1, h2, h3, h4⟩ := h
 exact ⟨A, n, c, blkLz hl h1, h2.latz hl, h3, h4⟩
theorem RwOk.fr {w w' : World} {p : Nat → Prop} {g : Nat} {T : List UInt8} {ss : List (List UInt8)} (h : RwOk M w g T ss) (hf : Fr w w' p) (hg : ¬ p g) (hp : ∀ k, M ≤ k → ¬ p k) : RwOk M w' g T ss := by
 obtain ⟨A, n, c, h1, h2, h3, h4⟩ := h
 exact ⟨A, n, c, h1.fr hf hg, h2.keepz hf (fun k hk => hp k (h4 k hk).2), h3, h4⟩
theorem RcOk.fr {w w' : World} {p : Nat → Prop} {g : Nat} {T : List UInt8} {ss : List (List UInt8)} (h : RcOk M w g T ss) (hf : Fr w w' p) (hg : ¬ p g) (hp : ∀ k, M ≤ k → ¬ p k) : RcOk M w' g T ss := by
 obtain ⟨A, n, c, h1, h2, h4⟩ := h
 exact ⟨A, n, c, h1.fr hf hg, h2.keepz hf (fun k hk => hp k (h4 k hk).2), h4⟩
def RwYes (M : Nat) (w : World) (g : Nat) (T : List UInt8) (ss : List (List UInt8)) (e : Ending) (w' : World) : Prop := e = .returned (.int .i64 0) ∧ RwOk M w' g T ss ∧ Fr w w' (fun k => k = g)
theorem rw2_ok {w : World} {g n c : Nat} {A : Option Addr} {x y : Value} {T : List UInt8} {ss : List (List UInt8)} (hB : Blk w g 29 #[x, y]) (hr : RdZ w w.heap.size A n ss) (hnc : n ≤ c) (hA : ∀ k, ob A = some k → k ≠ g ∧ M ≤ k) : RwOk M (rec2 w g (bstr T) (.slice A n c)) g T ss :=
 ⟨A, n, c, (hB.set_ 0 _).set_ 1 _, hr.keepz (rec2_fr w g (bstr T) (.slice A n c)) (fun k hk => (hA k hk).1), hnc, hA⟩
theorem bstr_apw (a b : List UInt8) : bstr a ++ bstr b = bstr (a ++ b) := by
 show (⟨a.toArray⟩ : ByteArray) ++ ⟨b.toArray⟩ = ⟨(a ++ b).toArray⟩
 apply ByteArray.ext
 rw [ByteArray.data_append]
 simp
set_option maxHeartbeats 4000000 in
theorem rwSet_gen (g : Nat) (T : List UInt8) (s0 ss : List (List UInt8)) (L F : List UInt8) (w : World) (h : RwOk M w g T s0) (hM : M ≤ w.heap.size) (hL : L.length ≤ 256)
  (hsp : Calls Tryz.prog 46 #[.string (bstr L), .string (bstr F)] w fun e w' => ∃ v, e = .returned (.tuple #[v, .int .i64 0]) ∧ RetN w ss v w') :
  Calls Tryz.prog 24 #[.pointer (some ⟨g, 0, none⟩), .string (bstr L), .string (bstr F)] w fun e w' => if ss.length ≤ 100 then RwYes M w g L ss e w' else RecNo w 45 e w' := by
 obtain ⟨A, n, c, hB, _, _, _⟩ := h
 have hlt := hB.lt
 have HB := Lib.hid hB
 have q1 : ¬ (256 : Int) < ((bstr L).size : Int) := by show ¬ (256 : Int) < (L.length : Int); omega
 obtain ⟨S, hS⟩ : ∃ S, S = bstr L := ⟨_, rfl⟩
 have HS := Lib.hid hS
 rw [← hS] at hsp q1 ⊢
 obtain ⟨U, hU⟩ : ∃ U, U = bstr F := ⟨_, rfl⟩
 rw [← hU] at hsp ⊢
 have HSP := Lib.hid hsp
 clear hB hsp hS hU
 go_enter Tryz.func24, Tryz.ntmps24
 go_wp2_with fail
 refine HSP.out.mono ?_
 rintro e w1 ⟨_, rfl, A2, n2, c2, rfl, hrd, hnc, hob, hl⟩
 have HL := Lib.hid hl
 have hn2 := hrd.len
 have hB1 := blkLz hl HB.out
 by_cases h100 : ss.length ≤ 100
 ·have q2 : ¬ (100 : Int) < (n2 : Int) := by omega
  have c0 : w1.cell? ⟨g, 0, none⟩ = some (.string (bstr T)) := hB1.cell 0
  have c1 : w1.cell? ⟨g, 1, none⟩ = some (.slice A n c) := hB1.cell 1
  have f0 : w1.frozen? ⟨g, 0, none⟩ = false := hB1.frozen 0
  have f1 : w1.frozen? ⟨g, 1, none⟩ = false := hB1.frozen 1
  have HK : Hid (RwOk M (rec2 w1 g S (.slice A2 n2 c2)) g L ss) := by
   show RwOk M _ _ _ _
   rw [HS.out]
   exact rw2_ok hB1 hrd hnc (fun k hk => by have := hob k hk; exact ⟨by omega, by omega⟩)
  clear hl hrd hob hB1
  go_wp2_with fail
  go_ret
  exact ⟨rfl, HK.out, (frLz HL.out).trans (rec2_fr _ _ _ _) (fun _ _ h => h)⟩
 ·have q2 : (100 : Int) < (n2 : Int) := by omega
  clear hl hrd hob hB1
  go_wp2_with fail
  go_ret
  exact ⟨rfl, HL.out⟩
theorem rwSet_long (g : Nat) (S U : ByteArray) (w : World) (hL : 256 < S.size) :
  Calls Tryz.prog 24 #[.pointer (some ⟨g, 0, none⟩), .string S, .string U] w (RecNo w 43) := by
 have q1 : (256 : Int) < (S.size : Int) := by omega
 go_enter Tryz.func24, Tryz.ntmps24
 go_wp2_with fail
 go_ret
 exact ⟨rfl, Later.refl _⟩
theorem rwSet_err (g : Nat) (S U : ByteArray) (w : World) (hL : S.size ≤ 256)
  (hsp : Calls Tryz.prog 46 #[.string S, .string U] w fun e w' => e = .returned (.tuple #[.slice none 0 0, .int .i64 47]) ∧ Later w w') :
  Calls Tryz.prog 24 #[.pointer (some ⟨g, 0, none⟩), .string S, .string U] w (RecNo w 47) := by
 have q1 : ¬ (256 : Int) < (S.size : Int) := by omega
 have HSP := Lib.hid hsp
 clear hsp
 go_enter Tryz.func24, Tryz.ntmps24
 go_wp2_with fail
 refine HSP.out.mono ?_
 rintro e w1 ⟨rfl, hl1⟩
 go_wp2_with fail
 go_ret
 exact ⟨rfl, hl1⟩
set_option maxRecDepth 100000 in
set_option maxHeartbeats 4000000 in
theorem rwAnew_gen (g : Nat) (A : Option Addr) (n c : Nat) (T : List UInt8) (s0 ss : List (List UInt8)) (sep : List UInt8) (w : World) (h : RwOk M w g T s0) (hr : RdZ w w.heap.size A n ss) (hnc : n ≤ c) (hA : ∀ k, ob A = some k → k ≠ g ∧ M ≤ k) (hn : n ≤ 100) (hss : ∀ x ∈ ss, x.length ≤ 1000000) (hsep : sep.length ≤ 1000000) :
  Calls Tryz.prog 49 #[.pointer (some ⟨g, 0, none⟩), .slice A n c, .string (bstr sep)] w fun e w' => if (Lib.join ss sep).length ≤ 256 then RwYes M w g (Lib.join ss sep) ss e w' else RecNo w 43 e w' := by
 obtain ⟨A1, m1, d1, hB, _, _, _⟩ := h
 have c0 : w.cell? ⟨g, 0, none⟩ = some (.string (bstr T)) := hB.cell 0
 have c1 : w.cell? ⟨g, 1, none⟩ = some (.slice A1 m1 d1) := hB.cell 1
 have f0 : w.frozen? ⟨g, 0, none⟩ = false := hB.frozen 0
 have f1 : w.frozen? ⟨g, 1, none⟩ = false := hB.frozen 1
 have HK : Hid (RwOk M (rec2 w g (bstr (Lib.join ss sep)) (.slice A n c)) g (Lib.join ss sep) ss) := rw2_ok hB hr hnc hA
 have HR := Lib.hid hr
 have HN := Lib.hid hr.len
 have HSS := Lib.hid hss
 have hsz : (bstr sep).size = sep.length := rfl
 clear hB hr hss hA hnc
 go_enter Tryz.func49, Tryz.ntmps49
 go_wp2_with fail
 go_loopw [7, 8] (fun s7 s8 wr => ∃ (i : Nat) (Y : List UInt8), i ≤ n ∧ Y.length ≤ 256 ∧ s7 = .string (bstr Y) ∧ Hid (Y = Lib.join (ss.take i) sep) ∧ s8 = .int .i64 (i : Int) ∧ wr = w) (fun _ s8 _ => n - (intOf s8).toNat)
 case atStart => exact ⟨0, [], Nat.zero_le _, Nat.zero_le _, rfl, rfl, rfl, rfl⟩
 case round =>
  obtain ⟨i, Y, hi, hY, rfl, HY, rfl, rfl⟩ := hrel
  have sy : (bstr Y).size = Y.length := rfl
  by_cases hlt : i < n
  ·have hlti : (i : Int) < (n : Int) := by omega
   obtain ⟨b0, off, x, rfl, _, hx, hcl⟩ := HR.out.at_ hlt
   have hxl := HSS.out x (List.mem_of_getElem? hx)
   have hst := jstep sep ss i x hx
   have hle := jle sep ss (ss.length - (i + 1)) (i + 1) (by have := HN.out; omega)
   have HLE := Lib.hid hle
   have sx : (bstr x).size = x.length := rfl
   by_cases hi0 : i = 0
   ·subst hi0
    rw [if_pos rfl, List.nil_append] at hst
    have hz : Y = [] := HY.out
    have hcl0 : wr.cell? ⟨b0, off, none⟩ = some (.string (bstr x)) := hcl
    have HST := Lib.hid hst
    subst hz
    have hz1 : ¬ 9223372036854775807 < (bstr ([] : List UInt8)).size + (bstr x).size := by rw [sx]; show ¬ _ < 0 + _; omega
    have he : bstr ([] : List UInt8) ++ bstr x = bstr x := by rw [bstr_apw]; rfl
    obtain ⟨Z, hZ⟩ : ∃ Z, Z = bstr ([] : List UInt8) ++ bstr x := ⟨_, rfl⟩
    have hZs : (bstr ([] : List UInt8) ++ bstr x).size = x.length := by rw [he]; rfl
    have HE := Lib.hid he
    clear hst hx hcl HY he hZ hle
    by_cases hov : 256 < x.length
    ·have hovi : (256 : Int) < (x.length : Int) := by omega
     have hno : ¬ (Lib.join ss sep).length ≤ 256 := by have := HLE.out; rw [HST.out] at this; omega
     go_wp2_with fail
     go_ret
     exact ⟨rfl, Later.refl _⟩
    ·have hovi : ¬ (256 : Int) < (x.length : Int) := by omega
     go_wp2_with fail
     go_roundw
     case rel => exact ⟨1, x, by omega, by omega, congrArg Value.string HE.out, HST.out.symm, by go_num, trivial⟩
     case measure => first | (simp [intOf]; done) | (simp [intOf]; omega)
   ·have hi1 : (0 : Int) < (i : Int) := by omega
    rw [if_neg hi0, ← HY.out] at hst
    have HST := Lib.hid hst
    have hz1 : ¬ 9223372036854775807 < (bstr Y).size + (bstr sep).size := by rw [sy, hsz]; omega
    have hz2 : ¬ 9223372036854775807 < (bstr Y ++ bstr sep).size + (bstr x).size := by rw [ByteArray.size_append, sy, hsz, sx]; omega
    have he : bstr Y ++ bstr sep ++ bstr x = bstr (Y ++ sep ++ x) := by rw [bstr_apw, bstr_apw]
    have hZs : (bstr Y ++ bstr sep ++ bstr x).size = Y.length + sep.length + x.length := by rw [ByteArray.size_append, ByteArray.size_append, sy, hsz, sx]
    have HE := Lib.hid he
    have hlen : (Lib.join (ss.take (i + 1)) sep).length = Y.length + sep.length + x.length := by rw [hst, List.length_append, List.length_append]
    have HLEN := Lib.hid hlen
    clear hst hx he hle hlen
    by_cases hov : 256 < Y.length + sep.length + x.length
    ·have hovi : (256 : Int) < (Y.length : Int) + (sep.length : Int) + (x.length : Int) := by omega
     have hno : ¬ (Lib.join ss sep).length ≤ 256 := by have := HLE.out; rw [HLEN.out] at this; omega
     go_wp2_with fail
     go_ret
     exact ⟨rfl, Later.refl _⟩
    ·have hovi : ¬ (256 : Int) < (Y.length : Int) + (sep.length : Int) + (x.length : Int) := by omega
     go_wp2_with fail
     go_roundw
     case rel => exact ⟨i + 1, Y ++ sep ++ x, by omega, by rw [List.length_append, List.length_append]; omega, congrArg Value.string HE.out, HST.out.symm, by go_num, trivial⟩
     case measure => first | (simp [intOf]; done) | (simp [intOf]; omega)
  ·obtain rfl : n = i := by omega
   have h1 := HY.out
   rw [List.take_of_length_le (by rw [HN.out]; exact Nat.le_refl _)] at h1
   have hok : (Lib.join ss sep).length ≤ 256 := by rw [← h1]; exact hY
   have HK2 : Hid (RwOk M (rec2 wr g (bstr Y) (.slice A n c)) g (Lib.join ss sep) ss) := by
    show RwOk M _ _ _ _
    rw [h1]; exact HK.out
   clear h1 HY
   go_wp2_with fail
   go_ret
   exact ⟨rfl, HK2.out, rec2_fr _ _ _ _⟩
end Go.Proofs.YtmkddhkpeiajhaaGreatDoor
