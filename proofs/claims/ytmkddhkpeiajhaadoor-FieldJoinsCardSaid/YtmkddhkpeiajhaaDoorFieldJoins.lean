/-
  FieldJoins: what is cut at a byte, and put together with it between, is the text.
-/
import Derived.Test.YtmkddhkpeiajhaaDoorFieldKn
import Derived.Deep.DeepCutAuto
namespace Go.Proofs.YtmkddhkpeiajhaaDoor
open Go.RowKit

theorem rdb_one (c : UInt8) (w : World) : RdB (w.alloc (.cells #[.int .u8 (c.toNat : Int)] 5)) (w.heap.size + 1) (some ⟨w.heap.size, 0, none⟩) 1 [c] := by
  refine ⟨by rw [bv_length]; rfl, fun _ => ⟨_, rfl, by simp, fun j u hu => ?_⟩⟩
  rw [Addr.add_lit, Nat.zero_add, (Blk.new w _ _).cell, ← Array.getElem?_toList]
  exact hu
theorem str1 (c : UInt8) (w : World) : (convert 26 9 (.slice (some ⟨w.heap.size, 0, none⟩) 1 1)).run Tryd.prog (w.alloc (.cells #[.int .u8 (c.toNat : Int)] 5)) = .ok (.string (bstr [c])) (w.alloc (.cells #[.int .u8 (c.toNat : Int)] 5)) :=
  run_str (rdb_one c w)
theorem bstr_szf (l : List UInt8) : (bstr l).size = l.length := rfl
theorem bstr_appf (a b : List UInt8) : bstr a ++ bstr b = bstr (a ++ b) := by
  apply ByteArray.ext
  simp [bstr]
theorem alz {w : World} {p : Addr} {v : Value} (h : w.cell? p = some v) (o : Obj) : (w.alloc o).cell? p = some v := by rw [World.cell?_alloc_lt w o p (World.block_lt_of_cell? w p h), h]
/-- what Split leaves of the text -/
def cutP (c : UInt8) (L : List UInt8) : List (List UInt8) := if L = [] then [] else piecesC c L
theorem cut_split (c : UInt8) (L : List UInt8) (hL : L.length ≤ 300) (c32 : c ≠ 32) (c92 : c ≠ 92) (w : World) (hm : MaxL w) :
    Calls Tryd.prog 6 #[.string (bstr L), .string (bstr [c])] w fun e w' => ∃ v, e = .returned (.tuple #[v, .int .i64 0]) ∧ RetSs w (cutP c L) v w' := by
  unfold cutP
  by_cases hn : L = []
  · rw [if_pos hn, hn]; exact fsplit_nil (bstr [c]) w
  · rw [if_neg hn]; exact fsplit_at c L w hm (by omega) hn c32 c92

set_option maxRecDepth 100000 in
set_option maxHeartbeats 16000000 in
theorem joins_any (S : ByteArray) (L : List UInt8) (hL : L.length ≤ 300) (k : UInt8) (h32 : k ≠ 32) (h92 : k ≠ 92) (w : World) (hm : MaxL w) (hS : S.extract 0 (min (S.size : Int) 300).toNat = bstr L) (hsz : S.size ≤ 140737488355328) :
    Calls Tryd.prog 3 #[.string S, .int .u8 (k.toNat : Int)] w fun e w' => e = .returned (.bool true) ∧ Later w w' := by
  go_enter Tryd.func3, Tryd.ntmps3
  go_upto_region 1 with fail
  go_cut [0] (fun s0 wx => s0 = .string (bstr L) ∧ wx = w)
  case first =>
    have H2 := Lib.hid hS
    clear hS
    go_wp2_with fail
    all_goals
      go_meet
      exact ⟨congrArg Value.string H2.out, rfl⟩
  case rest =>
  obtain ⟨rfl, hwc⟩ := hcut
  have hwc := hwc.symm
  subst hwc
  clear hS hsz
  have q1 : ((k.toNat : Int) == 32) = false := by rw [beq_eq_false_iff_ne]; intro e; exact h32 (UInt8.toNat_inj.1 (by show k.toNat = 32; omega))
  have q2 : ((k.toNat : Int) == 92) = false := by rw [beq_eq_false_iff_ne]; intro e; exact h92 (UInt8.toNat_inj.1 (by show k.toNat = 92; omega))
  have c32 := h32
  have c92 := h92
  have hsp := fun (wx : World) (hx : Later w wx) => cut_split k L hL c32 c92 wx (hm.later hx)
  obtain ⟨P, hP⟩ : ∃ P, P = cutP k L := ⟨_, rfl⟩
  obtain ⟨T, hT⟩ : ∃ T, T = bstr [k] := ⟨_, rfl⟩
  have hcv : ∀ wx : World, (convert 26 9 (.slice (some ⟨wx.heap.size, 0, none⟩) 1 1)).run Tryd.prog (wx.alloc (.cells #[.int .u8 (k.toNat : Int)] 5)) = .ok (.string T) (wx.alloc (.cells #[.int .u8 (k.toNat : Int)] 5)) := fun wx => by rw [hT]; exact str1 k wx
  rw [← hP, ← hT] at hsp
  have HSP := Lib.hid hsp
  have HP := Lib.hid hP
  have HT := Lib.hid hT
  have HM := Lib.hid hm
  have hsz : (bstr L).size = L.length := rfl
  clear hsp hP hT hm c32 c92
  go_wp2_with fail
  refine (HSP.out _ ((Later.refl w).alloc _)).mono ?_
  rintro e w1 ⟨_, rfl, A, n, cp, rfl, hr, hl1⟩
  have HR := Lib.hid hr
  have HLN := Lib.hid hr.len
  have HL1 : Hid (Later w w1) := ((Later.refl w).alloc _).trans hl1
  clear hr hl1 HSP
  go_wp2_with fail
  go_loopw [7, 8] (fun s7 s8 wr => ∃ i : Nat, i ≤ L.length ∧ s7 = .int .i64 (((L.take i).count k : Nat) : Int) ∧ s8 = .int .i64 (i : Int) ∧ wr = w1) (fun _ s8 _ => L.length - (intOf s8).toNat)
  case atStart => exact ⟨0, Nat.zero_le _, by rw [List.take_zero]; rfl, rfl, rfl⟩
  case round =>
    obtain ⟨i, hi, rfl, rfl, rfl⟩ := hrel
    by_cases hlt : i < L.length
    · have hlti : (i : Int) < (L.length : Int) := by omega
      obtain ⟨x, hx⟩ : ∃ x, L[i]? = some x := ⟨_, List.getElem?_eq_getElem hlt⟩
      obtain ⟨hxi, hxe⟩ := str_gz L i x hx
      have hst := count_step k x L i hx
      have hcl : (L.take i).count k ≤ i := Nat.le_trans (List.count_le_length) (by rw [List.length_take]; omega)
      have hx256 := x.toNat_lt
      obtain ⟨m, hmm⟩ : ∃ m, m = (L.take i).count k := ⟨_, rfl⟩
      rw [← hmm] at hst hcl ⊢
      by_cases he : x = k
      · have hq : ((x.toNat : Int) == (k.toNat : Int)) = true := by rw [he]; exact beq_self_eq_true _
        rw [if_pos he] at hst
        have HST := Lib.hid hst
        clear hst hx hmm he
        go_wp2_with fail
        go_roundw
        case rel => exact ⟨i + 1, by omega, by rw [HST.out]; go_num, by go_num, trivial⟩
        case measure => first | (simp [intOf]; done) | (simp [intOf]; omega)
      · have hq : ((x.toNat : Int) == (k.toNat : Int)) = false := by rw [beq_eq_false_iff_ne]; intro e; exact he (UInt8.toNat_inj.1 (by have e2 : (x.toNat : Int) = ((k : UInt8).toNat : Int) := e; omega))
        rw [if_neg he] at hst
        have HST := Lib.hid hst
        clear hst hx hmm he
        go_wp2_with fail
        go_roundw
        case rel => exact ⟨i + 1, by omega, by rw [HST.out]; try go_num, by go_num, trivial⟩
        case measure => first | (simp [intOf]; done) | (simp [intOf]; omega)
    · obtain rfl : i = L.length := by omega
      rw [List.take_length]
      have hcl : L.count k ≤ 300 := Nat.le_trans List.count_le_length hL
      obtain ⟨m, hmm⟩ : ∃ m, m = L.count k := ⟨_, rfl⟩
      rw [← hmm] at hcl ⊢
      have HMM := Lib.hid hmm
      clear hmm
      go_wp2_with fail
      refine (fieldKnown_any _ (HM.out.later HL1.out)).mono ?_
      rintro e w2 ⟨rfl, hl2⟩
      have HL2 : Hid (Later w w2) := HL1.out.trans hl2
      have HL12 := Lib.hid hl2
      clear hl2
      by_cases hn : L = []
      · have hp0 : P = [] := by rw [HP.out, hn]; rfl
        have hn0 : n = 0 := by rw [← HLN.out, hp0]; rfl
        have e1 : (bstr L).toList.isEmpty = true := by rw [bstr_toList, hn]; rfl
        subst hn0
        clear hp0 hn
        go_wp2_with fail
        refine (fieldKnown_any _ (HM.out.later HL2.out)).mono ?_
        rintro e w3 ⟨rfl, hl3⟩
        go_wp2_with fail
        go_ret
        exact ⟨rfl, HL2.out.trans hl3⟩
      · have hP : P = piecesC k L := by rw [HP.out]; unfold cutP; rw [if_neg hn]
        have e1 : (bstr L).toList.isEmpty = false := by rw [bstr_toList]; cases L with | nil => exact absurd rfl hn | cons _ _ => rfl
        have hnm : n = m + 1 := by rw [← HLN.out, hP, pieces_len, HMM.out]
        have hJ : joinC k P = L := by rw [hP]; exact pieces_join k L
        have HJ := Lib.hid hJ
        have HNM := Lib.hid hnm
        clear hP hnm hJ hn
        have hn3 : n ≤ 301 := by have := HNM.out; omega
        go_wp2_with fail
        go_loopw [9, 10] (fun s9 s10 wr => ∃ i : Nat, i ≤ n ∧ s9 = .string (bstr (joinC k (P.take i))) ∧ s10 = .int .i64 (i : Int) ∧ Hid (Later w2 wr)) (fun _ s10 _ => n - (intOf s10).toNat)
        case atStart => exact ⟨0, Nat.zero_le _, rfl, rfl, Later.refl _⟩
        case round =>
          obtain ⟨i, hi, rfl, rfl, hlr⟩ := hrel
          by_cases hlt : i < n
          · have hlti : (i : Int) < (n : Int) := by omega
            obtain ⟨b0, off, x, rfl, hb0, hx, hcell⟩ := (HR.out.lat (HL12.out.trans hlr.out)).at_ hlt
            have hjs := join_step k P i x hx
            have hle := piece_le k P i x hx
            rw [HJ.out] at hle
            obtain ⟨Y, hY⟩ : ∃ Y, Y = joinC k (P.take i) := ⟨_, rfl⟩
            rw [← hY] at hjs hle ⊢
            have HJS := Lib.hid hjs
            have sy : (bstr Y).size = Y.length := rfl
            have sx : (bstr x).size = x.length := rfl
            have HY := Lib.hid hY
            clear hjs hY hx hb0
            by_cases hi0 : i = 0
            · subst hi0
              have HY0 : Hid (Y = []) := HY.out
              have hz : ¬ 9223372036854775807 < (bstr Y).size + (bstr x).size := by rw [sy, sx]; omega
              have hcell0 : wr.cell? ⟨b0, off, none⟩ = some (.string (bstr x)) := hcell
              clear sy sx hcell
              go_wp2_with fail
              go_roundw
              case rel => exact ⟨1, by omega, by show Value.string (bstr Y ++ bstr x) = Value.string (bstr (joinC k (P.take (0 + 1)))); rw [bstr_appf, HJS.out, if_pos rfl, HY0.out], by go_num, hlr⟩
              case measure => first | (simp [intOf]; done) | (simp [intOf]; omega)
            · have hi1 : (0 : Int) < (i : Int) := by omega
              have st : T.size = 1 := by rw [HT.out]; rfl
              have hz : ¬ 9223372036854775807 < (bstr Y).size + T.size := by rw [sy, st]; omega
              have hz2 : ¬ 9223372036854775807 < (bstr Y ++ T).size + (bstr x).size := by rw [ByteArray.size_append, sy, st, sx]; omega
              have hcell1 : ∀ o : Obj, (wr.alloc o).cell? ⟨b0, off + i, none⟩ = some (.string (bstr x)) := alz hcell
              clear sy sx st
              go_wp2_with fail
              go_roundw
              case rel => exact ⟨i + 1, by omega, by rw [HT.out, bstr_appf, bstr_appf, HJS.out, if_neg hi0], by go_num, hlr.out.alloc _⟩
              case measure => first | (simp [intOf]; done) | (simp [intOf]; omega)
          · obtain rfl : n = i := by omega
            have hjn : joinC k (P.take n) = L := by rw [← HLN.out, List.take_length, HJ.out]
            rw [hjn]
            have hs : ((bstr L).toList == (bstr L).toList) = true := seq_true rfl
            have hnm2 : ((n : Int) == (m : Int) + 1) = true := by have := HNM.out; rw [beq_iff_eq]; omega
            clear hjn hi hlt
            go_wp2_with fail
            go_ret
            exact ⟨rfl, HL2.out.trans hlr.out⟩

set_option maxRecDepth 100000 in
set_option maxHeartbeats 16000000 in
theorem joins_32 (S : ByteArray) (L : List UInt8) (hL : L.length ≤ 300) (w : World) (hm : MaxL w) (hS : S.extract 0 (min (S.size : Int) 300).toNat = bstr L) (hsz : S.size ≤ 140737488355328) :
    Calls Tryd.prog 3 #[.string S, .int .u8 32] w fun e w' => e = .returned (.bool true) ∧ Later w w' := by
  go_enter Tryd.func3, Tryd.ntmps3
  go_upto_region 1 with fail
  go_cut [0] (fun s0 wx => s0 = .string (bstr L) ∧ wx = w)
  case first =>
    have H2 := Lib.hid hS
    clear hS
    go_wp2_with fail
    all_goals
      go_meet
      exact ⟨congrArg Value.string H2.out, rfl⟩
  case rest =>
  obtain ⟨rfl, hwc⟩ := hcut
  have hwc := hwc.symm
  subst hwc
  clear hS hsz
  have c32 : (58 : UInt8) ≠ 32 := by decide
  have c92 : (58 : UInt8) ≠ 92 := by decide
  have hsp := fun (wx : World) (hx : Later w wx) => cut_split 58 L hL c32 c92 wx (hm.later hx)
  obtain ⟨P, hP⟩ : ∃ P, P = cutP 58 L := ⟨_, rfl⟩
  obtain ⟨T, hT⟩ : ∃ T, T = bstr [58] := ⟨_, rfl⟩
  have hcv : ∀ wx : World, (convert 26 9 (.slice (some ⟨wx.heap.size, 0, none⟩) 1 1)).run Tryd.prog (wx.alloc (.cells #[.int .u8 58] 5)) = .ok (.string T) (wx.alloc (.cells #[.int .u8 58] 5)) := fun wx => by rw [hT]; exact str1 58 wx
  rw [← hP, ← hT] at hsp
  have HSP := Lib.hid hsp
  have HP := Lib.hid hP
  have HT := Lib.hid hT
  have HM := Lib.hid hm
  have hsz : (bstr L).size = L.length := rfl
  clear hsp hP hT hm c32 c92
  go_wp2_with fail
  refine (HSP.out _ ((Later.refl w).alloc _)).mono ?_
  rintro e w1 ⟨_, rfl, A, n, cp, rfl, hr, hl1⟩
  have HR := Lib.hid hr
  have HLN := Lib.hid hr.len
  have HL1 : Hid (Later w w1) := ((Later.refl w).alloc _).trans hl1
  clear hr hl1 HSP
  go_wp2_with fail
  go_loopw [7, 8] (fun s7 s8 wr => ∃ i : Nat, i ≤ L.length ∧ s7 = .int .i64 (((L.take i).count 58 : Nat) : Int) ∧ s8 = .int .i64 (i : Int) ∧ wr = w1) (fun _ s8 _ => L.length - (intOf s8).toNat)
  case atStart => exact ⟨0, Nat.zero_le _, by rw [List.take_zero]; rfl, rfl, rfl⟩
  case round =>
    obtain ⟨i, hi, rfl, rfl, rfl⟩ := hrel
    by_cases hlt : i < L.length
    · have hlti : (i : Int) < (L.length : Int) := by omega
      obtain ⟨x, hx⟩ : ∃ x, L[i]? = some x := ⟨_, List.getElem?_eq_getElem hlt⟩
      obtain ⟨hxi, hxe⟩ := str_gz L i x hx
      have hst := count_step 58 x L i hx
      have hcl : (L.take i).count 58 ≤ i := Nat.le_trans (List.count_le_length) (by rw [List.length_take]; omega)
      have hx256 := x.toNat_lt
      obtain ⟨m, hmm⟩ : ∃ m, m = (L.take i).count 58 := ⟨_, rfl⟩
      rw [← hmm] at hst hcl ⊢
      by_cases he : x = 58
      · have hq : ((x.toNat : Int) == 58) = true := by rw [he]; exact beq_self_eq_true _
        rw [if_pos he] at hst
        have HST := Lib.hid hst
        clear hst hx hmm he
        go_wp2_with fail
        go_roundw
        case rel => exact ⟨i + 1, by omega, by rw [HST.out]; go_num, by go_num, trivial⟩
        case measure => first | (simp [intOf]; done) | (simp [intOf]; omega)
      · have hq : ((x.toNat : Int) == 58) = false := by rw [beq_eq_false_iff_ne]; intro e; exact he (UInt8.toNat_inj.1 (by have e2 : (x.toNat : Int) = ((58 : UInt8).toNat : Int) := e; omega))
        rw [if_neg he] at hst
        have HST := Lib.hid hst
        clear hst hx hmm he
        go_wp2_with fail
        go_roundw
        case rel => exact ⟨i + 1, by omega, by rw [HST.out]; try go_num, by go_num, trivial⟩
        case measure => first | (simp [intOf]; done) | (simp [intOf]; omega)
    · obtain rfl : i = L.length := by omega
      rw [List.take_length]
      have hcl : L.count 58 ≤ 300 := Nat.le_trans List.count_le_length hL
      obtain ⟨m, hmm⟩ : ∃ m, m = L.count 58 := ⟨_, rfl⟩
      rw [← hmm] at hcl ⊢
      have HMM := Lib.hid hmm
      clear hmm
      go_wp2_with fail
      refine (fieldKnown_any _ (HM.out.later HL1.out)).mono ?_
      rintro e w2 ⟨rfl, hl2⟩
      have HL2 : Hid (Later w w2) := HL1.out.trans hl2
      have HL12 := Lib.hid hl2
      clear hl2
      by_cases hn : L = []
      · have hp0 : P = [] := by rw [HP.out, hn]; rfl
        have hn0 : n = 0 := by rw [← HLN.out, hp0]; rfl
        have e1 : (bstr L).toList.isEmpty = true := by rw [bstr_toList, hn]; rfl
        subst hn0
        clear hp0 hn
        go_wp2_with fail
        refine (fieldKnown_any _ (HM.out.later HL2.out)).mono ?_
        rintro e w3 ⟨rfl, hl3⟩
        go_wp2_with fail
        go_ret
        exact ⟨rfl, HL2.out.trans hl3⟩
      · have hP : P = piecesC 58 L := by rw [HP.out]; unfold cutP; rw [if_neg hn]
        have e1 : (bstr L).toList.isEmpty = false := by rw [bstr_toList]; cases L with | nil => exact absurd rfl hn | cons _ _ => rfl
        have hnm : n = m + 1 := by rw [← HLN.out, hP, pieces_len, HMM.out]
        have hJ : joinC 58 P = L := by rw [hP]; exact pieces_join 58 L
        have HJ := Lib.hid hJ
        have HNM := Lib.hid hnm
        clear hP hnm hJ hn
        have hn3 : n ≤ 301 := by have := HNM.out; omega
        go_wp2_with fail
        go_loopw [9, 10] (fun s9 s10 wr => ∃ i : Nat, i ≤ n ∧ s9 = .string (bstr (joinC 58 (P.take i))) ∧ s10 = .int .i64 (i : Int) ∧ Hid (Later w2 wr)) (fun _ s10 _ => n - (intOf s10).toNat)
        case atStart => exact ⟨0, Nat.zero_le _, rfl, rfl, Later.refl _⟩
        case round =>
          obtain ⟨i, hi, rfl, rfl, hlr⟩ := hrel
          by_cases hlt : i < n
          · have hlti : (i : Int) < (n : Int) := by omega
            obtain ⟨b0, off, x, rfl, hb0, hx, hcell⟩ := (HR.out.lat (HL12.out.trans hlr.out)).at_ hlt
            have hjs := join_step 58 P i x hx
            have hle := piece_le 58 P i x hx
            rw [HJ.out] at hle
            obtain ⟨Y, hY⟩ : ∃ Y, Y = joinC 58 (P.take i) := ⟨_, rfl⟩
            rw [← hY] at hjs hle ⊢
            have HJS := Lib.hid hjs
            have sy : (bstr Y).size = Y.length := rfl
            have sx : (bstr x).size = x.length := rfl
            have HY := Lib.hid hY
            clear hjs hY hx hb0
            by_cases hi0 : i = 0
            · subst hi0
              have HY0 : Hid (Y = []) := HY.out
              have hz : ¬ 9223372036854775807 < (bstr Y).size + (bstr x).size := by rw [sy, sx]; omega
              have hcell0 : wr.cell? ⟨b0, off, none⟩ = some (.string (bstr x)) := hcell
              clear sy sx hcell
              go_wp2_with fail
              go_roundw
              case rel => exact ⟨1, by omega, by show Value.string (bstr Y ++ bstr x) = Value.string (bstr (joinC 58 (P.take (0 + 1)))); rw [bstr_appf, HJS.out, if_pos rfl, HY0.out], by go_num, hlr⟩
              case measure => first | (simp [intOf]; done) | (simp [intOf]; omega)
            · have hi1 : (0 : Int) < (i : Int) := by omega
              have st : T.size = 1 := by rw [HT.out]; rfl
              have hz : ¬ 9223372036854775807 < (bstr Y).size + T.size := by rw [sy, st]; omega
              have hz2 : ¬ 9223372036854775807 < (bstr Y ++ T).size + (bstr x).size := by rw [ByteArray.size_append, sy, st, sx]; omega
              have hcell1 : ∀ o : Obj, (wr.alloc o).cell? ⟨b0, off + i, none⟩ = some (.string (bstr x)) := alz hcell
              clear sy sx st
              go_wp2_with fail
              go_roundw
              case rel => exact ⟨i + 1, by omega, by rw [HT.out, bstr_appf, bstr_appf, HJS.out, if_neg hi0], by go_num, hlr.out.alloc _⟩
              case measure => first | (simp [intOf]; done) | (simp [intOf]; omega)
          · obtain rfl : n = i := by omega
            have hjn : joinC 58 (P.take n) = L := by rw [← HLN.out, List.take_length, HJ.out]
            rw [hjn]
            have hs : ((bstr L).toList == (bstr L).toList) = true := seq_true rfl
            have hnm2 : ((n : Int) == (m : Int) + 1) = true := by have := HNM.out; rw [beq_iff_eq]; omega
            clear hjn hi hlt
            go_wp2_with fail
            go_ret
            exact ⟨rfl, HL2.out.trans hlr.out⟩

set_option maxRecDepth 100000 in
set_option maxHeartbeats 16000000 in
theorem joins_92 (S : ByteArray) (L : List UInt8) (hL : L.length ≤ 300) (w : World) (hm : MaxL w) (hS : S.extract 0 (min (S.size : Int) 300).toNat = bstr L) (hsz : S.size ≤ 140737488355328) :
    Calls Tryd.prog 3 #[.string S, .int .u8 92] w fun e w' => e = .returned (.bool true) ∧ Later w w' := by
  go_enter Tryd.func3, Tryd.ntmps3
  go_upto_region 1 with fail
  go_cut [0] (fun s0 wx => s0 = .string (bstr L) ∧ wx = w)
  case first =>
    have H2 := Lib.hid hS
    clear hS
    go_wp2_with fail
    all_goals
      go_meet
      exact ⟨congrArg Value.string H2.out, rfl⟩
  case rest =>
  obtain ⟨rfl, hwc⟩ := hcut
  have hwc := hwc.symm
  subst hwc
  clear hS hsz
  have c32 : (58 : UInt8) ≠ 32 := by decide
  have c92 : (58 : UInt8) ≠ 92 := by decide
  have hsp := fun (wx : World) (hx : Later w wx) => cut_split 58 L hL c32 c92 wx (hm.later hx)
  obtain ⟨P, hP⟩ : ∃ P, P = cutP 58 L := ⟨_, rfl⟩
  obtain ⟨T, hT⟩ : ∃ T, T = bstr [58] := ⟨_, rfl⟩
  have hcv : ∀ wx : World, (convert 26 9 (.slice (some ⟨wx.heap.size, 0, none⟩) 1 1)).run Tryd.prog (wx.alloc (.cells #[.int .u8 58] 5)) = .ok (.string T) (wx.alloc (.cells #[.int .u8 58] 5)) := fun wx => by rw [hT]; exact str1 58 wx
  rw [← hP, ← hT] at hsp
  have HSP := Lib.hid hsp
  have HP := Lib.hid hP
  have HT := Lib.hid hT
  have HM := Lib.hid hm
  have hsz : (bstr L).size = L.length := rfl
  clear hsp hP hT hm c32 c92
  go_wp2_with fail
  refine (HSP.out _ ((Later.refl w).alloc _)).mono ?_
  rintro e w1 ⟨_, rfl, A, n, cp, rfl, hr, hl1⟩
  have HR := Lib.hid hr
  have HLN := Lib.hid hr.len
  have HL1 : Hid (Later w w1) := ((Later.refl w).alloc _).trans hl1
  clear hr hl1 HSP
  go_wp2_with fail
  go_loopw [7, 8] (fun s7 s8 wr => ∃ i : Nat, i ≤ L.length ∧ s7 = .int .i64 (((L.take i).count 58 : Nat) : Int) ∧ s8 = .int .i64 (i : Int) ∧ wr = w1) (fun _ s8 _ => L.length - (intOf s8).toNat)
  case atStart => exact ⟨0, Nat.zero_le _, by rw [List.take_zero]; rfl, rfl, rfl⟩
  case round =>
    obtain ⟨i, hi, rfl, rfl, rfl⟩ := hrel
    by_cases hlt : i < L.length
    · have hlti : (i : Int) < (L.length : Int) := by omega
      obtain ⟨x, hx⟩ : ∃ x, L[i]? = some x := ⟨_, List.getElem?_eq_getElem hlt⟩
      obtain ⟨hxi, hxe⟩ := str_gz L i x hx
      have hst := count_step 58 x L i hx
      have hcl : (L.take i).count 58 ≤ i := Nat.le_trans (List.count_le_length) (by rw [List.length_take]; omega)
      have hx256 := x.toNat_lt
      obtain ⟨m, hmm⟩ : ∃ m, m = (L.take i).count 58 := ⟨_, rfl⟩
      rw [← hmm] at hst hcl ⊢
      by_cases he : x = 58
      · have hq : ((x.toNat : Int) == 58) = true := by rw [he]; exact beq_self_eq_true _
        rw [if_pos he] at hst
        have HST := Lib.hid hst
        clear hst hx hmm he
        go_wp2_with fail
        go_roundw
        case rel => exact ⟨i + 1, by omega, by rw [HST.out]; go_num, by go_num, trivial⟩
        case measure => first | (simp [intOf]; done) | (simp [intOf]; omega)
      · have hq : ((x.toNat : Int) == 58) = false := by rw [beq_eq_false_iff_ne]; intro e; exact he (UInt8.toNat_inj.1 (by have e2 : (x.toNat : Int) = ((58 : UInt8).toNat : Int) := e; omega))
        rw [if_neg he] at hst
        have HST := Lib.hid hst
        clear hst hx hmm he
        go_wp2_with fail
        go_roundw
        case rel => exact ⟨i + 1, by omega, by rw [HST.out]; try go_num, by go_num, trivial⟩
        case measure => first | (simp [intOf]; done) | (simp [intOf]; omega)
    · obtain rfl : i = L.length := by omega
      rw [List.take_length]
      have hcl : L.count 58 ≤ 300 := Nat.le_trans List.count_le_length hL
      obtain ⟨m, hmm⟩ : ∃ m, m = L.count 58 := ⟨_, rfl⟩
      rw [← hmm] at hcl ⊢
      have HMM := Lib.hid hmm
      clear hmm
      go_wp2_with fail
      refine (fieldKnown_any _ (HM.out.later HL1.out)).mono ?_
      rintro e w2 ⟨rfl, hl2⟩
      have HL2 : Hid (Later w w2) := HL1.out.trans hl2
      have HL12 := Lib.hid hl2
      clear hl2
      by_cases hn : L = []
      · have hp0 : P = [] := by rw [HP.out, hn]; rfl
        have hn0 : n = 0 := by rw [← HLN.out, hp0]; rfl
        have e1 : (bstr L).toList.isEmpty = true := by rw [bstr_toList, hn]; rfl
        subst hn0
        clear hp0 hn
        go_wp2_with fail
        refine (fieldKnown_any _ (HM.out.later HL2.out)).mono ?_
        rintro e w3 ⟨rfl, hl3⟩
        go_wp2_with fail
        go_ret
        exact ⟨rfl, HL2.out.trans hl3⟩
      · have hP : P = piecesC 58 L := by rw [HP.out]; unfold cutP; rw [if_neg hn]
        have e1 : (bstr L).toList.isEmpty = false := by rw [bstr_toList]; cases L with | nil => exact absurd rfl hn | cons _ _ => rfl
        have hnm : n = m + 1 := by rw [← HLN.out, hP, pieces_len, HMM.out]
        have hJ : joinC 58 P = L := by rw [hP]; exact pieces_join 58 L
        have HJ := Lib.hid hJ
        have HNM := Lib.hid hnm
        clear hP hnm hJ hn
        have hn3 : n ≤ 301 := by have := HNM.out; omega
        go_wp2_with fail
        go_loopw [9, 10] (fun s9 s10 wr => ∃ i : Nat, i ≤ n ∧ s9 = .string (bstr (joinC 58 (P.take i))) ∧ s10 = .int .i64 (i : Int) ∧ Hid (Later w2 wr)) (fun _ s10 _ => n - (intOf s10).toNat)
        case atStart => exact ⟨0, Nat.zero_le _, rfl, rfl, Later.refl _⟩
        case round =>
          obtain ⟨i, hi, rfl, rfl, hlr⟩ := hrel
          by_cases hlt : i < n
          · have hlti : (i : Int) < (n : Int) := by omega
            obtain ⟨b0, off, x, rfl, hb0, hx, hcell⟩ := (HR.out.lat (HL12.out.trans hlr.out)).at_ hlt
            have hjs := join_step 58 P i x hx
            have hle := piece_le 58 P i x hx
            rw [HJ.out] at hle
            obtain ⟨Y, hY⟩ : ∃ Y, Y = joinC 58 (P.take i) := ⟨_, rfl⟩
            rw [← hY] at hjs hle ⊢
            have HJS := Lib.hid hjs
            have sy : (bstr Y).size = Y.length := rfl
            have sx : (bstr x).size = x.length := rfl
            have HY := Lib.hid hY
            clear hjs hY hx hb0
            by_cases hi0 : i = 0
            · subst hi0
              have HY0 : Hid (Y = []) := HY.out
              have hz : ¬ 9223372036854775807 < (bstr Y).size + (bstr x).size := by rw [sy, sx]; omega
              have hcell0 : wr.cell? ⟨b0, off, none⟩ = some (.string (bstr x)) := hcell
              clear sy sx hcell
              go_wp2_with fail
              go_roundw
              case rel => exact ⟨1, by omega, by show Value.string (bstr Y ++ bstr x) = Value.string (bstr (joinC 58 (P.take (0 + 1)))); rw [bstr_appf, HJS.out, if_pos rfl, HY0.out], by go_num, hlr⟩
              case measure => first | (simp [intOf]; done) | (simp [intOf]; omega)
            · have hi1 : (0 : Int) < (i : Int) := by omega
              have st : T.size = 1 := by rw [HT.out]; rfl
              have hz : ¬ 9223372036854775807 < (bstr Y).size + T.size := by rw [sy, st]; omega
              have hz2 : ¬ 9223372036854775807 < (bstr Y ++ T).size + (bstr x).size := by rw [ByteArray.size_append, sy, st, sx]; omega
              have hcell1 : ∀ o : Obj, (wr.alloc o).cell? ⟨b0, off + i, none⟩ = some (.string (bstr x)) := alz hcell
              clear sy sx st
              go_wp2_with fail
              go_roundw
              case rel => exact ⟨i + 1, by omega, by rw [HT.out, bstr_appf, bstr_appf, HJS.out, if_neg hi0], by go_num, hlr.out.alloc _⟩
              case measure => first | (simp [intOf]; done) | (simp [intOf]; omega)
          · obtain rfl : n = i := by omega
            have hjn : joinC 58 (P.take n) = L := by rw [← HLN.out, List.take_length, HJ.out]
            rw [hjn]
            have hs : ((bstr L).toList == (bstr L).toList) = true := seq_true rfl
            have hnm2 : ((n : Int) == (m : Int) + 1) = true := by have := HNM.out; rw [beq_iff_eq]; omega
            clear hjn hi hlt
            go_wp2_with fail
            go_ret
            exact ⟨rfl, HL2.out.trans hlr.out⟩

theorem fieldJoins_any (S : ByteArray) (k : UInt8) (w : World) (hm : MaxL w) (hsz : S.size ≤ 140737488355328) :
    Calls Tryd.prog 3 #[.string S, .int .u8 (k.toNat : Int)] w fun e w' => e = .returned (.bool true) ∧ Later w w' := by
  have hL : (S.data.toList.take 300).length ≤ 300 := by rw [List.length_take]; omega
  have hS : S.extract 0 (min (S.size : Int) 300).toNat = bstr (S.data.toList.take 300) := by
    apply ByteArray.ext
    apply Array.ext'
    show (S.extract 0 (min (S.size : Int) 300).toNat).data.toList = S.data.toList.take 300
    rw [Lib.extract_from_zero]
    have hlen : S.data.toList.length = S.size := rfl
    by_cases h : S.size ≤ 300
    · rw [show (min (S.size : Int) 300).toNat = S.size by omega, List.take_of_length_le (by omega), List.take_of_length_le (by omega)]
    · rw [show (min (S.size : Int) 300).toNat = 300 by omega]
  by_cases h32 : k = 32
  · subst h32; exact joins_32 S _ hL w hm hS hsz
  · by_cases h92 : k = 92
    · subst h92; exact joins_92 S _ hL w hm hS hsz
    · exact joins_any S _ hL k h32 h92 w hm hS hsz

end Go.Proofs.YtmkddhkpeiajhaaDoor
