import Derived.Test.YtmkddhkpeiajhaaGreatDoorRec4
import Derived.Test.YtmkddhkpeiajhaaGreatDoorRspRx
import Derived.Test.YtmkddhkpeiajhaaGreatDoorProg
import Derived.Test.YtmkddhkpeiajhaaGreatDoorSetLaw
namespace Go.Proofs.YtmkddhkpeiajhaaGreatDoor
open Go.RowKit
variable {M : Nat}
theorem OwnZ.made (w : World) {base : Nat} (hb : base ≤ w.heap.size) : OwnZ (w.alloc (.cells #[] 9)) base (some ⟨w.heap.size, 0, none⟩) 0 0 [] :=
 World.ownsRow_made w #[] 0 hb (Nat.zero_le _) rfl
theorem wpList_append_zz (w : World) {ops : Array Oper} {rest : List Oper} {o : Oper} {a : Act} {Q : Exit → Act → World → Prop} (hgd : o.guard = none) (s x : Operand)
  (ho : o.op = .call { callee := .builtin .append, args := #[s, x], argTypes := #[27, 27] })
  (base : Nat) (A : Option Addr) (n c : Nat) (ss : List (List UInt8)) (hs : a.eval s = .slice A n c) (hown : OwnZ w base A n c ss) (ys : List (List UInt8))
  (B : Nat) (A2 : Option Addr) (m c2 : Nat) (hx : a.eval x = .slice A2 m c2) (hr : RdZ w B A2 m ys) (hbd : n + m < 4398046511104) (hbase : base ≤ w.heap.size)
  (h : ∀ A' n' c' w', n' = n + m → OwnZ w' base A' n' c' (ss ++ ys) → w.grownBy w' (ob A) → wpList Tryz.prog ops Q rest (a.put o.dst (.slice A' n' c')) w') :
  wpList Tryz.prog ops Q (o :: rest) a w := by
 obtain ⟨i0, hi, hz0, hz1, hz2⟩ := info_parts string_info
 refine wpList_append_any w hgd s x 27 ho base 9 i0 _ 1 16 Tryz.underlying27 hi hz0 hz1 hz2 rfl (by decide) (.slice A n c) n _ hs hown B A2 m c2 (ys.map strCell) hx hr (by intro u hu; obtain ⟨y, _, rfl⟩ := List.mem_map.1 hu; rfl) (by unfold maxLen; omega) (by omega) hbase ?_
 intro v' w' h2 h3 h4
 have hv : ∃ A' c', v' = .slice A' (n + m) c' := by
  rcases h2.2 with ⟨rfl, e⟩ | ⟨g, cap, cur, rfl, _⟩
  ·exact ⟨none, 0, by rw [e]⟩
  ·exact ⟨_, _, rfl⟩
 obtain ⟨A', c', rfl⟩ := hv
 rw [ob_own] at h3
 exact h A' _ c' w' rfl (by unfold OwnZ; rw [List.map_append]; exact h2) h3
theorem RdZ.cut {w : World} {B n k : Nat} {A : Option Addr} {ss : List (List UInt8)} (h : RdZ w B A n ss) (hk : k ≤ n) : RdZ w B A k (ss.take k) := by
 have hl := h.len
 refine ⟨by rw [List.length_map, List.length_take]; omega, fun hk0 => ?_⟩
 obtain ⟨ad, e, hb, hc⟩ := h.2 (by omega)
 refine ⟨ad, e, hb, fun j u hu => hc j u ?_⟩
 rw [List.map_take, List.getElem?_take] at hu
 split at hu
 ·exact hu
 ·cases hu
theorem pad_take (ss : List (List UInt8)) (d N : Nat) (_hd : d = 0 ∨ ss.length + d ≤ N) (hN : N ≤ ss.length + d) : (ss ++ List.replicate d []).take N = padL ss N := by
 unfold padL
 rw [List.take_append]
 congr 1
 rw [List.take_replicate, List.length_take]
 congr 1
 omega
theorem pad_all (ss : List (List UInt8)) (d N : Nat) (hd : N = ss.length + d) : ss ++ List.replicate d [] = padL ss N := by
 rw [← pad_take ss d N (by omega) (by omega), List.take_of_length_le (by rw [List.length_append, List.length_replicate]; omega)]
theorem OwnZ.set_ {w : World} {base n c i gl : Nat} {ss : List (List UInt8)} (h : OwnZ w base (some ⟨gl, 0, none⟩) n c ss) (hi : i < n) (x : List UInt8) : OwnZ (w.setCell ⟨gl, i, none⟩ (.string (bstr x))) base (some ⟨gl, 0, none⟩) n c (ss.set i x) := by
 have h2 := own_set (_sp := none) h (j := i) (.string (bstr x)) (by omega)
 rw [Nat.zero_add] at h2
 unfold OwnZ
 rw [List.map_set]
 exact h2
set_option maxRecDepth 100000 in
set_option maxHeartbeats 4000000 in
theorem rwPut_gen (g i : Nat) (T x : List UInt8) (ss : List (List UInt8)) (sep : List UInt8) (w : World) (h : RwOk M w g T ss) (hM : M ≤ w.heap.size) (hi : i < 100) (hs : ss.length ≤ 100) (hx : x.length ≤ 256) (hss : ∀ y ∈ ss, y.length ≤ 1000000) (hsep : sep.length ≤ 1000000) :
  Calls Tryz.prog 26 #[.pointer (some ⟨g, 0, none⟩), .int .i64 ((i : Int) + 1), .string (bstr x), .string (bstr sep)] w fun e w' => if (Lib.join (putL ss i x) sep).length ≤ 256 then RwYes M w g (Lib.join (putL ss i x) sep) (putL ss i x) e w' else RecNo w 43 e w' := by
 have HW := Lib.hid h
 obtain ⟨A0, m, d0, hB, hr, hnc, hA0⟩ := h
 have hglt := hB.lt
 have hB' : Blk (w.alloc (.cells #[] 9)) g 29 #[.string (bstr T), .slice A0 m d0] := hB.alloc _
 have c1 : w.cell? ⟨g, 1, none⟩ = some (.slice A0 m d0) := hB.cell 1
 have c1' : (w.alloc (.cells #[] 9)).cell? ⟨g, 1, none⟩ = some (.slice A0 m d0) := hB'.cell 1
 have HR := Lib.hid hr
 have HM := Lib.hid hr.len.symm
 have hml := hr.len
 have q0 : ¬ (i : Int) + 1 < 1 := by omega
 have q1 : ¬ (100 : Int) < (i : Int) + 1 := by omega
 have q2 : ¬ (256 : Int) < ((bstr x).size : Int) := by show ¬ (256 : Int) < (x.length : Int); omega
 have q4 : (i : Int) + 1 - 1 = (i : Int) := by omega
 obtain ⟨X, hX⟩ : ∃ X, X = bstr x := ⟨_, rfl⟩
 have HX := Lib.hid hX
 rw [← hX] at q2 ⊢
 have HSS : Hid (∀ y ∈ putL ss i x, y.length ≤ 1000000) := pad_small hss (by omega) _ i
 clear hB hB' hr hA0 hX hss hnc
 go_enter Tryz.func26, Tryz.ntmps26
 go_wp2_with (at_builtin; refine wpList_append_zz _ rfl (.tmp 19) (.tmp 23) rfl w.heap.size _ 0 0 [] rfl (OwnZ.made w (Nat.le_refl _)) ss _ A0 m d0 rfl (RdZ.latz HR.out ((Later.refl _).alloc _)) (by omega) (by simp) ?_; intro A9 n9 c9 w9 hn9 hown9 hg9)
 have hl9 : Later w w9 := ((Later.refl w).alloc _).grown hg9 (fun q hq => Nat.le_of_eq (Option.some.inj hq))
 go_wp2_with fail
 go_loopw [9] (fun s9 wr => ∃ (A : Option Addr) (n c d : Nat), s9 = .slice A n c ∧ n = ss.length + d ∧ (d = 0 ∨ n ≤ i + 1) ∧ OwnZ wr w.heap.size A n c (ss ++ List.replicate d []) ∧ Later w wr) (fun s9 _ => i + 1 + 1 - (match s9 with | .slice _ n _ => n | _ => 0))
 case atStart => exact ⟨A9, n9, c9, 0, by rw [hn9, Nat.zero_add], by rw [hn9, HM.out]; omega, .inl rfl, by rw [show ss ++ List.replicate 0 [] = [] ++ ss by simp]; exact hown9, hl9⟩
 case round =>
  obtain ⟨A, n, c, d, rfl, hn, hd, hown, hlr⟩ := hrel
  have hsw := hlr.size
  by_cases hlt : n < i + 1
  ·have hlti : (n : Int) < (i : Int) + 1 := by omega
   have hst : ss ++ List.replicate (d + 1) [] = (ss ++ List.replicate d []) ++ [([] : List UInt8)] := by rw [List.replicate_succ', List.append_assoc]
   have HST := Lib.hid hst
   have HLR := Lib.hid hlr
   have HD := Lib.hid hn
   clear hst hlr hn hd
   go_wp2_with (at_builtin; refine wpList_append_z _ rfl (.tmp 29) (.tmp 30) rfl w.heap.size A n c _ rfl (hown.later ((Later.refl _).alloc _)) [] _ _ rfl (reads_z _ [] _) (by omega) (by simp; omega) ?_; intro A8 n8 c8 w8 hn8 hown8 hg8)
   have hl8 : Later w w8 := (HLR.out.alloc _).grown hg8 (fun q hq => (hown.lt q hq).1)
   go_wp2_with fail
   go_roundw
   case rel => exact ⟨A8, n8, c8, d + 1, by rw [hn8], by have := HD.out; omega, .inr (by omega), by rw [HST.out]; exact hown8, hl8⟩
   case measure => simp; omega
  ·have hlti : ¬ (n : Int) < (i : Int) + 1 := by omega
   have hin : i < n := by omega
   have hini : (i : Int) < (n : Int) := by omega
   have hN : n = max (i + 1) ss.length := by omega
   obtain ⟨gl, rfl, hgb⟩ : ∃ gl, A = some ⟨gl, 0, none⟩ ∧ w.heap.size ≤ gl := by
    obtain ⟨gl, cap, hv, hgb, _⟩ := World.ownsRow.form hown (by omega)
    injection hv with hA
    exact ⟨gl, hA, hgb⟩
   have hrd0 := hown.rd
   have hll : (ss ++ List.replicate d []).length = n := hown.len
   have hput : (ss ++ List.replicate d []).set i x = putL ss i x := by unfold putL; rw [← hN, pad_all ss d n (by omega)]
   have hown2 := hown.set_ hin x
   rw [hput, ← HX.out] at hown2
   obtain ⟨v0, cv⟩ : ∃ v, wr.cell? ⟨gl, i, none⟩ = some v := by
    obtain ⟨b, off, y, hA, _, _, hc⟩ := hrd0.at_ hin
    injection hA with hA
    injection hA with h1 h2
    subst h1 h2
    rw [Nat.zero_add] at hc
    exact ⟨_, hc⟩
   obtain ⟨_, _, cs, hBl⟩ := own_row_blk hown (k := gl) rfl
   have fv : wr.frozen? ⟨gl, i, none⟩ = false := hBl.frozen i
   have hl2 : Later w (wr.setCell ⟨gl, i, none⟩ (.string X)) := Below.setCell hlr (p := ⟨gl, i, none⟩) hgb _
   have HJ := Lib.hid (rwAnew_gen g (some ⟨gl, 0, none⟩) n c T ss (putL ss i x) sep _ (HW.out.later hl2) hown2.rd hown2.cap (fun k hk => by have hk : gl = k := Option.some.inj hk; exact ⟨by omega, by omega⟩) (by omega) HSS.out hsep)
   have HL2 := Lib.hid hl2
   clear hown hown2 hrd0 hBl hl2 hlr hput hll hn hd hN
   go_wp2_with fail
   refine HJ.out.mono ?_
   intro e w3 he
   by_cases h256 : (Lib.join (putL ss i x) sep).length ≤ 256
   ·rw [if_pos h256] at he
    obtain ⟨rfl, hr3, hf3⟩ := he
    have H3 := Lib.hid hr3
    have F3 := Lib.hid hf3
    clear hr3 hf3
    go_wp2_with fail
    go_ret
    exact ⟨rfl, H3.out, (frLz HL2.out).trans F3.out (fun _ _ h => h)⟩
   ·rw [if_neg h256] at he
    obtain ⟨rfl, hl3⟩ := he
    have H3 := Lib.hid hl3
    clear hl3
    go_wp2_with fail
    go_ret
    exact ⟨rfl, HL2.out.trans H3.out⟩
set_option maxRecDepth 100000 in
set_option maxHeartbeats 4000000 in
theorem rwSetNF_gen (g N : Nat) (T : List UInt8) (ss : List (List UInt8)) (sep : List UInt8) (w : World) (h : RwOk M w g T ss) (hM : M ≤ w.heap.size) (hN : N ≤ 100) (hs : ss.length ≤ 100) (hss : ∀ y ∈ ss, y.length ≤ 1000000) (hsep : sep.length ≤ 1000000) :
  Calls Tryz.prog 28 #[.pointer (some ⟨g, 0, none⟩), .int .i64 (N : Int), .string (bstr sep)] w fun e w' => if (Lib.join (padL ss N) sep).length ≤ 256 then RwYes M w g (Lib.join (padL ss N) sep) (padL ss N) e w' else RecNo w 43 e w' := by
 have HW := Lib.hid h
 obtain ⟨A0, m, d0, hB, hr, hnc, hA0⟩ := h
 have hglt := hB.lt
 have hB' : Blk (w.alloc (.cells #[] 9)) g 29 #[.string (bstr T), .slice A0 m d0] := hB.alloc _
 have c1 : w.cell? ⟨g, 1, none⟩ = some (.slice A0 m d0) := hB.cell 1
 have c1' : (w.alloc (.cells #[] 9)).cell? ⟨g, 1, none⟩ = some (.slice A0 m d0) := hB'.cell 1
 have HR := Lib.hid hr
 have HM := Lib.hid hr.len.symm
 have hml := hr.len
 have q0 : ¬ (N : Int) < 0 := by omega
 have q1 : ¬ (100 : Int) < (N : Int) := by omega
 have HSS : Hid (∀ y ∈ padL ss N, y.length ≤ 1000000) := fun y hy => by
  unfold padL at hy
  rcases List.mem_append.1 hy with h | h
  ·exact hss y (List.mem_of_mem_take h)
  ·rw [(List.mem_replicate.1 h).2]; exact Nat.zero_le _
 clear hB hB' hr hA0 hss hnc
 go_enter Tryz.func28, Tryz.ntmps28
 go_wp2_with (at_builtin; refine wpList_append_zz _ rfl (.tmp 14) (.tmp 18) rfl w.heap.size _ 0 0 [] rfl (OwnZ.made w (Nat.le_refl _)) ss _ A0 m d0 rfl (RdZ.latz HR.out ((Later.refl _).alloc _)) (by omega) (by simp) ?_; intro A9 n9 c9 w9 hn9 hown9 hg9)
 have hl9 : Later w w9 := ((Later.refl w).alloc _).grown hg9 (fun q hq => Nat.le_of_eq (Option.some.inj hq))
 go_wp2_with fail
 go_loopw [7] (fun s9 wr => ∃ (A : Option Addr) (n c d : Nat), s9 = .slice A n c ∧ n = ss.length + d ∧ (d = 0 ∨ n ≤ N) ∧ OwnZ wr w.heap.size A n c (ss ++ List.replicate d []) ∧ Later w wr) (fun s9 _ => N + 1 - (match s9 with | .slice _ n _ => n | _ => 0))
 case atStart => exact ⟨A9, n9, c9, 0, by rw [hn9, Nat.zero_add], by rw [hn9, HM.out]; omega, .inl rfl, by rw [show ss ++ List.replicate 0 [] = [] ++ ss by simp]; exact hown9, hl9⟩
 case round =>
  obtain ⟨A, n, c, d, rfl, hn, hd, hown, hlr⟩ := hrel
  have hsw := hlr.size
  by_cases hlt : n < N
  ·have hlti : (n : Int) < (N : Int) := by omega
   have hst : ss ++ List.replicate (d + 1) [] = (ss ++ List.replicate d []) ++ [([] : List UInt8)] := by rw [List.replicate_succ', List.append_assoc]
   have HST := Lib.hid hst
   have HLR := Lib.hid hlr
   have HD := Lib.hid hn
   clear hst hlr hn hd
   go_wp2_with (at_builtin; refine wpList_append_z _ rfl (.tmp 24) (.tmp 25) rfl w.heap.size A n c _ rfl (hown.later ((Later.refl _).alloc _)) [] _ _ rfl (reads_z _ [] _) (by omega) (by simp; omega) ?_; intro A8 n8 c8 w8 hn8 hown8 hg8)
   have hl8 : Later w w8 := (HLR.out.alloc _).grown hg8 (fun q hq => (hown.lt q hq).1)
   go_wp2_with fail
   go_roundw
   case rel => exact ⟨A8, n8, c8, d + 1, by rw [hn8], by have := HD.out; omega, .inr (by omega), by rw [HST.out]; exact hown8, hl8⟩
   case measure => simp; omega
  ·have hlti : ¬ (n : Int) < (N : Int) := by omega
   have hrd := hown.rd.cut (k := N) (by omega)
   rw [pad_take ss d N (by omega) (by omega)] at hrd
   have hcap := hown.cap
   have hNc : (N : Int) ≤ (c : Int) := by omega
   have HJ := Lib.hid (rwAnew_gen g A N c T ss (padL ss N) sep wr (HW.out.later hlr) hrd (by omega) (fun k hk => by have := (hown.lt k hk).1; exact ⟨by omega, by omega⟩) hN HSS.out hsep)
   have HL2 := Lib.hid hlr
   clear hown hrd hlr hn hd
   go_wp2_with fail
   refine HJ.out.mono ?_
   intro e w3 he
   by_cases h256 : (Lib.join (padL ss N) sep).length ≤ 256
   ·rw [if_pos h256] at he
    obtain ⟨rfl, hr3, hf3⟩ := he
    have H3 := Lib.hid hr3
    have F3 := Lib.hid hf3
    clear hr3 hf3
    go_wp2_with fail
    go_ret
    exact ⟨rfl, H3.out, (frLz HL2.out).trans F3.out (fun _ _ h => h)⟩
   ·rw [if_neg h256] at he
    obtain ⟨rfl, hl3⟩ := he
    have H3 := Lib.hid hl3
    clear hl3
    go_wp2_with fail
    go_ret
    exact ⟨rfl, HL2.out.trans H3.out⟩
theorem rwPut_out (g : Nat) (i : Int) (S T : ByteArray) (w : World) (hi : i < 1 ∨ 100 < i) : Calls Tryz.prog 26 #[.pointer (some ⟨g, 0, none⟩), .int .i64 i, .string S, .string T] w (RecNo w 45) := by
 by_cases h1 : i < 1
 ·go_enter Tryz.func26, Tryz.ntmps26
  go_wp2_with fail
  go_ret
  exact ⟨rfl, Later.refl _⟩
 ·have h2 : (100 : Int) < i := by omega
  clear hi
  go_enter Tryz.func26, Tryz.ntmps26
  go_wp2_with fail
  go_ret
  exact ⟨rfl, Later.refl _⟩
theorem rwPut_long (g : Nat) (i : Int) (S T : ByteArray) (w : World) (h1 : 1 ≤ i) (h2 : i ≤ 100) (hS : 256 < S.size) : Calls Tryz.prog 26 #[.pointer (some ⟨g, 0, none⟩), .int .i64 i, .string S, .string T] w (RecNo w 43) := by
 have q1 : ¬ i < 1 := by omega
 have q2 : ¬ (100 : Int) < i := by omega
 have q3 : (256 : Int) < (S.size : Int) := by omega
 clear h1 h2
 go_enter Tryz.func26, Tryz.ntmps26
 go_wp2_with fail
 go_ret
 exact ⟨rfl, Later.refl _⟩
theorem rwSetNF_out (g : Nat) (i : Int) (T : ByteArray) (w : World) (hi : i < 0 ∨ 100 < i) : Calls Tryz.prog 28 #[.pointer (some ⟨g, 0, none⟩), .int .i64 i, .string T] w (RecNo w 45) := by
 by_cases h1 : i < 0
 ·go_enter Tryz.func28, Tryz.ntmps28
  go_wp2_with fail
  go_ret
  exact ⟨rfl, Later.refl _⟩
 ·have h2 : (100 : Int) < i := by omega
  clear hi
  go_enter Tryz.func28, Tryz.ntmps28
  go_wp2_with fail
  go_ret
  exact ⟨rfl, Later.refl _⟩
def getV (T : List UInt8) (ss : List (List UInt8)) (i : Int) : List UInt8 × Bool × Int :=
 if i < 0 ∨ 100 < i then ([], false, 45) else if i = 0 then (T, true, 0) else match ss[(i - 1).toNat]? with | none => ([], false, 0) | some x => (x, true, 0)
def getR (v : List UInt8 × Bool × Int) : Value := .tuple #[.string (bstr v.1), .bool v.2.1, .int .i64 v.2.2]
set_option maxHeartbeats 2000000 in
theorem recGet_gen (g : Nat) (i : Int) (T : List UInt8) (ss : List (List UInt8)) (w : World) (h : RcOk M w g T ss) :
  Calls Tryz.prog 29 #[.pointer (some ⟨g, 0, none⟩), .int .i64 i] w fun e w' => e = .returned (getR (getV T ss i)) ∧ Later w w' := by
 obtain ⟨A, n, c, hB, hr, _⟩ := h
 have c0 : w.cell? ⟨g, 0, none⟩ = some (.string (bstr T)) := hB.cell 0
 have c1 : w.cell? ⟨g, 1, none⟩ = some (.slice A n c) := hB.cell 1
 obtain ⟨V, hV⟩ : ∃ V, V = getV T ss i := ⟨_, rfl⟩
 rw [← hV]
 by_cases h1 : i < 0
 ·obtain rfl : V = ([], false, 45) := by rw [hV, getV, if_pos (.inl h1)]
  clear hB hr hV
  go_enter Tryz.func29, Tryz.ntmps29
  go_wp2_with fail
  exact bodyPost_ret (v := .tuple #[.string ⟨#[]⟩, .bool false, .int .i64 45]) (by simp [results, Tryz.results29, go_sem]) rfl ⟨rfl, Later.refl _⟩
 ·by_cases h2 : 100 < i
  ·obtain rfl : V = ([], false, 45) := by rw [hV, getV, if_pos (.inr h2)]
   clear hB hr hV
   go_enter Tryz.func29, Tryz.ntmps29
   go_wp2_with fail
   exact bodyPost_ret (v := .tuple #[.string ⟨#[]⟩, .bool false, .int .i64 45]) (by simp [results, Tryz.results29, go_sem]) rfl ⟨rfl, Later.refl _⟩
  ·by_cases h3 : i = 0
   ·obtain rfl : V = (T, true, 0) := by rw [hV, getV, if_neg (by omega), if_pos h3]
    subst h3
    clear hB hr hV
    go_enter Tryz.func29, Tryz.ntmps29
    go_wp2_with fail
    exact bodyPost_ret (v := .tuple #[.string (bstr T), .bool true, .int .i64 0]) (by simp [results, Tryz.results29, go_sem]) rfl ⟨rfl, Later.refl _⟩
   ·have q0 : (i == 0) = false := beq_eq_false_iff_ne.2 h3
    by_cases h4 : (n : Int) < i
    ·obtain rfl : V = ([], false, 0) := by rw [hV, getV, if_neg (by omega), if_neg h3, List.getElem?_eq_none (by have := hr.len; omega)]
     clear hB hr hV h3
     go_enter Tryz.func29, Tryz.ntmps29
     go_wp2_with fail
     exact bodyPost_ret (v := .tuple #[.string ⟨#[]⟩, .bool false, .int .i64 0]) (by simp [results, Tryz.results29, go_sem]) rfl ⟨rfl, Later.refl _⟩
    ·obtain ⟨j, rfl⟩ : ∃ j : Nat, i = (j : Int) + 1 := ⟨(i - 1).toNat, by omega⟩
     have hj : j < n := by omega
     obtain ⟨b0, off, y, rfl, _, hy, hc⟩ := hr.at_ hj
     obtain rfl : V = (y, true, 0) := by rw [hV, getV, if_neg (by omega), if_neg h3, show ((j : Int) + 1 - 1).toNat = j by omega, hy]
     have q4 : (j : Int) + 1 - 1 = (j : Int) := by omega
     have q5 : (j : Int) < (n : Int) := by omega
     clear hB hr hV h3 hy
     go_enter Tryz.func29, Tryz.ntmps29
     go_wp2_with fail
     exact bodyPost_ret (v := .tuple #[.string (bstr y), .bool true, .int .i64 0]) (by simp [results, Tryz.results29, go_sem]) rfl ⟨rfl, Later.refl _⟩
set_option maxHeartbeats 2000000 in
theorem rwGet_gen (g : Nat) (i : Int) (T : List UInt8) (ss : List (List UInt8)) (w : World) (h : RwOk M w g T ss) :
  Calls Tryz.prog 30 #[.pointer (some ⟨g, 0, none⟩), .int .i64 i] w fun e w' => e = .returned (getR (getV T ss i)) ∧ Later w w' := by
 obtain ⟨A, n, c, hB, hr, _⟩ := h
 have c0 : w.cell? ⟨g, 0, none⟩ = some (.string (bstr T)) := hB.cell 0
 have c1 : w.cell? ⟨g, 1, none⟩ = some (.slice A n c) := hB.cell 1
 obtain ⟨V, hV⟩ : ∃ V, V = getV T ss i := ⟨_, rfl⟩
 rw [← hV]
 by_cases h1 : i < 0
 ·obtain rfl : V = ([], false, 45) := by rw [hV, getV, if_pos (.inl h1)]
  clear hB hr hV
  go_enter Tryz.func30, Tryz.ntmps30
  go_wp2_with fail
  exact bodyPost_ret (v := .tuple #[.string ⟨#[]⟩, .bool false, .int .i64 45]) (by simp [results, Tryz.results30, go_sem]) rfl ⟨rfl, Later.refl _⟩
 ·by_cases h2 : 100 < i
  ·obtain rfl : V = ([], false, 45) := by rw [hV, getV, if_pos (.inr h2)]
   clear hB hr hV
   go_enter Tryz.func30, Tryz.ntmps30
   go_wp2_with fail
   exact bodyPost_ret (v := .tuple #[.string ⟨#[]⟩, .bool false, .int .i64 45]) (by simp [results, Tryz.results30, go_sem]) rfl ⟨rfl, Later.refl _⟩
  ·by_cases h3 : i = 0
   ·obtain rfl : V = (T, true, 0) := by rw [hV, getV, if_neg (by omega), if_pos h3]
    subst h3
    clear hB hr hV
    go_enter Tryz.func30, Tryz.ntmps30
    go_wp2_with fail
    exact bodyPost_ret (v := .tuple #[.string (bstr T), .bool true, .int .i64 0]) (by simp [results, Tryz.results30, go_sem]) rfl ⟨rfl, Later.refl _⟩
   ·have q0 : (i == 0) = false := beq_eq_false_iff_ne.2 h3
    by_cases h4 : (n : Int) < i
    ·obtain rfl : V = ([], false, 0) := by rw [hV, getV, if_neg (by omega), if_neg h3, List.getElem?_eq_none (by have := hr.len; omega)]
     clear hB hr hV h3
     go_enter Tryz.func30, Tryz.ntmps30
     go_wp2_with fail
     exact bodyPost_ret (v := .tuple #[.string ⟨#[]⟩, .bool false, .int .i64 0]) (by simp [results, Tryz.results30, go_sem]) rfl ⟨rfl, Later.refl _⟩
    ·obtain ⟨j, rfl⟩ : ∃ j : Nat, i = (j : Int) + 1 := ⟨(i - 1).toNat, by omega⟩
     have hj : j < n := by omega
     obtain ⟨b0, off, y, rfl, _, hy, hc⟩ := hr.at_ hj
     obtain rfl : V = (y, true, 0) := by rw [hV, getV, if_neg (by omega), if_neg h3, show ((j : Int) + 1 - 1).toNat = j by omega, hy]
     have q4 : (j : Int) + 1 - 1 = (j : Int) := by omega
     have q5 : (j : Int) < (n : Int) := by omega
     clear hB hr hV h3 hy
     go_enter Tryz.func30, Tryz.ntmps30
     go_wp2_with fail
     exact bodyPost_ret (v := .tuple #[.string (bstr y), .bool true, .int .i64 0]) (by simp [results, Tryz.results30, go_sem]) rfl ⟨rfl, Later.refl _⟩
theorem recPut_gen (g i : Nat) (T x : List UInt8) (ss : List (List UInt8)) (sep : List UInt8) (w : World) (h : RcOk M w g T ss) (hg : g < w.heap.size) (hM : M ≤ w.heap.size) (hi : i < 100) (hs : ss.length ≤ 100) (hx : x.length ≤ 256) (hss : ∀ y ∈ ss, y.length ≤ 1000000) (hsep : sep.length ≤ 1000000) :
  Calls Tryz.prog 25 #[.pointer (some ⟨g, 0, none⟩), .int .i64 ((i : Int) + 1), .string (bstr x), .string (bstr sep)] w fun e w' => if (Lib.join (putL ss i x) sep).length ≤ 256 then RecYes M w g (Lib.join (putL ss i x) sep) (putL ss i x) e w' else RecNo w 43 e w' := by
 by_cases h256 : (Lib.join (putL ss i x) sep).length ≤ 256
 ·simp only [if_pos h256]
  exact recPut_any g i T x ss sep w h hg hi hs hx h256 hM
 ·simp only [if_neg h256]
  exact recPut_over g i T x ss sep w h hg hi hs hx (by omega) hss hsep
end Go.Proofs.YtmkddhkpeiajhaaGreatDoor
namespace Go.Proofs.YtmkddhkpeiajhaaGreatDoor
open Go.RowKit
def SplitsTo (L F : List UInt8) (ss : List (List UInt8)) : Prop :=
  (∀ w, MaxL w → Calls Tryz.prog 19 #[.string (bstr L), .string (bstr F)] w fun e w' => ∃ v, e = .returned (.tuple #[v, .int .i64 0]) ∧ RetN w ss v w') ∧
  (∀ w, Calls Tryz.prog 46 #[.string (bstr L), .string (bstr F)] w fun e w' => ∃ v, e = .returned (.tuple #[v, .int .i64 0]) ∧ RetN w ss v w')
def SplitsNo (L F : List UInt8) : Prop :=
  (∀ w, Calls Tryz.prog 19 #[.string (bstr L), .string (bstr F)] w fun e w' => e = .returned (.tuple #[.slice none 0 0, .int .i64 47]) ∧ Later w w') ∧
  (∀ w, Calls Tryz.prog 46 #[.string (bstr L), .string (bstr F)] w fun e w' => e = .returned (.tuple #[.slice none 0 0, .int .i64 47]) ∧ Later w w')
def ParsedNo (w : World) (e : Ending) (w' : World) : Prop := ∃ (at_ er k a b c d : Int) (A : Option Addr) (n cp : Nat), (er != 0) = true ∧ e = .returned (.tuple #[.agg #[.int .i64 k, .int .u64 a, .int .u64 b, .int .u64 c, .int .u64 d, .slice A n cp], .int .i64 at_, .int .i64 er]) ∧ Later w w'
theorem words_le (l : List UInt8) : ∀ i, ∀ y ∈ (wIter l i).1, y.length ≤ l.length
  | 0, y, h => by cases h
  | i + 1, y, h => by
    have ih := words_le l i
    have hp : ∀ a b : Nat, ((l.drop a).take b).length ≤ l.length := fun a b => by rw [List.length_take, List.length_drop]; omega
    rw [wIter] at h
    unfold wStep at h
    split at h
    all_goals
      first
        | exact ih y h
        | (split at h <;> first | exact ih y h | (rcases List.mem_append.1 h with h | h; exact ih y h; rw [List.mem_singleton.1 h]; exact hp _ _) | (split at h <;> first | exact ih y h | (rcases List.mem_append.1 h with h | h; exact ih y h; rw [List.mem_singleton.1 h]; exact hp _ _)))
theorem byL_le (S : List UInt8) : ∀ (R : List (Nat × Nat)) (f : Nat), ∀ y ∈ byL S f R, y.length ≤ S.length
  | [], f, y, h => by
    rw [byL, List.mem_singleton] at h
    rw [h, List.length_drop]; omega
  | u :: r, f, y, h => by
    rw [byL] at h
    split at h
    · rcases List.mem_cons.1 h with h | h
      · rw [h, List.length_take, List.length_drop]; omega
      · exact byL_le S r _ y h
    · exact byL_le S r _ y h
theorem splits_nil (F : List UInt8) : SplitsTo [] F [] :=
  ⟨fun w _ => fsplit_plain _ _ (fun a v b => RetN a [] v b) w fun wx _ => (plain_nil (bstr F) wx).mono fun _ w' ⟨he, hl⟩ => ⟨_, he, RetZ.n ⟨none, 0, 0, rfl, OwnZ.nil, hl⟩⟩,
   fun w => (rsplit_nil (bstr F) w).mono fun _ w' ⟨he, hl⟩ => ⟨_, he, RetZ.n ⟨none, 0, 0, rfl, OwnZ.nil, by rw [hl]; exact Later.refl _⟩⟩⟩
theorem splits_words (L : List UInt8) (hL : L.length ≤ 1100) (hn : L ≠ []) : SplitsTo L [32] (wordsF L) :=
  ⟨fun w _ => (fsplit_wordz L w (by omega)).mono fun _ _ ⟨v, h1, h2⟩ => ⟨v, h1, h2.n⟩, fun w => (rsplit_wordz L w (by omega) hn).mono fun _ _ ⟨v, h1, h2⟩ => ⟨v, h1, h2.n⟩⟩
theorem splits_char (L : List UInt8) (hL : L.length ≤ 1100) (hn : L ≠ []) : SplitsTo L [] (L.map fun c => [c]) :=
  ⟨fun w _ => fsplit_plain _ _ (fun a v b => RetN a (L.map fun c => [c]) v b) w fun wx _ => (plain_charz L wx (by omega) hn).mono fun _ _ ⟨v, h1, h2⟩ => ⟨v, h1, h2.n⟩,
   fun w => (rsplit_charz L w (by omega) hn).mono fun _ _ ⟨v, h1, h2⟩ => ⟨v, h1, h2.n⟩⟩
theorem splits_at (c : UInt8) (L : List UInt8) (hL : L.length ≤ 1100) (hn : L ≠ []) (h32 : c ≠ 32) (h92 : c ≠ 92) : SplitsTo L [c] (piecesC c L) :=
  ⟨fun w hm => fsplit_plain _ _ (fun a v b => RetN a (piecesC c L) v b) w fun wx hl => plain_atn c L wx (hm.later hl) (by omega) hn h32 h92,
   fun w => (rsplit_at c L w (by omega) hn h32 h92).mono fun _ _ ⟨v, h1, h2⟩ => ⟨v, h1, h2.n⟩⟩
theorem splits_rx (r : Rx) (L F : List UInt8) (hL : L.length ≤ 1100) (hn : L ≠ []) (hF : IsRx F) (hTx : txtB F = true) (hFl : F.length ≤ 1000000) (hp : parseF F = (rxT r, 0, 0)) (hr : rightT (rxT r) = true) (hk : okR r) (hd : ∀ wx, Calls Tryz.prog 59 #[.string (bstr F)] wx (Parsed wx r)) : SplitsTo L F (byL L 0 (allM r L)) :=
  ⟨fun w _ => (fsplit_rx r L F w (by omega) hn hF hTx hFl hp hr hk).mono fun _ _ ⟨v, h1, h2⟩ => ⟨v, h1, h2.n⟩, fun w => (rsplit_rx r L F w (by omega) hn hF hk hd).mono fun _ _ ⟨v, h1, h2⟩ => ⟨v, h1, h2.n⟩⟩
theorem splits_err (L F : List UInt8) (hn : L ≠ []) (hF : IsRx F) (hTx : txtB F = true) (hFl : F.length ≤ 1000000) (hp : (parseF F).2.2 ≠ 0) (hd : ∀ wx, Calls Tryz.prog 59 #[.string (bstr F)] wx (ParsedNo wx)) : SplitsNo L F :=
  ⟨fun w => fsplit_err L F w hn hF hTx hFl hp, fun w => rsplit_err L F w hn hF hd⟩
def seps10 : List (List UInt8) := [[32], [58], [], [97], [91, 97, 98, 93], [98, 43], [92], [46], [120, 42], [40, 40]]
def rx4 : Rx := .set (w4 (mOf [97, 98]))
def rx5 : Rx := .plus (.set (w4 (mOf [98])))
def rx8 : Rx := .star (.set (w4 (mOf [120])))
structure DocParses : Prop where
  p4 : ∀ wx, Calls Tryz.prog 59 #[.string (bstr [91, 97, 98, 93])] wx (Parsed wx rx4)
  p5 : ∀ wx, Calls Tryz.prog 59 #[.string (bstr [98, 43])] wx (Parsed wx rx5)
  p6 : ∀ wx, Calls Tryz.prog 59 #[.string (bstr [92])] wx (ParsedNo wx)
  p8 : ∀ wx, Calls Tryz.prog 59 #[.string (bstr [120, 42])] wx (Parsed wx rx8)
  p9 : ∀ wx, Calls Tryz.prog 59 #[.string (bstr [40, 40])] wx (ParsedNo wx)
theorem pf4 : parseF [91, 97, 98, 93] = (rxT rx4, 0, 0) := by kernel_rfl
theorem pf5 : parseF [98, 43] = (rxT rx5, 0, 0) := by kernel_rfl
theorem pf6 : (parseF [92]).2.2 ≠ 0 := by decide +kernel
theorem pf8 : parseF [120, 42] = (rxT rx8, 0, 0) := by kernel_rfl
theorem pf9 : (parseF [40, 40]).2.2 ≠ 0 := by decide +kernel
theorem pr4 : rightT (rxT rx4) = true := by kernel_rfl
theorem pr5 : rightT (rxT rx5) = true := by kernel_rfl
theorem pr8 : rightT (rxT rx8) = true := by kernel_rfl
theorem ok4 : okR rx4 := ⟨by decide +kernel, by decide +kernel, by decide +kernel, by decide +kernel⟩
theorem ok5 : okR rx5 := ⟨by decide +kernel, by decide +kernel, by decide +kernel, by decide +kernel⟩
theorem ok8 : okR rx8 := ⟨by decide +kernel, by decide +kernel, by decide +kernel, by decide +kernel⟩
theorem split_both (D : DocParses) (L F : List UInt8) (hL : L.length ≤ 1100) (hF : F ∈ seps10) : (∃ ss, SplitsTo L F ss ∧ ∀ y ∈ ss, y.length ≤ L.length) ∨ SplitsNo L F := by
  by_cases hn : L = []
  · subst hn
    exact .inl ⟨[], splits_nil F, fun y hy => by cases hy⟩
  · have hpc : ∀ c, ∀ y ∈ piecesC c L, y.length ≤ L.length := fun c y hy => by
      obtain ⟨i, hi⟩ := List.getElem?_of_mem hy
      have h := piece_le c (piecesC c L) i y hi
      rw [pieces_join] at h
      omega
    have hby : ∀ r, ∀ y ∈ byL L 0 (allM r L), y.length ≤ L.length := fun r y hy => byL_le L _ 0 y hy
    have h : F = [32] ∨ F = [58] ∨ F = [] ∨ F = [97] ∨ F = [91, 97, 98, 93] ∨ F = [98, 43] ∨ F = [92] ∨ F = [46] ∨ F = [120, 42] ∨ F = [40, 40] := by simpa [seps10] using hF
    rcases h with rfl | rfl | rfl | rfl | rfl | rfl | rfl | rfl | rfl | rfl
    · exact .inl ⟨_, splits_words L hL hn, fun y hy => by have := words_le L _ y hy; omega⟩
    · exact .inl ⟨_, splits_at 58 L hL hn (by decide) (by decide), hpc 58⟩
    · exact .inl ⟨_, splits_char L hL hn, fun y hy => by obtain ⟨c, _, rfl⟩ := List.mem_map.1 hy; show 1 ≤ L.length; exact List.length_pos_iff.2 hn⟩
    · exact .inl ⟨_, splits_at 97 L hL hn (by decide) (by decide), hpc 97⟩
    · exact .inl ⟨_, splits_rx rx4 L _ hL hn ⟨by decide, by decide, .inl (by decide)⟩ (by decide +kernel) (by decide) pf4 pr4 ok4 D.p4, hby _⟩
    · exact .inl ⟨_, splits_rx rx5 L _ hL hn ⟨by decide, by decide, .inl (by decide)⟩ (by decide +kernel) (by decide) pf5 pr5 ok5 D.p5, hby _⟩
    · exact .inr (splits_err L _ hn ⟨by decide, by decide, .inr rfl⟩ (by decide +kernel) (by decide) pf6 D.p6)
    · exact .inl ⟨_, splits_at 46 L hL hn (by decide) (by decide), hpc 46⟩
    · exact .inl ⟨_, splits_rx rx8 L _ hL hn ⟨by decide, by decide, .inl (by decide)⟩ (by decide +kernel) (by decide) pf8 pr8 ok8 D.p8, hby _⟩
    · exact .inr (splits_err L _ hn ⟨by decide, by decide, .inl (by decide)⟩ (by decide +kernel) (by decide) pf9 D.p9)
end Go.Proofs.YtmkddhkpeiajhaaGreatDoor
namespace Go.Proofs.YtmkddhkpeiajhaaGreatDoor
open Go.RowKit
theorem tmod_bds {n m : Int} (hm : 0 < m) : -m < n.tmod m ∧ n.tmod m < m :=
 ⟨Int.lt_tmod_of_pos n hm, Int.tmod_lt_of_pos n hm⟩
theorem tmod_emod {n m : Int} (hm : 0 < m) : n % m = if n.tmod m < 0 then n.tmod m + m else n.tmod m := by
 have h := Int.mul_tdiv_add_tmod n m
 have b := tmod_bds (n := n) hm
 have e : n % m = n.tmod m % m := by
  conv => lhs; rw [← h]
  rw [Int.add_comm, Int.add_mul_emod_self_left]
 rw [e]
 split
 ·rw [← Int.add_emod_right, Int.emod_eq_of_lt (by omega) (by omega)]
 ·rw [Int.emod_eq_of_lt (by omega) (by omega)]
theorem ret_i64 {a b : Int} (h : a = b) : Ending.returned (.int .i64 a) = .returned (.int .i64 b) := by rw [h]
set_option maxRecDepth 100000 in
set_option maxHeartbeats 400000 in
theorem pick_at (n m : Int) (k : Int) (w : World) (hm : 0 < m) (hm2 : m ≤ 9223372036854775807) (hk : Hid (n % m = k)) :
  Calls Tryz.prog 16 #[.int .i64 n, .int .i64 m] w fun e w' => e = .returned (.int .i64 k) ∧ w = w' := by
 have b1 := (tmod_bds (n := n) hm).1
 have b2 := (tmod_bds (n := n) hm).2
 have hne : (m == 0) = false := by rw [beq_eq_false_iff_ne]; omega
 go_enter Tryz.func16, Tryz.ntmps16
 go_wp2
 ·have hlt : n.tmod m < 0 := by assumption
  go_ret
  exact ⟨ret_i64 (by rw [← hk.out, tmod_emod hm, if_pos hlt]), rfl⟩
 ·have hlt : 0 ≤ n.tmod m := by assumption
  go_ret
  exact ⟨ret_i64 (by rw [← hk.out, tmod_emod hm, if_neg (by omega)]), rfl⟩
theorem pick_nat (n m : Int) (hm : 0 < m) : ∃ k : Nat, Hid (n % m = (k : Int)) ∧ (k : Int) < m := by
 have h0 := Int.emod_nonneg n (b := m) (by omega)
 have h1 := Int.emod_lt_of_pos n hm
 exact ⟨(n % m).toNat, by show _ = _; omega, by omega⟩
end Go.Proofs.YtmkddhkpeiajhaaGreatDoor
