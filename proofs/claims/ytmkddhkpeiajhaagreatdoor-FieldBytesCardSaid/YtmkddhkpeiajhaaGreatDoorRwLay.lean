import Derived.Test.YtmkddhkpeiajhaaGreatDoorBackNm
namespace Go.Proofs.YtmkddhkpeiajhaaGreatDoor
open Go.RowKit
set_option maxRecDepth 100000 in
set_option maxHeartbeats 4000000 in
theorem rwLay_any (g : Nat) (T : List UInt8) (ss : List (List UInt8)) (A : Option Addr) (c : Nat) (w : World) (hblk : Blk w g 29 #[.string (bstr T), .slice A ss.length c]) (hrd : RdZ w w.heap.size A ss.length ss)
  (hT : T.length ≤ 256) (hn : ss.length ≤ 100) (hss : ∀ y ∈ ss, y.length ≤ 1000000) :
  Calls Tryz.prog 15 #[.pointer (some ⟨g, 0, none⟩)] w (Made w (layR T ss)) := by
 have HR := Lib.hid hrd
 have HSS := Lib.hid hss
 have hnT := nm_len T.length
 have sT : (bstr T).size = T.length := rfl
 obtain ⟨n, hnn⟩ : ∃ n, n = ss.length := ⟨_, rfl⟩
 have HN := Lib.hid hnn
 have hn100 : n ≤ 100 := by omega
 have hnNn := nm_len n
 rw [← hnn] at hblk
 have hgl := hblk.lt
 have HB := Lib.hid hblk
 have K0 := Lib.hid fun W (hl : Later w W) => (hl.cell (p := ⟨g, 0, none⟩) hgl).trans (hblk.cell 0)
 have K1 := Lib.hid fun W (hl : Later w W) => (hl.cell (p := ⟨g, 1, none⟩) hgl).trans (hblk.cell 1)
 simp only [List.getElem?_toArray, List.getElem?_cons_zero, List.getElem?_cons_succ] at K0 K1
 have HWU : Hid (IntKind.u64.wrap (n : Int) = (n : Int)) := by show _ = _; rw [IntKind.wrap_u64]; omega
 clear hnn hblk hrd hss
 go_enter Tryz.func15, Tryz.ntmps15
 go_wp2_with fail
 refine wp_region_early (S := fun w' => Later w w') 13 (by kernel_rfl) ((Later.refl w).drew) (fun hHeld => ?_)
 refine wpAnyE_take (i := 0) (oi := ⟨some 5, Op.move (Operand.tmp 0), _, _, _, none⟩) (v := ?_) 0 [] rfl (by kernel_rfl) (by kernel_rfl) (by kernel_rfl) (by kernel_rfl) (by kernel_rfl) rfl (fun _ _ _ h => h) (Or.inl ⟨by rfl, ?_⟩) hHeld ?_
 rotate_left
 ·intro w hSw
  try dsimp only at hSw
  go_simp
  try with_reducible rfl
 try simp only [Act.put, List.setIfInBounds_toArray, List.set_cons_zero, List.set_cons_succ]
 refine wpAnyE_take (i := 1) (oi := ⟨some 6, Op.nilCheck (Operand.tmp 5), _, _, _, none⟩) (v := ?_) 1 [] rfl (by kernel_rfl) (by kernel_rfl) (by kernel_rfl) (by kernel_rfl) (by kernel_rfl) rfl (fun _ _ _ h => h) (Or.inl ⟨by rfl, ?_⟩) hHeld ?_
 rotate_left
 ·intro w hSw
  try dsimp only at hSw
  go_simp
  try with_reducible rfl
 try simp only [Act.put, List.setIfInBounds_toArray, List.set_cons_zero, List.set_cons_succ]
 refine wpAnyE_take (i := 2) (oi := ⟨some 7, Op.fieldAddr 29 (Operand.tmp 6) 0, _, _, _, none⟩) (v := ?_) 2 [] rfl (by kernel_rfl) (by kernel_rfl) (by kernel_rfl) (by kernel_rfl) (by kernel_rfl) rfl (fun _ _ _ h => h) (Or.inl ⟨by rfl, ?_⟩) hHeld ?_
 rotate_left
 ·intro w hSw
  try dsimp only at hSw
  go_simp
  try with_reducible rfl
 try simp only [Act.put, List.setIfInBounds_toArray, List.set_cons_zero, List.set_cons_succ]
 refine wpAnyE_take (i := 3) (oi := ⟨some 8, Op.load 9 (Operand.tmp 7), _, _, _, none⟩) (v := ?_) 3 [] rfl (by kernel_rfl) (by kernel_rfl) (by kernel_rfl) (by kernel_rfl) (by kernel_rfl) rfl (fun _ _ _ h => h) (Or.inl ⟨by rfl, ?_⟩) hHeld ?_
 rotate_left
 ·intro w hSw
  try dsimp only at hSw
  have hk := K0.out _ hSw; go_simp
  try with_reducible rfl
 try simp only [Act.put, List.setIfInBounds_toArray, List.set_cons_zero, List.set_cons_succ]
 refine wpAnyE_take (i := 5) (oi := ⟨some 10, Op.move (Operand.tmp 0), _, _, _, none⟩) (v := ?_) 5 [] rfl (by kernel_rfl) (by kernel_rfl) (by kernel_rfl) (by kernel_rfl) (by kernel_rfl) rfl (fun _ _ _ h => h) (Or.inl ⟨by rfl, ?_⟩) hHeld ?_
 rotate_left
 ·intro w hSw
  try dsimp only at hSw
  go_simp
  try with_reducible rfl
 try simp only [Act.put, List.setIfInBounds_toArray, List.set_cons_zero, List.set_cons_succ]
 refine wpAnyE_take (i := 6) (oi := ⟨some 11, Op.nilCheck (Operand.tmp 10), _, _, _, none⟩) (v := ?_) 6 [] rfl (by kernel_rfl) (by kernel_rfl) (by kernel_rfl) (by kernel_rfl) (by kernel_rfl) rfl (fun _ _ _ h => h) (Or.inl ⟨by rfl, ?_⟩) hHeld ?_
 rotate_left
 ·intro w hSw
  try dsimp only at hSw
  go_simp
  try with_reducible rfl
 try simp only [Act.put, List.setIfInBounds_toArray, List.set_cons_zero, List.set_cons_succ]
 refine wpAnyE_take (i := 7) (oi := ⟨some 12, Op.fieldAddr 29 (Operand.tmp 11) 1, _, _, _, none⟩) (v := ?_) 7 [] rfl (by kernel_rfl) (by kernel_rfl) (by kernel_rfl) (by kernel_rfl) (by kernel_rfl) rfl (fun _ _ _ h => h) (Or.inl ⟨by rfl, ?_⟩) hHeld ?_
 rotate_left
 ·intro w hSw
  try dsimp only at hSw
  go_simp
  try with_reducible rfl
 try simp only [Act.put, List.setIfInBounds_toArray, List.set_cons_zero, List.set_cons_succ]
 refine wpAnyE_take (i := 8) (oi := ⟨some 13, Op.load 27 (Operand.tmp 12), _, _, _, none⟩) (v := ?_) 8 [] rfl (by kernel_rfl) (by kernel_rfl) (by kernel_rfl) (by kernel_rfl) (by kernel_rfl) rfl (fun _ _ _ h => h) (Or.inl ⟨by rfl, ?_⟩) hHeld ?_
 rotate_left
 ·intro w hSw
  try dsimp only at hSw
  have hk := K1.out _ hSw; go_simp
  try with_reducible rfl
 try simp only [Act.put, List.setIfInBounds_toArray, List.set_cons_zero, List.set_cons_succ]
 refine wpAnyE_take (i := 9) (oi := ⟨some 14, Op.call { callee := Callee.builtin Builtin.len, args := #[Operand.tmp 13], argTypes := #[27] }, _, _, _, none⟩) (v := ?_) 9 [] rfl (by kernel_rfl) (by kernel_rfl) (by kernel_rfl) (by kernel_rfl) (by kernel_rfl) rfl (fun _ _ _ h => h) (Or.inl ⟨by rfl, ?_⟩) hHeld ?_
 rotate_left
 ·intro w hSw
  try dsimp only at hSw
  go_simp
  try with_reducible rfl
 try simp only [Act.put, List.setIfInBounds_toArray, List.set_cons_zero, List.set_cons_succ]
 refine wpAnyE_take (i := 10) (oi := ⟨some 15, Op.convert 3 70 (Operand.tmp 14), _, _, _, none⟩) (v := (.int .u64 (n : Int))) 10 [] rfl (by kernel_rfl) (by kernel_rfl) (by kernel_rfl) (by kernel_rfl) (by kernel_rfl) rfl (fun _ _ _ h => h) (Or.inl ⟨by rfl, ?_⟩) hHeld ?_
 ·intro w hSw
  try dsimp only at hSw
  first | (go_simp; done) | (go_simp; rw [HWU.out]) | (go_simp; exact HWU.out)
  try with_reducible rfl
 try simp only [Act.put, List.setIfInBounds_toArray, List.set_cons_zero, List.set_cons_succ]
 refine wpAnyE_one (i := 4) (o := ⟨some 9, Op.call { callee := Callee.value (Operand.func 38), args := #[Operand.tmp 8], argTypes := #[9] }, _, _, _, none⟩) (by kernel_rfl) rfl (fun K hK => ?_)
 go_simp
 go_at_call 38
 refine (refText_any (bstr T) (by rw [sT]; omega) _).mono ?_
 rintro e w4 ⟨A4, n4, c4, rfl, hO4, lt4⟩
 have lt4 : Later w w4 := (Later.refl w).drew.trans lt4
 have hn4 := hO4.len
 have hO4b : OwnB w4 w.heap.size A4 n4 c4 (nm (bstr T).size ++ (bstr T).data.toList) := hO4.base_le (B := w.heap.size) (fun _ _ h => h)
 refine hK.out _ _ (fun _ => lt4) (fun hHeld => ?_)
 clear hK K
 replace hHeld := hHeld (by decide)
 try simp only [Act.put, List.setIfInBounds_toArray, List.set_cons_zero, List.set_cons_succ]
 refine wpAnyE_one (i := 11) (o := ⟨some 16, Op.call { callee := Callee.value (Operand.func 39), args := #[Operand.tmp 15], argTypes := #[70] }, _, _, _, none⟩) (by kernel_rfl) rfl (fun K hK => ?_)
 go_simp
 go_at_call 39
 refine (refNum_any n (by omega) _).mono ?_
 rintro e w5 ⟨A5, n5, c5, rfl, hO5, lt5⟩
 have lt5 : Later w4 w5 := lt5
 have lt05 : Later w w5 := lt4.trans lt5
 have hn5 := hO5.len
 refine hK.out _ _ (fun _ => lt05) (fun hHeld => ?_)
 clear hK K
 replace hHeld := hHeld (by decide)
 try simp only [Act.put, List.setIfInBounds_toArray, List.set_cons_zero, List.set_cons_succ]
 refine wpAnyE_one (i := 12) (o := ⟨some 17, Op.call { callee := Callee.builtin Builtin.append, args := #[Operand.tmp 9, Operand.tmp 16], argTypes := #[31, 31] }, _, _, _, none⟩) (by kernel_rfl) rfl (fun K hK => ?_)
 refine step_append_b _ rfl (.tmp 9) (.tmp 16) rfl w.heap.size A4 n4 c4 (nm (bstr T).size ++ (bstr T).data.toList) rfl (hO4b.later lt5) w5.heap.size A5 n5 c5 (nm n) rfl hO5.rd (by rw [List.length_append] at hn4; have h1 : (bstr T).data.toList.length = T.length := rfl; rw [h1, sT] at hn4; omega) lt05.size ?_
 intro A6 n6 c6 w6 hO6 hg6 _
 have lt6 : Later w w6 := Later.grown lt05 hg6 (fun k hk => (hO4b.lt k hk).1)
 refine hK.out _ _ (fun _ => lt6) (fun hHeld => ?_)
 clear hK K
 replace hHeld := hHeld (by decide)
 try simp only [Act.put, List.setIfInBounds_toArray, List.set_cons_zero, List.set_cons_succ]
 refine wpAnyE_one (i := 13) (o := ⟨some 3, Op.assign (Operand.tmp 17), _, _, _, none⟩) (by kernel_rfl) rfl (fun K hK => ?_)
 go_simp
 refine hK.out _ _ (fun h => absurd rfl h) (fun hHeld => ?_)
 clear hK K
 try simp only [Act.put, List.setIfInBounds_toArray, List.set_cons_zero, List.set_cons_succ]
 refine wpAnyE_done (by kernel_rfl) ?_ _
 have HL6 := Lib.hid lt6
 have HO6 := Lib.hid hO6
 clear hO4 hO4b lt4 lt5 lt05 hO5 hg6 hn4 hn5 hO6 lt6 hHeld
 obtain ⟨L0, hL0⟩ : ∃ L0, Hid (L0 = nm (bstr T).size ++ (bstr T).data.toList ++ nm n) := ⟨_, rfl⟩
 rw [← hL0.out] at HO6
 have hL0l : L0.length ≤ 276 := by
  rw [hL0.out, List.length_append, List.length_append]
  show (nm T.length).length + T.length + _ ≤ _
  omega
 go_wp2_with fail
 go_loopw [3, 4] (fun v s4 wr => ∃ (i : Nat) (A' : Option Addr) (n' c' : Nat), i ≤ n ∧ v = .slice A' n' c' ∧ s4 = .int .i64 (i : Int) ∧ Hid (Later w wr) ∧ Hid (OwnB wr w.heap.size A' n' c' (L0 ++ layS (ss.take i)))) (fun _ s4 _ => n - (intOf s4).toNat)
 case atStart => exact ⟨0, A6, n6, c6, Nat.zero_le _, rfl, rfl, HL6, by show OwnB _ _ _ _ _ _; rw [List.take_zero, show layS [] = [] from rfl, List.append_nil]; exact HO6.out⟩
 case round =>
  clear HL6 HO6
  obtain ⟨i, A', n', c', hi, rfl, rfl, HL, HO⟩ := hrel
  have c1 := K1.out wr HL.out
  by_cases hlt : i < n
  ·have hlti : (i : Int) < (n : Int) := by omega
   obtain ⟨b0, off, x, rfl, _, hx, hcl⟩ := (HR.out.latz HL.out).at_ (k := i) (by rw [← HN.out]; exact hlt)
   have hxl := HSS.out x (List.mem_of_getElem? hx)
   have hst := Lib.hid (layS_step ss i x hx)
   have hsl := layS_len (ss.take i) (fun y hy => HSS.out y (List.mem_of_mem_take hy))
   have htk : (ss.take i).length ≤ 100 := by rw [List.length_take]; omega
   have hnl : n' ≤ 100001276 := by
    have h := HO.out.len
    have h3 : (ss.take i).length * 1000010 ≤ 100 * 1000010 := Nat.mul_le_mul_right _ htk
    rw [List.length_append] at h
    omega
   have sx : (bstr x).size = x.length := rfl
   have HT := Lib.hid (refText_any (bstr x) (by rw [sx]; omega) wr)
   clear hx hsl htk
   go_wp2_with fail
   refine HT.out.mono ?_
   rintro e w7 ⟨A7, n7, c7, rfl, hO7, lt7⟩
   have lt7 : Later wr w7 := lt7
   have hO' := HO.out.later lt7
   have hl7 : Later w w7 := HL.out.trans lt7
   have hn7 : n7 ≤ 1000010 := by
    have h := hO7.len
    rw [List.length_append, sx] at h
    have h1 : (bstr x).data.toList.length = x.length := rfl
    have h2 := nm_len x.length
    omega
   clear HT c1 hcl
   go_wp2_with (at_builtin; refine wpList_append_b _ rfl (.tmp 27) (.tmp 35) rfl w.heap.size A' n' c' _ rfl hO' w7.heap.size A7 n7 c7 _ rfl hO7.rd (by omega) hl7.size ?_; intro A8 n8 c8 w8 hO8 hg8 _)
   have hl8 : Later w w8 := Later.grown hl7 hg8 (fun k hk => (hO'.lt k hk).1)
   have hO9 : Hid (OwnB w8 w.heap.size A8 n8 c8 (L0 ++ layS (ss.take (i + 1)))) := by
    show OwnB _ _ _ _ _ _
    rw [hst.out]
    have h := hO8
    rw [List.append_assoc] at h
    exact h
   clear hO8 hO7 hO' hg8 lt7 hl7
   have HL8 := Lib.hid hl8
   clear hl8
   go_wp2_with fail
   go_roundw
   case rel => exact ⟨i + 1, A8, n8, c8, by omega, rfl, by go_num, HL8, hO9⟩
   case measure => first | (simp [intOf]; done) | (simp [intOf]; omega)
  ·obtain rfl : n = i := by omega
   have HE : Hid (OwnB wr w.heap.size A' n' c' (layR T ss)) := by
    show OwnB _ _ _ _ _ _
    have h := HO.out
    rw [HN.out, List.take_length, hL0.out, HN.out] at h
    unfold layR
    exact h
   clear HO
   go_wp2_with fail
   go_ret
   exact ⟨A', n', c', rfl, HE.out, HL.out⟩
end Go.Proofs.YtmkddhkpeiajhaaGreatDoor
