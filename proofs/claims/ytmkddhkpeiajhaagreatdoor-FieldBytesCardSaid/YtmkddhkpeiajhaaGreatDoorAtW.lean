import Derived.Test.YtmkddhkpeiajhaaGreatDoorLeaf
import Derived.Test.YtmkddhkpeiajhaaGreatDoorStarW
import Derived.Test.YtmkddhkpeiajhaaGreatDoorBrk3
import Derived.Test.YtmkddhkpeiajhaaGreatDoorBytes
import Derived.Deep.QuietTactic
import Derived.BigQuiet
namespace Go.Proofs.YtmkddhkpeiajhaaGreatDoor
open Go.RowKit
set_option maxRecDepth 100000 in
set_option maxHeartbeats 4000000 in
theorem at_walk (S : ByteArray) (hS : S.size ≤ 1000000) (r : Rx) (hst : StepAt S r) (lo : Nat → Prop) (k a b c d : Int) (A : Option Addr) (n cp : Nat) (f : Nat) (hf : f ≤ S.size) (w : World) (hC : ReC w lo (rxT r) ⟨k, a, b, c, d, A, n, cp⟩) :
  Calls Tryz.prog 93 #[.agg #[.int .i64 k, .int .u64 a, .int .u64 b, .int .u64 c, .int .u64 d, .slice A n cp], .string S, .int .i64 (f : Int)] w fun e w' => (∃ C, Sees S.data.toList r ((List.replicate (S.size + 1) false).set f true) C ∧ e = .returned (.tuple #[.int .i64 ((downF C (S.size + 1)).1 : Int), .bool (downF C (S.size + 1)).2])) ∧ Later w w' := by
 obtain ⟨Z, hZ, hmk⟩ := made_bools (S.size + 1) (by omega)
 have hmk : ∀ (w : World), (Instr.makeSlice 172 (.int .i64 ((S.size : Int) + 1)) (.int .i64 ((S.size : Int) + 1))).run Tryz.prog w = .ok (.slice (some ⟨w.heap.size, 0, none⟩) (S.size + 1) (S.size + 1)) (w.alloc (.cells Z 4)) := hmk
 obtain ⟨W0, hW0⟩ : ∃ W0, W0 = w.alloc (.cells #[.int .i64 k, .int .u64 a, .int .u64 b, .int .u64 c, .int .u64 d, .slice A n cp] 98) := ⟨_, rfl⟩
 have B0 : Blk W0 w.heap.size 98 #[.int .i64 k, .int .u64 a, .int .u64 b, .int .u64 c, .int .u64 d, .slice A n cp] := by rw [hW0]; exact Blk.new w _ _
 have hl0 : Later w W0 := by rw [hW0]; exact (Later.refl w).alloc _
 have hsz : W0.heap.size = w.heap.size + 1 := by rw [hW0]; simp
 have hO := hZ W0 w.heap.size hl0.size
 have hO2 := own_seto hO true (k := f) (by omega)
 rw [hsz] at hO hO2
 obtain ⟨W1, hW1⟩ : ∃ W1, W1 = W0.alloc (.cells (Z.setIfInBounds f (.bool true)) 4) := ⟨_, rfl⟩
 have hsc : (W0.alloc (.cells Z 4)).setCell ⟨w.heap.size + 1, f, none⟩ (.bool true) = W1 := by rw [hW1]; exact World.setCell_alloc_at Z _ _ _ _ hsz.symm
 rw [hsc] at hO2
 have hl1 : Later w W1 := by rw [← hsc]; exact Later.setCell (hl0.alloc _) (Nat.le_succ _) _
 have B1 : Blk W1 w.heap.size 98 #[.int .i64 k, .int .u64 a, .int .u64 b, .int .u64 c, .int .u64 d, .slice A n cp] := by rw [← hsc]; exact (B0.alloc _).far (p := ⟨w.heap.size + 1, f, none⟩) (by show w.heap.size ≠ w.heap.size + 1; omega) _
 obtain ⟨v0, c0⟩ : ∃ v, (W0.alloc (.cells Z 4)).cell? ⟨w.heap.size + 1, f, none⟩ = some v := by
  obtain ⟨b, o, hA, _, hc⟩ := hO.rd.at_ (k := f) (List.getElem?_eq_getElem (by rw [hO.1]; omega))
  injection hA with hA
  injection hA with hA1 hA2
  subst hA1 hA2
  rw [Nat.zero_add] at hc
  exact ⟨_, hc⟩
 have cz : Z[f]? = some v0 := by rw [← World.cell?_alloc_at (w := W0) Z 4 (w.heap.size + 1) f hsz.symm]; exact c0
 have f0 : (W0.alloc (.cells Z 4)).frozen? ⟨w.heap.size + 1, f, none⟩ = false := by
  obtain ⟨_, _, cs, hB⟩ := own_row_blk hO.2 (k := w.heap.size + 1) rfl
  exact hB.frozen f
 have HST : Hid (Calls Tryz.prog 106 #[.agg #[.int .i64 k, .int .u64 a, .int .u64 b, .int .u64 c, .int .u64 d, .slice A n cp], .string S, .slice (some ⟨w.heap.size + 1, 0, none⟩) (S.size + 1) (S.size + 1)] W1 (Stepped S.data.toList r ((List.replicate (S.size + 1) false).set f true) W1)) := hst lo _ _ _ _ _ _ _ _ _ _ _ _ W1 (hC.later hl1) hO2.rd rfl
 obtain ⟨z0, z1, z2, z3, z4, z5⟩ : W1.cell? ⟨w.heap.size, 0, none⟩ = some (.int .i64 k) ∧ W1.cell? ⟨w.heap.size, 1, none⟩ = some (.int .u64 a) ∧ W1.cell? ⟨w.heap.size, 2, none⟩ = some (.int .u64 b) ∧ W1.cell? ⟨w.heap.size, 3, none⟩ = some (.int .u64 c) ∧ W1.cell? ⟨w.heap.size, 4, none⟩ = some (.int .u64 d) ∧ W1.cell? ⟨w.heap.size, 5, none⟩ = some (.slice A n cp) := ⟨B1.cell 0, B1.cell 1, B1.cell 2, B1.cell 3, B1.cell 4, B1.cell 5⟩
 have HL := Lib.hid hl1
 have hfi : (f : Int) ≤ (S.size : Int) := by omega
 have hSi : (S.size : Int) ≤ 1000000 := by omega
 have hf0 : ¬ (f : Int) < 0 := by omega
 have hfg : ¬ (f : Int) > (S.size : Int) := by omega
 clear hZ hO hO2 hl0 hl1 B0 B1 hst hC hsc
 go_enter Tryz.func93, Tryz.ntmps93
 go_upto_region 5 with fail
 rw [← hW0, ← hW1]
 clear hW0 hW1 hmk c0 f0 hsz cz
 go_wp2_with fail
 refine HST.out.mono ?_
 rintro e w3 ⟨C, hsC, A3, n3, c3, rfl, ho3, hl3⟩
 have hn3 : n3 = S.size + 1 := by rw [← ho3.1, hsC.1]; simp
 subst hn3
 have hcl : C.length = S.size + 1 := ho3.1
 have hrd := ho3.rd
 have HSC := Lib.hid hsC
 have HL3 : Hid (Later w w3) := HL.out.trans hl3
 clear hsC ho3 hl3 HST
 go_wp2_with fail
 go_loopw [9] (fun s9 wr => ∃ j : Nat, j ≤ S.size + 1 ∧ s9 = .int .i64 ((j : Int) - 1) ∧ downF C (S.size + 1) = downF C j ∧ wr = w3) (fun s9 _ => (intOf s9 + 1).toNat)
 case atStart => exact ⟨S.size + 1, Nat.le_refl _, by congr 1; omega, rfl, rfl⟩
 case round =>
  obtain ⟨j, hj, rfl, hd, rfl⟩ := hrel
  cases j with
  | zero =>
   go_wp2_with fail
   go_ret2
   exact ⟨⟨C, HSC.out, by rw [hd]; rfl⟩, HL3.out⟩
  | succ j =>
   have hji : ((j + 1 : Nat) : Int) - 1 = (j : Int) := by omega
   rw [hji]
   obtain ⟨x, hx⟩ : ∃ x, C[j]? = some x := ⟨_, List.getElem?_eq_getElem (by rw [hcl]; omega)⟩
   obtain ⟨b1, o1, rfl, hb1, e1⟩ := hrd.at_ hx
   have hjl : (j : Int) < (S.size : Int) + 1 := by omega
   have HD := Lib.hid hd
   have HX := Lib.hid hx
   clear hd hx hrd hji
   cases x with
   | true =>
    go_wp2_with fail
    go_ret2
    exact ⟨⟨C, HSC.out, by rw [HD.out, downF_on HX.out]; rfl⟩, HL3.out⟩
   | false =>
    go_wp2_with fail
    go_roundw
    case rel => exact ⟨j, by omega, rfl, by rw [HD.out, downF_off HX.out], trivial⟩
    case measure => simp [intOf]
end Go.Proofs.YtmkddhkpeiajhaaGreatDoor
namespace Go.Proofs.YtmkddhkpeiajhaaGreatDoor
open Go.RowKit
def spanB (l : List UInt8) (p : Nat) : Bool := match endF l p with
 | none => true
 | some (a, a1) => if l[a1]? = some 45 then (match endF l (a1 + 1) with
  | none => false
  | some (b, _) => decide (a ≤ b)) else true
def txtB (l : List UInt8) : Bool := l.all (fun c => c.toNat != 123 && c.toNat != 94 && c.toNat != 58) && l.dropLast.all (fun c => c.toNat != 92) && (List.range l.length).all (spanB l)
theorem Txt.of (l : List UInt8) (h : txtB l = true) : Txt (bstr l) := by
 unfold txtB at h
 simp only [Bool.and_eq_true] at h
 obtain ⟨⟨h1, h2⟩, h3⟩ := h
 have hm : ∀ (i : Nat) (x : UInt8), (bstr l).data.toList[i]? = some x → x.toNat ≠ 123 ∧ x.toNat ≠ 94 ∧ x.toNat ≠ 58 := fun i x hx => by
  have h := List.all_eq_true.1 h1 x (List.mem_of_getElem? hx)
  simp only [Bool.and_eq_true, bne_iff_ne] at h
  exact ⟨h.1.1, h.1.2, h.2⟩
 refine ⟨fun i x hx => (hm i x hx).1, fun i x hx => (hm i x hx).2.1, fun i => ?_, fun i x hx hc => ?_, fun p a a1 he h45 => ?_⟩
 ·unfold opensF
  cases h5 : (bstr l).data.toList[i + 1]? with
  | none => simp
  | some y =>
   have h6 := (hm _ y h5).2.2
   have h7 : (some y == some (58 : UInt8)) = false := by
    rw [beq_eq_false_iff_ne]
    intro e
    injection e with e
    exact h6 (by rw [e]; rfl)
   rw [h7, Bool.and_false]
 ·have hx : l[i]? = some x := hx
  show l[i + 1]? = none
  rcases Nat.lt_or_ge (i + 1) l.length with h | h
  ·exfalso
   have h4 : x ∈ l.dropLast := by
    refine List.mem_of_getElem? (i := i) ?_
    rw [List.getElem?_dropLast, if_pos (by omega)]
    exact hx
   have h5 := List.all_eq_true.1 h2 x h4
   rw [hc] at h5
   exact absurd h5 (by decide)
  ·exact List.getElem?_eq_none h
 ·have he : endF l p = some (a, a1) := he
  have h45 : l[a1]? = some 45 := h45
  have hb := endF_bd l p a a1 he
  have h4 := List.all_eq_true.1 h3 p (List.mem_range.2 (by omega))
  unfold spanB at h4
  rw [he] at h4
  simp only [h45, if_true] at h4
  show ∃ b bz, endF l (a1 + 1) = some (b, bz) ∧ a ≤ b
  cases h6 : endF l (a1 + 1) with
  | none => rw [h6] at h4; simp at h4
  | some r =>
   obtain ⟨b, bz⟩ := r
   rw [h6] at h4
   exact ⟨b, bz, rfl, of_decide_eq_true h4⟩
end Go.Proofs.YtmkddhkpeiajhaaGreatDoor
namespace Go.Proofs.YtmkddhkpeiajhaaGreatDoor
open Go.RowKit
theorem slice_lh (A : Option Addr) (len cap l h : Nat) (hlh : l ≤ h) (hh : h ≤ len) (hc : len ≤ cap) :
  ∃ A', (∀ (x y : Int) (W : World), x = (l : Int) → y = (h : Int) → (Instr.slice 31 (.slice A len cap) (some (.int .i64 x)) (some (.int .i64 y)) none).run Tryz.prog W = .ok (.slice A' (h - l) (cap - l)) W) ∧
   (∀ (w : World) (B : Nat) (ls : List UInt8), RdB w B A len ls → RdB w B A' (h - l) ((ls.drop l).take (h - l))) := by
 refine ⟨if cap = l then A else A.map (·.add l), fun x y W hx hy => ?_, fun w B ls hr => ?_⟩
 ·subst hx; subst hy
  have he : Tryz.prog.elem 31 = 5 := by kernel_rfl
  have hz : (Go.sizeOf 5).run Tryz.prog W = .ok 1 W := by kernel_rfl
  rw [run_slice_lh W 31 _ _ _ (by rw [he]; exact Tryz.underlying31) .i64 .i64 _ _ (by omega) (by omega) (by omega), he, hz]
  simp [Result.andThen, sliced]
 ·exact (hr.from (k := l) (cap := cap) (by omega) hc).upto (by omega)
theorem own_ne {w : World} {b b' : Nat} {e e' : TypeId} {s s' n n' : Nat} {v v' : Value} {xs xs' : List Value} (h : w.ownsRow b e s v n xs) (h' : w.ownsRow b' e' s' v' n' xs') (hne : e ≠ e') : v.ownBlock = none ∨ v.ownBlock ≠ v'.ownBlock := by
 rcases h'.2 with ⟨rfl, _⟩ | ⟨g, cap, cur, rfl, _, hh, _⟩
 ·by_cases hv : v.ownBlock = none
  ·exact .inl hv
  ·exact .inr (by simpa [Value.ownBlock] using hv)
 ·exact .inr (fun e1 => own_blk_ne h (show Blk w g e' cur from hh) hne (by rw [e1]; rfl))
def Made (w : World) (l : List UInt8) (e : Ending) (w' : World) : Prop := ∃ A n c, e = .returned (.slice A n c) ∧ OwnB w' w.heap.size A n c l ∧ Below w.heap.size w w'
end Go.Proofs.YtmkddhkpeiajhaaGreatDoor
namespace Go.Proofs.YtmkddhkpeiajhaaGreatDoor
open Go.RowKit
def strCell (l : List UInt8) : Value := .string (bstr l)
def RdZ (w : World) (B : Nat) (A : Option Addr) (n : Nat) (ss : List (List UInt8)) : Prop := Reads w B 1 A n (ss.map strCell)
def OwnZ (w : World) (base : Nat) (A : Option Addr) (n c : Nat) (ss : List (List UInt8)) : Prop := w.ownsRow base 9 1 (.slice A n c) n (ss.map strCell)
theorem string_info : (Tryz.prog.info? 9).map (fun i => (i.zero, i.size, i.bytes)) = some (some (.string ⟨#[]⟩), 1, 16) := by kernel_rfl
section
variable {w w' : World} {base n c B B' : Nat} {A : Option Addr} {ss : List (List UInt8)}
theorem RdZ.len (h : RdZ w B A n ss) : ss.length = n := by have := h.1; rw [List.length_map] at this; omega
theorem RdZ.below (h : RdZ w B A n ss) (hb : Below B w w') : RdZ w' B A n ss := Reads.below h hb
theorem RdZ.more (h : RdZ w B A n ss) (hB : B ≤ B') : RdZ w B' A n ss := Reads.more h hB
theorem RdZ.at_ (h : RdZ w B A n ss) {k : Nat} (hk : k < n) : ∃ b off x, A = some ⟨b, off, none⟩ ∧ b < B ∧ ss[k]? = some x ∧ w.cell? ⟨b, off + k, none⟩ = some (.string (bstr x)) := by
 obtain ⟨ad, rfl, hb, hall⟩ := h.2 (by omega)
 have hl : k < ss.length := by rw [h.len]; exact hk
 have hc := hall k (strCell ss[k]) (by rw [List.getElem?_map, List.getElem?_eq_getElem hl]; rfl)
 have h0 := hall 0 (strCell (ss[0]'(by omega))) (by rw [List.getElem?_map, List.getElem?_eq_getElem (by omega)]; rfl)
 obtain ⟨b, off, sp⟩ := ad
 have hsp : sp = none := by simpa [Addr.add] using World.cell?_spot h0
 subst hsp
 rw [Addr.add_lit] at hc
 exact ⟨b, off, ss[k], rfl, hb, List.getElem?_eq_getElem hl, hc⟩
theorem OwnZ.len (h : OwnZ w base A n c ss) : ss.length = n := by have := h.1; rw [List.length_map] at this; omega
theorem OwnZ.nil : OwnZ w base none 0 0 [] := World.ownsRow_nil _ _ _ _
theorem OwnZ.rd (h : OwnZ w base A n c ss) : RdZ w w.heap.size A n ss := Reads.of_own h
theorem OwnZ.cap (h : OwnZ w base A n c ss) : n ≤ c := by
 rcases h.2 with ⟨e, _⟩ | ⟨g, cap, cur, e, _, _, h3, _⟩
 ·injection e with _ e1 e2; omega
 ·injection e with _ _ e; omega
theorem OwnZ.lt (h : OwnZ w base A n c ss) : ∀ k, ob A = some k → base ≤ k ∧ k < w.heap.size := by
 have := World.ownsRow.lt h; rw [ob_own] at this; exact this
theorem OwnZ.alloc (h : OwnZ w base A n c ss) (o : Obj) : OwnZ (w.alloc o) base A n c ss := World.ownsRow.alloc h o
theorem OwnZ.fr {p : Nat → Prop} (h : OwnZ w base A n c ss) (hf : Fr w w' p) (hp : ∀ k, ob A = some k → ¬ p k) : OwnZ w' base A n c ss :=
 ownsRow_fr h hf (fun k hk => hp k (by rw [← ob_own A n c]; exact hk))
theorem OwnZ.base_le (h : OwnZ w base A n c ss) (hB : B ≤ base) : OwnZ w B A n c ss := by
 refine ⟨h.1, ?_⟩
 rcases h.2 with h2 | ⟨g, cap, cur, e, h1, h3⟩
 ·exact .inl h2
 ·exact .inr ⟨g, cap, cur, e, by omega, h3⟩
end
theorem reads_z (w : World) (l : List UInt8) (t : TypeId) : Reads (w.alloc (.cells #[.string (bstr l)] t)) (w.heap.size + 1) 1 (some ⟨w.heap.size, 0, none⟩) 1 [strCell l] := by
 refine ⟨rfl, fun _ => ⟨_, rfl, Nat.lt_succ_self _, fun j u hu => ?_⟩⟩
 rw [Addr.add_lit, Nat.zero_add, cell_of_row _ _ _ _ _ _ (heap_alloc_new w _)]
 simpa [strCell] using hu
theorem reads_b (w : World) (b : ByteArray) (t : TypeId) : Reads (w.alloc (.cells #[.string b] t)) (w.heap.size + 1) 1 (some ⟨w.heap.size, 0, none⟩) 1 [strCell b.data.toList] := reads_z w b.data.toList t
theorem wpList_append_z (w : World) {ops : Array Oper} {rest : List Oper} {o : Oper} {a : Act} {Q : Exit → Act → World → Prop} (hgd : o.guard = none) (s x : Operand)
  (ho : o.op = .call { callee := .builtin .append, args := #[s, x], argTypes := #[27, 27] })
  (base : Nat) (A : Option Addr) (n c : Nat) (ss : List (List UInt8)) (hs : a.eval s = .slice A n c) (hown : OwnZ w base A n c ss) (y : List UInt8)
  (B : Nat) (A2 : Option Addr) (hx : a.eval x = .slice A2 1 1) (hr : Reads w B 1 A2 1 [strCell y]) (hbd : n < 4398046511104) (hbase : base ≤ w.heap.size)
  (h : ∀ A' n' c' w', n' = n + 1 → OwnZ w' base A' n' c' (ss ++ [y]) → w.grownBy w' (ob A) → wpList Tryz.prog ops Q rest (a.put o.dst (.slice A' n' c')) w') :
  wpList Tryz.prog ops Q (o :: rest) a w := by
 obtain ⟨i0, hi, hz0, hz1, hz2⟩ := info_parts string_info
 refine wpList_append_any w hgd s x 27 ho base 9 i0 _ 1 16 Tryz.underlying27 hi hz0 hz1 hz2 rfl (by decide) (.slice A n c) n _ hs hown B A2 1 1 [strCell y] hx hr (by intro u hu; rw [List.mem_singleton.1 hu]; rfl) (by unfold maxLen; omega) (by omega) hbase ?_
 intro v' w' h2 h3 h4
 have hv : ∃ A' c', v' = .slice A' (n + 1) c' := by
  rcases h2.2 with ⟨_, e⟩ | ⟨g, cap, cur, rfl, _⟩
  ·omega
  ·exact ⟨_, _, rfl⟩
 obtain ⟨A', c', rfl⟩ := hv
 rw [ob_own] at h3
 exact h A' _ c' w' rfl (by unfold OwnZ; rw [List.map_append]; exact h2) h3
set_option maxRecDepth 100000 in
set_option maxHeartbeats 1000000 in
theorem strs_same (w : World) (B : Nat) (A1 A2 : Option Addr) (n c1 c2 : Nat) (ss : List (List UInt8)) (h1 : RdZ w B A1 n ss) (h2 : RdZ w B A2 n ss) (hB : B ≤ w.heap.size) (hn : n < 4398046511104) :
  Calls Tryz.prog 20 #[.slice A1 n c1, .slice A2 n c2] w fun e w' => e = .returned (.bool true) ∧ Below w.heap.size w w' := by
 go_enter Tryz.func20, Tryz.ntmps20
 go_wp2_with fail
 go_loopw [5] (fun i wr => ∃ j : Nat, j ≤ n ∧ i = .int .i64 (j : Int) ∧ Below w.heap.size w wr) (fun i _ => n - (intOf i).toNat)
 case atStart => exact ⟨0, by omega, rfl, Below.refl _ _⟩
 case round =>
  obtain ⟨j, hj, rfl, hbw⟩ := hrel
  by_cases hlt : j < n
  ·have hlti : (j : Int) < (n : Int) := by omega
   obtain ⟨b1, o1, x, rfl, hb1, hx1, hc1⟩ := (h1.below (hbw.mono hB)).at_ hlt
   obtain ⟨b2, o2, y, rfl, hb2, hx2, hc2⟩ := (h2.below (hbw.mono hB)).at_ hlt
   rw [hx1] at hx2
   injection hx2 with hx2
   subst hx2
   have hj0 : (0 : Int) ≤ (j : Int) := by omega
   clear hx1 hb1 hb2
   go_wp2_with fail
   go_quiet (fail)
   go_wp2_with fail
   go_roundw
   case rel => exact ⟨j + 1, by omega, by go_num, ⟨hbw.os, hbw.tape, hbw.output, hbw.size, hbw.block⟩⟩
   case measure => simp [intOf]; omega
  ·obtain rfl : j = n := by omega
   go_wp2_with fail
   go_ret
   exact ⟨rfl, hbw⟩
end Go.Proofs.YtmkddhkpeiajhaaGreatDoor
