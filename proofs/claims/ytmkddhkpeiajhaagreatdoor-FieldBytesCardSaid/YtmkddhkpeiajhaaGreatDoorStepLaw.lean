import Derived.Test.YtmkddhkpeiajhaaGreatDoorRxs
import Derived.Test.YtmkddhkpeiajhaaGreatDoorTreeAll
import Derived.Deep.RegionHeldLaw
import Derived.StillTailTactics
import Derived.Deep.CutBlock
import Derived.Deep.DeepCutAuto
import Derived.Test.YtmkddhkpeiajhaaGreatDoorSetAll
import Derived.Deep.MidRow
import Derived.Deep.WholeRow
namespace Go.Proofs.YtmkddhkpeiajhaaGreatDoor
def On (l : List Bool) (i : Nat) : Prop := l[i]? = some true
def Sees (x : List UInt8) (r : Rx) (B C : List Bool) : Prop := C.length = B.length ∧ ∀ j, On C j ↔ ∃ i, On B i ∧ Mt x r i j
def orL : List Bool → List Bool → List Bool
 | a :: l, b :: m => (a || b) :: orL l m
 | _, _ => []
theorem orL_len : ∀ {B C : List Bool}, C.length = B.length → (orL B C).length = B.length
 | [], [], _ => rfl
 | [], _ :: _, h => by cases h
 | _ :: _, [], h => by cases h
 | a :: l, b :: m, h => by rw [orL, List.length_cons, orL_len (by simpa using h)]; rfl
theorem orL_on : ∀ {B C : List Bool}, C.length = B.length → ∀ j, On (orL B C) j ↔ On B j ∨ On C j
 | [], [], _, j => by unfold On; simp [orL]
 | [], _ :: _, h, _ => by cases h
 | _ :: _, [], h, _ => by cases h
 | a :: l, b :: m, h, 0 => by unfold On orL; simp
 | a :: l, b :: m, h, j + 1 => by
  have := orL_on (B := l) (C := m) (by simpa using h) j
  unfold On at this ⊢
  rw [orL]
  simpa using this
theorem On.lt {l : List Bool} {i : Nat} (h : On l i) : i < l.length := (List.getElem?_eq_some_iff.1 h).1
theorem on_ext : ∀ {B C : List Bool}, C.length = B.length → (∀ j, On B j ↔ On C j) → B = C := by
 intro B C hl h
 apply List.ext_getElem hl.symm
 intro i h1 h2
 have := h i
 unfold On at this
 rw [List.getElem?_eq_getElem h1, List.getElem?_eq_getElem h2] at this
 simp only [Option.some.injEq] at this
 exact Bool.eq_iff_iff.2 this
section
variable {x : List UInt8} {a b : Rx} {B C D : List Bool}
theorem sees_eps : Sees x .eps B B := ⟨rfl, fun j => ⟨fun h => ⟨j, h, rfl⟩, fun ⟨i, h, e⟩ => by have e : i = j := e; rw [← e]; exact h⟩⟩
theorem sees_cat (h1 : Sees x a B C) (h2 : Sees x b C D) : Sees x (.cat a b) B D :=
 ⟨h2.1.trans h1.1, fun j => by
  rw [h2.2 j]
  exact ⟨fun ⟨k, hk, hm⟩ => by obtain ⟨i, hi, hm'⟩ := (h1.2 k).1 hk; exact ⟨i, hi, k, hm', hm⟩, fun ⟨i, hi, k, hm', hm⟩ => ⟨k, (h1.2 k).2 ⟨i, hi, hm'⟩, hm⟩⟩⟩
theorem sees_alt (h1 : Sees x a B C) (h2 : Sees x b B D) : Sees x (.alt a b) B (orL C D) :=
 ⟨(orL_len (h2.1.trans h1.1.symm)).trans h1.1, fun j => by
  rw [orL_on (h2.1.trans h1.1.symm), h1.2 j, h2.2 j]
  exact ⟨fun h => h.elim (fun ⟨i, hi, hm⟩ => ⟨i, hi, .inl hm⟩) (fun ⟨i, hi, hm⟩ => ⟨i, hi, .inr hm⟩), fun ⟨i, hi, hm⟩ => hm.elim (fun hm => .inl ⟨i, hi, hm⟩) (fun hm => .inr ⟨i, hi, hm⟩)⟩⟩
theorem sees_opt (h1 : Sees x a B C) : Sees x (.opt a) B (orL B C) :=
 ⟨orL_len h1.1, fun j => by
  rw [orL_on h1.1, h1.2 j]
  exact ⟨fun h => h.elim (fun h => ⟨j, h, .inl rfl⟩) (fun ⟨i, hi, hm⟩ => ⟨i, hi, .inr hm⟩), fun ⟨i, hi, hm⟩ => hm.elim (fun e => .inl (by rw [← e]; exact hi)) (fun hm => .inr ⟨i, hi, hm⟩)⟩⟩
theorem sees_plus (h1 : Sees x a B C) (h2 : Sees x (.star a) C D) : Sees x (.plus a) B D :=
 ⟨h2.1.trans h1.1, fun j => by
  rw [h2.2 j]
  exact ⟨fun ⟨k, hk, hm⟩ => by obtain ⟨i, hi, hm'⟩ := (h1.2 k).1 hk; exact ⟨i, hi, k, hm', hm⟩, fun ⟨i, hi, k, hm', hm⟩ => ⟨k, (h1.2 k).2 ⟨i, hi, hm'⟩, hm⟩⟩⟩
def Stars (x : List UInt8) (a : Rx) (B all : List Bool) : Prop := all.length = B.length ∧ (∀ j, On B j → On all j) ∧ ∀ j, On all j → ∃ i, On B i ∧ Many (Mt x a) i j
theorem stars_start : Stars x a B B := ⟨rfl, fun _ h => h, fun j h => ⟨j, h, .nil j⟩⟩
theorem stars_next {all : List Bool} (h : Stars x a B all) (h1 : Sees x a all C) : Stars x a B (orL all C) :=
 ⟨(orL_len h1.1).trans h.1, fun j hj => (orL_on h1.1 j).2 (.inl (h.2.1 j hj)), fun j hj => by
  rcases (orL_on h1.1 j).1 hj with hj | hj
  ·exact h.2.2 j hj
  ·obtain ⟨k, hk, hm⟩ := (h1.2 j).1 hj
   obtain ⟨i, hi, hm'⟩ := h.2.2 k hk
   exact ⟨i, hi, hm'.snoc hm⟩⟩
theorem many_on {R : Nat → Nat → Prop} {all : List Bool} (hcl : ∀ k m, On all k → R k m → On all m) {i j : Nat} (h : Many R i j) : On all i → On all j := by
 induction h with
 | nil => exact id
 | cons h' _ ih => exact fun h0 => ih (hcl _ _ h0 h')
theorem stars_end {all : List Bool} (h : Stars x a B all) (h1 : Sees x a all C) (he : orL all C = all) : Sees x (.star a) B all :=
 ⟨h.1, fun j => ⟨h.2.2 j, fun ⟨i, hi, hm⟩ => many_on (fun k m hk hkm => by rw [← he]; exact (orL_on h1.1 m).2 (.inr ((h1.2 m).2 ⟨k, hk, hkm⟩))) hm (h.2.1 i hi)⟩⟩
def offs (l : List Bool) : Nat := l.countP fun b => !b
theorem offs_or : ∀ {B C : List Bool}, C.length = B.length → orL B C ≠ B → offs (orL B C) < offs B
 | [], [], _, h => absurd rfl h
 | [], _ :: _, h, _ => by cases h
 | _ :: _, [], h, _ => by cases h
 | a :: l, b :: m, hl, h => by
  have hl' : m.length = l.length := by simpa using hl
  have hle : ∀ {B C : List Bool}, C.length = B.length → offs (orL B C) ≤ offs B := by
   intro B
   induction B with
   | nil => intro C h; cases C with | nil => exact Nat.le_refl _ | cons _ _ => cases h
   | cons p l ih =>
    intro C h
    cases C with
    | nil => cases h
    | cons q m =>
     have := ih (C := m) (by simpa using h)
     unfold offs at this ⊢
     rw [orL, List.countP_cons, List.countP_cons]
     cases p <;> cases q <;> simp <;> omega
  by_cases he : orL l m = l
  ·have hab : (a || b) ≠ a := fun e => h (by rw [orL, he, e])
   have := hle hl'
   unfold offs at this ⊢
   rw [orL, List.countP_cons, List.countP_cons]
   cases a <;> cases b <;> simp at hab ⊢ <;> omega
  ·have := offs_or hl' he
   unfold offs at this ⊢
   rw [orL, List.countP_cons, List.countP_cons]
   cases a <;> cases b <;> simp <;> omega
end
end Go.Proofs.YtmkddhkpeiajhaaGreatDoor
namespace Go.Proofs.YtmkddhkpeiajhaaGreatDoor
open Go.RowKit
def boL (l : List Bool) : List Value := l.map Value.bool
def RdO (w : World) (A : Option Addr) (n : Nat) (l : List Bool) : Prop := l.length = n ∧ Reads w w.heap.size 1 A n (boL l)
def OwnO (w : World) (base : Nat) (A : Option Addr) (n c : Nat) (l : List Bool) : Prop := l.length = n ∧ w.ownsRow base 4 1 (.slice A n c) n (boL l)
theorem bool_info : (Tryz.prog.info? 4).map (fun i => (i.zero, i.size, i.bytes)) = some (some (.bool false), 1, 1) := by kernel_rfl
section
variable {w w' : World} {base n c : Nat} {A : Option Addr} {l : List Bool}
theorem RdO.later (h : RdO w A n l) (hl : Later w w') : RdO w' A n l := ⟨h.1, (h.2.below hl).more hl.size⟩
theorem OwnO.rd (h : OwnO w base A n c l) : RdO w A n l := ⟨h.1, Reads.of_own h.2⟩
theorem OwnO.later (h : OwnO w base A n c l) (hl : Later w w') : OwnO w' base A n c l := ⟨h.1, ownsRow_fr h.2 (Fr.laterF hl) (fun _ _ h => h)⟩
theorem boL_get {k : Nat} {x : Bool} (h : l[k]? = some x) : (boL l)[k]? = some (.bool x) := by unfold boL; rw [List.getElem?_map, h]; rfl
theorem RdO.at_ (h : RdO w A n l) {k : Nat} {x : Bool} (hx : l[k]? = some x) : ∃ b off, A = some ⟨b, off, none⟩ ∧ b < w.heap.size ∧ w.cell? ⟨b, off + k, none⟩ = some (.bool x) := by
 have hk : k < n := by have := (List.getElem?_eq_some_iff.1 hx).1; have := h.1; omega
 obtain ⟨ad, rfl, hb, hc⟩ := h.2.2 (by omega)
 have h0 := hc k _ (boL_get hx)
 obtain ⟨b, off, sp⟩ := ad
 have hl : 0 < l.length := by have := (List.getElem?_eq_some_iff.1 hx).1; omega
 have hz := hc 0 _ (boL_get (List.getElem?_eq_getElem hl))
 have hsp : sp = none := by simpa [Addr.add] using World.cell?_spot hz
 subst hsp
 exact ⟨b, off, rfl, hb, by rw [Addr.add_lit] at h0; exact h0⟩
theorem boL_set (l : List Bool) (k : Nat) (x : Bool) : boL (l.set k x) = (boL l).set k (.bool x) := by unfold boL; rw [List.map_set]
end
theorem made_bools (n : Nat) (hn : n ≤ 10000000) : ∃ Z : Array Value, (∀ (w : World) (base : Nat), base ≤ w.heap.size → OwnO (w.alloc (.cells Z 4)) base (some ⟨w.heap.size, 0, none⟩) n n (List.replicate n false)) ∧
  ∀ w : World, (Instr.makeSlice 172 (.int .i64 (n : Int)) (.int .i64 (n : Int))).run Tryz.prog w = .ok (.slice (some ⟨w.heap.size, 0, none⟩) n n) (w.alloc (.cells Z 4)) := by
 obtain ⟨i0, hi, hz0, hz1, hz2⟩ := info_parts bool_info
 have hz : madeCells (Value.bool false).cells n = (boL (List.replicate n false)).toArray := by
  apply Array.ext'
  simp [madeCells, Value.cells, boL]
  refine List.ext_getElem (by simp) fun i h1 h2 => ?_
  simp [Nat.mod_one]
 refine ⟨madeCells (Value.bool false).cells n, fun w base hb => ⟨List.length_replicate .., ?_⟩, fun w => ?_⟩
 ·refine ⟨by unfold boL; simp, .inr ⟨w.heap.size, n, _, rfl, hb, Blk.new w _ _, Nat.le_refl _, by unfold maxLen; omega, ?_, ?_⟩⟩
  ·rw [hz]; simp [boL]
  ·rw [hz]; simp [boL]
 ·have hr := run_make (P := Tryz.prog) w 172 4 i0 (.bool false) Tryz.underlying172 hi hz0 .i64 .i64 n n (by omega) (Int.le_refl _) (by rw [hz2]; omega) (by omega)
  rw [hz1] at hr
  simpa using hr
theorem own_seto {w : World} {base n c g k : Nat} {l : List Bool} (h : OwnO w base (some ⟨g, 0, none⟩) n c l) (x : Bool) (_hk : k < n) : OwnO (w.setCell ⟨g, k, none⟩ (.bool x)) base (some ⟨g, 0, none⟩) n c (l.set k x) := by
 refine ⟨by rw [List.length_set]; exact h.1, ?_⟩
 rw [boL_set]
 rcases h.2.2 with ⟨e1, _⟩ | ⟨g', cap, cur, hv, h1, h2, h3, h4, h5, h6⟩
 ·cases e1
 ·injection hv with hv hv2 hv3
  injection hv with hv
  injection hv with hv hv4
  subst hv hv3
  refine ⟨by rw [List.length_set]; exact h.2.1, .inr ⟨g, c, cur.setIfInBounds k (.bool x), rfl, h1, ?_, h3, h4, by rw [Array.size_setIfInBounds]; exact h5, ?_⟩⟩
  ·exact Blk.set_ (t := 4) (cs := cur) h2 k _
  ·rw [Array.toList_setIfInBounds, List.take_set, h6]
def RetO (w : World) (l : List Bool) (e : Ending) (w' : World) : Prop := ∃ A n c, e = .returned (.slice A n c) ∧ OwnO w' w.heap.size A n c l ∧ Later w w'
def mixL (l : List Bool) (j : Nat) : List Bool := l.take j ++ List.replicate (l.length - j) false
theorem mix_zero (l : List Bool) : mixL l 0 = List.replicate l.length false := by unfold mixL; simp
theorem mix_all (l : List Bool) : mixL l l.length = l := by unfold mixL; simp
theorem mix_next (l : List Bool) (j : Nat) (x : Bool) (h : l[j]? = some x) : (mixL l j).set j x = mixL l (j + 1) := by
 have hj := (List.getElem?_eq_some_iff.1 h).1
 unfold mixL
 rw [List.set_append_right _ _ (by rw [List.length_take]; omega), List.length_take, Nat.min_eq_left (by omega), Nat.sub_self]
 obtain ⟨m, hm⟩ : ∃ m, l.length - j = m + 1 := ⟨l.length - j - 1, by omega⟩
 rw [hm, List.replicate_succ, List.set_cons_zero, List.take_add_one, h, show l.length - (j + 1) = m by omega]
 simp
set_option maxRecDepth 100000 in
set_option maxHeartbeats 4000000 in
theorem either_any (A : Option Addr) (n c : Nat) (l : List Bool) (A2 : Option Addr) (c2 : Nat) (l2 : List Bool) (w : World) (h1 : RdO w A n l) (h2 : RdO w A2 n l2) (hn : n ≤ 1000001) :
  Calls Tryz.prog 121 #[.slice A n c, .slice A2 n c2] w (RetO w (orL l l2)) := by
 have hol : (orL l l2).length = n := (orL_len (h2.1.trans h1.1.symm)).trans h1.1
 obtain ⟨Z, hZ, hmk⟩ := made_bools n (by omega)
 obtain ⟨R, hR⟩ : ∃ R, R = orL l l2 := ⟨_, rfl⟩
 have hget : ∀ (j : Nat) (x y : Bool), l[j]? = some x → l2[j]? = some y → R[j]? = some (x || y) := by
  intro j x y hx hy
  rw [hR]
  clear hR hol h1 h2
  induction l generalizing l2 j with
  | nil => cases hx
  | cons a l ih =>
   cases l2 with
   | nil => cases hy
   | cons b m =>
    cases j with
    | zero => injection hx with hx; injection hy with hy; subst hx hy; rfl
    | succ j => exact ih m j hx hy
 rw [← hR] at hol ⊢
 have HG := Lib.hid hget
 have HO := Lib.hid hol
 clear hget hol hR
 go_enter Tryz.func121, Tryz.ntmps121
 go_wp2_with fail
 go_loopw [6] (fun s6 wr => ∃ j : Nat, j ≤ n ∧ s6 = .int .i64 (j : Int) ∧ OwnO wr w.heap.size (some ⟨w.heap.size, 0, none⟩) n n (mixL R j) ∧ Later w wr) (fun s6 _ => n - (intOf s6).toNat)
 case atStart => exact ⟨0, Nat.zero_le _, rfl, by rw [mix_zero, HO.out]; exact hZ w _ (Nat.le_refl _), (Later.refl w).alloc _⟩
 case round =>
  obtain ⟨j, hj, rfl, hown, hlr⟩ := hrel
  by_cases hlt : j < n
  ·have hlti : (j : Int) < (n : Int) := by omega
   obtain ⟨x, hx⟩ : ∃ x, l[j]? = some x := ⟨_, List.getElem?_eq_getElem (by rw [h1.1]; exact hlt)⟩
   obtain ⟨y, hy⟩ : ∃ y, l2[j]? = some y := ⟨_, List.getElem?_eq_getElem (by rw [h2.1]; exact hlt)⟩
   obtain ⟨b1, o1, rfl, hb1, e1⟩ := (h1.later hlr).at_ hx
   obtain ⟨b2, o2, rfl, hb2, e2⟩ := (h2.later hlr).at_ hy
   have hxy := HG.out j x y hx hy
   have hnx := mix_next R j _ hxy
   obtain ⟨_, _, _, _, hfz⟩ : ∃ (cs : Array Value) (_ : Blk wr w.heap.size 4 cs) (v : Value) (_ : wr.cell? ⟨w.heap.size, j, none⟩ = some v), wr.frozen? ⟨w.heap.size, j, none⟩ = false := by
    obtain ⟨_, _, cs, hB⟩ := own_row_blk hown.2 (k := w.heap.size) rfl
    have hjm : j < (mixL R j).length := by rw [hown.1]; exact hlt
    obtain ⟨b, o, hA, _, hc⟩ := hown.rd.at_ (k := j) (List.getElem?_eq_getElem hjm)
    injection hA with hA
    injection hA with hA1 hA2
    subst hA1 hA2
    rw [Nat.zero_add] at hc
    exact ⟨cs, hB, _, hc, hB.frozen j⟩
   have hset := own_seto hown (x || y) hlt
   rw [hnx] at hset
   have HS := Lib.hid hset
   have hls : Later w (wr.setCell ⟨w.heap.size, j, none⟩ (.bool (x || y))) := Later.setCell hlr (Nat.le_refl _) _
   have HLS := Lib.hid hls
   clear hx hy hxy hnx hset hls hown
   cases x with
   | true =>
    go_wp2_with fail
    go_roundw
    case rel => exact ⟨j + 1, by omega, by go_num, HS.out, HLS.out⟩
    case measure => simp [intOf]; omega
   | false =>
    go_wp2_with fail
    go_roundw
    case rel => exact ⟨j + 1, by omega, by go_num, HS.out, HLS.out⟩
    case measure => simp [intOf]; omega
  ·obtain rfl : n = j := by omega
   go_wp2_with fail
   go_ret
   refine ⟨_, _, _, rfl, ?_, hlr⟩
   have := hown
   rw [show mixL R n = R by have := mix_all R; rw [HO.out] at this; exact this] at this
   exact this
end Go.Proofs.YtmkddhkpeiajhaaGreatDoor
namespace Go.Proofs.YtmkddhkpeiajhaaGreatDoor
open Go.RowKit
def boolC (p : Mem) : Array Value := ((List.range 256).map fun b => Value.bool (p b)).toArray
theorem boolC_size (p : Mem) : (boolC p).size = 256 := by simp [boolC]
theorem boolC_get (p : Mem) {k : Nat} (hk : k < 256) : (boolC p)[k]? = some (.bool (p k)) := by
 unfold boolC
 rw [List.getElem?_toArray, List.getElem?_map, List.getElem?_range hk]
 rfl
def mLow (p : Mem) (k : Nat) : Mem := fun b => decide (b < k) && p b
theorem mLow_yes (p : Mem) (k : Nat) (h : p k = true) : mLow p (k + 1) = mWith (mLow p k) k := by
 funext b
 unfold mLow mWith
 rw [Bool.eq_iff_iff]
 simp only [Bool.and_eq_true, Bool.or_eq_true, decide_eq_true_eq, beq_iff_eq]
 constructor
 ·rintro ⟨h1, h2⟩
  by_cases e : b = k
  ·exact .inr e
  ·exact .inl ⟨by omega, h2⟩
 ·rintro (⟨h1, h2⟩ | rfl)
  ·exact ⟨by omega, h2⟩
  ·exact ⟨by omega, h⟩
theorem mLow_no (p : Mem) (k : Nat) (h : p k = false) : mLow p (k + 1) = mLow p k := by
 funext b
 unfold mLow
 rw [Bool.eq_iff_iff]
 simp only [Bool.and_eq_true, decide_eq_true_eq]
 constructor
 ·rintro ⟨h1, h2⟩
  refine ⟨?_, h2⟩
  by_cases e : b = k
  ·subst e; rw [h] at h2; cases h2
  ·omega
 ·rintro ⟨h1, h2⟩
  exact ⟨by omega, h2⟩
theorem mLow_zero (p : Mem) : setC (mLow p 0) = #[.int .u64 0, .int .u64 0, .int .u64 0, .int .u64 0] := by
 rw [← setC_none]
 exact setC_ext _ _ fun i _ => nbits_congr fun j _ => by show (_ && _) = false; simp
theorem mLow_all (p : Mem) : setC (mLow p 256) = setC p := setC_ext _ _ fun i _ => nbits_congr fun j _ => by
 show (decide _ && _) = _
 rw [decide_eq_true (by omega), Bool.true_and]
theorem with_set {w : World} {g : Nat} {t : TypeId} (p : Mem) (b i : Nat) (hi : b / 64 = i) (h : Blk w g t (setC p)) : Blk (w.setCell ⟨g, i, none⟩ (.int .u64 (word (mWith p b) i : Nat))) g t (setC (mWith p b)) := by
 have hs := h.set_ i (.int .u64 (word (mWith p b) i : Nat))
 have e : (setC p).setIfInBounds i (.int .u64 (word (mWith p b) i : Nat)) = setC (mWith p b) := by
  have ho : ∀ j, j ≠ i → word (mWith p b) j = word p j := fun j hj => word_other p b j (by rw [hi]; exact hj)
  unfold setC
  by_cases h0 : i = 0
  ·subst h0; rw [ho 1 (by omega), ho 2 (by omega), ho 3 (by omega)]; rfl
  ·by_cases h1 : i = 1
   ·subst h1; rw [ho 0 (by omega), ho 2 (by omega), ho 3 (by omega)]; rfl
   ·by_cases h2 : i = 2
    ·subst h2; rw [ho 0 (by omega), ho 1 (by omega), ho 3 (by omega)]; rfl
    ·by_cases h3 : i = 3
     ·subst h3; rw [ho 0 (by omega), ho 1 (by omega), ho 2 (by omega)]; rfl
     ·rw [ho 0 (by omega), ho 1 (by omega), ho 2 (by omega), ho 3 (by omega)]
      apply Array.ext'
      rw [Array.toList_setIfInBounds, List.set_eq_of_length_le (by simp; omega)]
 rwa [e] at hs
set_option maxHeartbeats 2000000 in
theorem packed_any (p : Mem) (w : World) :
  Calls Tryz.prog 133 #[.agg (boolC p)] w fun e w' => e = .returned (setV p) ∧ Later w w' := by
 go_enter Tryz.func133, Tryz.ntmps133
 go_wp2
 go_loopw [4] (fun i wr => ∃ k : Nat, k ≤ 256 ∧ i = .int .i64 (k : Int) ∧ Blk wr w.heap.size 181 (boolC p) ∧ Blk wr (w.heap.size + 2) 95 (setC (mLow p k)) ∧ Blk wr (w.heap.size + 1) 95 #[.int .u64 0, .int .u64 0, .int .u64 0, .int .u64 0] ∧ Later w wr) (fun i _ => 256 - (intOf i).toNat)
 case atStart => exact ⟨0, by omega, rfl, ((Blk.new w _ _).alloc _).alloc _, by rw [mLow_zero]; exact blk_at (by simp), (blk_at (by simp)).alloc _, (((Later.refl w).alloc _).alloc _).alloc _⟩
 case round =>
  obtain ⟨k, hk, rfl, h0, h1, h3, hl⟩ := hrel
  by_cases hlt : k < 256
  ·have hlti : (k : Int) < 256 := by omega
   have c0 : wr.cell? ⟨w.heap.size, k, none⟩ = some (.bool (p k)) := by rw [h0.cell, boolC_get p hlt]
   obtain ⟨r, hr⟩ : ∃ r, k % 64 = r := ⟨_, rfl⟩
   have hr1 : (k : Int) % 64 = (r : Int) := by omega
   have hrl : r < 64 := by omega
   have hwd := word_with (mLow p k) k
   rw [hr] at hwd
   clear hr
   cases hpk : p k with
   | true =>
    rw [hpk] at c0
    have hpk' := Lib.hid hpk
    clear hpk
    have h4 : k / 64 = 0 ∨ k / 64 = 1 ∨ k / 64 = 2 ∨ k / 64 = 3 := by omega
    rcases h4 with h4 | h4 | h4 | h4
    ·have hq : (k : Int) / 64 = 0 := by omega
     have hqn : k / 64 = 0 := h4
     rw [hqn] at hwd
     have E := or_bit _ r _ (word_lt (mLow p k) 0) hrl hwd
     have cx : wr.cell? ⟨w.heap.size + 2, 0, none⟩ = some (.int .u64 (word (mLow p k) 0 : Nat)) := h1.cell 0
     have fx := h1.frozen 0
     have hs := with_set (mLow p k) k 0 hqn h1
     clear hqn h4 hwd
     go_wp2
     go_roundw
     case rel => exact ⟨k + 1, by omega, by go_num, h0.far (by show w.heap.size ≠ w.heap.size + 2; omega) _, by rw [mLow_yes p k hpk'.out]; exact hs, h3.far (by show w.heap.size + 1 ≠ w.heap.size + 2; omega) _, Later.setCell hl (by show w.heap.size ≤ w.heap.size + 2; omega) _⟩
     case measure => simp [intOf]; omega
    ·have hq : (k : Int) / 64 = 1 := by omega
     have hqn : k / 64 = 1 := h4
     rw [hqn] at hwd
     have E := or_bit _ r _ (word_lt (mLow p k) 1) hrl hwd
     have cx : wr.cell? ⟨w.heap.size + 2, 1, none⟩ = some (.int .u64 (word (mLow p k) 1 : Nat)) := h1.cell 1
     have fx := h1.frozen 1
     have hs := with_set (mLow p k) k 1 hqn h1
     clear hqn h4 hwd
     go_wp2
     go_roundw
     case rel => exact ⟨k + 1, by omega, by go_num, h0.far (by show w.heap.size ≠ w.heap.size + 2; omega) _, by rw [mLow_yes p k hpk'.out]; exact hs, h3.far (by show w.heap.size + 1 ≠ w.heap.size + 2; omega) _, Later.setCell hl (by show w.heap.size ≤ w.heap.size + 2; omega) _⟩
     case measure => simp [intOf]; omega
    ·have hq : (k : Int) / 64 = 2 := by omega
     have hqn : k / 64 = 2 := h4
     rw [hqn] at hwd
     have E := or_bit _ r _ (word_lt (mLow p k) 2) hrl hwd
     have cx : wr.cell? ⟨w.heap.size + 2, 2, none⟩ = some (.int .u64 (word (mLow p k) 2 : Nat)) := h1.cell 2
     have fx := h1.frozen 2
     have hs := with_set (mLow p k) k 2 hqn h1
     clear hqn h4 hwd
     go_wp2
     go_roundw
     case rel => exact ⟨k + 1, by omega, by go_num, h0.far (by show w.heap.size ≠ w.heap.size + 2; omega) _, by rw [mLow_yes p k hpk'.out]; exact hs, h3.far (by show w.heap.size + 1 ≠ w.heap.size + 2; omega) _, Later.setCell hl (by show w.heap.size ≤ w.heap.size + 2; omega) _⟩
     case measure => simp [intOf]; omega
    ·have hq : (k : Int) / 64 = 3 := by omega
     have hqn : k / 64 = 3 := h4
     rw [hqn] at hwd
     have E := or_bit _ r _ (word_lt (mLow p k) 3) hrl hwd
     have cx : wr.cell? ⟨w.heap.size + 2, 3, none⟩ = some (.int .u64 (word (mLow p k) 3 : Nat)) := h1.cell 3
     have fx := h1.frozen 3
     have hs := with_set (mLow p k) k 3 hqn h1
     clear hqn h4 hwd
     go_wp2
     go_roundw
     case rel => exact ⟨k + 1, by omega, by go_num, h0.far (by show w.heap.size ≠ w.heap.size + 2; omega) _, by rw [mLow_yes p k hpk'.out]; exact hs, h3.far (by show w.heap.size + 1 ≠ w.heap.size + 2; omega) _, Later.setCell hl (by show w.heap.size ≤ w.heap.size + 2; omega) _⟩
     case measure => simp [intOf]; omega
   | false =>
    rw [hpk] at c0
    have hpk' := Lib.hid hpk
    clear hpk hwd
    go_wp2
    go_roundw
    case rel => exact ⟨k + 1, by omega, by go_num, h0, by rw [mLow_no p k hpk'.out]; exact h1, h3, hl⟩
    case measure => simp [intOf]; omega
  ·obtain rfl : k = 256 := by omega
   rw [mLow_all] at h1
   have g0 : wr.cell? ⟨w.heap.size + 2, 0, none⟩ = some (.int .u64 (word p 0 : Nat)) := h1.cell 0
   have g1 : wr.cell? ⟨w.heap.size + 2, 1, none⟩ = some (.int .u64 (word p 1 : Nat)) := h1.cell 1
   have g2 : wr.cell? ⟨w.heap.size + 2, 2, none⟩ = some (.int .u64 (word p 2 : Nat)) := h1.cell 2
   have g3 : wr.cell? ⟨w.heap.size + 2, 3, none⟩ = some (.int .u64 (word p 3 : Nat)) := h1.cell 3
   have e0 : wr.cell? ⟨w.heap.size + 1, 0, none⟩ = some (.int .u64 0) := h3.cell 0
   have e1 : wr.cell? ⟨w.heap.size + 1, 1, none⟩ = some (.int .u64 0) := h3.cell 1
   have e2 : wr.cell? ⟨w.heap.size + 1, 2, none⟩ = some (.int .u64 0) := h3.cell 2
   have e3 : wr.cell? ⟨w.heap.size + 1, 3, none⟩ = some (.int .u64 0) := h3.cell 3
   have f0 := h3.frozen 0
   have f1 := h3.frozen 1
   have f2 := h3.frozen 2
   have f3 := h3.frozen 3
   go_wp2
   exact bodyPost_ret (v := .agg (setC p)) (by simp [results, Tryz.results133, go_sem, setC, e0, e1, e2, e3]) rfl ⟨rfl, (by repeat (first | exact hl | (refine Later.setCell ?_ (by show w.heap.size ≤ w.heap.size + 1; omega) _)))⟩
end Go.Proofs.YtmkddhkpeiajhaaGreatDoor
namespace Go.Proofs.YtmkddhkpeiajhaaGreatDoor
open Go.RowKit
theorem zero_set : (∀ w, (zeroValue 181).run Tryz.prog w = .ok (.agg (boolC mNone)) w) ∧ (Tryz.prog.info? 181).map (·.size) = some 256 :=
 zero_of_info (by kernel_rfl)
theorem sizeB (m : Mem) : (Tryz.prog.info? 181).map (·.size) = some (boolC m).toList.length := by rw [Array.length_toList, boolC_size]; exact zero_set.2
theorem sizeB' (m : Mem) : (Tryz.prog.info? 181).map (·.size) = some (boolC m).size := by rw [boolC_size]; exact zero_set.2
theorem oneB (m : Mem) : (boolC m).all (·.oneCell') = true := by
 rw [Array.all_eq_true_iff_forall_mem]
 intro v hv
 unfold boolC at hv
 rw [List.mem_toArray, List.mem_map] at hv
 obtain ⟨b, _, rfl⟩ := hv
 rfl
theorem rangeB {w : World} {g : Nat} {t : TypeId} {m : Mem} (h : Blk w g t (boolC m)) : Hid (w.rangeAt g 0 (boolC m).toList) := by
 show World.rangeAt _ _ _ _
 intro j v hv
 rw [Nat.zero_add, h.cell, ← Array.getElem?_toList]
 exact hv
theorem thereB {w : World} {g : Nat} {t : TypeId} {m p : Mem} (h : Blk w g t (boolC p)) : Hid (w.there g 0 (boolC m).size) := by
 show World.there _ _ _ _
 intro j hj
 rw [boolC_size] at hj
 rw [Nat.zero_add]
 exact ⟨by rw [h.cell, boolC_get p hj]; rfl, h.frozen j⟩
theorem laterCells {w : World} : ∀ {w1 : World} (_hl : Later w w1) (o : Nat) (l : List Value), Later w (w1.setCells w.heap.size o l)
 | _, hl, _, [] => hl
 | _, hl, o, v :: l => laterCells (Below.setCell (p := ⟨w.heap.size, o, none⟩) hl (Nat.le_refl _) v) (o + 1) l
theorem laterCellsG {w : World} {g : Nat} : ∀ {w1 : World} (_hl : Later w w1) (_hg : w.heap.size ≤ g) (o : Nat) (l : List Value), Later w (w1.setCells g o l)
 | _, hl, _, _, [] => hl
 | _, hl, hg, o, v :: l => laterCellsG (Below.setCell (p := ⟨g, o, none⟩) hl hg v) hg (o + 1) l
theorem boolC_step (m : Mem) (k : Nat) (hk : k < 256) : (boolC (mLow m k)).setIfInBounds k (.bool (m k)) = boolC (mLow m (k + 1)) := by
 apply Array.ext_getElem?
 intro i
 rw [Array.getElem?_setIfInBounds]
 by_cases hi : i < 256
 ·by_cases e : k = i
  ·subst e
   rw [if_pos rfl, if_pos (by rw [boolC_size]; exact hk), boolC_get _ hk]
   unfold mLow
   rw [decide_eq_true (by omega), Bool.true_and]
  ·rw [if_neg e, boolC_get _ hi, boolC_get _ hi]
   unfold mLow
   by_cases h : i < k
   ·rw [decide_eq_true h, decide_eq_true (by omega)]
   ·rw [decide_eq_false h, decide_eq_false (by omega)]
 ·rw [Array.getElem?_eq_none (xs := boolC (mLow m (k + 1))) (by rw [boolC_size]; omega), if_neg (by omega), Array.getElem?_eq_none (by rw [boolC_size]; omega)]
theorem boolC_ext (p q : Mem) (h : ∀ b, b < 256 → p b = q b) : boolC p = boolC q := by
 unfold boolC
 congr 1
 exact List.map_congr_left fun b hb => by rw [h b (List.mem_range.1 hb)]
end Go.Proofs.YtmkddhkpeiajhaaGreatDoor
namespace Go.Proofs.YtmkddhkpeiajhaaGreatDoor
open Go.RowKit
def over : Array Value → Nat → List Value → Array Value
 | cs, _, [] => cs
 | cs, o, v :: l => over (cs.setIfInBounds o v) (o + 1) l
theorem over_size : ∀ (l : List Value) (cs : Array Value) (o : Nat), (over cs o l).size = cs.size
 | [], _, _ => rfl
 | v :: l, cs, o => by rw [over, over_size l]; simp
theorem over_get : ∀ (l : List Value) (cs : Array Value) (o j : Nat), j < cs.size → (over cs o l)[j]? = if o ≤ j ∧ j < o + l.length then l[j - o]? else cs[j]?
 | [], cs, o, j, _ => by rw [over, if_neg (by simp only [List.length_nil]; omega)]
 | v :: l, cs, o, j, hj => by
  rw [over, over_get l _ (o + 1) j (by simpa using hj), Array.getElem?_setIfInBounds]
  by_cases h1 : j = o
  ·subst h1
   rw [if_neg (by omega), if_pos rfl, if_pos hj, if_pos (by simp only [List.length_cons]; omega), Nat.sub_self]
   rfl
  ·by_cases h2 : o + 1 ≤ j ∧ j < o + 1 + l.length
   ·rw [if_pos h2, if_pos (by simp only [List.length_cons]; omega), show j - o = (j - (o + 1)) + 1 by omega, List.getElem?_cons_succ]
   ·rw [if_neg h2, if_neg (Ne.symm h1), if_neg (by simp only [List.length_cons]; omega)]
theorem over_all (cs : Array Value) (l : List Value) (h : cs.size = l.length) : over cs 0 l = l.toArray := by
 apply Array.ext_getElem?
 intro j
 by_cases hj : j < cs.size
 ·rw [over_get l cs 0 j hj, if_pos (by omega), Nat.sub_zero, List.getElem?_toArray]
 ·rw [Array.getElem?_eq_none (by rw [over_size]; omega), Array.getElem?_eq_none (by rw [List.size_toArray]; omega)]
theorem Blk.setCells {g : Nat} {t : TypeId} : ∀ (l : List Value) {w : World} {cs : Array Value} (_h : Blk w g t cs) (o : Nat), Blk (w.setCells g o l) g t (over cs o l)
 | [], _, _, h, _ => h
 | v :: l, _, _, h, o => Blk.setCells l (h.set_ o v) (o + 1)
theorem Blk.farCells {g g' : Nat} {t : TypeId} : ∀ (l : List Value) {w : World} {cs : Array Value} (_h : Blk w g t cs) (_hne : g ≠ g') (o : Nat), Blk (w.setCells g' o l) g t cs
 | [], _, _, h, _, _ => h
 | v :: l, _, _, h, hne, o => Blk.farCells l (h.far (p := ⟨g', o, none⟩) hne v) hne (o + 1)
theorem Blk.setBools {w : World} {g : Nat} {t : TypeId} {m p : Mem} (h : Blk w g t (boolC m)) : Blk (w.setCells g 0 (boolC p).toList) g t (boolC p) := by
 have := Blk.setCells (boolC p).toList h 0
 rwa [over_all _ _ (by rw [boolC_size, Array.length_toList, boolC_size]), Array.toArray_toList] at this
end Go.Proofs.YtmkddhkpeiajhaaGreatDoor
namespace Go.Proofs.YtmkddhkpeiajhaaGreatDoor
open Go.RowKit
theorem plain_bit (p : Mem) (b r : Nat) (hr : b % 64 = r) (i : Nat) (hi : b / 64 = i) : (((word p i : Int) / 2 ^ r).tmod 2 == 1) = p b := by
 have h := word_has p b
 rw [hr, hi] at h
 obtain ⟨m, hm⟩ : ∃ m : Nat, m = word p i / 2 ^ r := ⟨_, rfl⟩
 have e : ((word p i : Int) / 2 ^ r) = (m : Int) := by rw [hm, Int.natCast_ediv, Int.natCast_pow]; rfl
 rw [← hm] at h
 rw [e, Int.tmod_eq_emod_of_nonneg (by omega)]
 cases hp : p b
 ·rw [hp] at h
  have : (m : Int) % 2 = 0 := by simp only [Bool.toNat_false] at h; omega
  rw [this]
  rfl
 ·rw [hp] at h
  have : (m : Int) % 2 = 1 := by simp only [Bool.toNat_true] at h; omega
  rw [this]
  rfl
set_option maxHeartbeats 2000000 in
theorem plain_any (p : Mem) (w : World) :
  Calls Tryz.prog 120 #[setV p] w fun e w' => e = .returned (.agg (boolC p)) ∧ Later w w' := by
 obtain ⟨hz, hsz⟩ := zero_set
 unfold setV
 go_enter Tryz.func120, Tryz.ntmps120
 unfold setC
 go_wp2_with fail
 go_loopw [4] (fun i wr => ∃ k : Nat, k ≤ 256 ∧ i = .int .i64 (k : Int) ∧ Blk wr w.heap.size 95 (setC p) ∧ Blk wr (w.heap.size + 2) 181 (boolC (mLow p k)) ∧ Blk wr (w.heap.size + 1) 181 (boolC mNone) ∧ Later w wr) (fun i _ => 256 - (intOf i).toNat)
 case atStart => exact ⟨0, by omega, rfl, ((Blk.new w _ _).alloc _).alloc _, by rw [boolC_ext (mLow p 0) mNone (fun b _ => by unfold mLow; rfl)]; exact blk_at (by simp), (blk_at (by simp)).alloc _, (((Later.refl w).alloc _).alloc _).alloc _⟩
 case round =>
  obtain ⟨k, hk, rfl, h0, h1, h3, hl⟩ := hrel
  by_cases hlt : k < 256
  ·have hlti : (k : Int) < 256 := by omega
   have hst := Lib.hid (boolC_step p k hlt)
   have c1 : wr.cell? ⟨w.heap.size + 2, k, none⟩ = some (.bool (mLow p k k)) := by rw [h1.cell, boolC_get _ hlt]
   have f1 := h1.frozen k
   obtain ⟨r, hr⟩ : ∃ r, k % 64 = r := ⟨_, rfl⟩
   have hr1 : (k : Int) % 64 = (r : Int) := by omega
   have hrl : r < 64 := by omega
   have h4 : k / 64 = 0 ∨ k / 64 = 1 ∨ k / 64 = 2 ∨ k / 64 = 3 := by omega
   rcases h4 with h4 | h4 | h4 | h4
   ·have hq : (k : Int) / 64 = 0 := by omega
    have E := Lib.hid (plain_bit p k r hr 0 h4)
    have c0 : wr.cell? ⟨w.heap.size, 0, none⟩ = some (.int .u64 (word p 0 : Nat)) := h0.cell 0
    have E := E.out
    clear h4 hr
    go_wp2_with fail
    go_roundw
    case rel => exact ⟨k + 1, by omega, by go_num, h0.far (by show w.heap.size ≠ w.heap.size + 2; omega) _, by rw [← hst.out]; exact h1.set_ k _, h3.far (by show w.heap.size + 1 ≠ w.heap.size + 2; omega) _, Later.setCell hl (by show w.heap.size ≤ w.heap.size + 2; omega) _⟩
    case measure => simp [intOf]; omega
   ·have hq : (k : Int) / 64 = 1 := by omega
    have E := Lib.hid (plain_bit p k r hr 1 h4)
    have c0 : wr.cell? ⟨w.heap.size, 1, none⟩ = some (.int .u64 (word p 1 : Nat)) := h0.cell 1
    have E := E.out
    clear h4 hr
    go_wp2_with fail
    go_roundw
    case rel => exact ⟨k + 1, by omega, by go_num, h0.far (by show w.heap.size ≠ w.heap.size + 2; omega) _, by rw [← hst.out]; exact h1.set_ k _, h3.far (by show w.heap.size + 1 ≠ w.heap.size + 2; omega) _, Later.setCell hl (by show w.heap.size ≤ w.heap.size + 2; omega) _⟩
    case measure => simp [intOf]; omega
   ·have hq : (k : Int) / 64 = 2 := by omega
    have E := Lib.hid (plain_bit p k r hr 2 h4)
    have c0 : wr.cell? ⟨w.heap.size, 2, none⟩ = some (.int .u64 (word p 2 : Nat)) := h0.cell 2
    have E := E.out
    clear h4 hr
    go_wp2_with fail
    go_roundw
    case rel => exact ⟨k + 1, by omega, by go_num, h0.far (by show w.heap.size ≠ w.heap.size + 2; omega) _, by rw [← hst.out]; exact h1.set_ k _, h3.far (by show w.heap.size + 1 ≠ w.heap.size + 2; omega) _, Later.setCell hl (by show w.heap.size ≤ w.heap.size + 2; omega) _⟩
    case measure => simp [intOf]; omega
   ·have hq : (k : Int) / 64 = 3 := by omega
    have E := Lib.hid (plain_bit p k r hr 3 h4)
    have c0 : wr.cell? ⟨w.heap.size, 3, none⟩ = some (.int .u64 (word p 3 : Nat)) := h0.cell 3
    have E := E.out
    clear h4 hr
    go_wp2_with fail
    go_roundw
    case rel => exact ⟨k + 1, by omega, by go_num, h0.far (by show w.heap.size ≠ w.heap.size + 2; omega) _, by rw [← hst.out]; exact h1.set_ k _, h3.far (by show w.heap.size + 1 ≠ w.heap.size + 2; omega) _, Later.setCell hl (by show w.heap.size ≤ w.heap.size + 2; omega) _⟩
    case measure => simp [intOf]; omega
  ·obtain rfl : k = 256 := by omega
   have he : boolC (mLow p 256) = boolC p := boolC_ext _ _ fun b hb => by unfold mLow; rw [decide_eq_true hb, Bool.true_and]
   rw [he] at h1
   clear he
   have R1 : Hid (wr.rangeAt (w.heap.size + 2) 0 (boolC p).toList) := rangeB h1
   have R2 : Hid (wr.there (w.heap.size + 1) 0 (boolC p).size) := thereB h3
   go_wp2_with (first
    | (refine wpList_load_mid (P := Tryz.prog) rfl 181 (.tmp 3) rfl (w.heap.size + 2) 0 rfl (boolC p).toList _ R1.out Tryz.underlying181 rfl (sizeB p) ?_)
    | (refine wpList_store_mid (P := Tryz.prog) rfl 181 (.tmp 2) (.tmp 21) rfl (w.heap.size + 1) 0 (boolC p) rfl rfl R2.out (sizeB' p) (oneB p) ?_))
   have hld := run_loadVar_mid (P := Tryz.prog) _ (w.heap.size + 1) 0 181 (boolC p).toList _ (World.rangeAt_setCells_same wr (w.heap.size + 1) 0 (boolC p).toList (by rw [Array.length_toList]; exact R2.out)) Tryz.underlying181 rfl (sizeB p)
   rw [Array.toArray_toList] at hld
   refine bodyPost_ret (v := .agg (boolC p)) ?_ rfl ⟨rfl, laterCellsG hl (Nat.le_succ _) _ _⟩
   simp [results, Tryz.results120, Act.put, asAddr, hld]
end Go.Proofs.YtmkddhkpeiajhaaGreatDoor
