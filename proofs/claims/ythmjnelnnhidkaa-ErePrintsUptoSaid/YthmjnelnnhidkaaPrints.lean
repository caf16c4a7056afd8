import Derived.Test.YthmjnelnnhidkaaRxs
import Derived.Test.YthmjnelnnhidkaaTreeRows
import Derived.Deep.RegionHeldLaw
import Derived.StillTailTactics
import Derived.Deep.CutBlock
import Derived.Deep.DeepCutAuto
import Derived.Test.YthmjnelnnhidkaaPlain
import Derived.Test.YthmjnelnnhidkaaEText
import Derived.Laws.CopyOwn
import Derived.Test.YthmjnelnnhidkaaPrintAll
import Derived.Test.YthmjnelnnhidkaaRightLaw
import Derived.Test.YthmjnelnnhidkaaHRe
import Derived.Test.YthmjnelnnhidkaaTwisted
import Derived.Test.YthmjnelnnhidkaaHRe2
import Derived.Test.YthmjnelnnhidkaaLaterQ
import Derived.Test.YthmjnelnnhidkaaBrk
import Derived.Test.YthmjnelnnhidkaaRefShaped
import Derived.Test.YthmjnelnnhidkaaEreKn
import Derived.Test.YthmjnelnnhidkaaAsB
import Derived.Test.YthmjnelnnhidkaaRowsAll
/-
  The document's matcher: from which places to which: plain.
-/
namespace Go.Proofs.Ythmjnelnnhidkaa

/-- this place is on -/
def On (l : List Bool) (i : Nat) : Prop := l[i]? = some true
/-- from these places a match may end just there -/
def Sees (x : List UInt8) (r : Rx) (B C : List Bool) : Prop := C.length = B.length ∧ ∀ j, On C j ↔ ∃ i, On B i ∧ Mt x r i j
def orL : List Bool → List Bool → List Bool
  | a :: l, b :: m => (a || b) :: orL l m
  | _, _ => []
theorem orL_len : ∀ {B C : List Bool}, C.length = B.length → (orL B C).length = B.length
  | [], [], _ => rfl
  | [], _ :: _, h => by cases h
  | _ :: _, [], h => by cases h
  | a :: l, b :: m, h => by rw [orL, List.length_cons, orL_len (by simpa using h)]; rfl
theorem orL_on : ∀ {B C : List Bool}, C.length = B.length → ∀ j, On (orL B C) j ↔ On B j ∨ On C j
  | [], [], _, j => by unfold On; simp [orL]
  | [], _ :: _, h, _ => by cases h
  | _ :: _, [], h, _ => by cases h
  | a :: l, b :: m, h, 0 => by unfold On orL; simp
  | a :: l, b :: m, h, j + 1 => by
    have := orL_on (B := l) (C := m) (by simpa using h) j
    unfold On at this ⊢
    rw [orL]
    simpa using this
theorem On.lt {l : List Bool} {i : Nat} (h : On l i) : i < l.length := (List.getElem?_eq_some_iff.1 h).1
theorem on_ext : ∀ {B C : List Bool}, C.length = B.length → (∀ j, On B j ↔ On C j) → B = C := by
  intro B C hl h
  apply List.ext_getElem hl.symm
  intro i h1 h2
  have := h i
  unfold On at this
  rw [List.getElem?_eq_getElem h1, List.getElem?_eq_getElem h2] at this
  simp only [Option.some.injEq] at this
  exact Bool.eq_iff_iff.2 this
/-- there is only one answer -/
theorem Sees.one {x : List UInt8} {r : Rx} {B C D : List Bool} (h1 : Sees x r B C) (h2 : Sees x r B D) : C = D :=
  on_ext (h2.1.trans h1.1.symm) fun j => (h1.2 j).trans (h2.2 j).symm
section
variable {x : List UInt8} {a b : Rx} {B C D : List Bool}
theorem sees_eps : Sees x .eps B B := ⟨rfl, fun j => ⟨fun h => ⟨j, h, rfl⟩, fun ⟨i, h, e⟩ => by have e : i = j := e; rw [← e]; exact h⟩⟩
theorem sees_cat (h1 : Sees x a B C) (h2 : Sees x b C D) : Sees x (.cat a b) B D :=
  ⟨h2.1.trans h1.1, fun j => by
    rw [h2.2 j]
    exact ⟨fun ⟨k, hk, hm⟩ => by obtain ⟨i, hi, hm'⟩ := (h1.2 k).1 hk; exact ⟨i, hi, k, hm', hm⟩, fun ⟨i, hi, k, hm', hm⟩ => ⟨k, (h1.2 k).2 ⟨i, hi, hm'⟩, hm⟩⟩⟩
theorem sees_alt (h1 : Sees x a B C) (h2 : Sees x b B D) : Sees x (.alt a b) B (orL C D) :=
  ⟨(orL_len (h2.1.trans h1.1.symm)).trans h1.1, fun j => by
    rw [orL_on (h2.1.trans h1.1.symm), h1.2 j, h2.2 j]
    exact ⟨fun h => h.elim (fun ⟨i, hi, hm⟩ => ⟨i, hi, .inl hm⟩) (fun ⟨i, hi, hm⟩ => ⟨i, hi, .inr hm⟩), fun ⟨i, hi, hm⟩ => hm.elim (fun hm => .inl ⟨i, hi, hm⟩) (fun hm => .inr ⟨i, hi, hm⟩)⟩⟩
theorem sees_opt (h1 : Sees x a B C) : Sees x (.opt a) B (orL B C) :=
  ⟨orL_len h1.1, fun j => by
    rw [orL_on h1.1, h1.2 j]
    exact ⟨fun h => h.elim (fun h => ⟨j, h, .inl rfl⟩) (fun ⟨i, hi, hm⟩ => ⟨i, hi, .inr hm⟩), fun ⟨i, hi, hm⟩ => hm.elim (fun e => .inl (by rw [← e]; exact hi)) (fun hm => .inr ⟨i, hi, hm⟩)⟩⟩
theorem sees_plus (h1 : Sees x a B C) (h2 : Sees x (.star a) C D) : Sees x (.plus a) B D :=
  ⟨h2.1.trans h1.1, fun j => by
    rw [h2.2 j]
    exact ⟨fun ⟨k, hk, hm⟩ => by obtain ⟨i, hi, hm'⟩ := (h1.2 k).1 hk; exact ⟨i, hi, k, hm', hm⟩, fun ⟨i, hi, k, hm', hm⟩ => ⟨k, (h1.2 k).2 ⟨i, hi, hm'⟩, hm⟩⟩⟩
/-- in the midst of the star's loop: all that is on is reached, and what one set out from is on -/
def Stars (x : List UInt8) (a : Rx) (B all : List Bool) : Prop := all.length = B.length ∧ (∀ j, On B j → On all j) ∧ ∀ j, On all j → ∃ i, On B i ∧ Many (Mt x a) i j
theorem stars_start : Stars x a B B := ⟨rfl, fun _ h => h, fun j h => ⟨j, h, .nil j⟩⟩
theorem stars_next {all : List Bool} (h : Stars x a B all) (h1 : Sees x a all C) : Stars x a B (orL all C) :=
  ⟨(orL_len h1.1).trans h.1, fun j hj => (orL_on h1.1 j).2 (.inl (h.2.1 j hj)), fun j hj => by
    rcases (orL_on h1.1 j).1 hj with hj | hj
    · exact h.2.2 j hj
    · obtain ⟨k, hk, hm⟩ := (h1.2 j).1 hj
      obtain ⟨i, hi, hm'⟩ := h.2.2 k hk
      exact ⟨i, hi, hm'.snoc hm⟩⟩
theorem many_on {R : Nat → Nat → Prop} {all : List Bool} (hcl : ∀ k m, On all k → R k m → On all m) {i j : Nat} (h : Many R i j) : On all i → On all j := by
  induction h with
  | nil => exact id
  | cons h' _ ih => exact fun h0 => ih (hcl _ _ h0 h')
theorem stars_end {all : List Bool} (h : Stars x a B all) (h1 : Sees x a all C) (he : orL all C = all) : Sees x (.star a) B all :=
  ⟨h.1, fun j => ⟨h.2.2 j, fun ⟨i, hi, hm⟩ => many_on (fun k m hk hkm => by rw [← he]; exact (orL_on h1.1 m).2 (.inr ((h1.2 m).2 ⟨k, hk, hkm⟩))) hm (h.2.1 i hi)⟩⟩
/-- how many are off -/
def offs (l : List Bool) : Nat := l.countP fun b => !b
theorem offs_or : ∀ {B C : List Bool}, C.length = B.length → orL B C ≠ B → offs (orL B C) < offs B
  | [], [], _, h => absurd rfl h
  | [], _ :: _, h, _ => by cases h
  | _ :: _, [], h, _ => by cases h
  | a :: l, b :: m, hl, h => by
    have hl' : m.length = l.length := by simpa using hl
    have hle : ∀ {B C : List Bool}, C.length = B.length → offs (orL B C) ≤ offs B := by
      intro B
      induction B with
      | nil => intro C h; cases C with | nil => exact Nat.le_refl _ | cons _ _ => cases h
      | cons p l ih =>
        intro C h
        cases C with
        | nil => cases h
        | cons q m =>
          have := ih (C := m) (by simpa using h)
          unfold offs at this ⊢
          rw [orL, List.countP_cons, List.countP_cons]
          cases p <;> cases q <;> simp <;> omega
    by_cases he : orL l m = l
    · have hab : (a || b) ≠ a := fun e => h (by rw [orL, he, e])
      have := hle hl'
      unfold offs at this ⊢
      rw [orL, List.countP_cons, List.countP_cons]
      cases a <;> cases b <;> simp at hab ⊢ <;> omega
    · have := offs_or hl' he
      unfold offs at this ⊢
      rw [orL, List.countP_cons, List.countP_cons]
      cases a <;> cases b <;> simp <;> omega
end

end Go.Proofs.Ythmjnelnnhidkaa

/-
  Rows of bools: the document's places; the contract of either.
-/
namespace Go.Proofs.Ythmjnelnnhidkaa
open Go.RowKit

def boL (l : List Bool) : List Value := l.map Value.bool
/-- a slice that reads as these bools -/
def RdO (w : World) (A : Option Addr) (n : Nat) (l : List Bool) : Prop := l.length = n ∧ Reads w w.heap.size 1 A n (boL l)
/-- bools that a call has made in a row of its own -/
def OwnO (w : World) (base : Nat) (A : Option Addr) (n c : Nat) (l : List Bool) : Prop := l.length = n ∧ w.ownsRow base 4 1 (.slice A n c) n (boL l)
theorem bool_info : (Try.prog.info? 4).map (fun i => (i.zero, i.size, i.bytes)) = some (some (.bool false), 1, 1) := by kernel_rfl
section
variable {w w' : World} {base n c : Nat} {A : Option Addr} {l : List Bool}
theorem RdO.later (h : RdO w A n l) (hl : Later w w') : RdO w' A n l := ⟨h.1, (h.2.below hl).more hl.size⟩
theorem OwnO.rd (h : OwnO w base A n c l) : RdO w A n l := ⟨h.1, Reads.of_own h.2⟩
theorem OwnO.later (h : OwnO w base A n c l) (hl : Later w w') : OwnO w' base A n c l := ⟨h.1, ownsRow_fr h.2 (Fr.laterF hl) (fun _ _ h => h)⟩
theorem boL_get {k : Nat} {x : Bool} (h : l[k]? = some x) : (boL l)[k]? = some (.bool x) := by unfold boL; rw [List.getElem?_map, h]; rfl
theorem RdO.at_ (h : RdO w A n l) {k : Nat} {x : Bool} (hx : l[k]? = some x) : ∃ b off, A = some ⟨b, off, none⟩ ∧ b < w.heap.size ∧ w.cell? ⟨b, off + k, none⟩ = some (.bool x) := by
  have hk : k < n := by have := (List.getElem?_eq_some_iff.1 hx).1; have := h.1; omega
  obtain ⟨ad, rfl, hb, hc⟩ := h.2.2 (by omega)
  have h0 := hc k _ (boL_get hx)
  obtain ⟨b, off, sp⟩ := ad
  have hl : 0 < l.length := by have := (List.getElem?_eq_some_iff.1 hx).1; omega
  have hz := hc 0 _ (boL_get (List.getElem?_eq_getElem hl))
  have hsp : sp = none := by simpa [Addr.add] using World.cell?_spot hz
  subst hsp
  exact ⟨b, off, rfl, hb, by rw [Addr.add_lit] at h0; exact h0⟩
theorem boL_set (l : List Bool) (k : Nat) (x : Bool) : boL (l.set k x) = (boL l).set k (.bool x) := by unfold boL; rw [List.map_set]
end
theorem made_bools (n : Nat) (hn : n ≤ 10000000) : ∃ Z : Array Value, (∀ (w : World) (base : Nat), base ≤ w.heap.size → OwnO (w.alloc (.cells Z 4)) base (some ⟨w.heap.size, 0, none⟩) n n (List.replicate n false)) ∧
    ∀ w : World, (Instr.makeSlice 101 (.int .i64 (n : Int)) (.int .i64 (n : Int))).run Try.prog w = .ok (.slice (some ⟨w.heap.size, 0, none⟩) n n) (w.alloc (.cells Z 4)) := by
  obtain ⟨i0, hi, hz0, hz1, hz2⟩ := info_parts bool_info
  have hz : madeCells (Value.bool false).cells n = (boL (List.replicate n false)).toArray := by
    apply Array.ext'
    simp [madeCells, Value.cells, boL]
    refine List.ext_getElem (by simp) fun i h1 h2 => ?_
    simp [Nat.mod_one]
  refine ⟨madeCells (Value.bool false).cells n, fun w base hb => ⟨List.length_replicate .., ?_⟩, fun w => ?_⟩
  · refine ⟨by unfold boL; simp, .inr ⟨w.heap.size, n, _, rfl, hb, Blk.new w _ _, Nat.le_refl _, by unfold maxLen; omega, ?_, ?_⟩⟩
    · rw [hz]; simp [boL]
    · rw [hz]; simp [boL]
  · have hr := run_make (P := Try.prog) w 101 4 i0 (.bool false) Try.underlying101 hi hz0 .i64 .i64 n n (by omega) (Int.le_refl _) (by rw [hz2]; omega) (by omega)
    rw [hz1] at hr
    simpa using hr
theorem own_seto {w : World} {base n c g k : Nat} {l : List Bool} (h : OwnO w base (some ⟨g, 0, none⟩) n c l) (x : Bool) (hk : k < n) : OwnO (w.setCell ⟨g, k, none⟩ (.bool x)) base (some ⟨g, 0, none⟩) n c (l.set k x) := by
  refine ⟨by rw [List.length_set]; exact h.1, ?_⟩
  rw [boL_set]
  rcases h.2.2 with ⟨e1, _⟩ | ⟨g', cap, cur, hv, h1, h2, h3, h4, h5, h6⟩
  · cases e1
  · injection hv with hv hv2 hv3
    injection hv with hv
    injection hv with hv hv4
    subst hv hv3
    refine ⟨by rw [List.length_set]; exact h.2.1, .inr ⟨g, c, cur.setIfInBounds k (.bool x), rfl, h1, ?_, h3, h4, by rw [Array.size_setIfInBounds]; exact h5, ?_⟩⟩
    · exact Blk.set_ (t := 4) (cs := cur) h2 k _
    · rw [Array.toList_setIfInBounds, List.take_set, h6]
/-- what a function that makes a row of bools leaves -/
def RetO (w : World) (l : List Bool) (e : Ending) (w' : World) : Prop := ∃ A n c, e = .returned (.slice A n c) ∧ OwnO w' w.heap.size A n c l ∧ Later w w'

/-- the first j of a row, the others off -/
def mixL (l : List Bool) (j : Nat) : List Bool := l.take j ++ List.replicate (l.length - j) false
theorem mix_zero (l : List Bool) : mixL l 0 = List.replicate l.length false := by unfold mixL; simp
theorem mix_all (l : List Bool) : mixL l l.length = l := by unfold mixL; simp
theorem mix_next (l : List Bool) (j : Nat) (x : Bool) (h : l[j]? = some x) : (mixL l j).set j x = mixL l (j + 1) := by
  have hj := (List.getElem?_eq_some_iff.1 h).1
  unfold mixL
  rw [List.set_append_right _ _ (by rw [List.length_take]; omega), List.length_take, Nat.min_eq_left (by omega), Nat.sub_self]
  obtain ⟨m, hm⟩ : ∃ m, l.length - j = m + 1 := ⟨l.length - j - 1, by omega⟩
  rw [hm, List.replicate_succ, List.set_cons_zero, List.take_add_one, h, show l.length - (j + 1) = m by omega]
  simp

set_option maxRecDepth 100000 in
set_option maxHeartbeats 4000000 in
theorem either_any (A : Option Addr) (n c : Nat) (l : List Bool) (A2 : Option Addr) (c2 : Nat) (l2 : List Bool) (w : World) (h1 : RdO w A n l) (h2 : RdO w A2 n l2) (hn : n ≤ 1000001) :
    Calls Try.prog 72 #[.slice A n c, .slice A2 n c2] w (RetO w (orL l l2)) := by
  have hol : (orL l l2).length = n := (orL_len (h2.1.trans h1.1.symm)).trans h1.1
  obtain ⟨Z, hZ, hmk⟩ := made_bools n (by omega)
  obtain ⟨R, hR⟩ : ∃ R, R = orL l l2 := ⟨_, rfl⟩
  have hget : ∀ (j : Nat) (x y : Bool), l[j]? = some x → l2[j]? = some y → R[j]? = some (x || y) := by
    intro j x y hx hy
    rw [hR]
    clear hR hol h1 h2
    induction l generalizing l2 j with
    | nil => cases hx
    | cons a l ih =>
      cases l2 with
      | nil => cases hy
      | cons b m =>
        cases j with
        | zero => injection hx with hx; injection hy with hy; subst hx hy; rfl
        | succ j => exact ih m j hx hy
  rw [← hR] at hol ⊢
  have HG := Lib.hid hget
  have HO := Lib.hid hol
  clear hget hol hR
  go_enter Try.func72, Try.ntmps72
  go_wp2_with fail
  go_loopw [6] (fun s6 wr => ∃ j : Nat, j ≤ n ∧ s6 = .int .i64 (j : Int) ∧ OwnO wr w.heap.size (some ⟨w.heap.size, 0, none⟩) n n (mixL R j) ∧ Later w wr) (fun s6 _ => n - (intOf s6).toNat)
  case atStart => exact ⟨0, Nat.zero_le _, rfl, by rw [mix_zero, HO.out]; exact hZ w _ (Nat.le_refl _), (Later.refl w).alloc _⟩
  case round =>
    obtain ⟨j, hj, rfl, hown, hlr⟩ := hrel
    by_cases hlt : j < n
    · have hlti : (j : Int) < (n : Int) := by omega
      obtain ⟨x, hx⟩ : ∃ x, l[j]? = some x := ⟨_, List.getElem?_eq_getElem (by rw [h1.1]; exact hlt)⟩
      obtain ⟨y, hy⟩ : ∃ y, l2[j]? = some y := ⟨_, List.getElem?_eq_getElem (by rw [h2.1]; exact hlt)⟩
      obtain ⟨b1, o1, rfl, hb1, e1⟩ := (h1.later hlr).at_ hx
      obtain ⟨b2, o2, rfl, hb2, e2⟩ := (h2.later hlr).at_ hy
      have hxy := HG.out j x y hx hy
      have hnx := mix_next R j _ hxy
      obtain ⟨_, _, _, _, hfz⟩ : ∃ (cs : Array Value) (_ : Blk wr w.heap.size 4 cs) (v : Value) (_ : wr.cell? ⟨w.heap.size, j, none⟩ = some v), wr.frozen? ⟨w.heap.size, j, none⟩ = false := by
        obtain ⟨_, _, cs, hB⟩ := own_row_blk hown.2 (k := w.heap.size) rfl
        have hjm : j < (mixL R j).length := by rw [hown.1]; exact hlt
        obtain ⟨b, o, hA, _, hc⟩ := hown.rd.at_ (k := j) (List.getElem?_eq_getElem hjm)
        injection hA with hA
        injection hA with hA1 hA2
        subst hA1 hA2
        rw [Nat.zero_add] at hc
        exact ⟨cs, hB, _, hc, hB.frozen j⟩
      have hset := own_seto hown (x || y) hlt
      rw [hnx] at hset
      have HS := Lib.hid hset
      have hls : Later w (wr.setCell ⟨w.heap.size, j, none⟩ (.bool (x || y))) := Later.setCell hlr (Nat.le_refl _) _
      have HLS := Lib.hid hls
      clear hx hy hxy hnx hset hls hown
      cases x with
      | true =>
        go_wp2_with fail
        go_roundw
        case rel => exact ⟨j + 1, by omega, by go_num, HS.out, HLS.out⟩
        case measure => simp [intOf]; omega
      | false =>
        go_wp2_with fail
        go_roundw
        case rel => exact ⟨j + 1, by omega, by go_num, HS.out, HLS.out⟩
        case measure => simp [intOf]; omega
    · obtain rfl : n = j := by omega
      go_wp2_with fail
      go_ret
      refine ⟨_, _, _, rfl, ?_, hlr⟩
      have := hown
      rw [show mixL R n = R by have := mix_all R; rw [HO.out] at this; exact this] at this
      exact this

end Go.Proofs.Ythmjnelnnhidkaa

/-
  The contracts of the document's step, star, of any term.
-/
namespace Go.Proofs.Ythmjnelnnhidkaa
open Go.RowKit

theorem kidO_at {w : World} {lo : Nat → Prop} {n p0 off : Nat} {xs : List ReX} (hL : LoR w lo 6 (some ⟨p0, off, none⟩) n (xs.flatMap reL)) {i : Nat} {y : ReX} (hi : i < n) (hy : xs[i]? = some y) :
    w.cell? ⟨p0, off + i * 6, none⟩ = some (.int .i64 y.k) ∧ w.cell? ⟨p0, off + i * 6 + 1, none⟩ = some (.int .u64 y.a) ∧ w.cell? ⟨p0, off + i * 6 + 2, none⟩ = some (.int .u64 y.b) ∧ w.cell? ⟨p0, off + i * 6 + 3, none⟩ = some (.int .u64 y.c) ∧ w.cell? ⟨p0, off + i * 6 + 4, none⟩ = some (.int .u64 y.d) ∧ w.cell? ⟨p0, off + i * 6 + 5, none⟩ = some (.slice y.A y.n y.cp) := by
  obtain ⟨b, o, hA, h⟩ := hL.six hi hy
  injection hA with hA
  injection hA with h1 h2
  subst h1 h2
  exact h
theorem oneO {w : World} {lo : Nat → Prop} {kd k : Int} {t : Tree} {a b c d : Int} {A : Option Addr} {n cp : Nat} (h : ReC w lo (.node kd z4 [t]) ⟨k, a, b, c, d, A, n, cp⟩) :
    k = kd ∧ a = 0 ∧ b = 0 ∧ c = 0 ∧ d = 0 ∧ n = 1 ∧ 1 ≤ cp ∧ ∃ p0 off xs y0, A = some ⟨p0, off, none⟩ ∧ LoR w lo 6 A 1 (List.flatMap reL xs) ∧ xs[0]? = some y0 ∧ ReC w lo t y0 := by
  unfold ReC at h
  obtain ⟨hk, ⟨ha, hb, hc, hd⟩, hn, hcp, xs, hL, hKs⟩ := h
  obtain ⟨y0, h0, hC0⟩ := hKs.get 0 t rfl
  have hn : n = 1 := hn.symm
  subst hn
  obtain ⟨p0, off, hA, _⟩ := hL.six (i := 0) (by simp) h0
  exact ⟨hk, ha, hb, hc, hd, rfl, hcp, p0, off, xs, y0, hA, hL, h0, hC0⟩
theorem twoO {w : World} {lo : Nat → Prop} {kd k : Int} {t u : Tree} {a b c d : Int} {A : Option Addr} {n cp : Nat} (h : ReC w lo (.node kd z4 [t, u]) ⟨k, a, b, c, d, A, n, cp⟩) :
    k = kd ∧ a = 0 ∧ b = 0 ∧ c = 0 ∧ d = 0 ∧ n = 2 ∧ 2 ≤ cp ∧ ∃ p0 off xs y0 y1, A = some ⟨p0, off, none⟩ ∧ LoR w lo 6 A 2 (List.flatMap reL xs) ∧ xs[0]? = some y0 ∧ xs[1]? = some y1 ∧ ReC w lo t y0 ∧ ReC w lo u y1 := by
  unfold ReC at h
  obtain ⟨hk, ⟨ha, hb, hc, hd⟩, hn, hcp, xs, hL, hKs⟩ := h
  obtain ⟨y0, h0, hC0⟩ := hKs.get 0 t rfl
  obtain ⟨y1, h1, hC1⟩ := hKs.get 1 u rfl
  have hn : n = 2 := hn.symm
  subst hn
  obtain ⟨p0, off, hA, _⟩ := hL.six (i := 0) (by simp) h0
  exact ⟨hk, ha, hb, hc, hd, rfl, hcp, p0, off, xs, y0, y1, hA, hL, h0, h1, hC0, hC1⟩

/-- what step, star leave -/
def Stepped (x : List UInt8) (r : Rx) (B : List Bool) (w : World) (e : Ending) (w' : World) : Prop := ∃ C, Sees x r B C ∧ RetO w C e w'
def StepAt (S : ByteArray) (r : Rx) : Prop := ∀ (lo : Nat → Prop) (k a b c d : Int) (A : Option Addr) (n cp : Nat) (An : Option Addr) (m c2 : Nat) (B : List Bool) (w : World), ReC w lo (rxT r) ⟨k, a, b, c, d, A, n, cp⟩ → RdO w An m B → m = S.size + 1 →
  Calls Try.prog 59 #[.agg #[.int .i64 k, .int .u64 a, .int .u64 b, .int .u64 c, .int .u64 d, .slice A n cp], .string S, .slice An m c2] w (Stepped S.data.toList r B w)
def StarAt (S : ByteArray) (r : Rx) : Prop := ∀ (lo : Nat → Prop) (k a b c d : Int) (A : Option Addr) (n cp : Nat) (An : Option Addr) (m c2 : Nat) (B : List Bool) (w : World), ReC w lo (rxT r) ⟨k, a, b, c, d, A, n, cp⟩ → RdO w An m B → m = S.size + 1 →
  Calls Try.prog 73 #[.agg #[.int .i64 k, .int .u64 a, .int .u64 b, .int .u64 c, .int .u64 d, .slice A n cp], .string S, .slice An m c2] w (Stepped S.data.toList (.star r) B w)
theorem Stepped.back {x : List UInt8} {r : Rx} {B : List Bool} {w w1 : World} {e : Ending} {w' : World} (hl : Later w w1) (h : Stepped x r B w1 e w') : Stepped x r B w e w' := by
  obtain ⟨C, h1, A, n, c, h2, h3, h4⟩ := h
  refine ⟨C, h1, A, n, c, h2, ⟨h3.1, h3.2.1, h3.2.2.imp id fun ⟨g, cap, cur, q1, q2, q3⟩ => ⟨g, cap, cur, q1, Nat.le_trans hl.size q2, q3⟩⟩, hl.trans h4⟩

theorem addO (off i : Nat) : off + 0 * 6 + i = off + i := by omega
theorem kidsL1 {w : World} {lo : Nat → Prop} {b3 p0 off cp : Nat} {kd : Int} {xs : List ReX} {y0 : ReX} (hB : Blk w b3 49 #[.int .i64 kd, .int .u64 0, .int .u64 0, .int .u64 0, .int .u64 0, .slice (some ⟨p0, off, none⟩) 1 cp]) (hL : LoR w lo 6 (some ⟨p0, off, none⟩) 1 (xs.flatMap reL)) (h0 : xs[0]? = some y0) (wx : World) (hf : Later w wx) : wx.cell? ⟨b3, 5, none⟩ = some (.slice (some ⟨p0, off, none⟩) 1 cp) ∧ wx.cell? ⟨p0, off, none⟩ = some (.int .i64 y0.k) ∧ wx.cell? ⟨p0, off + 1, none⟩ = some (.int .u64 y0.a) ∧ wx.cell? ⟨p0, off + 2, none⟩ = some (.int .u64 y0.b) ∧ wx.cell? ⟨p0, off + 3, none⟩ = some (.int .u64 y0.c) ∧ wx.cell? ⟨p0, off + 4, none⟩ = some (.int .u64 y0.d) ∧ wx.cell? ⟨p0, off + 5, none⟩ = some (.slice y0.A y0.n y0.cp) := by
  have hB1 := blkL hf hB
  have hL1 := LoR.fr hL (Fr.laterF hf) (spares_false _ _)
  obtain ⟨e0, e1, e2, e3, e4, e5⟩ := kidO_at hL1 (i := 0) (by omega) h0
  simp only [addO] at e1 e2 e3 e4 e5
  rw [show off + 0 * 6 = off by omega] at e0
  exact ⟨hB1.cell 5, e0, e1, e2, e3, e4, e5⟩
theorem kidsL2 {w : World} {lo : Nat → Prop} {b3 p0 off cp : Nat} {kd : Int} {xs : List ReX} {y0 y1 : ReX} (hB : Blk w b3 49 #[.int .i64 kd, .int .u64 0, .int .u64 0, .int .u64 0, .int .u64 0, .slice (some ⟨p0, off, none⟩) 2 cp]) (hL : LoR w lo 6 (some ⟨p0, off, none⟩) 2 (xs.flatMap reL)) (h0 : xs[0]? = some y0) (h1 : xs[1]? = some y1) (wx : World) (hf : Later w wx) : wx.cell? ⟨b3, 5, none⟩ = some (.slice (some ⟨p0, off, none⟩) 2 cp) ∧ wx.cell? ⟨p0, off, none⟩ = some (.int .i64 y0.k) ∧ wx.cell? ⟨p0, off + 1, none⟩ = some (.int .u64 y0.a) ∧ wx.cell? ⟨p0, off + 2, none⟩ = some (.int .u64 y0.b) ∧ wx.cell? ⟨p0, off + 3, none⟩ = some (.int .u64 y0.c) ∧ wx.cell? ⟨p0, off + 4, none⟩ = some (.int .u64 y0.d) ∧ wx.cell? ⟨p0, off + 5, none⟩ = some (.slice y0.A y0.n y0.cp) ∧ wx.cell? ⟨p0, off + 6, none⟩ = some (.int .i64 y1.k) ∧ wx.cell? ⟨p0, off + 7, none⟩ = some (.int .u64 y1.a) ∧ wx.cell? ⟨p0, off + 8, none⟩ = some (.int .u64 y1.b) ∧ wx.cell? ⟨p0, off + 9, none⟩ = some (.int .u64 y1.c) ∧ wx.cell? ⟨p0, off + 10, none⟩ = some (.int .u64 y1.d) ∧ wx.cell? ⟨p0, off + 11, none⟩ = some (.slice y1.A y1.n y1.cp) := by
  have hB1 := blkL hf hB
  have hL1 := LoR.fr hL (Fr.laterF hf) (spares_false _ _)
  obtain ⟨e0, e1, e2, e3, e4, e5⟩ := kidO_at hL1 (i := 0) (by omega) h0
  simp only [addO] at e1 e2 e3 e4 e5
  rw [show off + 0 * 6 = off by omega] at e0
  obtain ⟨g0, g1, g2, g3, g4, g5⟩ := kidO_at hL1 (i := 1) (by omega) h1
  rw [show off + 1 * 6 = off + 6 by omega] at g0 g1 g2 g3 g4 g5
  simp only [Nat.add_assoc, Nat.reduceAdd] at g1 g2 g3 g4 g5
  exact ⟨hB1.cell 5, e0, e1, e2, e3, e4, e5, g0, g1, g2, g3, g4, g5⟩
set_option maxRecDepth 100000 in
set_option maxHeartbeats 4000000 in
theorem step_cat (S : ByteArray) (hS : S.size ≤ 1000000) (x y : Rx) (hx : StepAt S x) (hy : StepAt S y) : StepAt S (.cat x y) := by
  intro lo k a b c d A n cp An m c2 B w hC hR hm
  obtain ⟨rfl, rfl, rfl, rfl, rfl, rfl, hcp, p0, off, xs, y0, y1, rfl, hL, h0, h1, hC0, hC1⟩ := twoO hC
  obtain ⟨Z, hZ, hmk⟩ := made_bools m (by omega)
  clear hZ
  obtain ⟨W1, hW1⟩ : ∃ W1, W1 = (w.alloc (.cells #[.int .i64 2, .int .u64 0, .int .u64 0, .int .u64 0, .int .u64 0, .slice (some ⟨p0, off, none⟩) 2 cp] 49)).alloc (.cells Z 4) := ⟨_, rfl⟩
  have hlw : Later w W1 := by rw [hW1]; exact ((Later.refl w).alloc _).alloc _
  have B3 : Blk W1 w.heap.size 49 #[.int .i64 2, .int .u64 0, .int .u64 0, .int .u64 0, .int .u64 0, .slice (some ⟨p0, off, none⟩) 2 cp] := by rw [hW1]; exact (Blk.new w _ _).alloc _
  obtain ⟨b3, hb3⟩ : ∃ b3, b3 = w.heap.size := ⟨_, rfl⟩
  rw [← hb3] at B3
  have hL1 := LoR.fr hL (Fr.laterF hlw) (spares_false _ _)
  have KF := Lib.hid (kidsL2 B3 hL1 h0 h1)
  have hC0 := hC0.later hlw
  have hR1 := hR.later hlw
  have hC1 := hC1.later hlw
  have hia : ∀ wx, Later W1 wx → Calls Try.prog 59 #[.agg #[.int .i64 y0.k, .int .u64 y0.a, .int .u64 y0.b, .int .u64 y0.c, .int .u64 y0.d, .slice y0.A y0.n y0.cp], .string S, .slice An m c2] wx (Stepped S.data.toList x B wx) := fun wx hl => hx lo _ _ _ _ _ _ _ _ An m c2 B wx (hC0.later hl) (hR1.later hl) hm
  have hib : ∀ w3 wx C A' n' c', Later W1 w3 → Later w3 wx → Sees S.data.toList x B C → RdO w3 A' n' C → Calls Try.prog 59 #[.agg #[.int .i64 y1.k, .int .u64 y1.a, .int .u64 y1.b, .int .u64 y1.c, .int .u64 y1.d, .slice y1.A y1.n y1.cp], .string S, .slice A' n' c'] wx (Stepped S.data.toList y C wx) := fun w3 wx C A' n' c' h1 h2 hs hr =>
    hy lo _ _ _ _ _ _ _ _ A' n' c' C wx ((hC1.later h1).later h2) (hr.later h2) (by rw [← hr.1, hs.1, hR.1]; exact hm)
  have HIA := Lib.hid hia
  have HIB := Lib.hid hib
  have HLW := Lib.hid hlw
  have hph : Later W1 W1 := Later.refl _
  obtain ⟨z0, z1, z2, z3, z4, z5, z6, z7, z8, z9, z10, z11, z12⟩ := KF.out W1 hph
  have hmi : (m : Int) ≤ 1000001 := by omega
  clear hC hR hR1 hC0 hC1 hx hy hL hL1 h0 h1 hia hib hlw hm
  go_enter Try.func59, Try.ntmps59
  go_upto_region 16 with fail
  rw [← hW1, ← hb3]
  clear hW1 hb3 hmk
  go_region_held_law (fun w' => w'.cell? ⟨b3, 5, none⟩ = some (.slice (some ⟨p0, off, none⟩) 2 cp) ∧ w'.cell? ⟨p0, off, none⟩ = some (.int .i64 y0.k) ∧ w'.cell? ⟨p0, off + 1, none⟩ = some (.int .u64 y0.a) ∧ w'.cell? ⟨p0, off + 2, none⟩ = some (.int .u64 y0.b) ∧ w'.cell? ⟨p0, off + 3, none⟩ = some (.int .u64 y0.c) ∧ w'.cell? ⟨p0, off + 4, none⟩ = some (.int .u64 y0.d) ∧ w'.cell? ⟨p0, off + 5, none⟩ = some (.slice y0.A y0.n y0.cp) ∧ w'.cell? ⟨p0, off + 6, none⟩ = some (.int .i64 y1.k) ∧ w'.cell? ⟨p0, off + 7, none⟩ = some (.int .u64 y1.a) ∧ w'.cell? ⟨p0, off + 8, none⟩ = some (.int .u64 y1.b) ∧ w'.cell? ⟨p0, off + 9, none⟩ = some (.int .u64 y1.c) ∧ w'.cell? ⟨p0, off + 10, none⟩ = some (.int .u64 y1.d) ∧ w'.cell? ⟨p0, off + 11, none⟩ = some (.slice y1.A y1.n y1.cp)) (exact KF.out _ (by repeat (first | (with_reducible exact hph) | (with_reducible apply Later.drew) | (with_reducible apply Later.alloc))))
    ((first
      | (((go_at_call 59; (with_reducible refine (HIA.out _ (by repeat (first | (with_reducible exact hph) | (with_reducible apply Later.drew) | (with_reducible apply Later.alloc)))).mono ?_)); rintro e w3 ⟨C, hsC, A3, n3, c3, rfl, ho3, hl3⟩); have hph := Later.trans (by repeat (first | (with_reducible exact hph) | (with_reducible apply Later.drew) | (with_reducible apply Later.alloc))) hl3; have hph3 := hph; have hrd3 := ho3.rd)
      | (((go_at_call 59; (with_reducible refine (HIB.out _ _ _ _ _ _ hph3 (by repeat (first | (with_reducible exact Later.refl _) | (with_reducible apply Later.drew) | (with_reducible apply Later.alloc))) hsC hrd3).mono ?_)); rintro e w5 ⟨D, hsD, A5, n5, c5, rfl, ho5, hl5⟩); have hph5 := Later.trans (by repeat (first | (with_reducible exact hph) | (with_reducible apply Later.drew) | (with_reducible apply Later.alloc))) hl5; have hph := hph5)))
  all_goals
    go_wp2_with fail
    go_ret
    exact ⟨D, sees_cat hsC hsD, A5, n5, c5, rfl, ⟨ho5.1, ho5.2.1, ho5.2.2.imp id fun ⟨g, cap, cur, q1, q2, q3⟩ => ⟨g, cap, cur, q1, Nat.le_trans (HLW.out.trans hph3).size (Nat.le_trans (by simp) q2), q3⟩⟩, HLW.out.trans hph5⟩

set_option maxRecDepth 100000 in
set_option maxHeartbeats 4000000 in
theorem step_opt (S : ByteArray) (hS : S.size ≤ 1000000) (x : Rx) (hx : StepAt S x) : StepAt S (.opt x) := by
  intro lo k a b c d A n cp An m c2 B w hC hR hm
  obtain ⟨rfl, rfl, rfl, rfl, rfl, rfl, hcp, p0, off, xs, y0, rfl, hL, h0, hC0⟩ := oneO hC
  obtain ⟨Z, hZ, hmk⟩ := made_bools m (by omega)
  clear hZ
  obtain ⟨W1, hW1⟩ : ∃ W1, W1 = (w.alloc (.cells #[.int .i64 6, .int .u64 0, .int .u64 0, .int .u64 0, .int .u64 0, .slice (some ⟨p0, off, none⟩) 1 cp] 49)).alloc (.cells Z 4) := ⟨_, rfl⟩
  have hlw : Later w W1 := by rw [hW1]; exact ((Later.refl w).alloc _).alloc _
  have B3 : Blk W1 w.heap.size 49 #[.int .i64 6, .int .u64 0, .int .u64 0, .int .u64 0, .int .u64 0, .slice (some ⟨p0, off, none⟩) 1 cp] := by rw [hW1]; exact (Blk.new w _ _).alloc _
  obtain ⟨b3, hb3⟩ : ∃ b3, b3 = w.heap.size := ⟨_, rfl⟩
  rw [← hb3] at B3
  have hL1 := LoR.fr hL (Fr.laterF hlw) (spares_false _ _)
  have KF := Lib.hid (kidsL1 B3 hL1 h0)
  have hC0 := hC0.later hlw
  have hR1 := hR.later hlw
  have HIA : Hid (∀ wx, Later W1 wx → Calls Try.prog 59 #[.agg #[.int .i64 y0.k, .int .u64 y0.a, .int .u64 y0.b, .int .u64 y0.c, .int .u64 y0.d, .slice y0.A y0.n y0.cp], .string S, .slice An m c2] wx (Stepped S.data.toList x B wx)) := fun wx hl => hx lo _ _ _ _ _ _ _ _ An m c2 B wx (hC0.later hl) (hR1.later hl) hm
  have HEI : Hid (∀ wx E A5 n5 c5, Later W1 wx → Sees S.data.toList x B E → RdO wx A5 n5 E → Calls Try.prog 72 #[.slice An m c2, .slice A5 n5 c5] wx (RetO wx (orL B E))) := fun wx E A5 n5 c5 hl hs hr5 => by
    have hn : n5 = m := by rw [← hr5.1, hs.1, hR.1]
    subst hn
    exact either_any An n5 c2 B A5 c5 E wx (hR1.later hl) hr5 (by omega)
  have HLW := Lib.hid hlw
  have hph : Later W1 W1 := Later.refl _
  obtain ⟨z0, z1, z2, z3, z4, z5, z6⟩ := KF.out W1 hph
  have hmi : (m : Int) ≤ 1000001 := by omega
  clear hC hR hR1 hC0 hx hL hL1 h0 hlw hm
  go_enter Try.func59, Try.ntmps59
  go_upto_region 20 with fail
  rw [← hW1, ← hb3]
  clear hW1 hb3 hmk
  go_wp2_with fail
  refine (HIA.out _ (Later.refl _)).mono ?_
  rintro e w3 ⟨C, hsC, A3, n3, c3, rfl, ho3, hl3⟩
  go_wp2_with fail
  refine (HEI.out _ _ _ _ _ hl3 hsC ho3.rd).mono ?_
  rintro e w5 ⟨A5, n5, c5, rfl, ho5, hl5⟩
  go_wp2_with fail
  go_ret
  have hall := HLW.out.trans hl3
  exact ⟨_, sees_opt hsC, A5, n5, c5, rfl, ⟨ho5.1, ho5.2.1, ho5.2.2.imp id fun ⟨g, cap, cur, q1, q2, q3⟩ => ⟨g, cap, cur, q1, Nat.le_trans hall.size q2, q3⟩⟩, hall.trans hl5⟩

set_option maxRecDepth 100000 in
set_option maxHeartbeats 4000000 in
theorem step_star (S : ByteArray) (hS : S.size ≤ 1000000) (x : Rx) (hx : StarAt S x) : StepAt S (.star x) := by
  intro lo k a b c d A n cp An m c2 B w hC hR hm
  obtain ⟨rfl, rfl, rfl, rfl, rfl, rfl, hcp, p0, off, xs, y0, rfl, hL, h0, hC0⟩ := oneO hC
  obtain ⟨Z, hZ, hmk⟩ := made_bools m (by omega)
  clear hZ
  obtain ⟨W1, hW1⟩ : ∃ W1, W1 = (w.alloc (.cells #[.int .i64 4, .int .u64 0, .int .u64 0, .int .u64 0, .int .u64 0, .slice (some ⟨p0, off, none⟩) 1 cp] 49)).alloc (.cells Z 4) := ⟨_, rfl⟩
  have hlw : Later w W1 := by rw [hW1]; exact ((Later.refl w).alloc _).alloc _
  have B3 : Blk W1 w.heap.size 49 #[.int .i64 4, .int .u64 0, .int .u64 0, .int .u64 0, .int .u64 0, .slice (some ⟨p0, off, none⟩) 1 cp] := by rw [hW1]; exact (Blk.new w _ _).alloc _
  obtain ⟨b3, hb3⟩ : ∃ b3, b3 = w.heap.size := ⟨_, rfl⟩
  rw [← hb3] at B3
  have hL1 := LoR.fr hL (Fr.laterF hlw) (spares_false _ _)
  have KF := Lib.hid (kidsL1 B3 hL1 h0)
  have hC0 := hC0.later hlw
  have hR1 := hR.later hlw
  have HIA : Hid (∀ wx, Later W1 wx → Calls Try.prog 73 #[.agg #[.int .i64 y0.k, .int .u64 y0.a, .int .u64 y0.b, .int .u64 y0.c, .int .u64 y0.d, .slice y0.A y0.n y0.cp], .string S, .slice An m c2] wx (Stepped S.data.toList (.star x) B wx)) := fun wx hl => hx lo _ _ _ _ _ _ _ _ An m c2 B wx (hC0.later hl) (hR1.later hl) hm
  have HLW := Lib.hid hlw
  have hph : Later W1 W1 := Later.refl _
  obtain ⟨z0, z1, z2, z3, z4, z5, z6⟩ := KF.out W1 hph
  have hmi : (m : Int) ≤ 1000001 := by omega
  clear hC hR hR1 hC0 hx hL hL1 h0 hlw hm
  go_enter Try.func59, Try.ntmps59
  go_upto_region 22 with fail
  rw [← hW1, ← hb3]
  clear hW1 hb3 hmk
  go_wp2_with fail
  refine (HIA.out _ (Later.refl _)).mono ?_
  rintro e w3 ⟨C, hsC, A3, n3, c3, rfl, ho3, hl3⟩
  go_wp2_with fail
  go_ret
  exact ⟨C, hsC, A3, n3, c3, rfl, ⟨ho3.1, ho3.2.1, ho3.2.2.imp id fun ⟨g, cap, cur, q1, q2, q3⟩ => ⟨g, cap, cur, q1, Nat.le_trans HLW.out.size q2, q3⟩⟩, HLW.out.trans hl3⟩

set_option maxRecDepth 100000 in
set_option maxHeartbeats 4000000 in
theorem step_plus (S : ByteArray) (hS : S.size ≤ 1000000) (x : Rx) (hx : StepAt S x) (hst : StarAt S x) : StepAt S (.plus x) := by
  intro lo k a b c d A n cp An m c2 B w hC hR hm
  obtain ⟨rfl, rfl, rfl, rfl, rfl, rfl, hcp, p0, off, xs, y0, rfl, hL, h0, hC0⟩ := oneO hC
  obtain ⟨Z, hZ, hmk⟩ := made_bools m (by omega)
  clear hZ
  obtain ⟨W1, hW1⟩ : ∃ W1, W1 = (w.alloc (.cells #[.int .i64 5, .int .u64 0, .int .u64 0, .int .u64 0, .int .u64 0, .slice (some ⟨p0, off, none⟩) 1 cp] 49)).alloc (.cells Z 4) := ⟨_, rfl⟩
  have hlw : Later w W1 := by rw [hW1]; exact ((Later.refl w).alloc _).alloc _
  have B3 : Blk W1 w.heap.size 49 #[.int .i64 5, .int .u64 0, .int .u64 0, .int .u64 0, .int .u64 0, .slice (some ⟨p0, off, none⟩) 1 cp] := by rw [hW1]; exact (Blk.new w _ _).alloc _
  obtain ⟨b3, hb3⟩ : ∃ b3, b3 = w.heap.size := ⟨_, rfl⟩
  rw [← hb3] at B3
  have hL1 := LoR.fr hL (Fr.laterF hlw) (spares_false _ _)
  have KF := Lib.hid (kidsL1 B3 hL1 h0)
  have hC0 := hC0.later hlw
  have hR1 := hR.later hlw
  have HIA : Hid (∀ wx, Later W1 wx → Calls Try.prog 59 #[.agg #[.int .i64 y0.k, .int .u64 y0.a, .int .u64 y0.b, .int .u64 y0.c, .int .u64 y0.d, .slice y0.A y0.n y0.cp], .string S, .slice An m c2] wx (Stepped S.data.toList x B wx)) := fun wx hl => hx lo _ _ _ _ _ _ _ _ An m c2 B wx (hC0.later hl) (hR1.later hl) hm
  have HIB : Hid (∀ w3 wx C A' n' c', Later W1 w3 → Later w3 wx → Sees S.data.toList x B C → RdO w3 A' n' C → Calls Try.prog 73 #[.agg #[.int .i64 y0.k, .int .u64 y0.a, .int .u64 y0.b, .int .u64 y0.c, .int .u64 y0.d, .slice y0.A y0.n y0.cp], .string S, .slice A' n' c'] wx (Stepped S.data.toList (.star x) C wx)) := fun w3 wx C A' n' c' h1 h2 hs hr =>
    hst lo _ _ _ _ _ _ _ _ A' n' c' C wx ((hC0.later h1).later h2) (hr.later h2) (by rw [← hr.1, hs.1, hR.1]; exact hm)
  have HLW := Lib.hid hlw
  have hph : Later W1 W1 := Later.refl _
  obtain ⟨z0, z1, z2, z3, z4, z5, z6⟩ := KF.out W1 hph
  have hmi : (m : Int) ≤ 1000001 := by omega
  clear hC hR hR1 hC0 hx hL hL1 h0 hlw hm
  go_enter Try.func59, Try.ntmps59
  go_upto_region 24 with fail
  rw [← hW1, ← hb3]
  clear hW1 hb3 hmk
  go_region_held_law (fun w' => w'.cell? ⟨b3, 5, none⟩ = some (.slice (some ⟨p0, off, none⟩) 1 cp) ∧ w'.cell? ⟨p0, off, none⟩ = some (.int .i64 y0.k) ∧ w'.cell? ⟨p0, off + 1, none⟩ = some (.int .u64 y0.a) ∧ w'.cell? ⟨p0, off + 2, none⟩ = some (.int .u64 y0.b) ∧ w'.cell? ⟨p0, off + 3, none⟩ = some (.int .u64 y0.c) ∧ w'.cell? ⟨p0, off + 4, none⟩ = some (.int .u64 y0.d) ∧ w'.cell? ⟨p0, off + 5, none⟩ = some (.slice y0.A y0.n y0.cp)) (exact KF.out _ (by repeat (first | (with_reducible exact hph) | (with_reducible apply Later.drew) | (with_reducible apply Later.alloc))))
    ((first
      | (((go_at_call 59; (with_reducible refine (HIA.out _ (by repeat (first | (with_reducible exact hph) | (with_reducible apply Later.drew) | (with_reducible apply Later.alloc)))).mono ?_)); rintro e w3 ⟨C, hsC, A3, n3, c3, rfl, ho3, hl3⟩); have hph := Later.trans (by repeat (first | (with_reducible exact hph) | (with_reducible apply Later.drew) | (with_reducible apply Later.alloc))) hl3; have hph3 := hph; have hrd3 := ho3.rd)
      | (((go_at_call 73; (with_reducible refine (HIB.out _ _ _ _ _ _ hph3 (by repeat (first | (with_reducible exact Later.refl _) | (with_reducible apply Later.drew) | (with_reducible apply Later.alloc))) hsC hrd3).mono ?_)); rintro e w5 ⟨D, hsD, A5, n5, c5, rfl, ho5, hl5⟩); have hph5 := Later.trans (by repeat (first | (with_reducible exact hph) | (with_reducible apply Later.drew) | (with_reducible apply Later.alloc))) hl5; have hph := hph5)))
  all_goals
    go_wp2_with fail
    go_ret
    exact ⟨D, sees_plus hsC hsD, A5, n5, c5, rfl, ⟨ho5.1, ho5.2.1, ho5.2.2.imp id fun ⟨g, cap, cur, q1, q2, q3⟩ => ⟨g, cap, cur, q1, Nat.le_trans (HLW.out.trans hph3).size (Nat.le_trans (by simp) q2), q3⟩⟩, HLW.out.trans hph5⟩

set_option maxRecDepth 100000 in
set_option maxHeartbeats 4000000 in
theorem step_alt (S : ByteArray) (hS : S.size ≤ 1000000) (x y : Rx) (hx : StepAt S x) (hy : StepAt S y) : StepAt S (.alt x y) := by
  intro lo k a b c d A n cp An m c2 B w hC hR hm
  obtain ⟨rfl, rfl, rfl, rfl, rfl, rfl, hcp, p0, off, xs, y0, y1, rfl, hL, h0, h1, hC0, hC1⟩ := twoO hC
  obtain ⟨Z, hZ, hmk⟩ := made_bools m (by omega)
  clear hZ
  obtain ⟨W1, hW1⟩ : ∃ W1, W1 = (w.alloc (.cells #[.int .i64 3, .int .u64 0, .int .u64 0, .int .u64 0, .int .u64 0, .slice (some ⟨p0, off, none⟩) 2 cp] 49)).alloc (.cells Z 4) := ⟨_, rfl⟩
  have hlw : Later w W1 := by rw [hW1]; exact ((Later.refl w).alloc _).alloc _
  have B3 : Blk W1 w.heap.size 49 #[.int .i64 3, .int .u64 0, .int .u64 0, .int .u64 0, .int .u64 0, .slice (some ⟨p0, off, none⟩) 2 cp] := by rw [hW1]; exact (Blk.new w _ _).alloc _
  obtain ⟨b3, hb3⟩ : ∃ b3, b3 = w.heap.size := ⟨_, rfl⟩
  rw [← hb3] at B3
  have hL1 := LoR.fr hL (Fr.laterF hlw) (spares_false _ _)
  have KF := Lib.hid (kidsL2 B3 hL1 h0 h1)
  have hC0 := hC0.later hlw
  have hR1 := hR.later hlw
  have hC1 := hC1.later hlw
  have HIA : Hid (∀ wx, Later W1 wx → Calls Try.prog 59 #[.agg #[.int .i64 y0.k, .int .u64 y0.a, .int .u64 y0.b, .int .u64 y0.c, .int .u64 y0.d, .slice y0.A y0.n y0.cp], .string S, .slice An m c2] wx (Stepped S.data.toList x B wx)) := fun wx hl => hx lo _ _ _ _ _ _ _ _ An m c2 B wx (hC0.later hl) (hR1.later hl) hm
  have HIB : Hid (∀ wx, Later W1 wx → Calls Try.prog 59 #[.agg #[.int .i64 y1.k, .int .u64 y1.a, .int .u64 y1.b, .int .u64 y1.c, .int .u64 y1.d, .slice y1.A y1.n y1.cp], .string S, .slice An m c2] wx (Stepped S.data.toList y B wx)) := fun wx hl => hy lo _ _ _ _ _ _ _ _ An m c2 B wx (hC1.later hl) (hR1.later hl) hm
  have HEI : Hid (∀ w3 w5 wx C D A3 n3 c3 A5 n5 c5, Later w3 w5 → Later w5 wx → Sees S.data.toList x B C → Sees S.data.toList y B D → RdO w3 A3 n3 C → RdO w5 A5 n5 D → Calls Try.prog 72 #[.slice A3 n3 c3, .slice A5 n5 c5] wx (RetO wx (orL C D))) := fun w3 w5 wx C D A3 n3 c3 A5 n5 c5 h1 h2 hs hs2 hr3 hr5 => by
    have hn : n5 = n3 := by rw [← hr5.1, hs2.1, ← hs.1, hr3.1]
    have hn3 : n3 = m := by rw [← hr3.1, hs.1, hR.1]
    subst hn
    exact either_any A3 n5 c3 C A5 c5 D wx ((hr3.later h1).later h2) (hr5.later h2) (by omega)
  have HLW := Lib.hid hlw
  have hph : Later W1 W1 := Later.refl _
  obtain ⟨z0, z1, z2, z3, z4, z5, z6, z7, z8, z9, z10, z11, z12⟩ := KF.out W1 hph
  have hmi : (m : Int) ≤ 1000001 := by omega
  clear hC hR hR1 hC0 hC1 hx hy hL hL1 h0 h1 hlw hm
  go_enter Try.func59, Try.ntmps59
  go_upto_region 18 with fail
  rw [← hW1, ← hb3]
  clear hW1 hb3 hmk
  go_region_held_law (fun w' => w'.cell? ⟨b3, 5, none⟩ = some (.slice (some ⟨p0, off, none⟩) 2 cp) ∧ w'.cell? ⟨p0, off, none⟩ = some (.int .i64 y0.k) ∧ w'.cell? ⟨p0, off + 1, none⟩ = some (.int .u64 y0.a) ∧ w'.cell? ⟨p0, off + 2, none⟩ = some (.int .u64 y0.b) ∧ w'.cell? ⟨p0, off + 3, none⟩ = some (.int .u64 y0.c) ∧ w'.cell? ⟨p0, off + 4, none⟩ = some (.int .u64 y0.d) ∧ w'.cell? ⟨p0, off + 5, none⟩ = some (.slice y0.A y0.n y0.cp) ∧ w'.cell? ⟨p0, off + 6, none⟩ = some (.int .i64 y1.k) ∧ w'.cell? ⟨p0, off + 7, none⟩ = some (.int .u64 y1.a) ∧ w'.cell? ⟨p0, off + 8, none⟩ = some (.int .u64 y1.b) ∧ w'.cell? ⟨p0, off + 9, none⟩ = some (.int .u64 y1.c) ∧ w'.cell? ⟨p0, off + 10, none⟩ = some (.int .u64 y1.d) ∧ w'.cell? ⟨p0, off + 11, none⟩ = some (.slice y1.A y1.n y1.cp)) (exact KF.out _ (by repeat (first | (with_reducible exact hph) | (with_reducible apply Later.drew) | (with_reducible apply Later.alloc))))
    ((first
      | (((go_at_call 59; (with_reducible refine (HIA.out _ (by repeat (first | (with_reducible exact hph) | (with_reducible apply Later.drew) | (with_reducible apply Later.alloc)))).mono ?_)); rintro e w3 ⟨C, hsC, A3, n3, c3, rfl, ho3, hl3⟩); have hph := Later.trans (by repeat (first | (with_reducible exact hph) | (with_reducible apply Later.drew) | (with_reducible apply Later.alloc))) hl3; have hph3 := hph; have hrd3 := ho3.rd; have lt3 := Later.refl w3)
      | (((go_at_call 59; (with_reducible refine (HIB.out _ (by repeat (first | (with_reducible exact hph) | (with_reducible apply Later.drew) | (with_reducible apply Later.alloc)))).mono ?_)); rintro e w5 ⟨D, hsD, A5, n5, c5, rfl, ho5, hl5⟩); have hph := Later.trans (by repeat (first | (with_reducible exact hph) | (with_reducible apply Later.drew) | (with_reducible apply Later.alloc))) hl5; have hph5 := hph; have hrd5 := ho5.rd; have l35 := Later.trans (by repeat (first | (with_reducible exact lt3) | (with_reducible apply Later.drew) | (with_reducible apply Later.alloc))) hl5)
      | (((go_at_call 72; (with_reducible refine (HEI.out _ _ _ _ _ _ _ _ _ _ _ l35 (by repeat (first | (with_reducible exact Later.refl _) | (with_reducible apply Later.drew) | (with_reducible apply Later.alloc))) hsC hsD hrd3 hrd5).mono ?_)); rintro e w7 ⟨A7, n7, c7, rfl, ho7, hl7⟩); have hph7 := Later.trans (by repeat (first | (with_reducible exact hph) | (with_reducible apply Later.drew) | (with_reducible apply Later.alloc))) hl7; have hph := hph7)))
  all_goals
    go_wp2_with fail
    go_ret
    exact ⟨_, sees_alt hsC hsD, A7, n7, c7, rfl, ⟨ho7.1, ho7.2.1, ho7.2.2.imp id fun ⟨g, cap, cur, q1, q2, q3⟩ => ⟨g, cap, cur, q1, Nat.le_trans (HLW.out.trans hph5).size (Nat.le_trans (by simp) q2), q3⟩⟩, HLW.out.trans hph7⟩

end Go.Proofs.Ythmjnelnnhidkaa

/-
  The contract of the document's star.
-/
namespace Go.Proofs.Ythmjnelnnhidkaa
open Go.RowKit

/-- how many are off, by the memory -/
def offsM (v : Value) (w : World) : Nat :=
  match v with
  | .slice (some ⟨b, off, _⟩) n _ => (List.range n).countP fun k => match w.cell? ⟨b, off + k, none⟩ with | some (.bool false) => true | _ => false
  | _ => 0
theorem offs_range : ∀ (l : List Bool) (f : Nat → Bool), (∀ (k : Nat) (x : Bool), l[k]? = some x → f k = !x) → (List.range l.length).countP f = offs l
  | [], f, _ => rfl
  | a :: l, f, h => by
    have ih := offs_range l (fun k => f (k + 1)) (fun k x hx => h (k + 1) x hx)
    unfold offs at ih ⊢
    rw [List.length_cons, List.range_succ_eq_map, List.countP_cons, List.countP_cons, List.countP_map, h 0 a rfl]
    have : (fun k => f (k + 1)) = f ∘ Nat.succ := rfl
    rw [← this, ih]
theorem offsM_rd {w : World} {A : Option Addr} {n c : Nat} {l : List Bool} (h : RdO w A n l) : offsM (.slice A n c) w = offs l := by
  rcases Nat.eq_zero_or_pos n with hn | hn
  · subst hn
    have : l = [] := List.eq_nil_of_length_eq_zero h.1
    subst this
    unfold offsM
    cases A with
    | none => rfl
    | some ad => obtain ⟨b, off, sp⟩ := ad; rfl
  · obtain ⟨b, off, hA, _, _⟩ := h.at_ (k := 0) (List.getElem?_eq_getElem (by rw [h.1]; exact hn))
    subst hA
    unfold offsM
    simp only
    rw [← h.1]
    refine offs_range l _ (fun k x hx => ?_)
    obtain ⟨b', off', hA', _, hc⟩ := h.at_ hx
    injection hA' with hA'
    injection hA' with h1 h2
    subst h1 h2
    simp only [hc]
    cases x <;> rfl
theorem take_next {l m : List Bool} {i : Nat} {x y : Bool} (hx : l[i]? = some x) (hy : m[i]? = some y) : (decide (l.take (i + 1) = m.take (i + 1))) = (decide (l.take i = m.take i) && (x == y)) := by
  have hl := (List.getElem?_eq_some_iff.1 hx).1
  have hm := (List.getElem?_eq_some_iff.1 hy).1
  have hlen : (l.take i).length = (m.take i).length := by rw [List.length_take, List.length_take, Nat.min_eq_left (Nat.le_of_lt hl), Nat.min_eq_left (Nat.le_of_lt hm)]
  rw [List.take_add_one, List.take_add_one, hx, hy]
  by_cases h1 : l.take i = m.take i
  · rw [h1, decide_eq_true (rfl : m.take i = m.take i), Bool.true_and]
    cases x <;> cases y <;> simp
  · rw [decide_eq_false h1, Bool.false_and, decide_eq_false]
    intro h
    exact h1 (List.append_inj h hlen).1

set_option maxRecDepth 100000 in
set_option maxHeartbeats 8000000 in
theorem star_walk (S : ByteArray) (hS : S.size ≤ 1000000) (x : Rx) (hx : StepAt S x) : StarAt S x := by
  intro lo k a b c d A n cp An m c2 B w hC hR hm
  obtain ⟨W1, hW1⟩ : ∃ W1, W1 = w.alloc (.cells #[.int .i64 k, .int .u64 a, .int .u64 b, .int .u64 c, .int .u64 d, .slice A n cp] 49) := ⟨_, rfl⟩
  have hlw : Later w W1 := by rw [hW1]; exact (Later.refl w).alloc _
  have B3 : Blk W1 w.heap.size 49 #[.int .i64 k, .int .u64 a, .int .u64 b, .int .u64 c, .int .u64 d, .slice A n cp] := by rw [hW1]; exact Blk.new w _ _
  obtain ⟨b3, hb3⟩ : ∃ b3, b3 = w.heap.size := ⟨_, rfl⟩
  rw [← hb3] at B3
  have hst : ∀ wx all A' n' c', Later W1 wx → RdO wx A' n' all → n' = m → Calls Try.prog 59 #[.agg #[.int .i64 k, .int .u64 a, .int .u64 b, .int .u64 c, .int .u64 d, .slice A n cp], .string S, .slice A' n' c'] wx (Stepped S.data.toList x all wx) := fun wx all A' n' c' hl hr hn =>
    hx lo _ _ _ _ _ _ _ _ A' n' c' all wx (hC.later (hlw.trans hl)) hr (hn.trans hm)
  have hei : Calls Try.prog 72 #[.slice An m c2, .slice An m c2] W1 (RetO W1 (orL B B)) := either_any An m c2 B An c2 B W1 (hR.later hlw) (hR.later hlw) (by omega)
  have hBB : orL B B = B := by
    refine on_ext (orL_len rfl).symm fun j => ?_
    rw [orL_on rfl]
    exact ⟨fun h => h.elim id id, fun h => .inl h⟩
  rw [hBB] at hei
  have hmB : B.length = m := hR.1
  have HST := Lib.hid hst
  have HEI := Lib.hid hei
  have HLW := Lib.hid hlw
  have HMB := Lib.hid hmB
  have hm2 : m ≤ 1000001 := by omega
  clear hC hR hst hei hlw hBB hmB hx hm
  go_enter Try.func73, Try.ntmps73
  go_upto_region 1 with fail
  rw [← hW1, ← hb3]
  clear hW1 hb3
  go_wp2_with fail
  refine HEI.out.mono ?_
  rintro e w3 ⟨A3, n3, c3, rfl, ho3, hl3⟩
  have hn3 : n3 = m := by rw [← ho3.1]; exact HMB.out
  subst hn3
  go_wp2_with fail
  go_loopw [7] (fun s7 wr => ∃ (A' : Option Addr) (c' : Nat) (all : List Bool), s7 = .slice A' n3 c' ∧ OwnO wr W1.heap.size A' n3 c' all ∧ Stars S.data.toList x B all ∧ Later W1 wr) (fun s7 wr => offsM s7 wr)
  case atStart => exact ⟨A3, c3, B, rfl, ho3, stars_start, hl3⟩
  case round =>
    clear ho3 hl3 HEI
    obtain ⟨A', c', all, rfl, hown, hsta, hlr⟩ := hrel
    have hrd := hown.rd
    have hln : all.length = n3 := hown.1
    have B3r := blkL hlr B3
    obtain ⟨z0, z1, z2, z3, z4, z5⟩ : wr.cell? ⟨b3, 0, none⟩ = some (.int .i64 k) ∧ wr.cell? ⟨b3, 1, none⟩ = some (.int .u64 a) ∧ wr.cell? ⟨b3, 2, none⟩ = some (.int .u64 b) ∧ wr.cell? ⟨b3, 3, none⟩ = some (.int .u64 c) ∧ wr.cell? ⟨b3, 4, none⟩ = some (.int .u64 d) ∧ wr.cell? ⟨b3, 5, none⟩ = some (.slice A n cp) := ⟨B3r.cell 0, B3r.cell 1, B3r.cell 2, B3r.cell 3, B3r.cell 4, B3r.cell 5⟩
    go_wp2_with fail
    refine (HST.out wr all A' n3 c' hlr hrd rfl).mono ?_
    rintro e w4 ⟨C, hsC, A4, n4, c4, rfl, ho4, hl4⟩
    have hn4 : n4 = n3 := by rw [← ho4.1, hsC.1, hln]
    subst hn4
    clear z0 z1 z2 z3 z4 z5
    go_wp2_with fail
    refine (either_any A' n4 c' all A4 c4 C w4 (hrd.later hl4) ho4.rd (by omega)).mono ?_
    rintro e w5 ⟨A5, n5, c5, rfl, ho5, hl5⟩
    have hn5 : n5 = n4 := by rw [← ho5.1, orL_len hsC.1, hln]
    subst hn5
    obtain ⟨more, hmore⟩ : ∃ more, more = orL all C := ⟨_, rfl⟩
    rw [← hmore] at ho5
    have hlm : more.length = n5 := ho5.1
    have hrd5 := (hrd.later hl4).later hl5
    have hrm5 := ho5.rd
    have hlr5 := hlr.trans (hl4.trans hl5)
    have HMORE := Lib.hid hmore
    have HSC := Lib.hid hsC
    have HSTA := Lib.hid hsta
    have HO5 : Hid (OwnO w5 W1.heap.size A5 n5 c5 more) := ⟨ho5.1, ho5.2.1, ho5.2.2.imp id fun ⟨g, cap, cur, q1, q2, q3⟩ => ⟨g, cap, cur, q1, Nat.le_trans (hlr.trans hl4).size q2, q3⟩⟩
    have HOFF : Hid (more ≠ all → offsM (.slice A5 n5 c5) w5 < offsM (.slice A' n5 c') wr) := fun hne => by
      rw [offsM_rd hrm5, offsM_rd hrd, hmore]
      exact offs_or hsC.1 (by rw [← hmore]; exact hne)
    have HOWN : Hid (OwnO w5 W1.heap.size A' n5 c' all) := (hown.later hl4).later hl5
    clear hmore hsC hsta ho5 hown ho4 hl4 hl5 hlr hrd
    go_wp2_with fail
    go_loopw [9, 10] (fun s9 s10 wr => ∃ i : Nat, i ≤ n5 ∧ s10 = .int .i64 (i : Int) ∧ s9 = .bool (decide (all.take i = more.take i)) ∧ Later w5 wr) (fun _ s10 _ => n5 - (intOf s10).toNat)
    case atStart => exact ⟨0, Nat.zero_le _, rfl, by simp, Later.refl _⟩
    case round =>
      obtain ⟨i, hi, rfl, rfl, hlq⟩ := hrel
      by_cases hlt : i < n5
      · have hlti : (i : Int) < (n5 : Int) := by omega
        obtain ⟨x1, hx1⟩ : ∃ x, all[i]? = some x := ⟨_, List.getElem?_eq_getElem (by rw [hln]; exact hlt)⟩
        obtain ⟨y1, hy1⟩ : ∃ x, more[i]? = some x := ⟨_, List.getElem?_eq_getElem (by rw [hlm]; exact hlt)⟩
        have hnext := take_next hx1 hy1
        obtain ⟨p1, o1, rfl, _, f1⟩ := (hrd5.later hlq).at_ hx1
        obtain ⟨p2, o2, rfl, _, f2⟩ := (hrm5.later hlq).at_ hy1
        obtain ⟨s, hs⟩ : ∃ s, s = decide (all.take i = more.take i) := ⟨_, rfl⟩
        rw [← hs] at hnext ⊢
        have k1 : ∀ x : LW wr, x.val.cell? ⟨p1, o1 + i, none⟩ = some (.bool x1) := LW.cell_ f1
        have k2 : ∀ x : LW wr, x.val.cell? ⟨p2, o2 + i, none⟩ = some (.bool y1) := LW.cell_ f2
        have HN := Lib.hid hnext
        clear hnext hs hx1 hy1 f1 f2
        cases s with
        | false =>
          go_wp2_with fail
          refine wp_region_laterq (by kernel_rfl) (by kernel_rfl) ?_
          repeat (go_big_quiet_step (fail))
          refine wpQuiet_nil ?_
          intro _ hwq
          obtain ⟨xz, rfl⟩ := hwq
          clear k1 k2
          go_wp2_with fail
          go_roundw
          case rel => exact ⟨i + 1, by omega, by go_num, by rw [HN.out]; rfl, hlq.trans xz.later⟩
          case measure => simp [intOf]; omega
        | true =>
          go_wp2_with fail
          refine wp_region_laterq (by kernel_rfl) (by kernel_rfl) ?_
          repeat (go_big_quiet_step (fail))
          refine wpQuiet_nil ?_
          intro _ hwq
          obtain ⟨xz, rfl⟩ := hwq
          clear k1 k2
          go_wp2_with fail
          go_roundw
          case rel => exact ⟨i + 1, by omega, by go_num, by rw [HN.out]; rfl, hlq.trans xz.later⟩
          case measure => simp [intOf]; omega
      · obtain rfl : n5 = i := by omega
        have hte : decide (all.take n5 = more.take n5) = decide (all = more) := by rw [List.take_of_length_le (by omega), List.take_of_length_le (by omega)]
        rw [hte]
        by_cases he : all = more
        · rw [decide_eq_true he]
          have HE := Lib.hid he
          clear hte he
          go_wp2_with fail
          go_ret
          refine ⟨all, stars_end HSTA.out HSC.out (by rw [← HMORE.out]; exact HE.out.symm), _, _, _, rfl, ?_, HLW.out.trans (hlr5.trans hlq)⟩
          have h9 := HOWN.out.later hlq
          exact ⟨h9.1, h9.2.1, h9.2.2.imp id fun ⟨g, cap, cur, q1, q2, q3⟩ => ⟨g, cap, cur, q1, Nat.le_trans HLW.out.size q2, q3⟩⟩
        · rw [decide_eq_false he]
          have HE := Lib.hid he
          clear hte he
          go_wp2_with fail
          refine ⟨⟨A5, c5, more, rfl, HO5.out.later hlq, by rw [HMORE.out]; exact stars_next HSTA.out HSC.out, hlr5.trans hlq⟩, ?_⟩
          rw [offsM_rd (hrm5.later hlq), ← offsM_rd hrm5]
          exact HOFF.out (Ne.symm HE.out)

end Go.Proofs.Ythmjnelnnhidkaa

/-
  The leaves of the document's step: the empty one, a set, first, last.
-/
namespace Go.Proofs.Ythmjnelnnhidkaa
open Go.RowKit

/-! ### plain -/
theorem on_rep {m j : Nat} : ¬ On (List.replicate m false) j := fun h => by
  unfold On at h
  rw [List.getElem?_replicate] at h
  split at h
  · cases h
  · cases h
theorem on_set {l : List Bool} {k : Nat} {x : Bool} (hk : k < l.length) (j : Nat) : On (l.set k x) j ↔ (j = k ∧ x = true) ∨ (j ≠ k ∧ On l j) := by
  unfold On
  rw [List.getElem?_set]
  by_cases hj : k = j
  · subst hj
    rw [if_pos rfl, if_pos hk]
    simp
  · rw [if_neg hj]
    exact ⟨fun h => .inr ⟨fun e => hj e.symm, h⟩, fun h => h.elim (fun ⟨e, _⟩ => absurd e.symm hj) (fun h => h.2)⟩
theorem sees_at {t : List UInt8} {r : Rx} {B : List Bool} {k : Nat} {x : Bool} (hr : ∀ i j, Mt t r i j ↔ i = j ∧ i = k) (hx : B[k]? = some x) : Sees t r B ((List.replicate B.length false).set k x) := by
  have hk := (List.getElem?_eq_some_iff.1 hx).1
  refine ⟨by simp, fun j => ?_⟩
  rw [on_set (by simpa using hk)]
  constructor
  · rintro (⟨rfl, rfl⟩ | ⟨_, h⟩)
    · exact ⟨j, hx, (hr _ _).2 ⟨rfl, rfl⟩⟩
    · exact absurd h on_rep
  · rintro ⟨i, hi, hm⟩
    obtain ⟨rfl, rfl⟩ := (hr _ _).1 hm
    exact .inl ⟨rfl, by unfold On at hi; rw [hx] at hi; injection hi⟩
/-- what the set's loop has laid -/
def SetUpTo (t : List UInt8) (s : W4) (B : List Bool) (j : Nat) (C : List Bool) : Prop := C.length = B.length ∧ ∀ k, On C k ↔ ∃ i, i < j ∧ k = i + 1 ∧ On B i ∧ hasAt t s i = true
theorem setUp_zero (t : List UInt8) (s : W4) (B : List Bool) : SetUpTo t s B 0 (List.replicate B.length false) := ⟨by simp, fun k => ⟨fun h => absurd h on_rep, fun ⟨i, hi, _⟩ => absurd hi (by omega)⟩⟩
theorem setUp_next {t : List UInt8} {s : W4} {B C : List Bool} {j : Nat} (h : SetUpTo t s B j C) {x y z : Bool} (hx : B[j]? = some x) (hy : hasAt t s j = y) (hz : z = (x && y)) (hj : j + 1 < B.length) : SetUpTo t s B (j + 1) (C.set (j + 1) z) := by
  subst hz
  refine ⟨by rw [List.length_set]; exact h.1, fun k => ?_⟩
  rw [on_set (by rw [h.1]; exact hj), h.2 k]
  constructor
  · rintro (⟨rfl, he⟩ | ⟨hne, i, hi, he, hb, hh⟩)
    · rw [Bool.and_eq_true] at he
      obtain ⟨rfl, rfl⟩ := he
      exact ⟨j, by omega, rfl, hx, hy⟩
    · exact ⟨i, by omega, he, hb, hh⟩
  · rintro ⟨i, hi, rfl, hb, hh⟩
    by_cases hij : i = j
    · subst hij
      refine .inl ⟨rfl, ?_⟩
      have hb : B[i]? = some true := hb
      rw [hb] at hx
      injection hx with hx
      rw [← hx, ← hy, hh]
      rfl
    · exact .inr ⟨by omega, i, by omega, rfl, hb, hh⟩
theorem sees_set {t : List UInt8} {s : W4} {B C : List Bool} (hl : B.length = t.length + 1) (h : SetUpTo t s B t.length C) : Sees t (.set s) B C :=
  ⟨h.1, fun k => by
    rw [h.2 k]
    exact ⟨fun ⟨i, _, he, hb, hh⟩ => ⟨i, hb, hh, he⟩, fun ⟨i, hb, hh, he⟩ => ⟨i, hasAt_lt t hh, he, hb, hh⟩⟩⟩

/-! ### memory -/
theorem leafO {w : World} {lo : Nat → Prop} {kd k : Int} {s : W4} {a b c d : Int} {A : Option Addr} {n cp : Nat} (h : ReC w lo (.node kd s []) ⟨k, a, b, c, d, A, n, cp⟩) :
    k = kd ∧ a = (s.1 : Int) ∧ b = (s.2.1 : Int) ∧ c = (s.2.2.1 : Int) ∧ d = (s.2.2.2 : Int) ∧ n = 0 := by
  unfold ReC at h
  obtain ⟨hk, ⟨ha, hb, hc, hd⟩, hn, _⟩ := h
  exact ⟨hk, ha, hb, hc, hd, hn.symm⟩

set_option maxRecDepth 100000 in
set_option maxHeartbeats 4000000 in
theorem step_first (S : ByteArray) (hS : S.size ≤ 1000000) : StepAt S .first := by
  intro lo k a b c d A n cp An m c2 B w hC hR hm
  obtain ⟨rfl, rfl, rfl, rfl, rfl, rfl⟩ := leafO (kd := 7) (s := z4) hC
  obtain ⟨x, hx⟩ : ∃ x, B[0]? = some x := ⟨_, List.getElem?_eq_getElem (by rw [hR.1]; omega)⟩
  obtain ⟨b1, o1, rfl, hb1, e1⟩ := hR.at_ hx
  rw [Nat.add_zero] at e1
  have hsee : Sees S.data.toList .first B ((List.replicate m false).set 0 x) := by rw [← hR.1]; exact sees_at (fun i j => Iff.rfl) hx
  obtain ⟨Z, hZ, hmk⟩ := made_bools m (by omega)
  obtain ⟨W0, hW0⟩ : ∃ W0, W0 = w.alloc (.cells #[.int .i64 7, .int .u64 (z4.1 : Int), .int .u64 (z4.2.1 : Int), .int .u64 (z4.2.2.1 : Int), .int .u64 (z4.2.2.2 : Int), .slice A 0 cp] 49) := ⟨_, rfl⟩
  have B0 : Blk W0 w.heap.size 49 #[.int .i64 7, .int .u64 (z4.1 : Int), .int .u64 (z4.2.1 : Int), .int .u64 (z4.2.2.1 : Int), .int .u64 (z4.2.2.2 : Int), .slice A 0 cp] := by rw [hW0]; exact Blk.new w _ _
  have hl0 : Later w W0 := by rw [hW0]; exact (Later.refl w).alloc _
  have hW0s : w.heap.size ≤ W0.heap.size := hl0.size
  have hO := hZ W0 w.heap.size hW0s
  have hO2 := own_seto hO x (k := 0) (by omega)
  have hl2 : Later w ((W0.alloc (.cells Z 4)).setCell ⟨W0.heap.size, 0, none⟩ (.bool x)) := Later.setCell (hl0.alloc _) hW0s _
  have HO := Lib.hid hO2
  have HL := Lib.hid hl2
  have HS := Lib.hid hsee
  have e1' : (W0.alloc (.cells Z 4)).cell? ⟨b1, o1, none⟩ = some (.bool x) := by rw [Later.cell (hl0.alloc _) hb1]; exact e1
  obtain ⟨v0, c0⟩ : ∃ v, (W0.alloc (.cells Z 4)).cell? ⟨W0.heap.size, 0, none⟩ = some v := by
    obtain ⟨b, o, hA, _, hc⟩ := hO.rd.at_ (k := 0) (List.getElem?_eq_getElem (by rw [hO.1]; omega))
    injection hA with hA
    injection hA with hA1 hA2
    subst hA1 hA2
    exact ⟨_, hc⟩
  have f0 : (W0.alloc (.cells Z 4)).frozen? ⟨W0.heap.size, 0, none⟩ = false := by
    obtain ⟨_, _, cs, hB⟩ := own_row_blk hO.2 (k := W0.heap.size) rfl
    exact hB.frozen 0
  have z0 : (W0.alloc (.cells Z 4)).cell? ⟨w.heap.size, 0, none⟩ = some (.int .i64 7) := (B0.alloc _).cell 0
  have hsz : W0.heap.size = w.heap.size + 1 := by rw [hW0]; simp
  rw [hsz] at HO HL c0 f0
  have hmi : (m : Int) ≤ 1000001 := by omega
  have hmp : (0 : Int) < (m : Int) := by omega
  clear hm hC hR hx e1 hsee hZ hO hO2 hl2 hl0 B0 hW0s hb1 hsz
  go_enter Try.func59, Try.ntmps59
  go_upto_region 12 with fail
  rw [← hW0]
  clear hW0
  go_wp2_with fail
  go_ret
  exact ⟨_, HS.out, _, _, _, rfl, HO.out, HL.out⟩

set_option maxRecDepth 100000 in
set_option maxHeartbeats 4000000 in
theorem step_last (S : ByteArray) (hS : S.size ≤ 1000000) : StepAt S .last := by
  intro lo k a b c d A n cp An m c2 B w hC hR hm
  obtain ⟨rfl, rfl, rfl, rfl, rfl, rfl⟩ := leafO (kd := 8) (s := z4) hC
  obtain ⟨x, hx⟩ : ∃ x, B[S.size]? = some x := ⟨_, List.getElem?_eq_getElem (by rw [hR.1]; omega)⟩
  obtain ⟨b1, o1, rfl, hb1, e1⟩ := hR.at_ hx
  have hsee : Sees S.data.toList .last B ((List.replicate m false).set S.size x) := by rw [← hR.1]; exact sees_at (fun i j => Iff.rfl) hx
  obtain ⟨Z, hZ, hmk⟩ := made_bools m (by omega)
  obtain ⟨W0, hW0⟩ : ∃ W0, W0 = w.alloc (.cells #[.int .i64 8, .int .u64 (z4.1 : Int), .int .u64 (z4.2.1 : Int), .int .u64 (z4.2.2.1 : Int), .int .u64 (z4.2.2.2 : Int), .slice A 0 cp] 49) := ⟨_, rfl⟩
  have B0 : Blk W0 w.heap.size 49 #[.int .i64 8, .int .u64 (z4.1 : Int), .int .u64 (z4.2.1 : Int), .int .u64 (z4.2.2.1 : Int), .int .u64 (z4.2.2.2 : Int), .slice A 0 cp] := by rw [hW0]; exact Blk.new w _ _
  have hl0 : Later w W0 := by rw [hW0]; exact (Later.refl w).alloc _
  have hW0s : w.heap.size ≤ W0.heap.size := hl0.size
  have hO := hZ W0 w.heap.size hW0s
  have hO2 := own_seto hO x (k := S.size) (by omega)
  have hl2 : Later w ((W0.alloc (.cells Z 4)).setCell ⟨W0.heap.size, S.size, none⟩ (.bool x)) := Later.setCell (hl0.alloc _) hW0s _
  have HO := Lib.hid hO2
  have HL := Lib.hid hl2
  have HS := Lib.hid hsee
  have e1' : (W0.alloc (.cells Z 4)).cell? ⟨b1, o1 + S.size, none⟩ = some (.bool x) := by rw [Later.cell (hl0.alloc _) hb1]; exact e1
  obtain ⟨v0, c0⟩ : ∃ v, (W0.alloc (.cells Z 4)).cell? ⟨W0.heap.size, S.size, none⟩ = some v := by
    obtain ⟨b, o, hA, _, hc⟩ := hO.rd.at_ (k := S.size) (List.getElem?_eq_getElem (by rw [hO.1]; omega))
    injection hA with hA
    injection hA with hA1 hA2
    subst hA1 hA2
    rw [Nat.zero_add] at hc
    exact ⟨_, hc⟩
  have f0 : (W0.alloc (.cells Z 4)).frozen? ⟨W0.heap.size, S.size, none⟩ = false := by
    obtain ⟨_, _, cs, hB⟩ := own_row_blk hO.2 (k := W0.heap.size) rfl
    exact hB.frozen S.size
  have z0 : (W0.alloc (.cells Z 4)).cell? ⟨w.heap.size, 0, none⟩ = some (.int .i64 8) := (B0.alloc _).cell 0
  have hsz : W0.heap.size = w.heap.size + 1 := by rw [hW0]; simp
  rw [hsz] at HO HL c0 f0
  have hmi : (m : Int) ≤ 1000001 := by omega
  have hmp : (S.size : Int) < (m : Int) := by omega
  clear hm hC hR hx e1 hsee hZ hO hO2 hl2 hl0 B0 hW0s hb1 hsz
  go_enter Try.func59, Try.ntmps59
  go_upto_region 14 with fail
  rw [← hW0]
  clear hW0
  go_wp2_with fail
  go_ret
  exact ⟨_, HS.out, _, _, _, rfl, HO.out, HL.out⟩

set_option maxRecDepth 100000 in
set_option maxHeartbeats 4000000 in
theorem step_eps (S : ByteArray) (hS : S.size ≤ 1000000) : StepAt S .eps := by
  intro lo k a b c d A n cp An m c2 B w hC hR hm
  obtain ⟨rfl, rfl, rfl, rfl, rfl, rfl⟩ := leafO (kd := 0) (s := z4) hC
  obtain ⟨Z, hZ, hmk⟩ := made_bools m (by omega)
  obtain ⟨W0, hW0⟩ : ∃ W0, W0 = w.alloc (.cells #[.int .i64 0, .int .u64 (z4.1 : Int), .int .u64 (z4.2.1 : Int), .int .u64 (z4.2.2.1 : Int), .int .u64 (z4.2.2.2 : Int), .slice A 0 cp] 49) := ⟨_, rfl⟩
  have B0 : Blk W0 w.heap.size 49 #[.int .i64 0, .int .u64 (z4.1 : Int), .int .u64 (z4.2.1 : Int), .int .u64 (z4.2.2.1 : Int), .int .u64 (z4.2.2.2 : Int), .slice A 0 cp] := by rw [hW0]; exact Blk.new w _ _
  have hl0 : Later w W0 := by rw [hW0]; exact (Later.refl w).alloc _
  have hW0s : w.heap.size ≤ W0.heap.size := hl0.size
  have hsz : W0.heap.size = w.heap.size + 1 := by rw [hW0]; simp
  have hO := hZ W0 w.heap.size hW0s
  obtain ⟨x0, hx0⟩ : ∃ x, B[0]? = some x := ⟨_, List.getElem?_eq_getElem (by rw [hR.1]; omega)⟩
  obtain ⟨b1, o1, rfl, hadb, _⟩ := hR.at_ hx0
  have hcells : ∀ j v, (boL B)[j]? = some v → (W0.alloc (.cells Z 4)).cell? ((⟨b1, o1, none⟩ : Addr).add j) = some v := fun j v hv => by
    unfold boL at hv
    rw [List.getElem?_map] at hv
    obtain ⟨x, hx, rfl⟩ := Option.map_eq_some_iff.1 hv
    obtain ⟨b, o, hA, hb, hc⟩ := hR.at_ hx
    injection hA with hA
    injection hA with hA1 hA2
    subst hA1 hA2
    rw [Addr.add_lit, Later.cell (hl0.alloc _) hb]
    exact hc
  have hblk : Blk (W0.alloc (.cells Z 4)) W0.heap.size 4 Z := Blk.new _ _ _
  have hzs : Z.size = m := by
    rcases hO.2.2 with ⟨e1, _⟩ | ⟨g', cap, cur, hv, h1, h2, h3, h4, h5, h6⟩
    · cases e1
    · injection hv with hv hv2 hv3
      injection hv with hv
      injection hv with hv hv4
      subst hv hv3
      have : (some (Obj.cells Z 4 (0, 0)) : Option Obj) = some (.cells cur 4 (0, 0)) := hblk.symm.trans h2
      injection this with this
      injection this with this
      rw [this, h5, Nat.mul_one]
  have hbl : (boL B).length = m := by unfold boL; rw [List.length_map]; exact hR.1
  have hone : ∀ v ∈ boL B, v.oneCell' = true := fun v hv => by
    unfold boL at hv
    obtain ⟨x, _, rfl⟩ := List.mem_map.1 hv
    rfl
  have z0 : (W0.alloc (.cells Z 4)).cell? ⟨w.heap.size, 0, none⟩ = some (.int .i64 0) := (B0.alloc _).cell 0
  obtain ⟨Y, hY⟩ : ∃ Y, Y = boL B := ⟨_, rfl⟩
  rw [← hY] at hcells hbl hone
  have HY := Lib.hid hY
  have HM : Hid (B.length = m) := hR.1
  have HW : Hid (W0.heap.size = w.heap.size + 1) := hsz
  have HL : Hid (Later w (W0.alloc (.cells Z 4))) := hl0.alloc _
  rw [hsz] at hblk
  have HC := Lib.hid hcells
  have HB := Lib.hid hblk
  have HZ := Lib.hid hzs
  have HN := Lib.hid hbl
  have HO1 := Lib.hid hone
  have hmi : (m : Int) ≤ 1000001 := by omega
  clear hm hC hR hY hcells hblk hzs hbl hone hZ hO hl0 B0 hW0s hsz hadb hx0
  go_enter Try.func59, Try.ntmps59
  go_upto_region 4 with fail
  rw [← hW0]
  clear hW0
  go_wp2_with (refine wpList_copy_own (o := ⟨some 19, _, _, _, _, _⟩) rfl (.tmp 17) (.tmp 18) 101 101 rfl 4 (by kernel_rfl) (by kernel_rfl) (w.heap.size + 1) 0 m m ⟨b1, o1, none⟩ m c2 rfl rfl Z 4 HB.out Y (HN.out.trans (Nat.min_self m).symm) HC.out (by rw [HN.out, HZ.out]; omega) HO1.out ?_)
  go_ret
  have hq : (Y ++ List.drop Y.length Z.toList) = boL B := by
    rw [List.drop_eq_nil_of_le (by rw [HN.out, Array.length_toList, HZ.out]; exact Nat.le_refl _), List.append_nil]
    exact HY.out
  rw [hq]
  refine ⟨B, sees_eps, _, _, _, rfl, ⟨HM.out, by rw [← HY.out, HN.out, Nat.mul_one], .inr ⟨w.heap.size + 1, m, (boL B).toArray, rfl, by omega, setRow_heap _ _ _ _ _ _ HB.out, Nat.le_refl _, by unfold maxLen; omega, ?_, ?_⟩⟩, below_setRow HL.out (by omega) _⟩
  · rw [List.size_toArray, ← HY.out, HN.out, Nat.mul_one]
  · rw [← HY.out, List.take_of_length_le (by rw [HN.out, Nat.mul_one]; exact Nat.le_refl _)]
end Go.Proofs.Ythmjnelnnhidkaa

/-
  The leaf of the document's step that is a set.
-/
namespace Go.Proofs.Ythmjnelnnhidkaa
open Go.RowKit

set_option maxRecDepth 100000 in
set_option maxHeartbeats 4000000 in
theorem step_set (S : ByteArray) (hS : S.size ≤ 1000000) (s : W4) (hok : okW s) : StepAt S (.set s) := by
  intro lo k a b c d A n cp An m c2 B w hC hR hm
  obtain ⟨hz, hsz0⟩ := zero_set
  obtain ⟨rfl, rfl, rfl, rfl, rfl, rfl⟩ := leafO (kd := 1) (s := s) hC
  obtain ⟨Z, hZ, hmk⟩ := made_bools m (by omega)
  obtain ⟨W0, hW0⟩ : ∃ W0, W0 = w.alloc (.cells #[.int .i64 1, .int .u64 (s.1 : Int), .int .u64 (s.2.1 : Int), .int .u64 (s.2.2.1 : Int), .int .u64 (s.2.2.2 : Int), .slice A 0 cp] 49) := ⟨_, rfl⟩
  have B0 : Blk W0 w.heap.size 49 #[.int .i64 1, .int .u64 (s.1 : Int), .int .u64 (s.2.1 : Int), .int .u64 (s.2.2.1 : Int), .int .u64 (s.2.2.2 : Int), .slice A 0 cp] := by rw [hW0]; exact Blk.new w _ _
  have hl0 : Later w W0 := by rw [hW0]; exact (Later.refl w).alloc _
  have hsz : W0.heap.size = w.heap.size + 1 := by rw [hW0]; simp
  have hO := hZ W0 w.heap.size hl0.size
  rw [hsz] at hO
  obtain ⟨W1, hW1⟩ : ∃ W1, W1 = W0.alloc (.cells Z 4) := ⟨_, rfl⟩
  rw [← hW1] at hO
  have hl1 : Later w W1 := by rw [hW1]; exact hl0.alloc _
  have B1 : Blk W1 w.heap.size 49 #[.int .i64 1, .int .u64 (s.1 : Int), .int .u64 (s.2.1 : Int), .int .u64 (s.2.2.1 : Int), .int .u64 (s.2.2.2 : Int), .slice A 0 cp] := by rw [hW1]; exact B0.alloc _
  have hpl : ∀ wx, Calls Try.prog 21 #[.agg #[.int .u64 (s.1 : Int), .int .u64 (s.2.1 : Int), .int .u64 (s.2.2.1 : Int), .int .u64 (s.2.2.2 : Int)]] wx (fun e w' => e = .returned (.agg (boolC (memW s))) ∧ Later wx w') := fun wx => by
    have h := plain_any (memW s) wx
    have e := w4_mem hok
    unfold setV setC at h
    unfold w4 at e
    have e0 : word (memW s) 0 = s.1 := congrArg (fun t : W4 => t.1) e
    have e1 : word (memW s) 1 = s.2.1 := congrArg (fun t : W4 => t.2.1) e
    have e2 : word (memW s) 2 = s.2.2.1 := congrArg (fun t : W4 => t.2.2.1) e
    have e3 : word (memW s) 3 = s.2.2.2 := congrArg (fun t : W4 => t.2.2.2) e
    rw [e0, e1, e2, e3] at h
    exact h
  have z0 : W1.cell? ⟨w.heap.size, 0, none⟩ = some (.int .i64 1) := B1.cell 0
  obtain ⟨z1, z2, z3, z5⟩ : W1.cell? ⟨w.heap.size, 1, none⟩ = some (.int .u64 (s.1 : Int)) ∧ W1.cell? ⟨w.heap.size, 2, none⟩ = some (.int .u64 (s.2.1 : Int)) ∧ W1.cell? ⟨w.heap.size, 3, none⟩ = some (.int .u64 (s.2.2.1 : Int)) ∧ W1.cell? ⟨w.heap.size, 4, none⟩ = some (.int .u64 (s.2.2.2 : Int)) := ⟨B1.cell 1, B1.cell 2, B1.cell 3, B1.cell 4⟩
  have HPL := Lib.hid hpl
  have HO := Lib.hid hO
  have HL := Lib.hid hl1
  have HR := Lib.hid hR
  have HSZ : Hid (B.length = S.data.toList.length + 1) := by rw [hR.1]; exact hm
  have HM := Lib.hid hm
  have hmi : (m : Int) ≤ 1000001 := by omega
  clear hm hC hR hZ hO hl0 hl1 B0 B1 hsz hpl
  go_enter Try.func59, Try.ntmps59
  go_upto_region 6 with fail
  rw [← hW0, ← hW1]
  clear hW0 hW1 hmk
  go_wp2_with fail
  refine (HPL.out _).mono ?_
  rintro e w2 ⟨rfl, hl2⟩
  have R2 : Hid ((w2.alloc (.cells (boolC mNone) 36)).there w2.heap.size 0 (boolC mNone).size) := thereB (Blk.new w2 _ _)
  go_wp2_with (refine wpList_store_mid (P := Try.prog) rfl 36 (.tmp 8) (.tmp 24) rfl w2.heap.size 0 (boolC (memW s)) rfl rfl R2.out (sizeB' _) (oneB _) ?_)
  obtain ⟨wf, hwf⟩ : ∃ wf, wf = (w2.alloc (.cells (boolC mNone) 36)).setCells w2.heap.size 0 (boolC (memW s)).toList := ⟨_, rfl⟩
  have Bf : Blk wf w2.heap.size 36 (boolC (memW s)) := by rw [hwf]; exact Blk.setBools (Blk.new w2 _ _)
  have hlf : Later W1 wf := by rw [hwf]; exact hl2.trans (laterCells ((Later.refl w2).alloc _) _ _)
  rw [← hwf]
  have HOf : Hid (OwnO wf w.heap.size (some ⟨w.heap.size + 1, 0, none⟩) m m (List.replicate m false)) := HO.out.later hlf
  have HLf : Hid (Later w wf) := HL.out.trans hlf
  have HNE : Hid (w.heap.size + 1 < w2.heap.size) := by
    obtain ⟨_, _, cs, hB⟩ := own_row_blk HO.out.2 (k := w.heap.size + 1) rfl
    exact Nat.lt_of_lt_of_le hB.lt hl2.size
  clear hwf z0 z1 z2 z3 z5 hl2 R2 hlf
  go_loopw [9] (fun s9 wr => ∃ (j : Nat) (C : List Bool), j ≤ S.size ∧ s9 = .int .i64 (j : Int) ∧ OwnO wr w.heap.size (some ⟨w.heap.size + 1, 0, none⟩) m m C ∧ SetUpTo S.data.toList s B j C ∧ Blk wr w2.heap.size 36 (boolC (memW s)) ∧ Later w wr) (fun s9 _ => S.size - (intOf s9).toNat)
  case atStart => exact ⟨0, _, Nat.zero_le _, rfl, HOf.out, by rw [← HR.out.1]; exact setUp_zero _ _ _, Bf, HLf.out⟩
  case round =>
    obtain ⟨j, C, hj, rfl, hown, hset, hB8, hlr⟩ := hrel
    by_cases hlt : j < S.size
    · have hlti : (j : Int) < (S.size : Int) := by omega
      have hj1 : (j : Int) + 1 < (m : Int) := by have := HM.out; omega
      have hjm : (j : Int) < (m : Int) := by omega
      obtain ⟨ch, hch⟩ : ∃ ch, S.data.toList[j]? = some ch := ⟨_, List.getElem?_eq_getElem (by rw [show S.data.toList.length = S.size from rfl]; exact hlt)⟩
      obtain ⟨hpi2, hce⟩ := str_get S j ch hch
      obtain ⟨x, hx⟩ : ∃ x, B[j]? = some x := ⟨_, List.getElem?_eq_getElem (by rw [HR.out.1]; have := HM.out; omega)⟩
      obtain ⟨b1, o1, rfl, hb1, e1⟩ := (HR.out.later hlr).at_ hx
      have hchl : ch.toNat < 256 := ch.toNat_lt
      have e8 : wr.cell? ⟨w2.heap.size, ch.toNat, none⟩ = some (.bool (memW s ch.toNat)) := by rw [hB8.cell, boolC_get _ hchl]
      have hha : hasAt S.data.toList s j = memW s ch.toNat := by
        unfold hasAt
        rw [hch]
        show w4has s ch.toNat = _
        have := w4has_w4 (memW s) hchl
        rw [w4_mem hok] at this
        exact this
      obtain ⟨y, hy⟩ : ∃ y, y = memW s ch.toNat := ⟨_, rfl⟩
      rw [← hy] at e8 hha
      have hj1m : j + 1 < m := by have := HM.out; omega
      obtain ⟨v0, c0⟩ : ∃ v, wr.cell? ⟨w.heap.size + 1, j + 1, none⟩ = some v := by
        obtain ⟨b, o, hA, _, hc⟩ := hown.rd.at_ (k := j + 1) (List.getElem?_eq_getElem (by rw [hown.1]; exact hj1m))
        injection hA with hA
        injection hA with hA1 hA2
        subst hA1 hA2
        rw [Nat.zero_add] at hc
        exact ⟨_, hc⟩
      have f0 : wr.frozen? ⟨w.heap.size + 1, j + 1, none⟩ = false := by
        obtain ⟨_, _, cs, hB⟩ := own_row_blk hown.2 (k := w.heap.size + 1) rfl
        exact hB.frozen _
      have HNX : Hid (∀ z, z = (x && y) → OwnO (wr.setCell ⟨w.heap.size + 1, j + 1, none⟩ (.bool z)) w.heap.size (some ⟨w.heap.size + 1, 0, none⟩) m m (C.set (j + 1) z) ∧ SetUpTo S.data.toList s B (j + 1) (C.set (j + 1) z) ∧ Blk (wr.setCell ⟨w.heap.size + 1, j + 1, none⟩ (.bool z)) w2.heap.size 36 (boolC (memW s)) ∧ Later w (wr.setCell ⟨w.heap.size + 1, j + 1, none⟩ (.bool z))) := fun z hz =>
        ⟨own_seto hown z hj1m, setUp_next hset hx hha hz (by rw [HR.out.1]; exact hj1m), hB8.far (p := ⟨w.heap.size + 1, j + 1, none⟩) (Nat.ne_of_gt HNE.out) _, Later.setCell hlr (Nat.le_succ _) _⟩
      clear hx hown hset hB8 hlr hha hy hch
      cases x with
      | true =>
        go_wp2_with fail
        go_roundw
        case rel => exact ⟨j + 1, _, by omega, by go_num, HNX.out _ rfl⟩
        case measure => simp [intOf]; omega
      | false =>
        go_wp2_with fail
        go_roundw
        case rel => exact ⟨j + 1, _, by omega, by go_num, HNX.out _ rfl⟩
        case measure => simp [intOf]; omega
    · obtain rfl : S.size = j := by omega
      go_wp2_with fail
      go_ret
      exact ⟨C, sees_set HSZ.out hset, _, _, _, rfl, hown, hlr⟩
end Go.Proofs.Ythmjnelnnhidkaa

/-
  The document's step of any term, and its At.
-/
namespace Go.Proofs.Ythmjnelnnhidkaa
open Go.RowKit

theorem step_any (S : ByteArray) (hS : S.size ≤ 1000000) : ∀ r : Rx, okR r → StepAt S r
  | .eps, _ => step_eps S hS
  | .set s, h => step_set S hS s h
  | .first, _ => step_first S hS
  | .last, _ => step_last S hS
  | .cat a b, h => step_cat S hS a b (step_any S hS a h.1) (step_any S hS b h.2)
  | .alt a b, h => step_alt S hS a b (step_any S hS a h.1) (step_any S hS b h.2)
  | .opt a, h => step_opt S hS a (step_any S hS a h)
  | .star a, h => step_star S hS a (star_walk S hS a (step_any S hS a h))
  | .plus a, h => step_plus S hS a (step_any S hS a h) (star_walk S hS a (step_any S hS a h))

end Go.Proofs.Ythmjnelnnhidkaa

/-
  The document's At.
-/
namespace Go.Proofs.Ythmjnelnnhidkaa
open Go.RowKit

/-- the last place that is on, below j -/
def downF (C : List Bool) : Nat → Nat × Bool
  | 0 => (0, false)
  | j + 1 => if C[j]? = some true then (j, true) else downF C j
theorem downF_on {C : List Bool} {j : Nat} (h : C[j]? = some true) : downF C (j + 1) = (j, true) := by rw [downF, if_pos h]
theorem downF_off {C : List Bool} {j : Nat} (h : C[j]? = some false) : downF C (j + 1) = downF C j := by rw [downF, if_neg (by rw [h]; simp)]

set_option maxRecDepth 100000 in
set_option maxHeartbeats 4000000 in
theorem at_walk (S : ByteArray) (hS : S.size ≤ 1000000) (r : Rx) (hst : StepAt S r) (lo : Nat → Prop) (k a b c d : Int) (A : Option Addr) (n cp : Nat) (f : Nat) (hf : f ≤ S.size) (w : World) (hC : ReC w lo (rxT r) ⟨k, a, b, c, d, A, n, cp⟩) :
    Calls Try.prog 42 #[.agg #[.int .i64 k, .int .u64 a, .int .u64 b, .int .u64 c, .int .u64 d, .slice A n cp], .string S, .int .i64 (f : Int)] w fun e w' => (∃ C, Sees S.data.toList r ((List.replicate (S.size + 1) false).set f true) C ∧ e = .returned (.tuple #[.int .i64 ((downF C (S.size + 1)).1 : Int), .bool (downF C (S.size + 1)).2])) ∧ Later w w' := by
  obtain ⟨Z, hZ, hmk⟩ := made_bools (S.size + 1) (by omega)
  have hmk : ∀ (w : World), (Instr.makeSlice 101 (.int .i64 ((S.size : Int) + 1)) (.int .i64 ((S.size : Int) + 1))).run Try.prog w = .ok (.slice (some ⟨w.heap.size, 0, none⟩) (S.size + 1) (S.size + 1)) (w.alloc (.cells Z 4)) := hmk
  obtain ⟨W0, hW0⟩ : ∃ W0, W0 = w.alloc (.cells #[.int .i64 k, .int .u64 a, .int .u64 b, .int .u64 c, .int .u64 d, .slice A n cp] 49) := ⟨_, rfl⟩
  have B0 : Blk W0 w.heap.size 49 #[.int .i64 k, .int .u64 a, .int .u64 b, .int .u64 c, .int .u64 d, .slice A n cp] := by rw [hW0]; exact Blk.new w _ _
  have hl0 : Later w W0 := by rw [hW0]; exact (Later.refl w).alloc _
  have hsz : W0.heap.size = w.heap.size + 1 := by rw [hW0]; simp
  have hO := hZ W0 w.heap.size hl0.size
  have hO2 := own_seto hO true (k := f) (by omega)
  rw [hsz] at hO hO2
  obtain ⟨W1, hW1⟩ : ∃ W1, W1 = W0.alloc (.cells (Z.setIfInBounds f (.bool true)) 4) := ⟨_, rfl⟩
  have hsc : (W0.alloc (.cells Z 4)).setCell ⟨w.heap.size + 1, f, none⟩ (.bool true) = W1 := by rw [hW1]; exact World.setCell_alloc_at Z _ _ _ _ hsz.symm
  rw [hsc] at hO2
  have hl1 : Later w W1 := by rw [← hsc]; exact Later.setCell (hl0.alloc _) (Nat.le_succ _) _
  have B1 : Blk W1 w.heap.size 49 #[.int .i64 k, .int .u64 a, .int .u64 b, .int .u64 c, .int .u64 d, .slice A n cp] := by rw [← hsc]; exact (B0.alloc _).far (p := ⟨w.heap.size + 1, f, none⟩) (by show w.heap.size ≠ w.heap.size + 1; omega) _
  obtain ⟨v0, c0⟩ : ∃ v, (W0.alloc (.cells Z 4)).cell? ⟨w.heap.size + 1, f, none⟩ = some v := by
    obtain ⟨b, o, hA, _, hc⟩ := hO.rd.at_ (k := f) (List.getElem?_eq_getElem (by rw [hO.1]; omega))
    injection hA with hA
    injection hA with hA1 hA2
    subst hA1 hA2
    rw [Nat.zero_add] at hc
    exact ⟨_, hc⟩
  have cz : Z[f]? = some v0 := by rw [← World.cell?_alloc_at (w := W0) Z 4 (w.heap.size + 1) f hsz.symm]; exact c0
  have f0 : (W0.alloc (.cells Z 4)).frozen? ⟨w.heap.size + 1, f, none⟩ = false := by
    obtain ⟨_, _, cs, hB⟩ := own_row_blk hO.2 (k := w.heap.size + 1) rfl
    exact hB.frozen f
  have HST : Hid (Calls Try.prog 59 #[.agg #[.int .i64 k, .int .u64 a, .int .u64 b, .int .u64 c, .int .u64 d, .slice A n cp], .string S, .slice (some ⟨w.heap.size + 1, 0, none⟩) (S.size + 1) (S.size + 1)] W1 (Stepped S.data.toList r ((List.replicate (S.size + 1) false).set f true) W1)) := hst lo _ _ _ _ _ _ _ _ _ _ _ _ W1 (hC.later hl1) hO2.rd rfl
  obtain ⟨z0, z1, z2, z3, z4, z5⟩ : W1.cell? ⟨w.heap.size, 0, none⟩ = some (.int .i64 k) ∧ W1.cell? ⟨w.heap.size, 1, none⟩ = some (.int .u64 a) ∧ W1.cell? ⟨w.heap.size, 2, none⟩ = some (.int .u64 b) ∧ W1.cell? ⟨w.heap.size, 3, none⟩ = some (.int .u64 c) ∧ W1.cell? ⟨w.heap.size, 4, none⟩ = some (.int .u64 d) ∧ W1.cell? ⟨w.heap.size, 5, none⟩ = some (.slice A n cp) := ⟨B1.cell 0, B1.cell 1, B1.cell 2, B1.cell 3, B1.cell 4, B1.cell 5⟩
  have HL := Lib.hid hl1
  have hfi : (f : Int) ≤ (S.size : Int) := by omega
  have hSi : (S.size : Int) ≤ 1000000 := by omega
  have hf0 : ¬ (f : Int) < 0 := by omega
  have hfg : ¬ (f : Int) > (S.size : Int) := by omega
  clear hZ hO hO2 hl0 hl1 B0 B1 hst hC hsc
  go_enter Try.func42, Try.ntmps42
  go_upto_region 5 with fail
  rw [← hW0, ← hW1]
  clear hW0 hW1 hmk c0 f0 hsz cz
  go_wp2_with fail
  refine HST.out.mono ?_
  rintro e w3 ⟨C, hsC, A3, n3, c3, rfl, ho3, hl3⟩
  have hn3 : n3 = S.size + 1 := by rw [← ho3.1, hsC.1]; simp
  subst hn3
  have hcl : C.length = S.size + 1 := ho3.1
  have hrd := ho3.rd
  have HSC := Lib.hid hsC
  have HL3 : Hid (Later w w3) := HL.out.trans hl3
  clear hsC ho3 hl3 HST
  go_wp2_with fail
  go_loopw [9] (fun s9 wr => ∃ j : Nat, j ≤ S.size + 1 ∧ s9 = .int .i64 ((j : Int) - 1) ∧ downF C (S.size + 1) = downF C j ∧ wr = w3) (fun s9 _ => (intOf s9 + 1).toNat)
  case atStart => exact ⟨S.size + 1, Nat.le_refl _, by congr 1; omega, rfl, rfl⟩
  case round =>
    obtain ⟨j, hj, rfl, hd, rfl⟩ := hrel
    cases j with
    | zero =>
      go_wp2_with fail
      go_ret2
      exact ⟨⟨C, HSC.out, by rw [hd]; rfl⟩, HL3.out⟩
    | succ j =>
      have hji : ((j + 1 : Nat) : Int) - 1 = (j : Int) := by omega
      rw [hji]
      obtain ⟨x, hx⟩ : ∃ x, C[j]? = some x := ⟨_, List.getElem?_eq_getElem (by rw [hcl]; omega)⟩
      obtain ⟨b1, o1, rfl, hb1, e1⟩ := hrd.at_ hx
      have hjl : (j : Int) < (S.size : Int) + 1 := by omega
      have HD := Lib.hid hd
      have HX := Lib.hid hx
      clear hd hx hrd hji
      cases x with
      | true =>
        go_wp2_with fail
        go_ret2
        exact ⟨⟨C, HSC.out, by rw [HD.out, downF_on HX.out]; rfl⟩, HL3.out⟩
      | false =>
        go_wp2_with fail
        go_roundw
        case rel => exact ⟨j, by omega, rfl, by rw [HD.out, downF_off HX.out], trivial⟩
        case measure => simp [intOf]
end Go.Proofs.Ythmjnelnnhidkaa

/-
  Package ere's text, Print.
-/
namespace Go.Proofs.Ythmjnelnnhidkaa
open Go.RowKit

set_option maxRecDepth 100000 in
set_option maxHeartbeats 16000000 in
theorem text_any : ∀ (fuel : Nat) (t : Tree) (D n' : Nat) (lo : Nat → Prop) (k a b c d : Int) (A : Option Addr) (n p : Nat) (w : World), SizeOf.sizeOf t ≤ fuel → D ≤ 40 → shapedT t (D : Int) = some n' → wT t → ReC w lo t ⟨k, a, b, c, d, A, n, p⟩ →
    Calls Try.prog 58 #[.agg #[.int .i64 k, .int .u64 a, .int .u64 b, .int .u64 c, .int .u64 d, .slice A n p]] w fun e w' => e = .returned (.string (bstr (textT t))) ∧ Later w w' := by
  intro fuel
  induction fuel with
  | zero => intro t D n' lo k a b c d A n p w hf; cases t; simp at hf
  | succ fuel ih =>
    intro t D n' lo k a b c d A n p w hf hD hsh hw hC
    obtain ⟨R, hR⟩ : ∃ R, R = textT t := ⟨_, rfl⟩
    rw [← hR]
    have HR := Lib.hid hR
    obtain ⟨k', s, ks⟩ := t
    unfold ReC at hC
    obtain ⟨hk, hset, hn, hcp, xs, hL, hKs⟩ := hC
    obtain rfl : k = k' := hk
    obtain ⟨s0, s1, s2, s3⟩ := s
    simp only at hset hn hcp hL
    obtain ⟨rfl, rfl, rfl, rfl⟩ := hset
    unfold wT at hw
    obtain ⟨hw1, hw2⟩ := hw
    obtain ⟨hD1, _, hcs, _⟩ := shaped_cases hsh
    rcases hcs with ⟨rfl, rfl, hk⟩ | ⟨a, rfl, ha, hk⟩ | ⟨a, b, n1, n2, rfl, ha, hb, rfl, hk⟩
    · clear hsh hw2 hL hKs hcp ih hf hR
      rcases hk with rfl | rfl | rfl | rfl
      · have HR2 : Hid (R = [40, 46, 63, 41, 123, 48, 125]) := by show _ = _; rw [HR.out, textT]; rfl
        go_enter Try.func58, Try.ntmps58
        go_wp2_with fail
        go_ret
        exact ⟨by rw [HR2.out]; rfl, (Later.refl w).alloc _⟩
      · have HR2 : Hid (R = setL (memW (s0, s1, s2, s3))) := by show _ = _; rw [HR.out, textT]; rfl
        have hse := fun wx => eset_any (s0, s1, s2, s3) hw1 _ rfl wx
        rw [← HR2.out] at hse
        have HSE := Lib.hid hse
        clear hse
        go_enter Try.func58, Try.ntmps58
        go_wp2_with fail
        refine (HSE.out _).mono ?_
        rintro e w1 ⟨rfl, hl1⟩
        go_wp2_with fail
        go_ret
        exact ⟨rfl, ((Later.refl w).alloc _).trans hl1⟩
      · have HR2 : Hid (R = [94]) := by show _ = _; rw [HR.out, textT]; rfl
        go_enter Try.func58, Try.ntmps58
        go_wp2_with fail
        go_ret
        exact ⟨by rw [HR2.out]; rfl, (Later.refl w).alloc _⟩
      · have HR2 : Hid (R = [36]) := by show _ = _; rw [HR.out, textT]; rfl
        go_enter Try.func58, Try.ntmps58
        go_wp2_with fail
        go_ret
        exact ⟨by rw [HR2.out]; rfl, (Later.refl w).alloc _⟩
    · obtain rfl : n = 1 := by simp at hn; omega
      obtain ⟨D', rfl⟩ : ∃ D', D = D' + 1 := ⟨D - 1, by omega⟩
      have ha : shapedT a (D' : Int) = some n' := by rw [← ha]; congr 1; omega
      obtain ⟨x, hx, hCx⟩ := hKs.get 0 a rfl
      obtain ⟨jk, ja, jb, jc, jd, jA, jn, jp⟩ := x
      obtain ⟨p0, off, hA, e0, e1, e2, e3, e4, e5⟩ := hL.six (by omega : 0 < 1) hx
      rw [Nat.zero_mul, Nat.add_zero] at e0 e1 e2 e3 e4 e5
      simp only at e0 e1 e2 e3 e4 e5
      have hih : ∀ wx, Later w wx → Calls Try.prog 58 #[.agg #[.int .i64 jk, .int .u64 ja, .int .u64 jb, .int .u64 jc, .int .u64 jd, .slice jA jn jp]] wx fun e w' => e = .returned (.string (bstr (textT a))) ∧ Later wx w' :=
        fun wx hwx => ih a D' n' lo jk ja jb jc jd jA jn jp wx (by simp at hf; omega) (by omega) ha (wL_get hw2 (List.mem_cons_self ..)) (hCx.later hwx)
      have hlen := text_max (by omega) ha
      subst hA
      clear hsh hw1 hw2 hL hKs hcp hf hn hx hCx ha ih hR
      rcases hk with rfl | rfl | rfl
      · obtain ⟨SA, hSA⟩ : ∃ SA, SA = bstr (textT a) := ⟨_, rfl⟩
        have HR2 : Hid ((⟨#[40]⟩ : ByteArray) ++ SA ++ (⟨#[41, 42]⟩ : ByteArray) = bstr R) := by
          show _ = _
          rw [hSA, show (⟨#[40]⟩ : ByteArray) = bstr [40] from rfl, show (⟨#[41, 42]⟩ : ByteArray) = bstr [41, 42] from rfl, bstr_app, bstr_app, HR.out, textT]
          simp
        have hq1 : ¬ 9223372036854775807 < (⟨#[40]⟩ : ByteArray).size + SA.size := by rw [hSA, bstr_size]; show ¬ _ < 1 + _; omega
        have hq2 : ¬ 9223372036854775807 < ((⟨#[40]⟩ : ByteArray) ++ SA).size + (⟨#[41, 42]⟩ : ByteArray).size := by rw [ByteArray.size_append, hSA, bstr_size]; show ¬ _ < 1 + _ + 2; omega
        rw [← hSA] at hih
        have HIH := Lib.hid hih
        clear hih hSA hlen
        go_enter Try.func58, Try.ntmps58
        go_upto_region 11 with fail
        obtain ⟨W1, hW1⟩ : ∃ W1, W1 = w.alloc (.cells #[.int .i64 4, .int .u64 (s0 : Nat), .int .u64 (s1 : Nat), .int .u64 (s2 : Nat), .int .u64 (s3 : Nat), .slice (some ⟨p0, off, none⟩) 1 p] 49) := ⟨_, rfl⟩
        have hl0 : Later w W1 := by rw [hW1]; exact (Later.refl w).alloc _
        have B0 : Blk W1 w.heap.size 49 #[.int .i64 4, .int .u64 (s0 : Nat), .int .u64 (s1 : Nat), .int .u64 (s2 : Nat), .int .u64 (s3 : Nat), .slice (some ⟨p0, off, none⟩) 1 p] := by rw [hW1]; exact Blk.new w _ _
        have f0 := fun (q : Addr) (v : Value) (hq : w.cell? q = some v) => (show W1.cell? q = some v from (Later.cell hl0 (World.block_lt_of_cell? w q hq)).trans hq)
        have q5 : W1.cell? ⟨w.heap.size, 5, none⟩ = some (.slice (some ⟨p0, off, none⟩) 1 p) := B0.cell 5
        have e0 := f0 _ _ e0
        have e1 := f0 _ _ e1
        have e2 := f0 _ _ e2
        have e3 := f0 _ _ e3
        have e4 := f0 _ _ e4
        have e5 := f0 _ _ e5
        rw [← hW1]
        clear hW1 B0 f0
        go_wp2_with fail
        refine (HIH.out _ hl0).mono ?_
        rintro e w1 ⟨rfl, hl1⟩
        go_wp2_with fail
        go_ret
        exact ⟨by rw [← HR2.out]; try rfl, hl0.trans hl1⟩
      · obtain ⟨SA, hSA⟩ : ∃ SA, SA = bstr (textT a) := ⟨_, rfl⟩
        have HR2 : Hid ((⟨#[40]⟩ : ByteArray) ++ SA ++ (⟨#[41, 43]⟩ : ByteArray) = bstr R) := by
          show _ = _
          rw [hSA, show (⟨#[40]⟩ : ByteArray) = bstr [40] from rfl, show (⟨#[41, 43]⟩ : ByteArray) = bstr [41, 43] from rfl, bstr_app, bstr_app, HR.out, textT]
          simp
        have hq1 : ¬ 9223372036854775807 < (⟨#[40]⟩ : ByteArray).size + SA.size := by rw [hSA, bstr_size]; show ¬ _ < 1 + _; omega
        have hq2 : ¬ 9223372036854775807 < ((⟨#[40]⟩ : ByteArray) ++ SA).size + (⟨#[41, 43]⟩ : ByteArray).size := by rw [ByteArray.size_append, hSA, bstr_size]; show ¬ _ < 1 + _ + 2; omega
        rw [← hSA] at hih
        have HIH := Lib.hid hih
        clear hih hSA hlen
        go_enter Try.func58, Try.ntmps58
        go_upto_region 13 with fail
        obtain ⟨W1, hW1⟩ : ∃ W1, W1 = w.alloc (.cells #[.int .i64 5, .int .u64 (s0 : Nat), .int .u64 (s1 : Nat), .int .u64 (s2 : Nat), .int .u64 (s3 : Nat), .slice (some ⟨p0, off, none⟩) 1 p] 49) := ⟨_, rfl⟩
        have hl0 : Later w W1 := by rw [hW1]; exact (Later.refl w).alloc _
        have B0 : Blk W1 w.heap.size 49 #[.int .i64 5, .int .u64 (s0 : Nat), .int .u64 (s1 : Nat), .int .u64 (s2 : Nat), .int .u64 (s3 : Nat), .slice (some ⟨p0, off, none⟩) 1 p] := by rw [hW1]; exact Blk.new w _ _
        have f0 := fun (q : Addr) (v : Value) (hq : w.cell? q = some v) => (show W1.cell? q = some v from (Later.cell hl0 (World.block_lt_of_cell? w q hq)).trans hq)
        have q5 : W1.cell? ⟨w.heap.size, 5, none⟩ = some (.slice (some ⟨p0, off, none⟩) 1 p) := B0.cell 5
        have e0 := f0 _ _ e0
        have e1 := f0 _ _ e1
        have e2 := f0 _ _ e2
        have e3 := f0 _ _ e3
        have e4 := f0 _ _ e4
        have e5 := f0 _ _ e5
        rw [← hW1]
        clear hW1 B0 f0
        go_wp2_with fail
        refine (HIH.out _ hl0).mono ?_
        rintro e w1 ⟨rfl, hl1⟩
        go_wp2_with fail
        go_ret
        exact ⟨by rw [← HR2.out]; try rfl, hl0.trans hl1⟩
      · obtain ⟨SA, hSA⟩ : ∃ SA, SA = bstr (textT a) := ⟨_, rfl⟩
        have HR2 : Hid ((⟨#[40]⟩ : ByteArray) ++ SA ++ (⟨#[41, 63]⟩ : ByteArray) = bstr R) := by
          show _ = _
          rw [hSA, show (⟨#[40]⟩ : ByteArray) = bstr [40] from rfl, show (⟨#[41, 63]⟩ : ByteArray) = bstr [41, 63] from rfl, bstr_app, bstr_app, HR.out, textT]
          simp
        have hq1 : ¬ 9223372036854775807 < (⟨#[40]⟩ : ByteArray).size + SA.size := by rw [hSA, bstr_size]; show ¬ _ < 1 + _; omega
        have hq2 : ¬ 9223372036854775807 < ((⟨#[40]⟩ : ByteArray) ++ SA).size + (⟨#[41, 63]⟩ : ByteArray).size := by rw [ByteArray.size_append, hSA, bstr_size]; show ¬ _ < 1 + _ + 2; omega
        rw [← hSA] at hih
        have HIH := Lib.hid hih
        clear hih hSA hlen
        go_enter Try.func58, Try.ntmps58
        go_upto_region 15 with fail
        obtain ⟨W1, hW1⟩ : ∃ W1, W1 = w.alloc (.cells #[.int .i64 6, .int .u64 (s0 : Nat), .int .u64 (s1 : Nat), .int .u64 (s2 : Nat), .int .u64 (s3 : Nat), .slice (some ⟨p0, off, none⟩) 1 p] 49) := ⟨_, rfl⟩
        have hl0 : Later w W1 := by rw [hW1]; exact (Later.refl w).alloc _
        have B0 : Blk W1 w.heap.size 49 #[.int .i64 6, .int .u64 (s0 : Nat), .int .u64 (s1 : Nat), .int .u64 (s2 : Nat), .int .u64 (s3 : Nat), .slice (some ⟨p0, off, none⟩) 1 p] := by rw [hW1]; exact Blk.new w _ _
        have f0 := fun (q : Addr) (v : Value) (hq : w.cell? q = some v) => (show W1.cell? q = some v from (Later.cell hl0 (World.block_lt_of_cell? w q hq)).trans hq)
        have q5 : W1.cell? ⟨w.heap.size, 5, none⟩ = some (.slice (some ⟨p0, off, none⟩) 1 p) := B0.cell 5
        have e0 := f0 _ _ e0
        have e1 := f0 _ _ e1
        have e2 := f0 _ _ e2
        have e3 := f0 _ _ e3
        have e4 := f0 _ _ e4
        have e5 := f0 _ _ e5
        rw [← hW1]
        clear hW1 B0 f0
        go_wp2_with fail
        refine (HIH.out _ hl0).mono ?_
        rintro e w1 ⟨rfl, hl1⟩
        go_wp2_with fail
        go_ret
        exact ⟨by rw [← HR2.out]; try rfl, hl0.trans hl1⟩
    · obtain rfl : n = 2 := by simp at hn; omega
      obtain ⟨D', rfl⟩ : ∃ D', D = D' + 1 := ⟨D - 1, by omega⟩
      have ha : shapedT a (D' : Int) = some n1 := by rw [← ha]; congr 1; omega
      obtain ⟨x, hx, hCx⟩ := hKs.get 0 a rfl
      obtain ⟨y, hy, hCy⟩ := hKs.get 1 b rfl
      obtain ⟨jk, ja, jb, jc, jd, jA, jn, jp⟩ := x
      obtain ⟨ik, ia, ib, ic, id, iA, im, ip⟩ := y
      obtain ⟨p0, off, hA, e0, e1, e2, e3, e4, e5⟩ := hL.six (by omega : 0 < 2) hx
      obtain ⟨p2, off2, hA2, g0, g1, g2, g3, g4, g5⟩ := hL.six (by omega : 1 < 2) hy
      rw [hA] at hA2
      injection hA2 with hA2
      injection hA2 with h3 h4
      subst h3 h4
      rw [Nat.zero_mul, Nat.add_zero] at e0 e1 e2 e3 e4 e5
      simp only at e0 e1 e2 e3 e4 e5 g0 g1 g2 g3 g4 g5
      rw [Nat.one_mul] at g0 g1 g2 g3 g4 g5
      have hih : ∀ wx, Later w wx → Calls Try.prog 58 #[.agg #[.int .i64 jk, .int .u64 ja, .int .u64 jb, .int .u64 jc, .int .u64 jd, .slice jA jn jp]] wx fun e w' => e = .returned (.string (bstr (textT a))) ∧ Later wx w' :=
        fun wx hwx => ih a D' n1 lo jk ja jb jc jd jA jn jp wx (by simp at hf; omega) (by omega) ha (wL_get hw2 (List.mem_cons_self ..)) (hCx.later hwx)
      have hih2 : ∀ wx, Later w wx → Calls Try.prog 58 #[.agg #[.int .i64 ik, .int .u64 ia, .int .u64 ib, .int .u64 ic, .int .u64 id, .slice iA im ip]] wx fun e w' => e = .returned (.string (bstr (textT b))) ∧ Later wx w' :=
        fun wx hwx => ih b (D' + 1) n2 lo ik ia ib ic id iA im ip wx (by simp at hf; omega) hD hb (wL_get hw2 (List.mem_cons_of_mem _ (List.mem_cons_self ..))) (hCy.later hwx)
      have hlen := text_max (by omega) ha
      have hlen2 := text_max hD hb
      subst hA
      clear hsh hw1 hw2 hL hKs hcp hf hn hx hCx ha ih hR hy hCy hb
      rcases hk with rfl | rfl
      · obtain ⟨SA, hSA⟩ : ∃ SA, SA = bstr (textT a) := ⟨_, rfl⟩
        obtain ⟨SB, hSB⟩ : ∃ SB, SB = bstr (textT b) := ⟨_, rfl⟩
        have HR2 : Hid ((⟨#[40]⟩ : ByteArray) ++ SA ++ (⟨#[41, 40]⟩ : ByteArray) ++ SB ++ (⟨#[41]⟩ : ByteArray) = bstr R) := by
          show _ = _
          rw [hSA, hSB, show (⟨#[40]⟩ : ByteArray) = bstr [40] from rfl, show (⟨#[41, 40]⟩ : ByteArray) = bstr [41, 40] from rfl, show (⟨#[41]⟩ : ByteArray) = bstr [41] from rfl, bstr_app, bstr_app, bstr_app, bstr_app, HR.out, textT]
          simp
        have hq1 : ¬ 9223372036854775807 < (⟨#[40]⟩ : ByteArray).size + SA.size := by rw [hSA, bstr_size]; show ¬ _ < 1 + _; omega
        have hq2 : ¬ 9223372036854775807 < ((⟨#[40]⟩ : ByteArray) ++ SA).size + (⟨#[41, 40]⟩ : ByteArray).size := by rw [ByteArray.size_append, hSA, bstr_size]; show ¬ _ < 1 + _ + 2; omega
        have hq3 : ¬ 9223372036854775807 < ((⟨#[40]⟩ : ByteArray) ++ SA ++ (⟨#[41, 40]⟩ : ByteArray)).size + SB.size := by rw [ByteArray.size_append, ByteArray.size_append, hSA, hSB, bstr_size, bstr_size]; show ¬ _ < 1 + _ + 2 + _; omega
        have hq4 : ¬ 9223372036854775807 < ((⟨#[40]⟩ : ByteArray) ++ SA ++ (⟨#[41, 40]⟩ : ByteArray) ++ SB).size + (⟨#[41]⟩ : ByteArray).size := by rw [ByteArray.size_append, ByteArray.size_append, ByteArray.size_append, hSA, hSB, bstr_size, bstr_size]; show ¬ _ < 1 + _ + 2 + _ + 1; omega
        rw [← hSA] at hih
        rw [← hSB] at hih2
        have HIH := Lib.hid hih
        have HIH2 := Lib.hid hih2
        clear hih hSA hlen hih2 hSB hlen2
        go_enter Try.func58, Try.ntmps58
        go_upto_region 7 with fail
        obtain ⟨W1, hW1⟩ : ∃ W1, W1 = w.alloc (.cells #[.int .i64 2, .int .u64 (s0 : Nat), .int .u64 (s1 : Nat), .int .u64 (s2 : Nat), .int .u64 (s3 : Nat), .slice (some ⟨p0, off, none⟩) 2 p] 49) := ⟨_, rfl⟩
        have hl0 : Later w W1 := by rw [hW1]; exact (Later.refl w).alloc _
        have B0 : Blk W1 w.heap.size 49 #[.int .i64 2, .int .u64 (s0 : Nat), .int .u64 (s1 : Nat), .int .u64 (s2 : Nat), .int .u64 (s3 : Nat), .slice (some ⟨p0, off, none⟩) 2 p] := by rw [hW1]; exact Blk.new w _ _
        have f0 := fun (q : Addr) (v : Value) (hq : w.cell? q = some v) => (show W1.cell? q = some v from (Later.cell hl0 (World.block_lt_of_cell? w q hq)).trans hq)
        have q5 : ∀ x : LW W1, x.val.cell? ⟨w.heap.size, 5, none⟩ = some (.slice (some ⟨p0, off, none⟩) 2 p) := LW.cell_ (B0.cell 5)
        have k0 : ∀ x : LW W1, x.val.cell? ⟨p0, off, none⟩ = some (.int .i64 jk) := LW.cell_ (f0 _ _ e0)
        have k1 : ∀ x : LW W1, x.val.cell? ⟨p0, off + 1, none⟩ = some (.int .u64 ja) := LW.cell_ (f0 _ _ e1)
        have k2 : ∀ x : LW W1, x.val.cell? ⟨p0, off + 2, none⟩ = some (.int .u64 jb) := LW.cell_ (f0 _ _ e2)
        have k3 : ∀ x : LW W1, x.val.cell? ⟨p0, off + 3, none⟩ = some (.int .u64 jc) := LW.cell_ (f0 _ _ e3)
        have k4 : ∀ x : LW W1, x.val.cell? ⟨p0, off + 4, none⟩ = some (.int .u64 jd) := LW.cell_ (f0 _ _ e4)
        have k5 : ∀ x : LW W1, x.val.cell? ⟨p0, off + 5, none⟩ = some (.slice jA jn jp) := LW.cell_ (f0 _ _ e5)
        have l0 : ∀ x : LW W1, x.val.cell? ⟨p0, off + 6, none⟩ = some (.int .i64 ik) := LW.cell_ (f0 _ _ g0)
        have l1 : ∀ x : LW W1, x.val.cell? ⟨p0, off + 7, none⟩ = some (.int .u64 ia) := LW.cell_ (f0 _ _ g1)
        have l2 : ∀ x : LW W1, x.val.cell? ⟨p0, off + 8, none⟩ = some (.int .u64 ib) := LW.cell_ (f0 _ _ g2)
        have l3 : ∀ x : LW W1, x.val.cell? ⟨p0, off + 9, none⟩ = some (.int .u64 ic) := LW.cell_ (f0 _ _ g3)
        have l4 : ∀ x : LW W1, x.val.cell? ⟨p0, off + 10, none⟩ = some (.int .u64 id) := LW.cell_ (f0 _ _ g4)
        have l5 : ∀ x : LW W1, x.val.cell? ⟨p0, off + 11, none⟩ = some (.slice iA im ip) := LW.cell_ (f0 _ _ g5)
        rw [← hW1]
        clear hW1 B0 f0 e0 e1 e2 e3 e4 e5 g0 g1 g2 g3 g4 g5
        refine wp_region_laterq (by kernel_rfl) (by kernel_rfl) ?_
        repeat (go_big_quiet_step (((go_at_call 58; first | (with_reducible refine Calls.laterq (HIH.out _ (hl0.trans (LW.later _)))) | (with_reducible refine Calls.laterq (HIH2.out _ (hl0.trans (LW.later _))))))))
        refine wpQuiet_nil ?_
        intro _ hwq
        obtain ⟨xz, rfl⟩ := hwq
        go_wp2_with fail
        go_ret
        exact ⟨by rw [← HR2.out]; try rfl, hl0.trans xz.later⟩
      · obtain ⟨SA, hSA⟩ : ∃ SA, SA = bstr (textT a) := ⟨_, rfl⟩
        obtain ⟨SB, hSB⟩ : ∃ SB, SB = bstr (textT b) := ⟨_, rfl⟩
        have HR2 : Hid ((⟨#[40, 40]⟩ : ByteArray) ++ SA ++ (⟨#[41, 124, 40]⟩ : ByteArray) ++ SB ++ (⟨#[41, 41]⟩ : ByteArray) = bstr R) := by
          show _ = _
          rw [hSA, hSB, show (⟨#[40, 40]⟩ : ByteArray) = bstr [40, 40] from rfl, show (⟨#[41, 124, 40]⟩ : ByteArray) = bstr [41, 124, 40] from rfl, show (⟨#[41, 41]⟩ : ByteArray) = bstr [41, 41] from rfl, bstr_app, bstr_app, bstr_app, bstr_app, HR.out, textT]
          simp
        have hq1 : ¬ 9223372036854775807 < (⟨#[40, 40]⟩ : ByteArray).size + SA.size := by rw [hSA, bstr_size]; show ¬ _ < 2 + _; omega
        have hq2 : ¬ 9223372036854775807 < ((⟨#[40, 40]⟩ : ByteArray) ++ SA).size + (⟨#[41, 124, 40]⟩ : ByteArray).size := by rw [ByteArray.size_append, hSA, bstr_size]; show ¬ _ < 2 + _ + 3; omega
        have hq3 : ¬ 9223372036854775807 < ((⟨#[40, 40]⟩ : ByteArray) ++ SA ++ (⟨#[41, 124, 40]⟩ : ByteArray)).size + SB.size := by rw [ByteArray.size_append, ByteArray.size_append, hSA, hSB, bstr_size, bstr_size]; show ¬ _ < 2 + _ + 3 + _; omega
        have hq4 : ¬ 9223372036854775807 < ((⟨#[40, 40]⟩ : ByteArray) ++ SA ++ (⟨#[41, 124, 40]⟩ : ByteArray) ++ SB).size + (⟨#[41, 41]⟩ : ByteArray).size := by rw [ByteArray.size_append, ByteArray.size_append, ByteArray.size_append, hSA, hSB, bstr_size, bstr_size]; show ¬ _ < 2 + _ + 3 + _ + 2; omega
        rw [← hSA] at hih
        rw [← hSB] at hih2
        have HIH := Lib.hid hih
        have HIH2 := Lib.hid hih2
        clear hih hSA hlen hih2 hSB hlen2
        go_enter Try.func58, Try.ntmps58
        go_upto_region 9 with fail
        obtain ⟨W1, hW1⟩ : ∃ W1, W1 = w.alloc (.cells #[.int .i64 3, .int .u64 (s0 : Nat), .int .u64 (s1 : Nat), .int .u64 (s2 : Nat), .int .u64 (s3 : Nat), .slice (some ⟨p0, off, none⟩) 2 p] 49) := ⟨_, rfl⟩
        have hl0 : Later w W1 := by rw [hW1]; exact (Later.refl w).alloc _
        have B0 : Blk W1 w.heap.size 49 #[.int .i64 3, .int .u64 (s0 : Nat), .int .u64 (s1 : Nat), .int .u64 (s2 : Nat), .int .u64 (s3 : Nat), .slice (some ⟨p0, off, none⟩) 2 p] := by rw [hW1]; exact Blk.new w _ _
        have f0 := fun (q : Addr) (v : Value) (hq : w.cell? q = some v) => (show W1.cell? q = some v from (Later.cell hl0 (World.block_lt_of_cell? w q hq)).trans hq)
        have q5 : ∀ x : LW W1, x.val.cell? ⟨w.heap.size, 5, none⟩ = some (.slice (some ⟨p0, off, none⟩) 2 p) := LW.cell_ (B0.cell 5)
        have k0 : ∀ x : LW W1, x.val.cell? ⟨p0, off, none⟩ = some (.int .i64 jk) := LW.cell_ (f0 _ _ e0)
        have k1 : ∀ x : LW W1, x.val.cell? ⟨p0, off + 1, none⟩ = some (.int .u64 ja) := LW.cell_ (f0 _ _ e1)
        have k2 : ∀ x : LW W1, x.val.cell? ⟨p0, off + 2, none⟩ = some (.int .u64 jb) := LW.cell_ (f0 _ _ e2)
        have k3 : ∀ x : LW W1, x.val.cell? ⟨p0, off + 3, none⟩ = some (.int .u64 jc) := LW.cell_ (f0 _ _ e3)
        have k4 : ∀ x : LW W1, x.val.cell? ⟨p0, off + 4, none⟩ = some (.int .u64 jd) := LW.cell_ (f0 _ _ e4)
        have k5 : ∀ x : LW W1, x.val.cell? ⟨p0, off + 5, none⟩ = some (.slice jA jn jp) := LW.cell_ (f0 _ _ e5)
        have l0 : ∀ x : LW W1, x.val.cell? ⟨p0, off + 6, none⟩ = some (.int .i64 ik) := LW.cell_ (f0 _ _ g0)
        have l1 : ∀ x : LW W1, x.val.cell? ⟨p0, off + 7, none⟩ = some (.int .u64 ia) := LW.cell_ (f0 _ _ g1)
        have l2 : ∀ x : LW W1, x.val.cell? ⟨p0, off + 8, none⟩ = some (.int .u64 ib) := LW.cell_ (f0 _ _ g2)
        have l3 : ∀ x : LW W1, x.val.cell? ⟨p0, off + 9, none⟩ = some (.int .u64 ic) := LW.cell_ (f0 _ _ g3)
        have l4 : ∀ x : LW W1, x.val.cell? ⟨p0, off + 10, none⟩ = some (.int .u64 id) := LW.cell_ (f0 _ _ g4)
        have l5 : ∀ x : LW W1, x.val.cell? ⟨p0, off + 11, none⟩ = some (.slice iA im ip) := LW.cell_ (f0 _ _ g5)
        rw [← hW1]
        clear hW1 B0 f0 e0 e1 e2 e3 e4 e5 g0 g1 g2 g3 g4 g5
        refine wp_region_laterq (by kernel_rfl) (by kernel_rfl) ?_
        repeat (go_big_quiet_step (((go_at_call 58; first | (with_reducible refine Calls.laterq (HIH.out _ (hl0.trans (LW.later _)))) | (with_reducible refine Calls.laterq (HIH2.out _ (hl0.trans (LW.later _))))))))
        refine wpQuiet_nil ?_
        intro _ hwq
        obtain ⟨xz, rfl⟩ := hwq
        go_wp2_with fail
        go_ret
        exact ⟨by rw [← HR2.out]; try rfl, hl0.trans xz.later⟩

theorem print_any (t : Tree) (lo : Nat → Prop) (k a b c d : Int) (A : Option Addr) (n p : Nat) (w : World) (hw : wT t) (hC : ReC w lo t ⟨k, a, b, c, d, A, n, p⟩) :
    Calls Try.prog 40 #[.agg #[.int .i64 k, .int .u64 a, .int .u64 b, .int .u64 c, .int .u64 d, .slice A n p]] w fun e w' => e = .returned (.string (bstr (printT t))) ∧ Later w w' := by
  have hri := fun (wx : World) (hl : Later w wx) => right_any t lo k a b c d A n p wx (hC.later hl)
  have HRI := Lib.hid hri
  clear hri
  cases hr : rightT t with
  | false =>
    have HP : Hid (printT t = []) := by show _ = _; unfold printT; rw [if_neg (by rw [hr]; simp)]
    have HRT := Lib.hid hr
    clear hr
    go_enter Try.func40, Try.ntmps40
    go_wp2_with fail
    refine (HRI.out _ ((Later.refl w).alloc _)).mono ?_
    rw [HRT.out]
    rintro e w1 ⟨rfl, hl1⟩
    go_wp2_with fail
    go_ret
    exact ⟨by rw [HP.out]; rfl, ((Later.refl w).alloc _).trans hl1⟩
  | true =>
    have HP : Hid (printT t = textT t) := by show _ = _; unfold printT; rw [if_pos hr]
    have HRT := Lib.hid hr
    obtain ⟨m, hm⟩ : ∃ m, shapedT t ((40 : Nat) : Int) = some m := by
      unfold rightT at hr
      exact Option.isSome_iff_exists.1 hr
    have htx := fun (wx : World) (hl : Later w wx) => text_any _ t 40 m lo k a b c d A n p wx (Nat.le_refl _) (Nat.le_refl _) hm hw (hC.later hl)
    have HTX := Lib.hid htx
    clear hr hm htx
    go_enter Try.func40, Try.ntmps40
    go_wp2_with fail
    refine (HRI.out _ ((Later.refl w).alloc _)).mono ?_
    rw [HRT.out]
    rintro e w1 ⟨rfl, hl1⟩
    have B1 : Blk w1 w.heap.size 49 #[.int .i64 k, .int .u64 a, .int .u64 b, .int .u64 c, .int .u64 d, .slice A n p] := blkL hl1 (Blk.new w _ _)
    have hlw : Later w w1 := ((Later.refl w).alloc _).trans hl1
    obtain ⟨u0, u1, u2, u3, u4, u5, -⟩ := cells6 B1
    go_wp2_with fail
    refine (HTX.out _ hlw).mono ?_
    rintro e w2 ⟨rfl, hl2⟩
    go_wp2_with fail
    go_ret
    exact ⟨by rw [HP.out]; try rfl, hlw.trans hl2⟩

end Go.Proofs.Ythmjnelnnhidkaa

/-
  Trees of small height: plain.
-/
namespace Go.Proofs.Ythmjnelnnhidkaa

/-- of so many storeys at most -/
def lowT : Nat → Tree → Prop
  | 0, _ => False
  | D + 1, t => ∀ u ∈ t.kids, lowT D u
theorem low_leaf (D : Nat) (k : Int) (s : W4) : lowT (D + 1) (.node k s []) := fun _ h => by cases h
theorem low_sets : ∀ (D : Nat) (t : Tree), lowT D t → shapedR t = true → setsR t ≤ 2 ^ D
  | 0, _, h, _ => h.elim
  | D + 1, .node k s ks, h, hs => by
    unfold shapedR at hs
    simp only [Bool.and_eq_true, decide_eq_true_eq] at hs
    have hlen := kids_two hs.1.1
    have hp : 0 < 2 ^ D := Nat.pow_pos (by omega)
    rw [Nat.pow_succ]
    match ks, hlen with
    | [], _ => rw [setsR]; simp; omega
    | [a], _ =>
      have ha := low_sets D a (h a (by show a ∈ [a]; simp)) (by have := hs.2; rw [shapedRL, shapedRL, Bool.and_true] at this; exact this)
      rw [setsR, if_neg (by simp), setsRL, setsRL]; omega
    | [a, b], _ =>
      have h2 := hs.2
      rw [shapedRL, shapedRL, shapedRL, Bool.and_true, Bool.and_eq_true] at h2
      have ha := low_sets D a (h a (by show a ∈ [a, b]; simp)) h2.1
      have hb := low_sets D b (h b (by show b ∈ [a, b]; simp)) h2.2
      rw [setsR, if_neg (by simp), setsRL, setsRL, setsRL]; omega
theorem low_twist : ∀ (D : Nat) (t : HTree), lowT (D + 1) (twistF D t)
  | 0, t => by unfold twistF; exact low_leaf 0 _ _
  | D + 1, t => by
    unfold twistF
    intro u hu
    obtain ⟨v, _, rfl⟩ := List.mem_map.1 (show u ∈ t.kids.map (twistF D) from hu)
    exact low_twist D v
theorem low_kid (f : HTree → Tree) (D : Nat) (hf : ∀ u, lowT (D + 1) (f u)) (t : HTree) (i : Nat) : lowT (D + 1) (reKid f (D + 1) t i) := by
  unfold reKid
  cases t.kids[i]? with
  | none => exact low_leaf D _ _
  | some u => show lowT _ (if _ then _ else _); rw [if_pos (by omega)]; exact hf u
theorem low_sw (f : HTree → Tree) (D : Nat) (hf : ∀ u, lowT (D + 1) (f u)) (t : HTree) (k : Nat) : lowT (D + 2) (reSw f (D + 1) t k) := by
  have hk := low_kid f D hf t
  unfold reSw
  have two : ∀ c, lowT (D + 2) (.node c z4 [reKid f (D + 1) t 0, reKid f (D + 1) t 1]) := fun c u hu => by
    have hu : u ∈ [reKid f (D + 1) t 0, reKid f (D + 1) t 1] := hu
    simp only [List.mem_cons, List.not_mem_nil, or_false] at hu
    rcases hu with rfl | rfl <;> exact hk _
  have one : ∀ c, lowT (D + 2) (.node c z4 [reKid f (D + 1) t 0]) := fun c u hu => by
    have hu : u ∈ [reKid f (D + 1) t 0] := hu
    simp only [List.mem_cons, List.not_mem_nil, or_false] at hu
    subst hu; exact hk _
  repeat' split
  all_goals first | exact two _ | exact one _ | exact low_leaf _ _ _
theorem low_sw0 (f : HTree → Tree) (t : HTree) (k : Nat) (hk : k ≤ 4) : lowT 1 (reSw f 0 t k) := by
  unfold reSw
  rw [if_neg (by omega), if_neg (by omega), if_neg (by omega), if_neg (by omega), if_neg (by omega)]
  repeat' split
  all_goals exact low_leaf _ _ _
theorem low_re : ∀ (D : Nat) (t : HTree), lowT (D + 1) (reF D t)
  | 0, t => by
    unfold reF reStep
    exact low_sw0 _ _ _ (by split <;> omega)
  | D + 1, t => by
    unfold reF reStep
    exact low_sw _ D (low_re D) t _

end Go.Proofs.Ythmjnelnnhidkaa

/-
  The trees that the arguments give hold words: plain.
-/
namespace Go.Proofs.Ythmjnelnnhidkaa

theorem okW_w4 (p : Mem) : okW (w4 p) := ⟨word_lt p 0, word_lt p 1, word_lt p 2, word_lt p 3⟩
theorem okW_z : okW z4 := by unfold okW z4; decide
theorem wT_leaf {k : Int} {s : W4} (h : okW s) : wT (.node k s []) := by unfold wT wL; exact ⟨h, trivial⟩
theorem wL_all : ∀ {ts : List Tree}, (∀ t ∈ ts, wT t) → wL ts
  | [], _ => by unfold wL; trivial
  | t :: ts, h => by unfold wL; exact ⟨h t (by simp), wL_all fun u hu => h u (by simp [hu])⟩
theorem wT_node {k : Int} {s : W4} {ks : List Tree} (h : okW s) (hk : ∀ t ∈ ks, wT t) : wT (.node k s ks) := by unfold wT; exact ⟨h, wL_all hk⟩
theorem okW_tw (n : Int) : okW (twSet n) := by
  have hw : wrapN n < 18446744073709551616 := by unfold wrapN; omega
  unfold twSet okW
  repeat' split
  all_goals (simp only [z4]; omega)
theorem wT_twist : ∀ (D : Nat) (t : HTree), wT (twistF D t)
  | 0, t => by unfold twistF; exact wT_leaf (okW_tw _)
  | D + 1, t => by
    unfold twistF
    exact wT_node (okW_tw _) fun u hu => by
      obtain ⟨v, _, rfl⟩ := List.mem_map.1 hu
      exact wT_twist D v
theorem wT_one (b : Nat) : wT (tOne b) := by unfold tOne; exact wT_leaf (okW_w4 _)
theorem wT_kid (f : HTree → Tree) (D : Nat) (hf : ∀ u, wT (f u)) (t : HTree) (i : Nat) : wT (reKid f D t i) := by
  unfold reKid
  cases t.kids[i]? with
  | none => unfold abOf; exact wT_one _
  | some u =>
    show wT (if _ then _ else _)
    split
    · exact hf u
    · exact wT_one _
theorem wT_sw (f : HTree → Tree) (D : Nat) (hf : ∀ u, wT (f u)) (t : HTree) (k : Nat) : wT (reSw f D t k) := by
  have hk := wT_kid f D hf t
  have two : ∀ c, wT (.node c z4 [reKid f D t 0, reKid f D t 1]) := fun c => wT_node okW_z fun u hu => by
    simp only [List.mem_cons, List.not_mem_nil, or_false] at hu
    rcases hu with rfl | rfl <;> exact hk _
  have one : ∀ c, wT (.node c z4 [reKid f D t 0]) := fun c => wT_node okW_z fun u hu => by
    simp only [List.mem_cons, List.not_mem_nil, or_false] at hu
    subst hu; exact hk _
  unfold reSw
  by_cases h1 : k = 5 ∨ k = 6
  · rw [if_pos h1]; exact two 2
  · rw [if_neg h1]
    by_cases h2 : k = 7 ∨ k = 8
    · rw [if_pos h2]; exact two 3
    · rw [if_neg h2]
      by_cases h3 : k = 9
      · rw [if_pos h3]; exact one 4
      · rw [if_neg h3]
        by_cases h4 : k = 10
        · rw [if_pos h4]; exact one 5
        · rw [if_neg h4]
          by_cases h5 : k = 11
          · rw [if_pos h5]; exact one 6
          · rw [if_neg h5]
            by_cases h6 : k = 0 ∨ k = 1
            · rw [if_pos h6]; exact wT_one _
            · rw [if_neg h6]
              by_cases h7 : k = 2
              · rw [if_pos h7]; exact wT_leaf (okW_w4 _)
              · rw [if_neg h7]
                by_cases h8 : k = 3
                · rw [if_pos h8]; exact wT_leaf okW_z
                · rw [if_neg h8]; exact wT_one _
theorem wT_re : ∀ (D : Nat) (t : HTree), wT (reF D t)
  | 0, t => by
    unfold reF reStep
    exact wT_sw _ _ (fun _ => wT_leaf okW_z) _ _
  | D + 1, t => by
    unfold reF reStep
    exact wT_sw _ _ (wT_re D) _ _

end Go.Proofs.Ythmjnelnnhidkaa

/-
  The contract of tailracehand.Letters: a text of few letters.
-/
namespace Go.Proofs.Ythmjnelnnhidkaa
open Go.RowKit

def letterOf (x : UInt8) : UInt8 := ([97, 97, 98, 98, 99, 49, 10, 65] : List UInt8).getD (x.toNat % 8) 0
def lettersF (l : List UInt8) (most : Nat) : List UInt8 := (l.take most).map letterOf
theorem letters_len (l : List UInt8) (most : Nat) : (lettersF l most).length ≤ most := by unfold lettersF; rw [List.length_map, List.length_take]; omega
theorem letters_succ (l : List UInt8) (j : Nat) (c : UInt8) (h : l[j]? = some c) : lettersF l (j + 1) = lettersF l j ++ [letterOf c] := by
  unfold lettersF
  rw [List.take_add_one, h]
  simp
theorem bstr_app1 (a : List UInt8) (c : UInt8) (S : ByteArray) (h : S = ⟨#[c]⟩) : bstr a ++ S = bstr (a ++ [c]) := by
  subst h
  apply ByteArray.ext
  simp [bstr]

set_option maxRecDepth 100000 in
set_option maxHeartbeats 8000000 in
theorem letters_any (A : Option Addr) (n c most : Nat) (l : List UInt8) (w : World) (hr : RdB w w.heap.size A n l) (hm : most ≤ 1000000) (hn : n ≤ 9223372036854775807) :
    Calls Try.prog 41 #[.slice A n c, .int .i64 (most : Int)] w fun e w' => e = .returned (.string (bstr (lettersF l most))) ∧ Later w w' := by
  have hlen : l.length = n := hr.len
  have HL := Lib.hid hlen
  clear hlen
  go_enter Try.func41, Try.ntmps41
  go_wp2_with fail
  go_loopw [5, 6] (fun s5 s6 wr => ∃ j : Nat, j ≤ n ∧ j ≤ most ∧ s5 = .string (bstr (lettersF l j)) ∧ s6 = .int .i64 (j : Int) ∧ Later w wr) (fun _ s6 _ => n - (intOf s6).toNat)
  case atStart => exact ⟨0, Nat.zero_le _, Nat.zero_le _, rfl, rfl, Later.refl _⟩
  case round =>
    obtain ⟨j, hj, hjm, rfl, rfl, hlr⟩ := hrel
    by_cases hlt : j < n
    · have hlti : (j : Int) < (n : Int) := by omega
      by_cases hlm : j < most
      · have hlmi : (j : Int) < (most : Int) := by omega
        obtain ⟨x, hx⟩ : ∃ x, l[j]? = some x := ⟨_, List.getElem?_eq_getElem (by rw [HL.out]; exact hlt)⟩
        obtain ⟨b0, off, rfl, hb0, hc⟩ := (hr.later' (Nat.le_refl _) hlr).at_ hlt
        rw [hx] at hc
        simp only [Option.getD_some] at hc
        have hls := letters_succ l j x hx
        have hll := letters_len l j
        obtain ⟨T, hT⟩ : ∃ T, T = lettersF l j := ⟨_, rfl⟩
        rw [← hT] at hls hll ⊢
        have k0 : ∀ y : LW wr, y.val.cell? ⟨b0, off + j, none⟩ = some (.int .u8 (x.toNat : Int)) := LW.cell_ hc
        have hx8 := Nat.mod_lt x.toNat (show 0 < 8 by decide)
        have hsz : (bstr T).size = T.length := rfl
        have HT := Lib.hid hT
        clear hT hx hc
        rcases (show x.toNat % 8 = 0 ∨ x.toNat % 8 = 1 ∨ x.toNat % 8 = 2 ∨ x.toNat % 8 = 3 ∨ x.toNat % 8 = 4 ∨ x.toNat % 8 = 5 ∨ x.toNat % 8 = 6 ∨ x.toNat % 8 = 7 by omega) with h | h | h | h | h | h | h | h
        · have hri : (x.toNat : Int) % 8 = 0 := by omega
          have hle : letterOf x = 97 := by unfold letterOf; rw [h]; rfl
          rw [hle] at hls
          have HLS := Lib.hid hls
          have hz : ¬ 9223372036854775807 < (bstr T).size + (⟨#[97]⟩ : ByteArray).size := by rw [hsz]; show ¬ _ < T.length + 1; omega
          clear h hle hls hx8
          go_wp2_with fail
          refine wp_region_laterq (by kernel_rfl) (by kernel_rfl) ?_
          repeat (go_big_quiet_step (fail))
          refine wpQuiet_nil ?_
          intro _ hwq
          obtain ⟨xz, rfl⟩ := hwq
          go_wp2_with fail
          go_roundw
          case rel => exact ⟨j + 1, by omega, by omega, by rw [HLS.out, ← bstr_app1 T 97 _ rfl]; try rfl, by go_num, hlr.trans xz.later⟩
          case measure => simp [intOf]; omega
        · have hri : (x.toNat : Int) % 8 = 1 := by omega
          have hle : letterOf x = 97 := by unfold letterOf; rw [h]; rfl
          rw [hle] at hls
          have HLS := Lib.hid hls
          have hz : ¬ 9223372036854775807 < (bstr T).size + (⟨#[97]⟩ : ByteArray).size := by rw [hsz]; show ¬ _ < T.length + 1; omega
          clear h hle hls hx8
          go_wp2_with fail
          refine wp_region_laterq (by kernel_rfl) (by kernel_rfl) ?_
          repeat (go_big_quiet_step (fail))
          refine wpQuiet_nil ?_
          intro _ hwq
          obtain ⟨xz, rfl⟩ := hwq
          go_wp2_with fail
          go_roundw
          case rel => exact ⟨j + 1, by omega, by omega, by rw [HLS.out, ← bstr_app1 T 97 _ rfl]; try rfl, by go_num, hlr.trans xz.later⟩
          case measure => simp [intOf]; omega
        · have hri : (x.toNat : Int) % 8 = 2 := by omega
          have hle : letterOf x = 98 := by unfold letterOf; rw [h]; rfl
          rw [hle] at hls
          have HLS := Lib.hid hls
          have hz : ¬ 9223372036854775807 < (bstr T).size + (⟨#[98]⟩ : ByteArray).size := by rw [hsz]; show ¬ _ < T.length + 1; omega
          clear h hle hls hx8
          go_wp2_with fail
          refine wp_region_laterq (by kernel_rfl) (by kernel_rfl) ?_
          repeat (go_big_quiet_step (fail))
          refine wpQuiet_nil ?_
          intro _ hwq
          obtain ⟨xz, rfl⟩ := hwq
          go_wp2_with fail
          go_roundw
          case rel => exact ⟨j + 1, by omega, by omega, by rw [HLS.out, ← bstr_app1 T 98 _ rfl]; try rfl, by go_num, hlr.trans xz.later⟩
          case measure => simp [intOf]; omega
        · have hri : (x.toNat : Int) % 8 = 3 := by omega
          have hle : letterOf x = 98 := by unfold letterOf; rw [h]; rfl
          rw [hle] at hls
          have HLS := Lib.hid hls
          have hz : ¬ 9223372036854775807 < (bstr T).size + (⟨#[98]⟩ : ByteArray).size := by rw [hsz]; show ¬ _ < T.length + 1; omega
          clear h hle hls hx8
          go_wp2_with fail
          refine wp_region_laterq (by kernel_rfl) (by kernel_rfl) ?_
          repeat (go_big_quiet_step (fail))
          refine wpQuiet_nil ?_
          intro _ hwq
          obtain ⟨xz, rfl⟩ := hwq
          go_wp2_with fail
          go_roundw
          case rel => exact ⟨j + 1, by omega, by omega, by rw [HLS.out, ← bstr_app1 T 98 _ rfl]; try rfl, by go_num, hlr.trans xz.later⟩
          case measure => simp [intOf]; omega
        · have hri : (x.toNat : Int) % 8 = 4 := by omega
          have hle : letterOf x = 99 := by unfold letterOf; rw [h]; rfl
          rw [hle] at hls
          have HLS := Lib.hid hls
          have hz : ¬ 9223372036854775807 < (bstr T).size + (⟨#[99]⟩ : ByteArray).size := by rw [hsz]; show ¬ _ < T.length + 1; omega
          clear h hle hls hx8
          go_wp2_with fail
          refine wp_region_laterq (by kernel_rfl) (by kernel_rfl) ?_
          repeat (go_big_quiet_step (fail))
          refine wpQuiet_nil ?_
          intro _ hwq
          obtain ⟨xz, rfl⟩ := hwq
          go_wp2_with fail
          go_roundw
          case rel => exact ⟨j + 1, by omega, by omega, by rw [HLS.out, ← bstr_app1 T 99 _ rfl]; try rfl, by go_num, hlr.trans xz.later⟩
          case measure => simp [intOf]; omega
        · have hri : (x.toNat : Int) % 8 = 5 := by omega
          have hle : letterOf x = 49 := by unfold letterOf; rw [h]; rfl
          rw [hle] at hls
          have HLS := Lib.hid hls
          have hz : ¬ 9223372036854775807 < (bstr T).size + (⟨#[49]⟩ : ByteArray).size := by rw [hsz]; show ¬ _ < T.length + 1; omega
          clear h hle hls hx8
          go_wp2_with fail
          refine wp_region_laterq (by kernel_rfl) (by kernel_rfl) ?_
          repeat (go_big_quiet_step (fail))
          refine wpQuiet_nil ?_
          intro _ hwq
          obtain ⟨xz, rfl⟩ := hwq
          go_wp2_with fail
          go_roundw
          case rel => exact ⟨j + 1, by omega, by omega, by rw [HLS.out, ← bstr_app1 T 49 _ rfl]; try rfl, by go_num, hlr.trans xz.later⟩
          case measure => simp [intOf]; omega
        · have hri : (x.toNat : Int) % 8 = 6 := by omega
          have hle : letterOf x = 10 := by unfold letterOf; rw [h]; rfl
          rw [hle] at hls
          have HLS := Lib.hid hls
          have hz : ¬ 9223372036854775807 < (bstr T).size + (⟨#[10]⟩ : ByteArray).size := by rw [hsz]; show ¬ _ < T.length + 1; omega
          clear h hle hls hx8
          go_wp2_with fail
          refine wp_region_laterq (by kernel_rfl) (by kernel_rfl) ?_
          repeat (go_big_quiet_step (fail))
          refine wpQuiet_nil ?_
          intro _ hwq
          obtain ⟨xz, rfl⟩ := hwq
          go_wp2_with fail
          go_roundw
          case rel => exact ⟨j + 1, by omega, by omega, by rw [HLS.out, ← bstr_app1 T 10 _ rfl]; try rfl, by go_num, hlr.trans xz.later⟩
          case measure => simp [intOf]; omega
        · have hri : (x.toNat : Int) % 8 = 7 := by omega
          have hle : letterOf x = 65 := by unfold letterOf; rw [h]; rfl
          rw [hle] at hls
          have HLS := Lib.hid hls
          have hz : ¬ 9223372036854775807 < (bstr T).size + (⟨#[65]⟩ : ByteArray).size := by rw [hsz]; show ¬ _ < T.length + 1; omega
          clear h hle hls hx8
          go_wp2_with fail
          refine wp_region_laterq (by kernel_rfl) (by kernel_rfl) ?_
          repeat (go_big_quiet_step (fail))
          refine wpQuiet_nil ?_
          intro _ hwq
          obtain ⟨xz, rfl⟩ := hwq
          go_wp2_with fail
          go_roundw
          case rel => exact ⟨j + 1, by omega, by omega, by rw [HLS.out, ← bstr_app1 T 65 _ rfl]; try rfl, by go_num, hlr.trans xz.later⟩
          case measure => simp [intOf]; omega
      · obtain rfl : j = most := by omega
        have hlmi : decide ((j : Int) < (j : Int)) = false := decide_eq_false (by omega)
        go_wp2_with fail
        go_ret
        exact ⟨rfl, hlr⟩
    · obtain rfl : n = j := by omega
      have hT : lettersF l most = lettersF l n := by
        unfold lettersF
        rw [List.take_of_length_le (by rw [HL.out]; omega), List.take_of_length_le (by rw [HL.out]; exact Nat.le_refl _)]
      have HT := Lib.hid hT
      clear hT
      go_wp2_with fail
      go_ret
      exact ⟨by rw [HT.out]; rfl, hlr⟩

end Go.Proofs.Ythmjnelnnhidkaa

/-
  ErePrints: a tree's text and its tree match alike .
-/
namespace Go.Proofs.Ythmjnelnnhidkaa
open Go.RowKit

/-- the tree at hand, in its variable -/
def RgT (w : World) (b5 : Nat) (wr : World) : Prop :=
  ∃ (t : Tree) (k a b c d : Int) (A : Option Addr) (n cp : Nat), Blk wr b5 49 #[.int .i64 k, .int .u64 a, .int .u64 b, .int .u64 c, .int .u64 d, .slice A n cp] ∧ ReC wr (fun g => g ≠ b5) t ⟨k, a, b, c, d, A, n, cp⟩ ∧ lowT 4 t ∧ wT t ∧ Later w wr
theorem known_l {W : World} (x : LW W) : Calls Try.prog 30 #[] x.val fun e w' => e = .returned (.bool true) ∧ Later x.val w' := ereKnown_any x.val

set_option maxRecDepth 100000 in
set_option maxHeartbeats 16000000 in
theorem erePrints_any (t : HTree) (M : Nat) (k n : Int) (A : Option Addr) (m cp : Nat) (is : Bool) (AB : Option Addr) (nb cb : Nat) (rs : List RowV) (w : World) (hB : RdR w w.heap.size AB nb rs) (hrn : ∀ r ∈ rs, r.n ≤ 9223372036854775807) (hM : M ≤ 100000000) (hC : HdC w M t ⟨k, n, A, m, cp⟩) :
    Calls Try.prog 12 #[.agg #[.int .i64 k, .int .i64 n, .slice A m cp], .bool is, .slice AB nb cb] w fun e w' => e = .returned (.bool true) ∧ Later w w' := by
  have HTW : Hid (∀ wx, Later w wx → Calls Try.prog 32 #[.agg #[.int .i64 k, .int .i64 n, .slice A m cp], .int .i64 3] wx (RetT wx (fun g => wx.heap.size ≤ g) (twistF 3 t))) := fun wx hwx => twisted_any 3 t M k n A m cp wx (by omega) hM (HdC.later hwx t hC)
  have HRE : Hid (∀ wx, Later w wx → Calls Try.prog 33 #[.agg #[.int .i64 k, .int .i64 n, .slice A m cp], .int .i64 3] wx (RetT wx (fun g => wx.heap.size ≤ g) (reF 3 t))) := fun wx hwx => hre_any 3 M (by omega) t k n A m cp wx (HdC.later hwx t hC)
  clear hC
  go_enter Try.func12, Try.ntmps12
  go_wp2_with fail
  refine (HTW.out _ ((Later.refl w).alloc _)).mono ?_
  rintro e w0 ⟨k0, a0, b0, c0, d0, A0, n0, cp0, rfl, hC0, hl0⟩
  have B2 := blkL hl0 (Blk.new w 59 #[.int .i64 k, .int .i64 n, .slice A m cp])
  have hlw := ((Later.refl w).alloc (.cells #[.int .i64 k, .int .i64 n, .slice A m cp] 59)).trans hl0
  go_upto_region 2 with fail
  obtain ⟨b5, hb⟩ : ∃ b5, b5 = w0.heap.size := ⟨_, rfl⟩
  obtain ⟨W1, hW1⟩ : ∃ W1, W1 = w0.alloc (.cells #[.int .i64 k0, .int .u64 a0, .int .u64 b0, .int .u64 c0, .int .u64 d0, .slice A0 n0 cp0] 49) := ⟨_, rfl⟩
  have B5 : Blk W1 b5 49 #[.int .i64 k0, .int .u64 a0, .int .u64 b0, .int .u64 c0, .int .u64 d0, .slice A0 n0 cp0] := by rw [hW1, hb]; exact Blk.new w0 _ _
  have hl1 : Later w0 W1 := by rw [hW1]; exact (Later.refl w0).alloc _
  have hl2 := hlw.trans hl1
  have B3 := blkL hl1 B2
  have hC1 : ReC W1 (fun g => g ≠ b5) (twistF 3 t) ⟨k0, a0, b0, c0, d0, A0, n0, cp0⟩ := (ReC.weaken (fun g hg _ => by omega) _ hC0).later hl1
  have hb5 : w.heap.size < b5 := by rw [hb]; have := B2.lt; omega
  rw [← hW1, ← hb]
  clear hW1 hb hl0 hl1 hlw hC0 B2
  obtain ⟨d0', d1', d2'⟩ : W1.cell? ⟨w.heap.size, 0, none⟩ = some (.int .i64 k) ∧ W1.cell? ⟨w.heap.size, 1, none⟩ = some (.int .i64 n) ∧ W1.cell? ⟨w.heap.size, 2, none⟩ = some (.slice A m cp) := ⟨B3.cell 0, B3.cell 1, B3.cell 2⟩
  go_upto_if 21 with (fail)
  go_cut [] (fun wx => RgT w b5 wx)
  case first =>
    cases is with
    | false =>
      go_wp2_with fail
      go_meet
      exact ⟨twistF 3 t, k0, a0, b0, c0, d0, A0, n0, cp0, B5, hC1, low_twist 3 t, wT_twist 3 t, hl2⟩
    | true =>
      clear hC1
      go_wp2_with fail
      refine (HRE.out _ hl2).mono ?_
      rintro e w4 ⟨k1, a1, b1, c1, d1, A1, n1, cp1, rfl, hC4, hl4⟩
      have D5 := blkL hl4 B5
      have hl5 := hl2.trans hl4
      have hC5 : ReC w4 (fun g => g ≠ b5) (reF 3 t) ⟨k1, a1, b1, c1, d1, A1, n1, cp1⟩ := ReC.weaken (fun g hg h => by have := B5.lt; omega) _ hC4
      obtain ⟨z0, z1, z2, z3, z4, z5, y0, y1, y2, y3, y4, y5⟩ := cells6 D5
      have hlc : w.heap.size ≤ b5 := by omega
      clear B5 hl4 hC4 hl2 B3
      go_wp2_with fail
      go_meet
      exact ⟨reF 3 t, k1, a1, b1, c1, d1, A1, n1, cp1, D5.set6, ReC.fr (Fr.set6 b5 _ _ _ _ _ _) (spares_not _ (fun hh => hh rfl)) _ hC5, low_re 3 t, wT_re 3 t, hl5.set6 hlc⟩
  case rest =>
  clear B5 hC1 hl2 B3 HTW HRE d0' d1' d2'
  obtain ⟨u, k, a, b, c, d, A, n, cp, B5, hT, hlow, hwT, hlw⟩ := hcut
  obtain ⟨v, hv⟩ : ∃ v, v = rightR u := ⟨_, rfl⟩
  have hpr : ∀ wx, Later wc wx → Calls Try.prog 40 #[.agg #[.int .i64 k, .int .u64 a, .int .u64 b, .int .u64 c, .int .u64 d, .slice A n cp]] wx fun e w' => e = .returned (.string (bstr (printT u))) ∧ Later wx w' := fun wx hl => print_any u _ k a b c d A n cp wx hwT (hT.later hl)
  have hrr : ∀ wx, Later wc wx → Calls Try.prog 35 #[.agg #[.int .i64 k, .int .u64 a, .int .u64 b, .int .u64 c, .int .u64 d, .slice A n cp]] wx fun e w' => e = .returned (.bool v) ∧ Later wx w' := fun wx hl => by rw [hv]; exact refRight_any u _ k a b c d A n cp wx (fun h => by have := low_sets 4 u hlow h; omega) (hT.later hl)
  have HRR := Lib.hid hrr
  clear hrr hlow
  obtain ⟨z0, z1, z2, z3, z4, z5, -⟩ := cells6 B5
  cases v with
  | false =>
    have hP0 : printT u = [] := by unfold printT; rw [right_same, ← hv]; rfl
    rw [hP0] at hpr
    have HPR := Lib.hid hpr
    clear hpr hP0 hv hT
    go_wp2_with fail
    refine (HPR.out _ (Later.refl _)).mono ?_
    rintro e w1 ⟨rfl, hl1⟩
    have B1 := blkL hl1 B5
    have HL1 := Lib.hid hl1
    clear z0 z1 z2 z3 z4 z5 hl1 B5 HPR
    go_wp2_with fail
    refine (ereKnown_any _).mono ?_
    rintro e w3 ⟨rfl, hl3⟩
    obtain ⟨z0, z1, z2, z3, z4, z5, -⟩ := cells6 (blkL hl3 B1)
    have HL3 := Lib.hid hl3
    clear hl3
    go_wp2_with fail
    refine (HRR.out _ (HL1.out.trans HL3.out)).mono ?_
    rintro e w4 ⟨rfl, hl4⟩
    have HL4 := Lib.hid hl4
    clear z0 z1 z2 z3 z4 z5 hl4
    go_wp2_with fail
    refine (ereKnown_any _).mono ?_
    rintro e w2 ⟨rfl, hl2⟩
    go_wp2_with fail
    go_ret
    exact ⟨congrArg (fun x => Ending.returned (.bool x)) (by rw [bstr_toList]; rfl), (hlw.trans HL1.out).trans (HL3.out.trans (HL4.out.trans hl2))⟩
  | true =>
    have hru : rightT u = true := by rw [right_same, ← hv]
    obtain ⟨r, rfl⟩ := rx_of_right hru
    have hok := ok_of_wT r hwT
    have hP0 : printT (rxT r) = textR r := by unfold printT; rw [if_pos hru]; rfl
    rw [hP0] at hpr
    have hsz : (textR r).length ≤ 600000 := by
      have h := hru
      unfold rightT at h
      rw [Option.isSome_iff_exists] at h
      obtain ⟨q, hq⟩ := h
      exact text_max (D := 40) (by omega) hq
    have hpt := parse_text r hok hru
    obtain ⟨R, hR⟩ : ∃ R, R = parseF (textR r) := ⟨_, rfl⟩
    rw [← hR] at hpt
    have hpc : ∀ wx, Calls Try.prog 28 #[.string (bstr (textR r))] wx (RetParse wx loT R) := fun wx => parse_at (bstr (textR r)) R hR.symm (by rw [bstr_size]; omega) wx
    obtain ⟨Q, hQ⟩ : ∃ Q, Q = bstr (textR r) := ⟨_, rfl⟩
    rw [← hQ] at hpc hpr
    have HPC := Lib.hid hpc
    have HPR := Lib.hid hpr
    have HT := Lib.hid hT
    have HB := Lib.hid hB
    have HRN := Lib.hid hrn
    have HOK := Lib.hid hok
    have B5c := Lib.hid B5
    have HPT := Lib.hid hpt
    clear hpc hpr hP0 hv hT hB hrn hQ hR hsz hru hwT hok hpt
    go_wp2_with fail
    refine (HPR.out _ (Later.refl _)).mono ?_
    rintro e w1 ⟨rfl, hl1⟩
    have B1 := blkL hl1 B5
    have HL1 := Lib.hid hl1
    clear z0 z1 z2 z3 z4 z5 hl1 B5 HPR
    go_wp2_with fail
    refine (ereKnown_any _).mono ?_
    rintro e w3 ⟨rfl, hl3⟩
    obtain ⟨z0, z1, z2, z3, z4, z5, -⟩ := cells6 (blkL hl3 B1)
    have HL3 := Lib.hid hl3
    clear hl3
    go_wp2_with fail
    refine (HRR.out _ (HL1.out.trans HL3.out)).mono ?_
    rintro e w4 ⟨rfl, hl4⟩
    have HL4 := Lib.hid hl4
    clear z0 z1 z2 z3 z4 z5 hl4
    clear B1 HRR
    go_wp2_with fail
    refine (HPC.out _).mono ?_
    rintro e w2 ⟨k2, a2, b2, c2, d2, A2, n2, cp2, rfl, hC2, hl2⟩
    have HL2 : Hid (Later wc w2) := HL1.out.trans (HL3.out.trans (HL4.out.trans hl2))
    have HC2 := Lib.hid hC2
    clear hC2 hl2 HL1 HPC
    obtain ⟨R1, R2, R3⟩ := R
    simp only at HPT HC2 ⊢
    by_cases h26 : R3 = 26
    · subst h26
      clear HPT
      go_wp2_with fail
      go_ret
      exact ⟨rfl, hlw.trans (HL2.out.trans ((Later.refl _).alloc _))⟩
    · have he : (R1, R2, R3) = (rxT r, 0, 0) := HPT.out.resolve_right h26
      injection he with e1 e2
      injection e2 with e2 e3
      subst e1 e2 e3
      clear HPT h26
      go_upto_region 8 with fail
      obtain ⟨b9, hb9⟩ : ∃ b9, b9 = w2.heap.size := ⟨_, rfl⟩
      obtain ⟨W3, hW3⟩ : ∃ W3, W3 = w2.alloc (.cells #[.int .i64 k2, .int .u64 a2, .int .u64 b2, .int .u64 c2, .int .u64 d2, .slice A2 n2 cp2] 49) := ⟨_, rfl⟩
      have hl3 : Later w2 W3 := by rw [hW3]; exact (Later.refl w2).alloc _
      have B9c : Hid (Blk W3 b9 49 #[.int .i64 k2, .int .u64 a2, .int .u64 b2, .int .u64 c2, .int .u64 d2, .slice A2 n2 cp2]) := by rw [hW3, hb9]; exact Blk.new w2 _ _
      rw [← hW3, ← hb9]
      clear hW3 hb9
      have HL3 : Hid (Later wc W3) := HL2.out.trans hl3
      have B5d : Hid (Blk W3 b5 49 #[.int .i64 k, .int .u64 a, .int .u64 b, .int .u64 c, .int .u64 d, .slice A n cp]) := blkL HL3.out B5c.out
      have HT3 := Lib.hid (HT.out.later HL3.out)
      have HC3 := Lib.hid (HC2.out.later hl3)
      have HLW : Hid (Later w W3) := hlw.trans HL3.out
      clear hl3 HL2 B5c HT HC2 HL3 hlw
      have HAT : Hid (∀ (S : ByteArray) (j : Nat) (wx : World), S.size ≤ 10 → j ≤ S.size → Later W3 wx → Calls Try.prog 42 #[.agg #[.int .i64 k, .int .u64 a, .int .u64 b, .int .u64 c, .int .u64 d, .slice A n cp], .string S, .int .i64 (j : Int)] wx fun e w' => (∃ C, Sees S.data.toList r ((List.replicate (S.size + 1) false).set j true) C ∧ e = .returned (.tuple #[.int .i64 ((downF C (S.size + 1)).1 : Int), .bool (downF C (S.size + 1)).2])) ∧ Later wx w') := fun S j wx h1 h2 h3 => at_walk S (by omega) r (step_any S (by omega) r HOK.out) _ k a b c d A n cp j h2 wx (HT3.out.later h3)
      have HAW : Hid (∀ (S : ByteArray) (j : Nat) (wx : World), S.size ≤ 10 → j ≤ S.size → Later W3 wx → Calls Try.prog 42 #[.agg #[.int .i64 k2, .int .u64 a2, .int .u64 b2, .int .u64 c2, .int .u64 d2, .slice A2 n2 cp2], .string S, .int .i64 (j : Int)] wx fun e w' => (∃ C, Sees S.data.toList r ((List.replicate (S.size + 1) false).set j true) C ∧ e = .returned (.tuple #[.int .i64 ((downF C (S.size + 1)).1 : Int), .bool (downF C (S.size + 1)).2])) ∧ Later wx w') := fun S j wx h1 h2 h3 => at_walk S (by omega) r (step_any S (by omega) r HOK.out) _ k2 a2 b2 c2 d2 A2 n2 cp2 j h2 wx (HC3.out.later h3)
      clear HT3 HC3 HOK
      go_wp2_with fail
      go_loopw [12] (fun s12 wr => ∃ i : Nat, i ≤ 4 ∧ s12 = .int .i64 (i : Int) ∧ Hid (Later W3 wr)) (fun s12 _ => 4 - (intOf s12).toNat)
      case atStart => exact ⟨0, Nat.zero_le _, rfl, Later.refl _⟩
      case round =>
        obtain ⟨i, hi4, rfl, hlr⟩ := hrel
        by_cases hlt : i < nb
        · have hlti : (i : Int) < (nb : Int) := by omega
          by_cases h4 : i < 4
          · have h4i : (i : Int) < 4 := by omega
            obtain ⟨bb, off, ⟨rA, rn, rc, rl⟩, rfl, hbb, hrs, hcell, hrd, -⟩ := (HB.out.below ((HLW.out.trans hlr.out).below (Nat.le_refl _))).at_ hlt
            simp only at hcell hrd
            have hrn := HRN.out _ (List.mem_of_getElem? hrs)
            simp only at hrn
            have hrd2 := hrd.more (HLW.out.trans hlr.out).size
            have HLE : Hid (∀ wx, Later wr wx → Calls Try.prog 41 #[.slice rA rn rc, .int .i64 10] wx fun e w' => e = .returned (.string (bstr (lettersF rl 10))) ∧ Later wx w') := fun wx hx => letters_any rA rn rc 10 rl wx ((hrd2.later' (Nat.le_refl _) hx).more hx.size) (by omega) hrn
            have HXL := letters_len rl 10
            clear hrs hrd hrn hrd2 hbb
            go_wp2_with fail
            refine (HLE.out _ (Later.refl _)).mono ?_
            rintro e w4 ⟨rfl, hl4⟩
            obtain ⟨S, hS⟩ : ∃ S, S = bstr (lettersF rl 10) := ⟨_, rfl⟩
            have hS10 : S.size ≤ 10 := by rw [hS, bstr_size]; exact HXL
            rw [← hS]
            have HL4 : Hid (Later W3 w4) := hlr.out.trans hl4
            clear hS HXL HLE hl4 hcell hlr
            go_wp2_with fail
            go_loopw [14] (fun s14 wx => ∃ j : Nat, j ≤ S.size + 1 ∧ s14 = .int .i64 (j : Int) ∧ Hid (Later W3 wx)) (fun s14 _ => S.size + 1 - (intOf s14).toNat)
            case atStart => exact ⟨0, Nat.zero_le _, rfl, HL4.out⟩
            case round =>
              obtain ⟨j, hj, rfl, hlx⟩ := hrel
              by_cases hjS : j ≤ S.size
              · have hji : (j : Int) ≤ (S.size : Int) := by omega
                obtain ⟨z0, z1, z2, z3, z4, z5, -⟩ := cells6 (blkL hlx.out B5d.out)
                go_wp2_with fail
                refine (HAT.out S j _ hS10 hjS hlx.out).mono ?_
                rintro e v1 ⟨⟨C, hC, rfl⟩, hv1⟩
                have hx1 : Hid (Later W3 v1) := hlx.out.trans hv1
                have HC := Lib.hid hC
                clear z0 z1 z2 z3 z4 z5 hC hv1 hlx
                obtain ⟨z0, z1, z2, z3, z4, z5, -⟩ := cells6 (blkL hx1.out B9c.out)
                go_wp2_with fail
                refine (HAW.out S j _ hS10 hjS hx1.out).mono ?_
                rintro e v2 ⟨⟨C2, hC2, rfl⟩, hv2⟩
                obtain rfl := HC.out.one hC2
                have hx2 : Hid (Later W3 v2) := hx1.out.trans hv2
                clear z0 z1 z2 z3 z4 z5 hC2 hv2 hx1 HC
                obtain ⟨⟨D, F⟩, hDF⟩ : ∃ D, D = downF C (S.size + 1) := ⟨_, rfl⟩
                rw [← hDF]
                clear hDF
                have hdd : ((D : Int) != (D : Int)) = false := by rw [bne, beq_self_eq_true]; rfl
                have hff : (F != F) = false := by rw [bne, beq_self_eq_true]; rfl
                go_wp2_with fail
                go_roundw
                case rel => exact ⟨j + 1, by omega, by go_num, hx2⟩
                case measure => simp [intOf]; omega
              · have hji : ¬ (j : Int) ≤ (S.size : Int) := by omega
                go_wp2_with fail
                go_roundw
                case rel => exact ⟨i + 1, by omega, by omega⟩
                case measure => simp [intOf]; omega
          · have h4i : ¬ (i : Int) < 4 := by omega
            go_wp2_with fail
            go_ret
            exact ⟨rfl, HLW.out.trans hlr.out⟩
        · have hlti : ¬ (i : Int) < (nb : Int) := by omega
          go_wp2_with fail
          go_ret
          exact ⟨rfl, HLW.out.trans hlr.out⟩

end Go.Proofs.Ythmjnelnnhidkaa
