import Derived.Lib.Split
import Derived.Test.YtmkddhkpeiajhaaGreatDoorAtW
import Derived.Test.YtmkddhkpeiajhaaGreatDoorShelf
import Derived.Test.YtmkddhkpeiajhaaGreatDoorBytes
namespace Go.Proofs.YtmkddhkpeiajhaaGreatDoor
def tailC (c : UInt8) : List (List UInt8) → List UInt8
 | [] => []
 | x :: r => c :: (x ++ tailC c r)
def joinC (c : UInt8) : List (List UInt8) → List UInt8
 | [] => []
 | x :: r => x ++ tailC c r
theorem tailC_snoc (c : UInt8) (x : List UInt8) : ∀ r, tailC c (r ++ [x]) = tailC c r ++ c :: x
 | [] => by simp [tailC]
 | y :: r => by rw [List.cons_append, tailC, tailC_snoc c x r, tailC]; simp
theorem joinC_one (c : UInt8) (x : List UInt8) : joinC c [x] = x := by simp [joinC, tailC]
theorem joinC_snoc (c : UInt8) (x : List UInt8) {A : List (List UInt8)} (h : A ≠ []) : joinC c (A ++ [x]) = joinC c A ++ c :: x := by
 cases A with
 | nil => exact absurd rfl h
 | cons a r => rw [List.cons_append, joinC, tailC_snoc, joinC, List.append_assoc]
def piecesC (c : UInt8) (l : List UInt8) : List (List UInt8) := Lib.splitK [c] 0 (Lib.count l [c]) l
theorem occ_at {l : List UInt8} {c : UInt8} {j : Nat} (h : l[j]? = some c) : Lib.occAt l [c] j = true := by
 obtain ⟨hl, e⟩ := List.getElem?_eq_some_iff.1 h
 unfold Lib.occAt
 rw [List.drop_eq_getElem_cons hl, e]
 simp [List.isPrefixOf]
theorem pieces_law (c : UInt8) : ∀ (n : Nat) (l : List UInt8), l.length ≤ n → (piecesC c l).length = l.count c + 1 ∧ joinC c (piecesC c l) = l ∧ Lib.count l [c] = l.count c := by
 intro n
 induction n with
 | zero =>
  intro l hl
  obtain rfl : l = [] := List.eq_nil_of_length_eq_zero (by omega)
  have h : Lib.index [] [c] = -1 := rfl
  unfold piecesC
  rw [Lib.count_miss h, Lib.splitK]
  exact ⟨rfl, rfl, rfl⟩
 | succ n ih =>
  intro l hl
  rcases Lib.index_spec l [c] with ⟨h, hno⟩ | ⟨i, h, hi, hocc, hno⟩
  ·unfold piecesC
   rw [Lib.count_miss h, Lib.splitK]
   have hnc : c ∉ l := fun hm => by
    obtain ⟨j, hj, e⟩ := List.getElem_of_mem hm
    have h1 := hno j (by omega)
    rw [occ_at (by rw [List.getElem?_eq_getElem hj, e])] at h1
    cases h1
   rw [List.count_eq_zero_of_not_mem hnc]
   exact ⟨rfl, joinC_one c l, rfl⟩
  ·have hc : l[i]? = some c := Lib.occAt_head rfl hocc
   obtain ⟨hil, e⟩ := List.getElem?_eq_some_iff.1 hc
   have hct := Lib.count_hit (s := l) (sub := [c]) (by simp) h
   have hrest := ih (l.drop (i + 1)) (by rw [List.length_drop]; omega)
   have hsplit : l = l.take i ++ c :: l.drop (i + 1) := by
    conv => lhs; rw [← List.take_append_drop i l, List.drop_eq_getElem_cons hil, e]
   have hz : (l.take i).count c = 0 := by
    apply List.count_eq_zero_of_not_mem
    intro hm
    obtain ⟨j, hj, ej⟩ := List.getElem_of_mem hm
    have hji : j < i := by rw [List.length_take] at hj; omega
    have h1 := hno j hji
    rw [List.getElem_take] at ej
    rw [occ_at (by rw [List.getElem?_eq_getElem (by omega), ej])] at h1
    cases h1
   have hP : piecesC c l = l.take i :: piecesC c (l.drop (i + 1)) := by
    unfold piecesC
    rw [hct, Nat.add_comm 1, Lib.splitK, if_neg (by rw [h]; simp), h]
    simp
   have hcl : l.count c = (l.drop (i + 1)).count c + 1 := by
    conv => lhs; rw [hsplit]
    rw [List.count_append, List.count_cons, hz]
    simp
   rw [hP]
   refine ⟨?_, ?_, ?_⟩
   ·rw [List.length_cons, hrest.1, hcl]
   ·have hj : joinC c (l.take i :: piecesC c (l.drop (i + 1))) = l.take i ++ c :: joinC c (piecesC c (l.drop (i + 1))) := by
     cases hq : piecesC c (l.drop (i + 1)) with
     | nil => rw [hq] at hrest; simp at hrest
     | cons p ps => rw [joinC, tailC, joinC]
    rw [hj, hrest.2.1]
    exact hsplit.symm
   ·have h3 := hrest.2.2
    have h4 : Lib.count l [c] = 1 + Lib.count (l.drop (i + 1)) [c] := hct
    omega
theorem pieces_len (c : UInt8) (l : List UInt8) : (piecesC c l).length = l.count c + 1 := (pieces_law c _ l (Nat.le_refl _)).1
theorem pieces_join (c : UInt8) (l : List UInt8) : joinC c (piecesC c l) = l := (pieces_law c _ l (Nat.le_refl _)).2.1
theorem pieces_count (c : UInt8) (l : List UInt8) : Lib.count l [c] = l.count c := (pieces_law c _ l (Nat.le_refl _)).2.2
theorem join_step (c : UInt8) (P : List (List UInt8)) (i : Nat) (x : List UInt8) (h : P[i]? = some x) : joinC c (P.take (i + 1)) = (if i = 0 then [] else joinC c (P.take i) ++ [c]) ++ x := by
 obtain ⟨hl, e⟩ := List.getElem?_eq_some_iff.1 h
 rw [List.take_add_one, h]
 by_cases hi : i = 0
 ·subst hi
  simp [joinC, tailC]
 ·rw [if_neg hi]
  have hne : P.take i ≠ [] := fun hn => by
   have := congrArg List.length hn
   rw [List.length_take, List.length_nil] at this
   omega
  show joinC c (P.take i ++ [x]) = _
  rw [joinC_snoc c x hne]
  simp
theorem tailC_app (c : UInt8) (B : List (List UInt8)) : ∀ A, tailC c (A ++ B) = tailC c A ++ tailC c B
 | [] => rfl
 | x :: r => by rw [List.cons_append, tailC, tailC_app c B r, tailC]; simp
theorem joinC_le (c : UInt8) (P : List (List UInt8)) (i : Nat) : (joinC c (P.take i)).length ≤ (joinC c P).length := by
 conv => rhs; rw [← List.take_append_drop i P]
 cases h : P.take i with
 | nil => simp [joinC]
 | cons a r => rw [List.cons_append, joinC, joinC, tailC_app, List.length_append, List.length_append, List.length_append]; omega
theorem piece_le (c : UInt8) (P : List (List UInt8)) (i : Nat) (x : List UInt8) (h : P[i]? = some x) : (joinC c (P.take i)).length + x.length ≤ (joinC c P).length := by
 have h1 := joinC_le c P (i + 1)
 rw [join_step c P i x h, List.length_append] at h1
 by_cases hi : i = 0
 ·subst hi
  have : joinC c (P.take 0) = [] := rfl
  rw [this]
  rw [if_pos rfl] at h1
  exact h1
 ·rw [if_neg hi, List.length_append] at h1
  omega
end Go.Proofs.YtmkddhkpeiajhaaGreatDoor
namespace Go.Proofs.YtmkddhkpeiajhaaGreatDoor
open Go.RowKit
def MaxL (w : World) : Prop := ∃ m : Int, w.cell? ⟨1, 0, none⟩ = some (.int .i64 m)
theorem MaxL.later {w w' : World} (h : MaxL w) (hl : Later w w') : MaxL w' := by
 obtain ⟨m, hm⟩ := h
 exact ⟨m, by rw [Later.cell hl (World.block_lt_of_cell? _ _ hm), hm]⟩
theorem reads_cells (w : World) (ss : List (List UInt8)) (t : TypeId) : RdZ (w.alloc (.cells (ss.map strCell).toArray t)) (w.heap.size + 1) (some ⟨w.heap.size, 0, none⟩) ss.length ss := by
 refine ⟨by rw [List.length_map, Nat.mul_one], fun _ => ⟨_, rfl, Nat.lt_succ_self _, fun j u hu => ?_⟩⟩
 rw [Addr.add_lit, Nat.zero_add, cell_of_row _ _ _ _ _ _ (heap_alloc_new w _)]
 simpa using hu
theorem split_cells (c : UInt8) (L : List UInt8) : ((Lib.splitB (bstr [c]) 0 (Lib.countB (bstr L) (bstr [c])) (bstr L)).map Value.string) = (piecesC c L).map strCell := by
 have h := Lib.splitB_data (bstr [c]) 0 (Lib.countB (bstr L) (bstr [c])) (bstr L)
 have h2 : piecesC c L = (Lib.splitB (bstr [c]) 0 (Lib.countB (bstr L) (bstr [c])) (bstr L)).map (·.data.toList) := h.symm
 rw [h2, List.map_map]
 apply List.map_congr_left
 intro b _
 rfl
theorem count_cells (c : UInt8) (L : List UInt8) : Lib.countB (bstr L) (bstr [c]) + 1 = (piecesC c L).length := by
 rw [pieces_len]
 show Lib.count L [c] + 1 = _
 rw [pieces_count]
def RetSs (w : World) (ss : List (List UInt8)) (v : Value) (w' : World) : Prop :=
 ∃ A n c, v = .slice A n c ∧ RdZ w' w'.heap.size A n ss ∧ Later w w'
theorem split_at (c : UInt8) (L : List UInt8) (w : World) (hm : MaxL w) (hL : L.length ≤ 1000000) :
  Calls Tryz.prog 54 #[.string (bstr L), .string (bstr [c])] w fun e w' => ∃ v, e = .returned v ∧ RetSs w (piecesC c L) v w' := by
 obtain ⟨m, hm⟩ := hm
 refine (Tryz.strings_Split (bstr L) (bstr [c]) m w (by show L.length < _; omega) hm (Nat.le_refl 1)).mono ?_
 rintro e w' ⟨rfl, rfl⟩
 refine ⟨_, rfl, _, _, _, rfl, ?_, (Later.refl w).alloc _⟩
 rw [split_cells, count_cells]
 have h := reads_cells w (piecesC c L) 9
 have hz : (w.alloc (.cells ((piecesC c L).map strCell).toArray 9)).heap.size = w.heap.size + 1 := by simp
 rw [← hz] at h
 exact h
set_option maxRecDepth 100000 in
set_option maxHeartbeats 4000000 in
theorem plain_at (c : UInt8) (L : List UInt8) (w : World) (hm : MaxL w) (hL : L.length ≤ 1000000) (hn : L ≠ []) (h32 : c ≠ 32) (h92 : c ≠ 92) :
  Calls Tryz.prog 42 #[.string (bstr L), .string (bstr [c])] w fun e w' => ∃ v, e = .returned (.tuple #[v, .bool true]) ∧ RetSs w (piecesC c L) v w' := by
 have hsp := fun (wx : World) (hl : Later w wx) => split_at c L wx (hm.later hl) hL
 have e1 : (bstr L).toList.isEmpty = false := by rw [bstr_toList]; cases L with | nil => exact absurd rfl hn | cons _ _ => rfl
 have e2 : ((bstr [c]).toList == [32]) = false := by rw [bstr_toList]; simpa using h32
 have e3 : (bstr [c]).toList.isEmpty = false := by rw [bstr_toList]; rfl
 have e4 : ((bstr [c]).toList == [92]) = false := by rw [bstr_toList]; simpa using h92
 have e5 : (bstr [c]).size = 1 := rfl
 obtain ⟨S, hS⟩ : ∃ S, S = bstr L := ⟨_, rfl⟩
 obtain ⟨T, hT⟩ : ∃ T, T = bstr [c] := ⟨_, rfl⟩
 rw [← hS, ← hT] at hsp ⊢
 rw [← hS] at e1
 rw [← hT] at e2 e3 e4 e5
 have HSP := Lib.hid hsp
 clear hS hT hsp hn h32 h92 hm
 go_enter Tryz.func42, Tryz.ntmps42
 go_wp2_with fail
 refine (HSP.out _ (Later.refl _)).mono ?_
 rintro e w1 ⟨v, rfl, hv⟩
 have HV := Lib.hid hv
 clear hv
 go_wp2_with fail
 go_ret2
 exact ⟨v, rfl, HV.out⟩
end Go.Proofs.YtmkddhkpeiajhaaGreatDoor
namespace Go.Proofs.YtmkddhkpeiajhaaGreatDoor
open Go.RowKit
def blankB (c : UInt8) : Bool := (decide (9 ≤ c.toNat) && decide (c.toNat ≤ 13)) || decide (c.toNat = 32)
def wStep (l : List UInt8) (i : Nat) (st : List (List UInt8) × Int) : List (List UInt8) × Int :=
 match l[i]? with
 | some c => if blankB c then (if 0 ≤ st.2 then (st.1 ++ [(l.drop st.2.toNat).take (i - st.2.toNat)], -1) else st) else (st.1, if st.2 < 0 then (i : Int) else st.2)
 | none => if 0 ≤ st.2 then (st.1 ++ [(l.drop st.2.toNat).take (i - st.2.toNat)], -1) else st
def wIter (l : List UInt8) : Nat → List (List UInt8) × Int
 | 0 => ([], -1)
 | i + 1 => wStep l i (wIter l i)
def wordsF (l : List UInt8) : List (List UInt8) := (wIter l (l.length + 1)).1
theorem wIter_bd (l : List UInt8) : ∀ i, -1 ≤ (wIter l i).2 ∧ (wIter l i).2 < (i : Int) ∧ (wIter l i).1.length ≤ i
 | 0 => by simp [wIter]
 | i + 1 => by
  have h := wIter_bd l i
  rw [wIter]
  unfold wStep
  cases l[i]? with
  | none =>
   show -1 ≤ (ite _ _ _ : List (List UInt8) × Int).2 ∧ (ite _ _ _ : List (List UInt8) × Int).2 < _ ∧ (ite _ _ _ : List (List UInt8) × Int).1.length ≤ _
   by_cases h0 : 0 ≤ (wIter l i).2
   ·rw [if_pos h0]; refine ⟨by show (-1 : Int) ≤ -1; omega, by show (-1 : Int) < _; omega, ?_⟩; rw [List.length_append]; show _ + 1 ≤ _; omega
   ·rw [if_neg h0]; omega
  | some c =>
   show -1 ≤ (ite _ _ _ : List (List UInt8) × Int).2 ∧ (ite _ _ _ : List (List UInt8) × Int).2 < _ ∧ (ite _ _ _ : List (List UInt8) × Int).1.length ≤ _
   by_cases hb : blankB c = true
   ·rw [if_pos hb]
    by_cases h0 : 0 ≤ (wIter l i).2
    ·rw [if_pos h0]; refine ⟨by show (-1 : Int) ≤ -1; omega, by show (-1 : Int) < _; omega, ?_⟩; rw [List.length_append]; show _ + 1 ≤ _; omega
    ·rw [if_neg h0]; omega
   ·rw [if_neg hb]
    by_cases h0 : (wIter l i).2 < 0
    ·rw [if_pos h0]; refine ⟨by show (-1 : Int) ≤ (i : Int); omega, by show (i : Int) < _; omega, by show (wIter l i).1.length ≤ _; omega⟩
    ·rw [if_neg h0]; refine ⟨h.1, by show (wIter l i).2 < _; omega, by show (wIter l i).1.length ≤ _; omega⟩
theorem w_blank {l : List UInt8} {i : Nat} {c : UInt8} (h : l[i]? = some c) (hb : blankB c = true) (h0 : 0 ≤ (wIter l i).2) : wIter l (i + 1) = ((wIter l i).1 ++ [(l.drop (wIter l i).2.toNat).take (i - (wIter l i).2.toNat)], -1) := by
 rw [wIter, wStep, h]; simp only [hb, if_true, h0]
theorem w_end {l : List UInt8} {i : Nat} (h : l[i]? = none) (h0 : 0 ≤ (wIter l i).2) : wIter l (i + 1) = ((wIter l i).1 ++ [(l.drop (wIter l i).2.toNat).take (i - (wIter l i).2.toNat)], -1) := by
 rw [wIter, wStep, h]; simp only [h0, if_true]
theorem w_skip {l : List UInt8} {i : Nat} {c : UInt8} (h : l[i]? = some c) (hb : blankB c = true) (h0 : ¬ 0 ≤ (wIter l i).2) : wIter l (i + 1) = wIter l i := by
 rw [wIter, wStep, h]; simp only [hb, if_true, h0, if_false]
theorem w_skip_end {l : List UInt8} {i : Nat} (h : l[i]? = none) (h0 : ¬ 0 ≤ (wIter l i).2) : wIter l (i + 1) = wIter l i := by
 rw [wIter, wStep, h]; simp only [h0, if_false]
theorem w_begin {l : List UInt8} {i : Nat} {c : UInt8} (h : l[i]? = some c) (hb : blankB c = false) (h0 : (wIter l i).2 < 0) : wIter l (i + 1) = ((wIter l i).1, (i : Int)) := by
 rw [wIter, wStep, h]; simp only [hb, h0, if_true]; rfl
theorem w_in {l : List UInt8} {i : Nat} {c : UInt8} (h : l[i]? = some c) (hb : blankB c = false) (h0 : ¬ (wIter l i).2 < 0) : wIter l (i + 1) = wIter l i := by
 rw [wIter, wStep, h]; simp only [hb, h0, if_false]; rfl
set_option maxHeartbeats 2000000 in
theorem blank_any (c : UInt8) (x : Int) (hx : x = (c.toNat : Int)) (w : World) : Calls Tryz.prog 62 #[.int .u8 x] w fun e w' => e = .returned (.bool (blankB c)) ∧ w' = w := by
 obtain ⟨R, hR⟩ : ∃ R, R = blankB c := ⟨_, rfl⟩
 rw [← hR]
 subst hx
 by_cases h9 : (9 : Int) ≤ (c.toNat : Int)
 ·by_cases h13 : (c.toNat : Int) ≤ 13
  ·obtain rfl : R = true := by rw [hR]; unfold blankB; rw [decide_eq_true (by omega), decide_eq_true (by omega)]; rfl
   clear hR
   go_enter Tryz.func62, Tryz.ntmps62
   go_wp2_with fail
   go_ret
   exact ⟨rfl, rfl⟩
  ·by_cases h32 : (c.toNat : Int) = 32
   ·obtain rfl : R = true := by rw [hR]; unfold blankB; rw [decide_eq_true (p := c.toNat = 32) (by omega), Bool.or_true]
    rw [h32]
    clear hR
    go_enter Tryz.func62, Tryz.ntmps62
    go_wp2_with fail
    go_ret
    exact ⟨rfl, rfl⟩
   ·obtain rfl : R = false := by rw [hR]; unfold blankB; rw [decide_eq_false (p := c.toNat ≤ 13) (by omega), decide_eq_false (p := c.toNat = 32) (by omega)]; simp
    have hq : ((c.toNat : Int) == 32) = false := by rw [beq_eq_false_iff_ne]; exact h32
    clear hR
    go_enter Tryz.func62, Tryz.ntmps62
    go_wp2_with fail
    go_ret
    exact ⟨rfl, rfl⟩
 ·obtain rfl : R = false := by rw [hR]; unfold blankB; rw [decide_eq_false (p := 9 ≤ c.toNat) (by omega), decide_eq_false (p := c.toNat = 32) (by omega)]; rfl
  have hq : ((c.toNat : Int) == 32) = false := by rw [beq_eq_false_iff_ne]; omega
  clear hR
  go_enter Tryz.func62, Tryz.ntmps62
  go_wp2_with fail
  go_ret
  exact ⟨rfl, rfl⟩
theorem OwnZ.later {w w' : World} {base n c : Nat} {A : Option Addr} {ss : List (List UInt8)} (h : OwnZ w base A n c ss) (hl : Later w w') : OwnZ w' base A n c ss := h.fr (Fr.of_below hl) (fun k hk => by have := h.lt k hk; omega)
theorem str_gz (L : List UInt8) (i : Nat) (x : UInt8) (h : L[i]? = some x) : ∃ hi : i < (bstr L).size, (bstr L)[i] = x := by
 obtain ⟨hl, e⟩ := List.getElem?_eq_some_iff.1 h
 exact ⟨hl, e⟩
def WdAt (w : World) (L : List UInt8) (i : Nat) (s3 s4 s5 : Value) (wr : World) : Prop :=
 ∃ A n c, s3 = .slice A n c ∧ s4 = .int .i64 (wIter L i).2 ∧ s5 = .int .i64 (i : Int) ∧ OwnZ wr w.heap.size A n c (wIter L i).1 ∧ Later w wr
set_option maxRecDepth 100000 in
set_option maxHeartbeats 8000000 in
theorem words_any (L : List UInt8) (hL : L.length ≤ 1000000) (w : World) : Calls Tryz.prog 53 #[.string (bstr L)] w fun e w' => ∃ A n c, e = .returned (.slice A n c) ∧ OwnZ w' w.heap.size A n c (wordsF L) ∧ Later w w' := by
 have hsz : (bstr L).size = L.length := rfl
 go_enter Tryz.func53, Tryz.ntmps53
 go_wp2_with fail
 go_loopw [3, 4, 5] (fun s3 s4 s5 wr => ∃ i : Nat, i ≤ L.length + 1 ∧ WdAt w L i s3 s4 s5 wr) (fun _ _ s5 _ => L.length + 1 - (intOf s5).toNat)
 case atStart => exact ⟨0, Nat.zero_le _, none, 0, 0, rfl, rfl, rfl, OwnZ.nil, Later.refl _⟩
 case round =>
  obtain ⟨i, hi, A, n, c, rfl, rfl, rfl, hown, hlw⟩ := hrel
  have hbd := wIter_bd L i
  have hnl := hown.len
  obtain ⟨q, hq⟩ : ∃ q, q = (wIter L i).2 := ⟨_, rfl⟩
  rw [← hq] at hbd ⊢
  have HQ := Lib.hid hq
  clear hq
  by_cases hle : i ≤ L.length
  ·have hlei : (i : Int) ≤ (L.length : Int) := by omega
   by_cases hlt : i < L.length
   ·have hlti : (i : Int) < (L.length : Int) := by omega
    obtain ⟨x, hx⟩ : ∃ x, L[i]? = some x := ⟨_, List.getElem?_eq_getElem hlt⟩
    obtain ⟨hxi, hxe⟩ := str_gz L i x hx
    have hx256 := x.toNat_lt
    cases hb : blankB x with
    | true =>
     have HB : Calls Tryz.prog 62 #[.int .u8 (x.toNat : Int)] wr fun e w' => e = .returned (.bool true) ∧ w' = wr := by have h := blank_any x _ rfl wr; rw [hb] at h; exact h
     by_cases h0 : 0 ≤ q
     ·have hnext := w_blank hx hb (by rw [← HQ.out]; exact h0)
      rw [← HQ.out] at hnext
      obtain ⟨fr, rfl⟩ : ∃ fr : Nat, q = (fr : Int) := ⟨q.toNat, by omega⟩
      rw [Int.toNat_natCast] at hnext
      have hfi : (fr : Int) ≤ (i : Int) := by omega
      clear hb hx
      go_wp2_with fail
      refine HB.mono ?_
      rintro e w1 ⟨rfl, rfl⟩
      go_wp2_with (at_builtin; go_loud (refine wpList_append_z _ rfl (.tmp 30) (.tmp 35) rfl w.heap.size A n c _ rfl (hown.later ((Later.refl _).alloc _)) _ _ _ rfl (reads_b _ _ _) (by omega) (by have := hlw.size; simp; omega) ?_); intro A9 n9 c9 w9 hn9 hown9 hg9)
      have hl9 : Later w w9 := (hlw.alloc _).grown hg9 (fun k hk => (hown.lt k hk).1)
      rw [Lib.extract_data] at hown9
      go_wp2_with fail
      go_roundw
      case rel => exact ⟨i + 1, by omega, A9, n9, c9, by rw [hn9], by rw [hnext], by go_num, by rw [hnext]; exact hown9, hl9⟩
      case measure => first | (simp [intOf]; done) | (simp [intOf]; omega)
     ·have hnext := w_skip hx hb (by rw [← HQ.out]; exact h0)
      clear hb hx
      go_wp2_with fail
      refine HB.mono ?_
      rintro e w1 ⟨rfl, rfl⟩
      go_wp2_with fail
      go_roundw
      case rel => exact ⟨i + 1, by omega, A, n, c, rfl, by rw [hnext]; try exact congrArg (Value.int IntKind.i64) HQ.out, by go_num, by rw [hnext]; exact hown, hlw⟩
      case measure => first | (simp [intOf]; done) | (simp [intOf]; omega)
    | false =>
     have HB : Calls Tryz.prog 62 #[.int .u8 (x.toNat : Int)] wr fun e w' => e = .returned (.bool false) ∧ w' = wr := by have h := blank_any x _ rfl wr; rw [hb] at h; exact h
     by_cases h0 : q < 0
     ·have hnext := w_begin hx hb (by rw [← HQ.out]; exact h0)
      clear hb hx
      go_wp2_with fail
      refine HB.mono ?_
      rintro e w1 ⟨rfl, rfl⟩
      go_wp2_with fail
      go_roundw
      case rel => exact ⟨i + 1, by omega, A, n, c, rfl, by rw [hnext]; try exact congrArg (Value.int IntKind.i64) HQ.out, by go_num, by rw [hnext]; exact hown, hlw⟩
      case measure => first | (simp [intOf]; done) | (simp [intOf]; omega)
     ·have hnext := w_in hx hb (by rw [← HQ.out]; exact h0)
      clear hb hx
      go_wp2_with fail
      refine HB.mono ?_
      rintro e w1 ⟨rfl, rfl⟩
      go_wp2_with fail
      go_roundw
      case rel => exact ⟨i + 1, by omega, A, n, c, rfl, by rw [hnext]; try exact congrArg (Value.int IntKind.i64) HQ.out, by go_num, by rw [hnext]; exact hown, hlw⟩
      case measure => first | (simp [intOf]; done) | (simp [intOf]; omega)
   ·obtain rfl : L.length = i := by omega
    have hx : L[L.length]? = none := List.getElem?_eq_none (Nat.le_refl _)
    have hlti : ¬ ((L.length : Nat) : Int) < (L.length : Int) := by omega
    by_cases h0 : 0 ≤ q
    ·have hnext := w_end hx (by rw [← HQ.out]; exact h0)
     rw [← HQ.out] at hnext
     obtain ⟨fr, rfl⟩ : ∃ fr : Nat, q = (fr : Int) := ⟨q.toNat, by omega⟩
     rw [Int.toNat_natCast] at hnext
     have hfi : (fr : Int) ≤ (L.length : Int) := by omega
     clear hx
     go_wp2_with (at_builtin; go_loud (refine wpList_append_z _ rfl (.tmp 30) (.tmp 35) rfl w.heap.size A n c _ rfl (hown.later ((Later.refl _).alloc _)) _ _ _ rfl (reads_b _ _ _) (by omega) (by have := hlw.size; simp; omega) ?_); intro A9 n9 c9 w9 hn9 hown9 hg9)
     have hl9 : Later w w9 := (hlw.alloc _).grown hg9 (fun k hk => (hown.lt k hk).1)
     rw [Lib.extract_data] at hown9
     go_wp2_with fail
     go_roundw
     case rel => exact ⟨L.length + 1, by omega, A9, n9, c9, by rw [hn9], by rw [hnext], by go_num, by rw [hnext]; exact hown9, hl9⟩
     case measure => first | (simp [intOf]; done) | (simp [intOf]; omega)
    ·have hnext := w_skip_end hx (by rw [← HQ.out]; exact h0)
     clear hx
     go_wp2_with fail
     go_roundw
     case rel => exact ⟨L.length + 1, by omega, A, n, c, rfl, by rw [hnext]; try exact congrArg (Value.int IntKind.i64) HQ.out, by go_num, by rw [hnext]; exact hown, hlw⟩
     case measure => first | (simp [intOf]; done) | (simp [intOf]; omega)
  ·obtain rfl : i = L.length + 1 := by omega
   have hlei : ¬ ((L.length + 1 : Nat) : Int) ≤ (L.length : Int) := by omega
   go_wp2_with fail
   go_ret
   exact ⟨A, n, c, rfl, hown, hlw⟩
end Go.Proofs.YtmkddhkpeiajhaaGreatDoor
namespace Go.Proofs.YtmkddhkpeiajhaaGreatDoor
open Go.RowKit
theorem RetSs.own {w w' : World} {A : Option Addr} {n c : Nat} {ss : List (List UInt8)} (h : OwnZ w' w.heap.size A n c ss) (hl : Later w w') : RetSs w ss (.slice A n c) w' := ⟨A, n, c, rfl, h.rd, hl⟩
def RetZ (w : World) (ss : List (List UInt8)) (v : Value) (w' : World) : Prop := ∃ A n c, v = .slice A n c ∧ OwnZ w' w.heap.size A n c ss ∧ Later w w'
theorem RetZ.ss {w w' : World} {ss : List (List UInt8)} {v : Value} (h : RetZ w ss v w') : RetSs w ss v w' := by
 obtain ⟨A, n, c, rfl, h1, h2⟩ := h
 exact RetSs.own h1 h2
set_option maxRecDepth 100000 in
set_option maxHeartbeats 4000000 in
theorem plain_wordz (L : List UInt8) (w : World) (hL : L.length ≤ 1000000) (hn : L ≠ []) :
  Calls Tryz.prog 42 #[.string (bstr L), .string (bstr [32])] w fun e w' => ∃ v, e = .returned (.tuple #[v, .bool true]) ∧ RetZ w (wordsF L) v w' := by
 have hwd := fun (wx : World) => words_any L hL wx
 have e1 : (bstr L).toList.isEmpty = false := by rw [bstr_toList]; cases L with | nil => exact absurd rfl hn | cons _ _ => rfl
 have e2 : ((bstr [32]).toList == [32]) = true := by rw [bstr_toList]; rfl
 obtain ⟨S, hS⟩ : ∃ S, S = bstr L := ⟨_, rfl⟩
 obtain ⟨T, hT⟩ : ∃ T, T = bstr [32] := ⟨_, rfl⟩
 rw [← hS] at hwd e1 ⊢
 rw [← hT] at e2 ⊢
 have HWD := Lib.hid hwd
 clear hS hT hwd hn
 go_enter Tryz.func42, Tryz.ntmps42
 go_wp2_with fail
 refine (HWD.out _).mono ?_
 rintro e w1 ⟨A, n, c, rfl, hv, hl⟩
 have HV := Lib.hid hv
 have HL := Lib.hid hl
 clear hv hl
 go_wp2_with fail
 go_ret2
 exact ⟨_, rfl, _, _, _, rfl, HV.out, HL.out⟩
theorem plain_words (L : List UInt8) (w : World) (hL : L.length ≤ 1000000) (hn : L ≠ []) :
  Calls Tryz.prog 42 #[.string (bstr L), .string (bstr [32])] w fun e w' => ∃ v, e = .returned (.tuple #[v, .bool true]) ∧ RetSs w (wordsF L) v w' :=
 (plain_wordz L w hL hn).mono fun _ _ ⟨v, h1, h2⟩ => ⟨v, h1, h2.ss⟩
set_option maxRecDepth 100000 in
set_option maxHeartbeats 4000000 in
theorem plain_nil (T : ByteArray) (w : World) :
  Calls Tryz.prog 42 #[.string ⟨#[]⟩, .string T] w fun e w' => e = .returned (.tuple #[.slice none 0 0, .bool true]) ∧ Later w w' := by
 go_enter Tryz.func42, Tryz.ntmps42
 go_wp2_with fail
 go_ret2
 exact ⟨rfl, Later.refl _⟩
set_option maxRecDepth 100000 in
set_option maxHeartbeats 4000000 in
theorem fsplit_plain (S T : ByteArray) (Q : World → Value → World → Prop) (w : World)
  (hp : ∀ wx, Later w wx → Calls Tryz.prog 42 #[.string S, .string T] wx fun e w' => ∃ v, e = .returned (.tuple #[v, .bool true]) ∧ Q wx v w') :
  Calls Tryz.prog 19 #[.string S, .string T] w fun e w' => ∃ v, e = .returned (.tuple #[v, .int .i64 0]) ∧ Q w v w' := by
 have HP := Lib.hid hp
 clear hp
 go_enter Tryz.func19, Tryz.ntmps19
 go_wp2_with fail
 refine (HP.out _ (Later.refl _)).mono ?_
 rintro e w1 ⟨v, rfl, hv⟩
 have HV := Lib.hid hv
 clear hv
 go_wp2_with fail
 go_ret2
 exact ⟨v, rfl, HV.out⟩
theorem fsplit_at (c : UInt8) (L : List UInt8) (w : World) (hm : MaxL w) (hL : L.length ≤ 1000000) (hn : L ≠ []) (h32 : c ≠ 32) (h92 : c ≠ 92) :
  Calls Tryz.prog 19 #[.string (bstr L), .string (bstr [c])] w fun e w' => ∃ v, e = .returned (.tuple #[v, .int .i64 0]) ∧ RetSs w (piecesC c L) v w' :=
 fsplit_plain _ _ (fun a v b => RetSs a (piecesC c L) v b) w fun wx hx => plain_at c L wx (hm.later hx) hL hn h32 h92
theorem fsplit_words (L : List UInt8) (w : World) (hL : L.length ≤ 1000000) (hn : L ≠ []) :
  Calls Tryz.prog 19 #[.string (bstr L), .string (bstr [32])] w fun e w' => ∃ v, e = .returned (.tuple #[v, .int .i64 0]) ∧ RetSs w (wordsF L) v w' :=
 fsplit_plain _ _ (fun a v b => RetSs a (wordsF L) v b) w fun wx _ => plain_words L wx hL hn
theorem fsplit_wordz (L : List UInt8) (w : World) (hL : L.length ≤ 1000000) :
  Calls Tryz.prog 19 #[.string (bstr L), .string (bstr [32])] w fun e w' => ∃ v, e = .returned (.tuple #[v, .int .i64 0]) ∧ RetZ w (wordsF L) v w' :=
 fsplit_plain _ _ (fun a v b => RetZ a (wordsF L) v b) w fun wx _ => by
  by_cases hn : L = []
  ·subst hn
   exact (plain_nil (bstr [32]) wx).mono fun _ w' ⟨he, hl⟩ => ⟨_, he, none, 0, 0, rfl, OwnZ.nil, hl⟩
  ·exact plain_wordz L wx hL hn
end Go.Proofs.YtmkddhkpeiajhaaGreatDoor
