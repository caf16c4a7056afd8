/-
  Package field's words.
-/
import Derived.Test.YtmkddhkpeiajhaaDoorStrs
import Derived.Test.YtmkddhkpeiajhaaDoorLater
import Derived.Lib.Split
namespace Go.Proofs.YtmkddhkpeiajhaaDoor
open Go.RowKit

def blankB (c : UInt8) : Bool := (decide (9 ≤ c.toNat) && decide (c.toNat ≤ 13)) || decide (c.toNat = 32)
/-- what is cut, and where the word at hand begins, behind the first i bytes' round -/
def wStep (l : List UInt8) (i : Nat) (st : List (List UInt8) × Int) : List (List UInt8) × Int :=
  match l[i]? with
  | some c => if blankB c then (if 0 ≤ st.2 then (st.1 ++ [(l.drop st.2.toNat).take (i - st.2.toNat)], -1) else st) else (st.1, if st.2 < 0 then (i : Int) else st.2)
  | none => if 0 ≤ st.2 then (st.1 ++ [(l.drop st.2.toNat).take (i - st.2.toNat)], -1) else st
def wIter (l : List UInt8) : Nat → List (List UInt8) × Int
  | 0 => ([], -1)
  | i + 1 => wStep l i (wIter l i)
def wordsF (l : List UInt8) : List (List UInt8) := (wIter l (l.length + 1)).1
theorem wIter_bd (l : List UInt8) : ∀ i, -1 ≤ (wIter l i).2 ∧ (wIter l i).2 < (i : Int) ∧ (wIter l i).1.length ≤ i
  | 0 => by simp [wIter]
  | i + 1 => by
    have h := wIter_bd l i
    rw [wIter]
    unfold wStep
    cases l[i]? with
    | none =>
      show -1 ≤ (ite _ _ _ : List (List UInt8) × Int).2 ∧ (ite _ _ _ : List (List UInt8) × Int).2 < _ ∧ (ite _ _ _ : List (List UInt8) × Int).1.length ≤ _
      by_cases h0 : 0 ≤ (wIter l i).2
      · rw [if_pos h0]; refine ⟨by show (-1 : Int) ≤ -1; omega, by show (-1 : Int) < _; omega, ?_⟩; rw [List.length_append]; show _ + 1 ≤ _; omega
      · rw [if_neg h0]; omega
    | some c =>
      show -1 ≤ (ite _ _ _ : List (List UInt8) × Int).2 ∧ (ite _ _ _ : List (List UInt8) × Int).2 < _ ∧ (ite _ _ _ : List (List UInt8) × Int).1.length ≤ _
      by_cases hb : blankB c = true
      · rw [if_pos hb]
        by_cases h0 : 0 ≤ (wIter l i).2
        · rw [if_pos h0]; refine ⟨by show (-1 : Int) ≤ -1; omega, by show (-1 : Int) < _; omega, ?_⟩; rw [List.length_append]; show _ + 1 ≤ _; omega
        · rw [if_neg h0]; omega
      · rw [if_neg hb]
        by_cases h0 : (wIter l i).2 < 0
        · rw [if_pos h0]; refine ⟨by show (-1 : Int) ≤ (i : Int); omega, by show (i : Int) < _; omega, by show (wIter l i).1.length ≤ _; omega⟩
        · rw [if_neg h0]; refine ⟨h.1, by show (wIter l i).2 < _; omega, by show (wIter l i).1.length ≤ _; omega⟩
theorem w_blank {l : List UInt8} {i : Nat} {c : UInt8} (h : l[i]? = some c) (hb : blankB c = true) (h0 : 0 ≤ (wIter l i).2) : wIter l (i + 1) = ((wIter l i).1 ++ [(l.drop (wIter l i).2.toNat).take (i - (wIter l i).2.toNat)], -1) := by
  rw [wIter, wStep, h]; simp only [hb, if_true, h0]
theorem w_end {l : List UInt8} {i : Nat} (h : l[i]? = none) (h0 : 0 ≤ (wIter l i).2) : wIter l (i + 1) = ((wIter l i).1 ++ [(l.drop (wIter l i).2.toNat).take (i - (wIter l i).2.toNat)], -1) := by
  rw [wIter, wStep, h]; simp only [h0, if_true]
theorem w_skip {l : List UInt8} {i : Nat} {c : UInt8} (h : l[i]? = some c) (hb : blankB c = true) (h0 : ¬ 0 ≤ (wIter l i).2) : wIter l (i + 1) = wIter l i := by
  rw [wIter, wStep, h]; simp only [hb, if_true, h0, if_false]
theorem w_skip_end {l : List UInt8} {i : Nat} (h : l[i]? = none) (h0 : ¬ 0 ≤ (wIter l i).2) : wIter l (i + 1) = wIter l i := by
  rw [wIter, wStep, h]; simp only [h0, if_false]
theorem w_begin {l : List UInt8} {i : Nat} {c : UInt8} (h : l[i]? = some c) (hb : blankB c = false) (h0 : (wIter l i).2 < 0) : wIter l (i + 1) = ((wIter l i).1, (i : Int)) := by
  rw [wIter, wStep, h]; simp only [hb, h0, if_true]; rfl
theorem w_in {l : List UInt8} {i : Nat} {c : UInt8} (h : l[i]? = some c) (hb : blankB c = false) (h0 : ¬ (wIter l i).2 < 0) : wIter l (i + 1) = wIter l i := by
  rw [wIter, wStep, h]; simp only [hb, h0, if_false]; rfl

set_option maxHeartbeats 2000000 in
theorem blank_any (c : UInt8) (x : Int) (hx : x = (c.toNat : Int)) (w : World) : Calls Tryd.prog 30 #[.int .u8 x] w fun e w' => e = .returned (.bool (blankB c)) ∧ w' = w := by
  obtain ⟨R, hR⟩ : ∃ R, R = blankB c := ⟨_, rfl⟩
  rw [← hR]
  subst hx
  by_cases h9 : (9 : Int) ≤ (c.toNat : Int)
  · by_cases h13 : (c.toNat : Int) ≤ 13
    · obtain rfl : R = true := by rw [hR]; unfold blankB; rw [decide_eq_true (by omega), decide_eq_true (by omega)]; rfl
      clear hR
      go_enter Tryd.func30, Tryd.ntmps30
      go_wp2_with fail
      go_ret
      exact ⟨rfl, rfl⟩
    · by_cases h32 : (c.toNat : Int) = 32
      · obtain rfl : R = true := by rw [hR]; unfold blankB; rw [decide_eq_true (p := c.toNat = 32) (by omega), Bool.or_true]
        rw [h32]
        clear hR
        go_enter Tryd.func30, Tryd.ntmps30
        go_wp2_with fail
        go_ret
        exact ⟨rfl, rfl⟩
      · obtain rfl : R = false := by rw [hR]; unfold blankB; rw [decide_eq_false (p := c.toNat ≤ 13) (by omega), decide_eq_false (p := c.toNat = 32) (by omega)]; simp
        have hq : ((c.toNat : Int) == 32) = false := by rw [beq_eq_false_iff_ne]; exact h32
        clear hR
        go_enter Tryd.func30, Tryd.ntmps30
        go_wp2_with fail
        go_ret
        exact ⟨rfl, rfl⟩
  · obtain rfl : R = false := by rw [hR]; unfold blankB; rw [decide_eq_false (p := 9 ≤ c.toNat) (by omega), decide_eq_false (p := c.toNat = 32) (by omega)]; rfl
    have hq : ((c.toNat : Int) == 32) = false := by rw [beq_eq_false_iff_ne]; omega
    clear hR
    go_enter Tryd.func30, Tryd.ntmps30
    go_wp2_with fail
    go_ret
    exact ⟨rfl, rfl⟩

theorem OwnZ.later {w w' : World} {base n c : Nat} {A : Option Addr} {ss : List (List UInt8)} (h : OwnZ w base A n c ss) (hl : Later w w') : OwnZ w' base A n c ss := h.fr (Fr.of_below hl) (fun k hk => by have := h.lt k hk; omega)
theorem str_gz (L : List UInt8) (i : Nat) (x : UInt8) (h : L[i]? = some x) : ∃ hi : i < (bstr L).size, (bstr L)[i] = x := by
  obtain ⟨hl, e⟩ := List.getElem?_eq_some_iff.1 h
  exact ⟨hl, e⟩
/-- in the midst of the loop -/
def WdAt (w : World) (L : List UInt8) (i : Nat) (s3 s4 s5 : Value) (wr : World) : Prop :=
  ∃ A n c, s3 = .slice A n c ∧ s4 = .int .i64 (wIter L i).2 ∧ s5 = .int .i64 (i : Int) ∧ OwnZ wr w.heap.size A n c (wIter L i).1 ∧ Later w wr

set_option maxRecDepth 100000 in
set_option maxHeartbeats 8000000 in
theorem words_any (L : List UInt8) (hL : L.length ≤ 1000000) (w : World) : Calls Tryd.prog 24 #[.string (bstr L)] w fun e w' => ∃ A n c, e = .returned (.slice A n c) ∧ OwnZ w' w.heap.size A n c (wordsF L) ∧ Later w w' := by
  have hsz : (bstr L).size = L.length := rfl
  go_enter Tryd.func24, Tryd.ntmps24
  go_wp2_with fail
  go_loopw [3, 4, 5] (fun s3 s4 s5 wr => ∃ i : Nat, i ≤ L.length + 1 ∧ WdAt w L i s3 s4 s5 wr) (fun _ _ s5 _ => L.length + 1 - (intOf s5).toNat)
  case atStart => exact ⟨0, Nat.zero_le _, none, 0, 0, rfl, rfl, rfl, OwnZ.nil, Later.refl _⟩
  case round =>
    obtain ⟨i, hi, A, n, c, rfl, rfl, rfl, hown, hlw⟩ := hrel
    have hbd := wIter_bd L i
    have hnl := hown.len
    obtain ⟨q, hq⟩ : ∃ q, q = (wIter L i).2 := ⟨_, rfl⟩
    rw [← hq] at hbd ⊢
    have HQ := Lib.hid hq
    clear hq
    by_cases hle : i ≤ L.length
    · have hlei : (i : Int) ≤ (L.length : Int) := by omega
      by_cases hlt : i < L.length
      · have hlti : (i : Int) < (L.length : Int) := by omega
        obtain ⟨x, hx⟩ : ∃ x, L[i]? = some x := ⟨_, List.getElem?_eq_getElem hlt⟩
        obtain ⟨hxi, hxe⟩ := str_gz L i x hx
        have hx256 := x.toNat_lt
        cases hb : blankB x with
        | true =>
          have HB : Calls Tryd.prog 30 #[.int .u8 (x.toNat : Int)] wr fun e w' => e = .returned (.bool true) ∧ w' = wr := by have h := blank_any x _ rfl wr; rw [hb] at h; exact h
          by_cases h0 : 0 ≤ q
          · have hnext := w_blank hx hb (by rw [← HQ.out]; exact h0)
            rw [← HQ.out] at hnext
            obtain ⟨fr, rfl⟩ : ∃ fr : Nat, q = (fr : Int) := ⟨q.toNat, by omega⟩
            rw [Int.toNat_natCast] at hnext
            have hfi : (fr : Int) ≤ (i : Int) := by omega
            clear hb hx
            go_wp2_with fail
            refine HB.mono ?_
            rintro e w1 ⟨rfl, rfl⟩
            go_wp2_with (at_builtin; go_loud (refine wpList_append_z _ rfl (.tmp 30) (.tmp 35) rfl w.heap.size A n c _ rfl (hown.later ((Later.refl _).alloc _)) _ _ _ rfl (reads_b _ _ _) (by omega) (by have := hlw.size; simp; omega) ?_); intro A9 n9 c9 w9 hn9 hown9 hg9)
            have hl9 : Later w w9 := (hlw.alloc _).grown hg9 (fun k hk => (hown.lt k hk).1)
            rw [Lib.extract_data] at hown9
            go_wp2_with fail
            go_roundw
            case rel => exact ⟨i + 1, by omega, A9, n9, c9, by rw [hn9], by rw [hnext], by go_num, by rw [hnext]; exact hown9, hl9⟩
            case measure => first | (simp [intOf]; done) | (simp [intOf]; omega)
          · have hnext := w_skip hx hb (by rw [← HQ.out]; exact h0)
            clear hb hx
            go_wp2_with fail
            refine HB.mono ?_
            rintro e w1 ⟨rfl, rfl⟩
            go_wp2_with fail
            go_roundw
            case rel => exact ⟨i + 1, by omega, A, n, c, rfl, by rw [hnext]; try exact congrArg (Value.int IntKind.i64) HQ.out, by go_num, by rw [hnext]; exact hown, hlw⟩
            case measure => first | (simp [intOf]; done) | (simp [intOf]; omega)
        | false =>
          have HB : Calls Tryd.prog 30 #[.int .u8 (x.toNat : Int)] wr fun e w' => e = .returned (.bool false) ∧ w' = wr := by have h := blank_any x _ rfl wr; rw [hb] at h; exact h
          by_cases h0 : q < 0
          · have hnext := w_begin hx hb (by rw [← HQ.out]; exact h0)
            clear hb hx
            go_wp2_with fail
            refine HB.mono ?_
            rintro e w1 ⟨rfl, rfl⟩
            go_wp2_with fail
            go_roundw
            case rel => exact ⟨i + 1, by omega, A, n, c, rfl, by rw [hnext]; try exact congrArg (Value.int IntKind.i64) HQ.out, by go_num, by rw [hnext]; exact hown, hlw⟩
            case measure => first | (simp [intOf]; done) | (simp [intOf]; omega)
          · have hnext := w_in hx hb (by rw [← HQ.out]; exact h0)
            clear hb hx
            go_wp2_with fail
            refine HB.mono ?_
            rintro e w1 ⟨rfl, rfl⟩
            go_wp2_with fail
            go_roundw
            case rel => exact ⟨i + 1, by omega, A, n, c, rfl, by rw [hnext]; try exact congrArg (Value.int IntKind.i64) HQ.out, by go_num, by rw [hnext]; exact hown, hlw⟩
            case measure => first | (simp [intOf]; done) | (simp [intOf]; omega)
      · obtain rfl : L.length = i := by omega
        have hx : L[L.length]? = none := List.getElem?_eq_none (Nat.le_refl _)
        have hlti : ¬ ((L.length : Nat) : Int) < (L.length : Int) := by omega
        by_cases h0 : 0 ≤ q
        · have hnext := w_end hx (by rw [← HQ.out]; exact h0)
          rw [← HQ.out] at hnext
          obtain ⟨fr, rfl⟩ : ∃ fr : Nat, q = (fr : Int) := ⟨q.toNat, by omega⟩
          rw [Int.toNat_natCast] at hnext
          have hfi : (fr : Int) ≤ (L.length : Int) := by omega
          clear hx
          go_wp2_with (at_builtin; go_loud (refine wpList_append_z _ rfl (.tmp 30) (.tmp 35) rfl w.heap.size A n c _ rfl (hown.later ((Later.refl _).alloc _)) _ _ _ rfl (reads_b _ _ _) (by omega) (by have := hlw.size; simp; omega) ?_); intro A9 n9 c9 w9 hn9 hown9 hg9)
          have hl9 : Later w w9 := (hlw.alloc _).grown hg9 (fun k hk => (hown.lt k hk).1)
          rw [Lib.extract_data] at hown9
          go_wp2_with fail
          go_roundw
          case rel => exact ⟨L.length + 1, by omega, A9, n9, c9, by rw [hn9], by rw [hnext], by go_num, by rw [hnext]; exact hown9, hl9⟩
          case measure => first | (simp [intOf]; done) | (simp [intOf]; omega)
        · have hnext := w_skip_end hx (by rw [← HQ.out]; exact h0)
          clear hx
          go_wp2_with fail
          go_roundw
          case rel => exact ⟨L.length + 1, by omega, A, n, c, rfl, by rw [hnext]; try exact congrArg (Value.int IntKind.i64) HQ.out, by go_num, by rw [hnext]; exact hown, hlw⟩
          case measure => first | (simp [intOf]; done) | (simp [intOf]; omega)
    · obtain rfl : i = L.length + 1 := by omega
      have hlei : ¬ ((L.length + 1 : Nat) : Int) ≤ (L.length : Int) := by omega
      go_wp2_with fail
      go_ret
      exact ⟨A, n, c, rfl, hown, hlw⟩

end Go.Proofs.YtmkddhkpeiajhaaDoor
