/-
  NfaQuotes: a text that is quoted matches itself, and nothing else of that length; the first place where it stands is found.
-/
import Derived.Test.YtmkddhkpeiajhaaRunAll
import Derived.Test.YtmkddhkpeiajhaaLetters
namespace Go.Proofs.Ytmkddhkpeiajhaa
open Go.RowKit

/-! ### plain -/
/-- the text X stands in Y at k -/
def Stands (Y X : List UInt8) (k : Nat) : Prop := ∀ m, m < X.length → Y[k + m]? = X[m]?
/-- the first place above i where X stands in Y, as the loop has it -/
def FirstAt (Y X : List UInt8) (i at_ : Int) : Prop :=
  (at_ = -1 ∧ ∀ k : Nat, i < (k : Int) → k + X.length ≤ Y.length → ¬ Stands Y X k) ∨
  (∃ a : Nat, at_ = (a : Int) ∧ i < (a : Int) ∧ a + X.length ≤ Y.length ∧ Stands Y X a ∧ ∀ k : Nat, i < (k : Int) → k < a → ¬ Stands Y X k)
theorem first_start (Y X : List UInt8) : FirstAt Y X ((Y.length : Int) - (X.length : Int)) (-1) := .inl ⟨rfl, fun k h1 h2 => by omega⟩
theorem first_hit {Y X : List UInt8} {i : Nat} {at_ : Int} (_h : FirstAt Y X (i : Int) at_) (hl : i + X.length ≤ Y.length) (hs : Stands Y X i) : FirstAt Y X ((i : Int) - 1) (i : Int) :=
  .inr ⟨i, rfl, by omega, hl, hs, fun k h1 h2 => by omega⟩
theorem first_miss {Y X : List UInt8} {i : Nat} {at_ : Int} (h : FirstAt Y X (i : Int) at_) (hs : ¬ Stands Y X i) : FirstAt Y X ((i : Int) - 1) at_ := by
  rcases h with ⟨h1, h2⟩ | ⟨a, h1, h2, h3, h4, h5⟩
  · refine .inl ⟨h1, fun k hk hl => ?_⟩
    by_cases hki : k = i
    · rw [hki]; exact hs
    · exact h2 k (by omega) hl
  · refine .inr ⟨a, h1, by omega, h3, h4, fun k hk hka => ?_⟩
    by_cases hki : k = i
    · rw [hki]; exact hs
    · exact h5 k (by omega) hka
theorem quotes_law {Y X : List UInt8} {i at_ : Int} (hi : i < 0) (h : FirstAt Y X i at_) (R : Option (Nat × Nat)) (hR : Best (Mt Y (qRx X)) 0 Y.length R) : R.isSome = decide (0 ≤ at_) ∧ (R.isSome = true → (stN R : Int) = at_ ∧ (enN R : Int) = at_ + (X.length : Int)) := by
  have hm : ∀ a b, Mt Y (qRx X) a b ↔ b = a + X.length ∧ Stands Y X a := quote_match Y X
  have hend : ∀ a b, a ≤ Y.length → Mt Y (qRx X) a b → a + X.length ≤ Y.length := fun a b ha hab => by
    have := Mt.mono Y (qRx X) hab ha
    have := (hm a b).1 hab
    omega
  cases R with
  | none =>
    rcases h with ⟨h1, h2⟩ | ⟨a, h1, h2, h3, h4, h5⟩
    · subst h1; exact ⟨rfl, fun h => by cases h⟩
    · exact absurd ((hm a _).2 ⟨rfl, h4⟩) (hR a _ (Nat.zero_le _) (by omega))
  | some g =>
    obtain ⟨q1, q2, q3, q4, q5⟩ := hR
    have hs := (hm _ _).1 q3
    have hl := hend _ _ q2 q3
    rcases h with ⟨h1, h2⟩ | ⟨a, h1, h2, h3, h4, h5⟩
    · exact absurd hs.2 (h2 g.1 (by omega) hl)
    · have hle := q4 a _ (Nat.zero_le _) (by omega) ((hm a _).2 ⟨rfl, h4⟩)
      have hge : a ≤ g.1 := by
        rcases Nat.lt_or_ge g.1 a with h | h
        · exact absurd hs.2 (h5 g.1 (by omega) h)
        · exact h
      have e : g.1 = a := by omega
      subst h1
      refine ⟨by rw [decide_eq_true (by omega)]; rfl, fun _ => ⟨by show (g.1 : Int) = _; omega, by show (g.2 : Int) = _; rw [hs.1]; omega⟩⟩
theorem stands_iff (Y X : List UInt8) (i : Nat) (_hl : i + X.length ≤ Y.length) : (Y.drop i).take X.length = X ↔ Stands Y X i := by
  constructor
  · intro h m hm
    have := congrArg (fun l => l[m]?) h
    simp only [List.getElem?_take, hm, if_true, List.getElem?_drop] at this
    exact this
  · intro h
    apply List.ext_getElem?
    intro m
    by_cases hm : m < X.length
    · rw [List.getElem?_take, if_pos hm, List.getElem?_drop]; exact h m hm
    · rw [List.getElem?_take, if_neg hm, List.getElem?_eq_none (by omega)]
theorem ext_bstr (l : List UInt8) (i j : Nat) : (bstr l).extract i j = bstr ((l.drop i).take (j - i)) := by
  apply ByteArray.ext
  rw [ByteArray.data_extract]
  apply Array.ext'
  simp only [bstr, Array.toList_extract, List.extract_eq_take_drop]
theorem stands_seq {Y X : List UInt8} {i : Nat} (hl : i + X.length ≤ Y.length) (h : Stands Y X i) : (((bstr Y).extract i (i + X.length)).toList == (bstr X).toList) = true := by
  rw [ext_bstr, Nat.add_sub_cancel_left]
  exact seq_true ((stands_iff Y X i hl).2 h)
theorem not_stands_seq {Y X : List UInt8} {i : Nat} (hl : i + X.length ≤ Y.length) (h : ¬ Stands Y X i) : (((bstr Y).extract i (i + X.length)).toList == (bstr X).toList) = false := by
  rw [ext_bstr, Nat.add_sub_cancel_left]
  exact seq_false (fun e => h ((stands_iff Y X i hl).1 e))
theorem ok_q : ∀ l : List UInt8, okR (qRx l)
  | [] => trivial
  | [c] => ok_byte c
  | c :: d :: l => ⟨ok_byte c, ok_q (d :: l)⟩
theorem right_q (l : List UInt8) (h : l.length ≤ 400) : rightT (rxT (qRx l)) = true := by
  rw [← qRx_tree]
  cases l with
  | nil => decide
  | cons c l =>
    unfold rightT
    rw [shaped_row (c :: l) (by simp) h]
    rfl

set_option maxRecDepth 100000 in
set_option maxHeartbeats 8000000 in
theorem nfaQuotes_any (A1 : Option Addr) (n1 c1 : Nat) (l1 : List UInt8) (A2 : Option Addr) (n2 c2 : Nat) (l2 : List UInt8) (v3 : Value) (w : World) (hr1 : RdB w w.heap.size A1 n1 l1) (hr2 : RdB w w.heap.size A2 n2 l2) (hn1 : n1 ≤ 9223372036854775807) (hn2 : n2 ≤ 9223372036854775807) :
    Calls Try.prog 7 #[.slice A1 n1 c1, .slice A2 n2 c2, v3] w fun e w' => e = .returned (.bool true) ∧ Later w w' := by
  obtain ⟨X, hX⟩ : ∃ X, X = lettersF l1 6 := ⟨_, rfl⟩
  obtain ⟨Y, hY⟩ : ∃ Y, Y = lettersF l2 30 := ⟨_, rfl⟩
  have hXl : X.length ≤ 6 := by rw [hX]; exact letters_len l1 6
  have hYl : Y.length ≤ 30 := by rw [hY]; exact letters_len l2 30
  have hc1 : Calls Try.prog 16 #[.slice A1 n1 c1, .int .i64 6] w fun e w' => e = .returned (.string (bstr X)) ∧ Later w w' := by rw [hX]; exact letters_any A1 n1 c1 6 l1 w hr1 (by omega) hn1
  have hc2 : ∀ wx, Later w wx → Calls Try.prog 16 #[.slice A2 n2 c2, .int .i64 30] wx fun e w' => e = .returned (.string (bstr Y)) ∧ Later wx w' := fun wx hx => by rw [hY]; exact letters_any A2 n2 c2 30 l2 wx (hr2.later hx) (by omega) hn2
  have hq : ∀ wx, Calls Try.prog 17 #[.string (bstr X)] wx fun e w' => e = .returned (.string (bstr (quoteL X))) ∧ Later wx w' := fun wx => quote_any X (by omega) wx
  have hnw : ∀ wx, Calls Try.prog 13 #[.string (bstr (quoteL X))] wx fun e w' => ∃ g, e = .returned (.tuple #[.pointer (some ⟨g, 0, none⟩), .int .i64 0, .int .i64 0]) ∧ RunsM w' wx.heap.size g (machF (qRx X)).1 (machF (qRx X)).2 ∧ Later wx w' := fun wx =>
    new_at (bstr (quoteL X)) (qRx X) wx (by rw [bstr_size, quoteL_len]; omega) (by show parseF (quoteL X) = _; rw [parse_quote X (by omega), qRx_tree]) (right_q X (by omega)) (ok_q X)
  have HC1 := Lib.hid hc1
  have HC2 := Lib.hid hc2
  have HQ := Lib.hid hq
  have HNW := Lib.hid hnw
  clear hX hY hc1 hc2 hq hnw hr1 hr2
  go_enter Try.func7, Try.ntmps7
  go_wp2_with fail
  refine HC1.out.mono ?_
  rintro e w1 ⟨rfl, hl1⟩
  go_wp2_with fail
  refine (HC2.out _ hl1).mono ?_
  rintro e w2 ⟨rfl, hl2⟩
  have hlw := hl1.trans hl2
  go_wp2_with fail
  refine (HQ.out _).mono ?_
  rintro e w3 ⟨rfl, hl3⟩
  go_wp2_with fail
  refine (HNW.out _).mono ?_
  rintro e w4 ⟨g, rfl, hM, hl4⟩
  have hl34 := hl3.trans hl4
  go_wp2_with fail
  refine (nfaKnown_any _).mono ?_
  rintro e w5 ⟨rfl, hl5⟩
  have hM5 := hM.later hl5
  have hl5w := hlw.trans (hl34.trans hl5)
  clear hM hl1 hl2 hl3 hl4 hl5 hlw hl34
  have s1 : (bstr X).size = X.length := rfl
  have s2 : (bstr Y).size = Y.length := rfl
  go_wp2_with fail
  have HM5 := Lib.hid hM5
  have HL5 := Lib.hid hl5w
  clear hM5 hl5w HC1 HC2 HQ HNW
  go_loopw [12, 13] (fun s12 s13 wr => ∃ at_ i : Int, s12 = .int .i64 at_ ∧ s13 = .int .i64 i ∧ -6 ≤ i ∧ i ≤ ((bstr Y).size : Int) - ((bstr X).size : Int) ∧ -1 ≤ at_ ∧ at_ ≤ 30 ∧ Hid (FirstAt Y X i at_) ∧ wr = w5) (fun _ s13 _ => (intOf s13 + 1).toNat)
  case atStart => exact ⟨-1, _, rfl, rfl, by omega, by omega, by omega, by omega, first_start Y X, rfl⟩
  case round =>
    obtain ⟨at_, i, rfl, rfl, hi1, hi2, ha1, ha2, hF, rfl⟩ := hrel
    by_cases hi : 0 ≤ i
    · obtain ⟨jn, rfl⟩ : ∃ jn : Nat, i = (jn : Int) := ⟨i.toNat, by omega⟩
      have hlj : jn + X.length ≤ Y.length := by omega
      by_cases hs : Stands Y X jn
      · have hq := stands_seq hlj hs
        have HNX := Lib.hid (first_hit hF.out hlj hs)
        clear hF hs
        go_wp2_with fail
        go_roundw
        case rel => exact ⟨(jn : Int), (jn : Int) - 1, rfl, rfl, by omega, by omega, by omega, by omega, HNX, trivial⟩
        case measure => simp [intOf]
      · have hq := not_stands_seq hlj hs
        have HNX := Lib.hid (first_miss hF.out hs)
        clear hF hs
        go_wp2_with fail
        go_roundw
        case rel => exact ⟨at_, (jn : Int) - 1, rfl, rfl, by omega, by omega, by omega, by omega, HNX, trivial⟩
        case measure => simp [intOf]
    · obtain ⟨R, hR⟩ : ∃ R, findF (machF (qRx X)) (bstr Y).data.toList 0 (bstr Y).size = R := ⟨_, rfl⟩
      have hB : Best (Mt Y (qRx X)) 0 Y.length R := by rw [← hR]; exact find_law (qRx X) Y 0 Y.length (Nat.zero_le _) (Nat.le_refl _)
      obtain ⟨q1, q2⟩ := quotes_law (by omega) hF.out R hB
      have HFD := Lib.hid (find3_at (bstr Y) 0 wr _ g (qRx X) HM5.out (Nat.zero_le _) (by omega) R hR)
      clear hR hB hF
      cases R with
      | none =>
        have hat : ¬ 0 ≤ at_ := fun h => by rw [decide_eq_true h] at q1; cases q1
        clear q1 q2
        go_wp2_with fail
        refine HFD.out.mono ?_
        rintro e w6 ⟨rfl, hl6⟩
        simp only [stN, enN, Option.isSome]
        go_wp2_with fail
        go_ret
        exact ⟨congrArg (fun b => Ending.returned (.bool b)) (by rw [decide_eq_false (by omega)]; rfl), HL5.out.trans hl6⟩
      | some u =>
        have hat : 0 ≤ at_ := by
          rcases Int.lt_or_le at_ 0 with h | h
          · rw [decide_eq_false (by omega)] at q1; cases q1
          · exact h
        obtain ⟨e1, e2⟩ := q2 rfl
        have e2 : (enN (some u) : Int) = at_ + ((bstr X).size : Int) := e2
        rw [e1, e2] at HFD
        clear q1 q2 e1 e2
        have haa : (at_ == at_) = true := beq_self_eq_true _
        have hax : (at_ + ((bstr X).size : Int) == at_ + ((bstr X).size : Int)) = true := beq_self_eq_true _
        go_wp2_with fail
        refine HFD.out.mono ?_
        rintro e w6 ⟨rfl, hl6⟩
        simp only [Option.isSome]
        go_wp2_with fail
        go_ret
        exact ⟨rfl, HL5.out.trans hl6⟩

end Go.Proofs.Ytmkddhkpeiajhaa
