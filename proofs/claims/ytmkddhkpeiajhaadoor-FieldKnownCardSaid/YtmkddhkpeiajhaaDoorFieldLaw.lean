/-
  What is cut at a byte, and put together with it between, is the text: plain.
-/
import Derived.Lib.Split
namespace Go.Proofs.YtmkddhkpeiajhaaDoor

def tailC (c : UInt8) : List (List UInt8) → List UInt8
  | [] => []
  | x :: r => c :: (x ++ tailC c r)
/-- put together with a byte between -/
def joinC (c : UInt8) : List (List UInt8) → List UInt8
  | [] => []
  | x :: r => x ++ tailC c r
theorem tailC_snoc (c : UInt8) (x : List UInt8) : ∀ r, tailC c (r ++ [x]) = tailC c r ++ c :: x
  | [] => by simp [tailC]
  | y :: r => by rw [List.cons_append, tailC, tailC_snoc c x r, tailC]; simp
theorem joinC_one (c : UInt8) (x : List UInt8) : joinC c [x] = x := by simp [joinC, tailC]
theorem joinC_snoc (c : UInt8) (x : List UInt8) {A : List (List UInt8)} (h : A ≠ []) : joinC c (A ++ [x]) = joinC c A ++ c :: x := by
  cases A with
  | nil => exact absurd rfl h
  | cons a r => rw [List.cons_append, joinC, tailC_snoc, joinC, List.append_assoc]
/-- the pieces between the bytes c -/
def piecesC (c : UInt8) (l : List UInt8) : List (List UInt8) := Lib.splitK [c] 0 (Lib.count l [c]) l
theorem occ_at {l : List UInt8} {c : UInt8} {j : Nat} (h : l[j]? = some c) : Lib.occAt l [c] j = true := by
  obtain ⟨hl, e⟩ := List.getElem?_eq_some_iff.1 h
  unfold Lib.occAt
  rw [List.drop_eq_getElem_cons hl, e]
  simp [List.isPrefixOf]
theorem pieces_law (c : UInt8) : ∀ (n : Nat) (l : List UInt8), l.length ≤ n → (piecesC c l).length = l.count c + 1 ∧ joinC c (piecesC c l) = l ∧ Lib.count l [c] = l.count c := by
  intro n
  induction n with
  | zero =>
    intro l hl
    obtain rfl : l = [] := List.eq_nil_of_length_eq_zero (by omega)
    have h : Lib.index [] [c] = -1 := rfl
    unfold piecesC
    rw [Lib.count_miss h, Lib.splitK]
    exact ⟨rfl, rfl, rfl⟩
  | succ n ih =>
    intro l hl
    rcases Lib.index_spec l [c] with ⟨h, hno⟩ | ⟨i, h, hi, hocc, hno⟩
    · unfold piecesC
      rw [Lib.count_miss h, Lib.splitK]
      have hnc : c ∉ l := fun hm => by
        obtain ⟨j, hj, e⟩ := List.getElem_of_mem hm
        have h1 := hno j (by omega)
        rw [occ_at (by rw [List.getElem?_eq_getElem hj, e])] at h1
        cases h1
      rw [List.count_eq_zero_of_not_mem hnc]
      exact ⟨rfl, joinC_one c l, rfl⟩
    · have hc : l[i]? = some c := Lib.occAt_head rfl hocc
      obtain ⟨hil, e⟩ := List.getElem?_eq_some_iff.1 hc
      have hct := Lib.count_hit (s := l) (sub := [c]) (by simp) h
      have hrest := ih (l.drop (i + 1)) (by rw [List.length_drop]; omega)
      have hsplit : l = l.take i ++ c :: l.drop (i + 1) := by
        conv => lhs; rw [← List.take_append_drop i l, List.drop_eq_getElem_cons hil, e]
      have hz : (l.take i).count c = 0 := by
        apply List.count_eq_zero_of_not_mem
        intro hm
        obtain ⟨j, hj, ej⟩ := List.getElem_of_mem hm
        have hji : j < i := by rw [List.length_take] at hj; omega
        have h1 := hno j hji
        rw [List.getElem_take] at ej
        rw [occ_at (by rw [List.getElem?_eq_getElem (by omega), ej])] at h1
        cases h1
      have hP : piecesC c l = l.take i :: piecesC c (l.drop (i + 1)) := by
        unfold piecesC
        rw [hct, Nat.add_comm 1, Lib.splitK, if_neg (by rw [h]; simp), h]
        simp
      have hcl : l.count c = (l.drop (i + 1)).count c + 1 := by
        conv => lhs; rw [hsplit]
        rw [List.count_append, List.count_cons, hz]
        simp
      rw [hP]
      refine ⟨?_, ?_, ?_⟩
      · rw [List.length_cons, hrest.1, hcl]
      · have hj : joinC c (l.take i :: piecesC c (l.drop (i + 1))) = l.take i ++ c :: joinC c (piecesC c (l.drop (i + 1))) := by
          cases hq : piecesC c (l.drop (i + 1)) with
          | nil => rw [hq] at hrest; simp at hrest
          | cons p ps => rw [joinC, tailC, joinC]
        rw [hj, hrest.2.1]
        exact hsplit.symm
      · have h3 := hrest.2.2
        have h4 : Lib.count l [c] = 1 + Lib.count (l.drop (i + 1)) [c] := hct
        omega
theorem pieces_len (c : UInt8) (l : List UInt8) : (piecesC c l).length = l.count c + 1 := (pieces_law c _ l (Nat.le_refl _)).1
theorem pieces_join (c : UInt8) (l : List UInt8) : joinC c (piecesC c l) = l := (pieces_law c _ l (Nat.le_refl _)).2.1
theorem pieces_count (c : UInt8) (l : List UInt8) : Lib.count l [c] = l.count c := (pieces_law c _ l (Nat.le_refl _)).2.2
/-- what is put together of the first ones, and of one more -/
theorem join_step (c : UInt8) (P : List (List UInt8)) (i : Nat) (x : List UInt8) (h : P[i]? = some x) : joinC c (P.take (i + 1)) = (if i = 0 then [] else joinC c (P.take i) ++ [c]) ++ x := by
  obtain ⟨hl, e⟩ := List.getElem?_eq_some_iff.1 h
  rw [List.take_add_one, h]
  by_cases hi : i = 0
  · subst hi
    simp [joinC, tailC]
  · rw [if_neg hi]
    have hne : P.take i ≠ [] := fun hn => by
      have := congrArg List.length hn
      rw [List.length_take, List.length_nil] at this
      omega
    show joinC c (P.take i ++ [x]) = _
    rw [joinC_snoc c x hne]
    simp
theorem count_step (c x : UInt8) (l : List UInt8) (i : Nat) (h : l[i]? = some x) : (l.take (i + 1)).count c = (l.take i).count c + (if x = c then 1 else 0) := by
  rw [List.take_add_one, h, List.count_append]
  show _ + [x].count c = _
  rw [List.count_singleton]
  by_cases hx : x = c
  · rw [if_pos hx, if_pos (by simpa using hx)]
  · rw [if_neg hx, if_neg (by simpa using hx)]

theorem tailC_app (c : UInt8) (B : List (List UInt8)) : ∀ A, tailC c (A ++ B) = tailC c A ++ tailC c B
  | [] => rfl
  | x :: r => by rw [List.cons_append, tailC, tailC_app c B r, tailC]; simp
theorem joinC_le (c : UInt8) (P : List (List UInt8)) (i : Nat) : (joinC c (P.take i)).length ≤ (joinC c P).length := by
  conv => rhs; rw [← List.take_append_drop i P]
  cases h : P.take i with
  | nil => simp [joinC]
  | cons a r => rw [List.cons_append, joinC, joinC, tailC_app, List.length_append, List.length_append, List.length_append]; omega
theorem piece_le (c : UInt8) (P : List (List UInt8)) (i : Nat) (x : List UInt8) (h : P[i]? = some x) : (joinC c (P.take i)).length + x.length ≤ (joinC c P).length := by
  have h1 := joinC_le c P (i + 1)
  rw [join_step c P i x h, List.length_append] at h1
  by_cases hi : i = 0
  · subst hi
    have : joinC c (P.take 0) = [] := rfl
    rw [this]
    rw [if_pos rfl] at h1
    exact h1
  · rw [if_neg hi, List.length_append] at h1
    omega

end Go.Proofs.YtmkddhkpeiajhaaDoor
