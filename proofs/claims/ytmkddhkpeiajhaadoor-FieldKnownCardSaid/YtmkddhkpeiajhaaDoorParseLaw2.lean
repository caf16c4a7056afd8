/-
  What package ere's reader leaves: atoms, rows, alternations: plain bounds.
-/
import Derived.Test.YtmkddhkpeiajhaaDoorParseLaw
import Derived.Test.YtmkddhkpeiajhaaDoorBrk5
namespace Go.Proofs.YtmkddhkpeiajhaaDoor

theorem itemsF_bd (l : List UInt8) : ∀ (f p : Nat) (first : Bool) (m m' : Mem) (e : Nat), itemsF l f p first m = some (m', e) → p ≤ e ∧ e < l.length
  | 0, _, _, _, _, _, h => by cases h
  | f + 1, p, first, m, m', e, h => by
    rw [itemsF] at h
    by_cases hc : (!first && l[p]? == some 93) = true
    · rw [if_pos hc] at h
      injection h with h
      injection h with _ h
      subst h
      simp only [Bool.and_eq_true, beq_iff_eq] at hc
      exact ⟨Nat.le_refl _, (List.getElem?_eq_some_iff.1 hc.2).1⟩
    · rw [if_neg hc] at h
      cases hi : itemF l p with
      | none => rw [hi] at h; cases h
      | some r =>
        obtain ⟨x, q⟩ := r
        rw [hi] at h
        simp only at h
        have h1 := itemF_bd l p q x hi
        have h2 := itemsF_bd l f q false _ m' e h
        omega
theorem bracketF_bd (l : List UInt8) (a : Nat) (m : Mem) (e : Nat) (h : bracketF l (a : Int) = some (m, e)) : a < e ∧ e ≤ l.length := by
  unfold bracketF at h
  split at h
  · cases h
  · simp only [Int.toNat_natCast] at h
    cases hi : itemsF l (l.length + 1) (if (l[a]? == some 94) = true then a + 1 else a) true mNone with
    | none => rw [hi] at h; cases h
    | some r =>
      obtain ⟨m1, e1⟩ := r
      rw [hi] at h
      injection h with h
      injection h with _ h
      have := itemsF_bd l _ _ _ _ _ _ hi
      split at this <;> omega

/-- from here on the reader is as it ought to be, with so much room for brackets -/
structure Dom (s : List UInt8) (d : Nat) (st : St) : Prop where
  bad : st.bad = 0
  at_ : st.at_ ≤ s.length
  op : st.op ≤ 10
  deep : 11 ≤ d + st.op
def Reads_ (s : List UInt8) (d B : Nat) (F : St → Pc × St) : Prop := ∀ st, Dom s d st → Res s.length B st (F st)

theorem group_res (s : List UInt8) (d B : Nat) (hB : 6 ≤ B) (alt : St → Pc × St) (ih : Reads_ s d B alt) (st : St) (from_ : Nat) (h : Dom s (d + 1) st) : Res s.length (B + 1) st (groupF s alt st from_) := by
  unfold groupF
  by_cases ho : 10 < st.op + 1
  · rw [if_pos ho]
    refine ⟨pcLeaf_ok _ _, fun hb => absurd hb (fault_bad _ _ _ (by decide)), ?_, ?_, ?_⟩
    · show (stFault _ _ _).at_ ≤ _
      rw [fault_at]
      show st.at_ ≤ _
      have := h.at_
      omega
    · show (stFault _ _ _).op ≤ _
      rw [fault_op]
      show st.op + 1 ≤ 11
      have := h.op
      omega
    · show st.op ≤ (stFault _ _ _).op
      rw [fault_op]
      exact Nat.le_succ _
  · rw [if_neg ho]
    have r := ih (stOp st (st.op + 1)) ⟨h.bad, h.at_, by show st.op + 1 ≤ 10; omega, by show 11 ≤ d + (st.op + 1); have := h.deep; omega⟩
    obtain ⟨q, st2, hal⟩ : ∃ q st2, alt (stOp st (st.op + 1)) = (q, st2) := ⟨_, _, rfl⟩
    rw [hal] at r ⊢
    obtain ⟨ro, rg, rb, rop, rol⟩ := r
    simp only at ro rg rb rop rol ⊢
    have rol' : st.op + 1 ≤ st2.op := rol
    by_cases hc : (stOp st2 (st2.op - 1)).bad = 0 ∧ isAt s (stOp st2 (st2.op - 1)).at_ 41 = false
    · rw [if_pos hc]
      refine ⟨ro, fun hb => absurd hb (fault_bad _ _ _ (by decide)), ?_, ?_, ?_⟩
      · show (stFault _ _ _).at_ + 1 ≤ _
        rw [fault_at]
        show st2.at_ + 1 ≤ _
        omega
      · show (stFault _ _ _).op ≤ _
        rw [fault_op]
        show st2.op - 1 ≤ 11
        omega
      · show st.op ≤ (stFault _ _ _).op
        rw [fault_op]
        show st.op ≤ st2.op - 1
        omega
    · rw [if_neg hc]
      refine ⟨ro, fun hb => ?_, ?_, ?_, ?_⟩
      · have hb2 : st2.bad = 0 := hb
        obtain ⟨g1, g2, g3⟩ := rg hb2
        have h41 : isAt s st2.at_ 41 = true := by
          cases hx : isAt s st2.at_ 41 with
          | true => rfl
          | false => exact absurd ⟨hb2, hx⟩ hc
        have := isAt_lt h41
        have g1' : st.at_ < st2.at_ := g1
        have g3' : st2.op = st.op + 1 := g3
        exact ⟨by show st.at_ < st2.at_ + 1; omega, by show st2.at_ + 1 ≤ _; omega, by show st2.op - 1 = _; omega⟩
      · show st2.at_ + 1 ≤ _
        omega
      · show st2.op - 1 ≤ 11
        omega
      · show st.op ≤ st2.op - 1
        omega

theorem atom_res (s : List UInt8) (d B : Nat) (hB : 6 ≤ B) (alt : St → Pc × St) (ih : Reads_ s d B alt) : Reads_ s (d + 1) (B + 1) (atomF s alt) := by
  intro st h
  have hb := h.bad
  have ha := h.at_
  have hop := h.op
  unfold atomF
  cases hx : s[st.at_]? with
  | none => exact ⟨pcLeaf_ok _ _, fun hb => absurd hb (fault_bad _ _ _ (by decide)), by show (stFault _ _ _).at_ ≤ _; rw [fault_at]; omega, by show (stFault _ _ _).op ≤ _; rw [fault_op]; omega, by show st.op ≤ (stFault _ _ _).op; rw [fault_op]; exact Nat.le_refl _⟩
  | some c =>
    have hq := (List.getElem?_eq_some_iff.1 hx).1
    have one : ∀ (k : Int) (w : W4), Res s.length (B + 1) st (pcLeaf k w, stAt st (st.at_ + 1)) := fun k w => ⟨pcLeaf_ok _ _, fun _ => ⟨by show st.at_ < st.at_ + 1; omega, by show st.at_ + 1 ≤ _; omega, rfl⟩, by show st.at_ + 1 ≤ _; omega, by show st.op ≤ 11; omega, Nat.le_refl _⟩
    simp only
    split
    · obtain ⟨r1, r2, r3, r4, r5⟩ := group_res s d B hB alt ih (stAt st (st.at_ + 1)) st.at_ ⟨hb, by show st.at_ + 1 ≤ _; omega, hop, h.deep⟩
      exact ⟨r1, fun hb2 => by
        obtain ⟨g1, g2, g3⟩ := r2 hb2
        have g1' : st.at_ + 1 < _ := g1
        exact ⟨by omega, g2, g3⟩, r3, r4, r5⟩
    · split
      · exact one _ _
      · split
        · cases hbr : bracketF s ((st.at_ + 1 : Nat) : Int) with
          | none => exact ⟨pcLeaf_ok _ _, fun hb => absurd hb (fault_bad _ _ _ (by decide)), Nat.zero_le _, by show (stFault _ _ _).op ≤ _; rw [fault_op]; omega, by show st.op ≤ (stFault _ _ _).op; rw [fault_op]; exact Nat.le_refl _⟩
          | some r =>
            obtain ⟨m, e⟩ := r
            have := bracketF_bd s _ m e hbr
            exact ⟨pcLeaf_ok _ _, fun _ => ⟨by show st.at_ < e; omega, by show e ≤ _; omega, rfl⟩, by show e ≤ _; omega, by show st.op ≤ 11; omega, Nat.le_refl _⟩
        · split
          · exact one _ _
          · split
            · exact one _ _
            · split
              · obtain ⟨e1, e2, e3, _⟩ := esc_res s (stAt st (st.at_ + 1)) hb (by show st.at_ + 1 ≤ _; omega)
                exact ⟨pcLeaf_ok _ _, fun hb2 => by
                  obtain ⟨g1, g2⟩ := e1 hb2
                  have g1' : st.at_ + 1 ≤ _ := g1
                  exact ⟨Nat.lt_of_lt_of_le (Nat.lt_succ_self _) g1', g2, e3⟩, by show (escF _ _).2.at_ ≤ _; omega, by show (escF _ _).2.op ≤ _; rw [e3]; show st.op ≤ 11; omega, by show st.op ≤ (escF _ _).2.op; rw [e3]; exact Nat.le_refl _⟩
              · split
                · exact ⟨pcLeaf_ok _ _, fun hb => absurd hb (fault_bad _ _ _ (by decide)), by show (stFault _ _ _).at_ ≤ _; rw [fault_at]; show st.at_ + 1 ≤ _; omega, by show (stFault _ _ _).op ≤ _; rw [fault_op]; show st.op ≤ _; omega, by show st.op ≤ (stFault _ _ _).op; rw [fault_op]; exact Nat.le_refl _⟩
                · exact one _ _

theorem piece_res (s : List UInt8) (d B : Nat) (hB : 6 ≤ B) (alt : St → Pc × St) (ih : Reads_ s d B alt) : Reads_ s (d + 1) (B + 1) (pieceF s alt) := by
  intro st h
  obtain ⟨r1, r2, r3, r4, r5⟩ := atom_res s d B hB alt ih st h
  unfold pieceF
  exact signs_res s s.length (B + 1) rfl (by omega) _ _ _ st r1 r2 r3 r4 r5

theorem piecesL_res (s : List UInt8) (d B : Nat) (piece : St → Pc × St) (ih : Reads_ s d B piece) : ∀ (f : Nat) (l : List Pc) (st st0 : St), (∀ p ∈ l, PcOk p) → l ≠ [] → (st.bad = 0 → st0.at_ < st.at_ ∧ st.at_ ≤ s.length ∧ st.op = st0.op) → st.at_ ≤ s.length + B → st.op ≤ 11 → st0.op ≤ 10 → 11 ≤ d + st0.op → st0.op ≤ st.op →
    (∀ p ∈ (piecesL s piece f l st).1, PcOk p) ∧ (piecesL s piece f l st).1 ≠ [] ∧ ((piecesL s piece f l st).2.bad = 0 → st0.at_ < (piecesL s piece f l st).2.at_ ∧ (piecesL s piece f l st).2.at_ ≤ s.length ∧ (piecesL s piece f l st).2.op = st0.op) ∧ (piecesL s piece f l st).2.at_ ≤ s.length + B ∧ (piecesL s piece f l st).2.op ≤ 11 ∧ st0.op ≤ (piecesL s piece f l st).2.op
  | 0, l, st, st0, hl, hn, hg, hb, ho, _, _, hol => by rw [piecesL]; exact ⟨hl, hn, hg, hb, ho, hol⟩
  | f + 1, l, st, st0, hl, hn, hg, hb, ho, ho2, hd, hol => by
    rw [piecesL]
    by_cases hc : st.bad = 0 ∧ st.at_ < s.length ∧ isAt s st.at_ 124 = false ∧ isAt s st.at_ 41 = false
    · rw [if_pos hc]
      obtain ⟨g1, g2, g3⟩ := hg hc.1
      obtain ⟨r1, r2, r3, r4, r5⟩ := ih st ⟨hc.1, g2, by omega, by omega⟩
      exact piecesL_res s d B piece ih f _ _ st0 (fun p hp => by
        rcases List.mem_append.1 hp with h | h
        · exact hl p h
        · rw [List.mem_singleton.1 h]; exact r1) (by simp) (fun hb2 => by
        obtain ⟨q1, q2, q3⟩ := r2 hb2
        exact ⟨by omega, q2, by omega⟩) r3 r4 ho2 hd (Nat.le_trans hol r5)
    · rw [if_neg hc]; exact ⟨hl, hn, hg, hb, ho, hol⟩
theorem pieces_res (s : List UInt8) (d B : Nat) (piece : St → Pc × St) (ih : Reads_ s d B piece) : Reads_ s d B (piecesF s piece) := by
  intro st h
  obtain ⟨r1, r2, r3, r4, r5⟩ := ih st h
  obtain ⟨a, _, c, e, f, g⟩ := piecesL_res s d B piece ih (s.length + 2) [(piece st).1] (piece st).2 st (fun p hp => by rw [List.mem_singleton.1 hp]; exact r1) (by simp) r2 r3 r4 h.op h.deep r5
  exact ⟨pcRow_ok 2 a, c, e, f, g⟩

theorem altL_res (s : List UInt8) (d B : Nat) (pieces : St → Pc × St) (ih : Reads_ s d B pieces) : ∀ (f : Nat) (l : List Pc) (st st0 : St), (∀ p ∈ l, PcOk p) → l ≠ [] → (st.bad = 0 → st0.at_ < st.at_ ∧ st.at_ ≤ s.length ∧ st.op = st0.op) → st.at_ ≤ s.length + B → st.op ≤ 11 → st0.op ≤ 10 → 11 ≤ d + st0.op → st0.op ≤ st.op →
    (∀ p ∈ (altL s pieces f l st).1, PcOk p) ∧ (altL s pieces f l st).1 ≠ [] ∧ ((altL s pieces f l st).2.bad = 0 → st0.at_ < (altL s pieces f l st).2.at_ ∧ (altL s pieces f l st).2.at_ ≤ s.length ∧ (altL s pieces f l st).2.op = st0.op) ∧ (altL s pieces f l st).2.at_ ≤ s.length + B ∧ (altL s pieces f l st).2.op ≤ 11 ∧ st0.op ≤ (altL s pieces f l st).2.op
  | 0, l, st, st0, hl, hn, hg, hb, ho, _, _, hol => by rw [altL]; exact ⟨hl, hn, hg, hb, ho, hol⟩
  | f + 1, l, st, st0, hl, hn, hg, hb, ho, ho2, hd, hol => by
    rw [altL]
    by_cases hc : st.bad = 0 ∧ isAt s st.at_ 124 = true
    · rw [if_pos hc]
      obtain ⟨g1, g2, g3⟩ := hg hc.1
      have hlt := isAt_lt hc.2
      obtain ⟨r1, r2, r3, r4, r5⟩ := ih (stAt st (st.at_ + 1)) ⟨hc.1, by show st.at_ + 1 ≤ _; omega, by show st.op ≤ 10; omega, by show 11 ≤ d + st.op; omega⟩
      exact altL_res s d B pieces ih f _ _ st0 (fun p hp => by
        rcases List.mem_append.1 hp with h | h
        · exact hl p h
        · rw [List.mem_singleton.1 h]; exact r1) (by simp) (fun hb2 => by
        obtain ⟨q1, q2, q3⟩ := r2 hb2
        have q1' : st.at_ + 1 < _ := q1
        have q3' : _ = st.op := q3
        exact ⟨by omega, q2, by omega⟩) r3 r4 ho2 hd (Nat.le_trans hol r5)
    · rw [if_neg hc]; exact ⟨hl, hn, hg, hb, ho, hol⟩
theorem altG_res (s : List UInt8) (d B : Nat) (pieces : St → Pc × St) (ih : Reads_ s d B pieces) : Reads_ s d B (altG s pieces) := by
  intro st h
  obtain ⟨r1, r2, r3, r4, r5⟩ := ih st h
  obtain ⟨a, _, c, e, f, g⟩ := altL_res s d B pieces ih (s.length + 2) [(pieces st).1] (pieces st).2 st (fun p hp => by rw [List.mem_singleton.1 hp]; exact r1) (by simp) r2 r3 r4 h.op h.deep r5
  exact ⟨pcRow_ok 3 a, c, e, f, g⟩

theorem alt_res (s : List UInt8) : ∀ d, Reads_ s d (6 + d) (altF s d)
  | 0, st, h => by have := h.deep; have := h.op; omega
  | d + 1, st, h => by
    rw [altF]
    exact altG_res s (d + 1) (6 + d + 1) _ (pieces_res s (d + 1) (6 + d + 1) _ (piece_res s d (6 + d) (by omega) _ (alt_res s d))) st h

end Go.Proofs.YtmkddhkpeiajhaaDoor
