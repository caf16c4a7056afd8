import Derived.Test.YtmkddhkpeiajhaaGreatDoorTimes
namespace Go.Proofs.YtmkddhkpeiajhaaGreatDoor
structure Res (len B : Nat) (st : St) (r : Pc × St) : Prop where
 ok : PcOk r.1
 good : r.2.bad = 0 → st.at_ < r.2.at_ ∧ r.2.at_ ≤ len ∧ r.2.op = st.op
 bd : r.2.at_ ≤ len + B
 op : r.2.op ≤ 11
 opl : st.op ≤ r.2.op
theorem fault_bad (e a : Nat) (st : St) (he : e ≠ 0) : (stFault e a st).bad ≠ 0 := by
 unfold stFault
 by_cases h : st.bad = 0
 ·rw [if_pos h]; exact he
 ·rw [if_neg h]; exact h
theorem fault_at (e a : Nat) (st : St) : (stFault e a st).at_ = st.at_ := by unfold stFault; split <;> rfl
theorem fault_op (e a : Nat) (st : St) : (stFault e a st).op = st.op := by unfold stFault; split <;> rfl
theorem isAt_lt {s : List UInt8} {a c : Nat} (h : isAt s a c = true) : a < s.length := by
 unfold isAt at h
 cases hx : s[a]? with
 | none => rw [hx] at h; cases h
 | some x => exact (List.getElem?_eq_some_iff.1 hx).1
theorem octF_max (s : List UInt8) : ∀ (j q n : Nat), q ≤ (octF s j q n).2 ∧ (octF s j q n).2 ≤ max q s.length
 | 0, q, n => by rw [octF]; exact ⟨Nat.le_refl _, Nat.le_max_left _ _⟩
 | j + 1, q, n => by
  cases h : s[q]? with
  | none => rw [octF_none _ _ _ _ h]; exact ⟨Nat.le_refl _, Nat.le_max_left _ _⟩
  | some d =>
   have hq := (List.getElem?_eq_some_iff.1 h).1
   by_cases ho : isOct d = true
   ·rw [octF_some _ _ _ _ d h ho]
    have := octF_max s j (q + 1) (8 * n + (d.toNat - 48))
    omega
   ·rw [octF_not _ _ _ _ d h ho]
    exact ⟨Nat.le_refl _, Nat.le_max_left _ _⟩
theorem esc_res (s : List UInt8) (st : St) (_hb : st.bad = 0) (hat : st.at_ ≤ s.length) :
  ((escF s st).2.bad = 0 → st.at_ ≤ (escF s st).2.at_ ∧ (escF s st).2.at_ ≤ s.length) ∧ (escF s st).2.at_ ≤ s.length ∧ (escF s st).2.op = st.op ∧ (escF s st).1 < 256 := by
 unfold escF
 cases hx : s[st.at_]? with
 | none => exact ⟨fun h => absurd h (fault_bad _ _ _ (by decide)), by rw [fault_at]; exact hat, fault_op _ _ _, by show 0 < 256; omega⟩
 | some c =>
  have hq := (List.getElem?_eq_some_iff.1 hx).1
  have hc := c.toNat_lt
  have hl : ∀ b, escLetter c.toNat = some b → b < 256 := by
   intro b hb
   unfold escLetter escTab at hb
   simp only [assocF] at hb
   repeat (split at hb; · injection hb with hb; omega)
   cases hb
  simp only
  cases he : escLetter c.toNat with
  | some b => exact ⟨fun _ => ⟨by show st.at_ ≤ st.at_ + 1; omega, by show st.at_ + 1 ≤ _; omega⟩, by show st.at_ + 1 ≤ _; omega, rfl, hl b he⟩
  | none =>
   simp only
   by_cases h : c.toNat < 48 ∨ 55 < c.toNat
   ·rw [if_pos h]
    exact ⟨fun _ => ⟨by show st.at_ ≤ st.at_ + 1; omega, by show st.at_ + 1 ≤ _; omega⟩, by show st.at_ + 1 ≤ _; omega, rfl, by show c.toNat < 256; omega⟩
   ·rw [if_neg h]
    have := octF_max s 2 (st.at_ + 1) (c.toNat - 48)
    have hm : max (st.at_ + 1) s.length = s.length := Nat.max_eq_right (by omega)
    rw [hm] at this
    exact ⟨fun _ => ⟨by show st.at_ ≤ (octF _ _ _ _).2; omega, by show (octF _ _ _ _).2 ≤ _; omega⟩, by show (octF _ _ _ _).2 ≤ _; omega, rfl, by show _ % 256 < 256; omega⟩
theorem rangeF_bd (s : List UInt8) (a : Nat) : a ≤ (rangeF s a).2.2.2 ∧ (rangeF s a).2.2.2 ≤ a + 5 := by
 have h1 := digitsF_bd s a
 have h2 := digitsF_bd s ((digitsF s a).2 + 1)
 unfold rangeF
 split
 ·show _ ≤ (digitsF s ((digitsF s a).2 + 1)).2 ∧ (digitsF s ((digitsF s a).2 + 1)).2 ≤ _
  omega
 ·show _ ≤ (digitsF s a).2 ∧ (digitsF s a).2 ≤ _
  omega
theorem times_res (s : List UInt8) (p : Pc) (st : St) (hp : PcOk p) (hat : st.at_ < s.length) :
  PcOk (timesF s p st).1 ∧ ((timesF s p st).2.bad = 0 → st.at_ < (timesF s p st).2.at_ ∧ (timesF s p st).2.at_ ≤ s.length) ∧ (timesF s p st).2.at_ ≤ s.length + 6 ∧ (timesF s p st).2.op = st.op := by
 have hr := rangeF_bd s (st.at_ + 1)
 unfold timesF
 by_cases h : rangeOk s (rangeF s (st.at_ + 1)) = true
 ·rw [if_pos h]
  have hlt : (rangeF s (st.at_ + 1)).2.2.2 < s.length := by
   unfold rangeOk at h
   simp only [Bool.and_eq_true] at h
   exact isAt_lt h.2
  refine ⟨?_, fun _ => ⟨by show st.at_ < (rangeF s (st.at_ + 1)).2.2.2 + 1; omega, by show (rangeF s (st.at_ + 1)).2.2.2 + 1 ≤ _; omega⟩, by show (rangeF s (st.at_ + 1)).2.2.2 + 1 ≤ _; omega, rfl⟩
  show PcOk (if _ then _ else if _ then _ else _)
  split
  ·exact pcLeaf_ok _ _
  ·split
   ·exact bigPc_ok
   ·exact pcRow_ok 2 (copies_ok hp _ _ _)
 ·rw [if_neg h]
  refine ⟨hp, fun hb => absurd hb (fault_bad _ _ _ (by decide)), ?_, fault_op _ _ _⟩
  rw [fault_at]
  show (rangeF s (st.at_ + 1)).2.2.2 ≤ _
  omega
theorem signs_res (s : List UInt8) (len B : Nat) (hlen : len = s.length) (hB : 6 ≤ B) : ∀ (f : Nat) (p : Pc) (st st0 : St), PcOk p → (st.bad = 0 → st0.at_ < st.at_ ∧ st.at_ ≤ len ∧ st.op = st0.op) → st.at_ ≤ len + B → st.op ≤ 11 → st0.op ≤ st.op → Res len B st0 (signsF s f p st)
 | 0, p, st, st0, hp, hg, hb, ho, hol => by rw [signsF]; exact ⟨hp, hg, hb, ho, hol⟩
 | f + 1, p, st, st0, hp, hg, hb, ho, hol => by
  rw [signsF]
  by_cases hbad : st.bad = 0
  ·rw [if_pos hbad]
   obtain ⟨g1, g2, g3⟩ := hg hbad
   have step : ∀ (q : Pc) (c : Nat), PcOk q → isAt s st.at_ c = true → Res len B st0 (signsF s f q (stAt st (st.at_ + 1))) := fun q c hq hc => by
    have := isAt_lt hc
    exact signs_res s len B hlen hB f q (stAt st (st.at_ + 1)) st0 hq (fun _ => ⟨by show _ < st.at_ + 1; omega, by show st.at_ + 1 ≤ _; omega, g3⟩) (by show st.at_ + 1 ≤ _; omega) ho hol
   by_cases h1 : isAt s st.at_ 42 = true
   ·rw [if_pos h1]; exact step _ _ (pcOne_ok 4 hp) h1
   ·rw [if_neg h1]
    by_cases h2 : isAt s st.at_ 43 = true
    ·rw [if_pos h2]; exact step _ _ (pcOne_ok 5 hp) h2
    ·rw [if_neg h2]
     by_cases h3 : isAt s st.at_ 63 = true
     ·rw [if_pos h3]; exact step _ _ (pcOne_ok 6 hp) h3
     ·rw [if_neg h3]
      by_cases h4 : isAt s st.at_ 123 = true
      ·rw [if_pos h4]
       have hlt := isAt_lt h4
       obtain ⟨t1, t2, t3, t4⟩ := times_res s p st hp hlt
       exact signs_res s len B hlen hB f _ _ st0 t1 (fun hb2 => by have := t2 hb2; exact ⟨by omega, by omega, by rw [t4]; exact g3⟩) (by omega) (by omega) (by omega)
      ·rw [if_neg h4]; exact ⟨hp, hg, hb, ho, hol⟩
  ·rw [if_neg hbad]; exact ⟨hp, hg, hb, ho, hol⟩
end Go.Proofs.YtmkddhkpeiajhaaGreatDoor
