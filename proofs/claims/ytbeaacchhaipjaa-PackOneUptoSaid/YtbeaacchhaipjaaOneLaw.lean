/-
  The plain law behind PackOne: what is read without anything wrong is laid as the same bytes. No program in sight.
-/
import Derived.Test.YtbeaacchhaipjaaBackLaw
namespace Go.Proofs.Ytbeaacchhaipjaa
open Go.RowKit

theorem drop_cons {l : List UInt8} {p : Nat} (h : p < l.length) : l.drop p = (l[p]?.getD 0) :: l.drop (p + 1) := by
  rw [List.drop_eq_getElem_cons h, List.getElem?_eq_getElem h]; rfl

/-- a number's digits, read: what they are -/
theorem numG_conv {l : List UInt8} {at_ : Nat} : ∀ (f i acc v p : Nat), i + f = 9 → numG l at_ (f + 1) i acc = (v, 0, p) →
    ∃ m, v = acc + m * 128 ^ i ∧ p = at_ + i + (nmF f m).length ∧ l.drop (at_ + i) = nmF f m ++ l.drop p ∧ (i = 0 ∨ m ≠ 0)
  | f, i, acc, v, p, hi, h => by
    by_cases hk : at_ + i < l.length
    · have hd := drop_cons hk
      rw [numG_some hk] at h
      have hx := (l[at_ + i]?.getD 0).toNat_lt
      by_cases c1 : i = 9 ∧ 1 < (l[at_ + i]?.getD 0).toNat
      · rw [if_pos c1] at h; cases h
      · rw [if_neg c1] at h
        by_cases c2 : 128 ≤ (l[at_ + i]?.getD 0).toNat
        · rw [if_pos c2] at h
          match f, hi, h with
          | 0, hi, h => omega
          | f + 1, hi, h =>
            obtain ⟨m, hv, hp, hdm, hm0⟩ := numG_conv f (i + 1) _ v p (by omega) h
            have hm : m ≠ 0 := by omega
            refine ⟨(l[at_ + i]?.getD 0).toNat % 128 + 128 * m, ?_, ?_, ?_, .inr (by omega)⟩
            · rw [hv, Nat.add_mul, Nat.pow_succ, Nat.add_assoc, Nat.mul_comm 128 m, Nat.mul_assoc m 128, Nat.mul_comm 128]
            · rw [nmF_great (by omega), hp, show ((l[at_ + i]?.getD 0).toNat % 128 + 128 * m) / 128 = m from by omega, List.length_cons]; omega
            · rw [nmF_great (by omega), show ((l[at_ + i]?.getD 0).toNat % 128 + 128 * m) / 128 = m from by omega, hd]
              rw [show ((l[at_ + i]?.getD 0).toNat % 128 + 128 * m) % 128 + 128 = (l[at_ + i]?.getD 0).toNat from by omega, byt_of, List.cons_append]
              rw [← Nat.add_assoc] at hdm
              rw [hdm]
        · rw [if_neg c2] at h
          by_cases c3 : (l[at_ + i]?.getD 0).toNat = 0 ∧ 0 < i
          · rw [if_pos c3] at h; cases h
          · rw [if_neg c3] at h
            simp only [Prod.mk.injEq, true_and] at h
            obtain ⟨rfl, rfl⟩ := h
            have e : nmF f (l[at_ + i]?.getD 0).toNat = [l[at_ + i]?.getD 0] := by
              cases f with
              | zero => show [byt _] = _; rw [byt_of]
              | succ f => rw [nmF_small (by omega), byt_of]
            refine ⟨(l[at_ + i]?.getD 0).toNat, ?_, ?_, ?_, by omega⟩
            · rw [Nat.mod_eq_of_lt (by omega)]
            · rw [e]; rfl
            · rw [e, hd]; rfl
    · rw [numG_none (by omega)] at h; cases h

theorem numAt_conv {l : List UInt8} {at_ v p : Nat} (h : numAt l at_ = (v, 0, p)) : l.drop at_ = nm v ++ l.drop p ∧ p = at_ + (nm v).length := by
  obtain ⟨m, hv, hp, hd, _⟩ := numG_conv 9 0 0 v p rfl h
  have e : v = m := by rw [hv]; simp
  subst e
  exact ⟨hd, hp⟩

theorem take_of_drop {l a : List UInt8} {p : Nat} (hp : p ≤ l.length) {q : Nat} (h : l.drop p = a ++ l.drop q) (hq : q = p + a.length) : l.take q = l.take p ++ a := by
  have e : l = l.take p ++ (a ++ l.drop q) := by rw [← h, List.take_append_drop]
  conv => lhs; rw [e]
  have hlp : (l.take p).length = p := by rw [List.length_take]; omega
  rw [← List.append_assoc, List.take_left']
  rw [List.length_append, hlp, hq]

theorem lb0 (b : UInt8) (n x : Nat) (t : ByteArray) : layB ⟨0, b, n, x, t⟩ = [byt (b.toNat : Int)] := layB0 (y := ⟨0, b, n, x, t⟩) rfl
theorem lb1 (b : UInt8) (n x : Nat) (t : ByteArray) : layB ⟨1, b, n, x, t⟩ = nm n := layB1 (y := ⟨1, b, n, x, t⟩) rfl
theorem lb2 (b : UInt8) (n x : Nat) (t : ByteArray) : layB ⟨2, b, n, x, t⟩ = nm t.size ++ t.data.toList := layB2 (y := ⟨2, b, n, x, t⟩) rfl
theorem lb3 (b : UInt8) (n x : Nat) (t : ByteArray) : layB ⟨3, b, n, x, t⟩ = leB 8 (bitsOf x) := layB3 (y := ⟨3, b, n, x, t⟩) rfl

/-- where a Reader stands, and what was read: it is laid as the bytes so far, if nothing is wrong -/
def OneInv (l : List UInt8) (la : List LayV) (p : Nat) (bad : Int) : Prop := bad = 0 → laidB la = l.take p

theorem leB_leVal : ∀ l : List UInt8, leB l.length (leVal l) = l
  | [] => rfl
  | x :: r => by
    have ih := leB_leVal r
    have hx := x.toNat_lt
    show byt (((x.toNat + 256 * leVal r) % 256 : Nat) : Int) :: leB r.length ((x.toNat + 256 * leVal r) / 256) = x :: r
    rw [show (x.toNat + 256 * leVal r) % 256 = x.toNat from by omega, show (x.toNat + 256 * leVal r) / 256 = leVal r from by omega, byt_of, ih]

theorem one_byte {l : List UInt8} {la : List LayV} {p : Nat} {bad : Int} (h : OneInv l la p bad) (n : Nat) (x : Nat) (t : ByteArray) (hp : p ≤ l.length) :
    OneInv l (la ++ [⟨0, byt (rByte l (p, bad) 255).1, n, x, t⟩]) (rByte l (p, bad) 255).2.1 (rByte l (p, bad) 255).2.2 := by
  intro h2
  rw [laid_snoc]
  unfold rByte at h2 ⊢
  by_cases c1 : bad ≠ 0
  · simp only [c1, ne_eq, not_false_eq_true, if_true] at h2
  · have c1' : bad = 0 := by omega
    subst c1'
    simp only [ne_eq, not_true_eq_false, if_false] at h2 ⊢
    by_cases c2 : l.length ≤ p
    · rw [if_pos c2] at h2; cases h2
    · rw [if_neg c2] at h2 ⊢
      have hb := (l[p]?.getD 0).toNat_lt
      rw [if_neg (by omega)] at h2 ⊢
      show laidB la ++ layB _ = _
      rw [h rfl, lb0]
      exact (take_of_drop hp (by rw [drop_cons (by omega)]; show _ = [byt ((byt _).toNat : Int)] ++ _; rw [byt_of, byt_of]; rfl) rfl).symm
theorem one_num {l : List UInt8} {la : List LayV} {p : Nat} {bad : Int} (h : OneInv l la p bad) (b : UInt8) (x : Nat) (t : ByteArray) (hp : p ≤ l.length) (m : Nat) :
    OneInv l (la ++ [⟨1, b, (rNum l (p, bad) m).1, x, t⟩]) (rNum l (p, bad) m).2.1 (rNum l (p, bad) m).2.2 := by
  intro h2
  rw [laid_snoc]
  unfold rNum at h2 ⊢
  by_cases c1 : bad ≠ 0
  · simp only [c1, ne_eq, not_false_eq_true, if_true] at h2
  · have c1' : bad = 0 := by omega
    subst c1'
    simp only [ne_eq, not_true_eq_false, if_false] at h2 ⊢
    by_cases c2 : (numAt l p).2.1 = 0
    · have e : numAt l p = ((numAt l p).1, 0, (numAt l p).2.2) := by rw [← c2]
      obtain ⟨hd, hq⟩ := numAt_conv e
      rw [if_neg (by simpa using c2)] at h2 ⊢
      by_cases c3 : m < (numAt l p).1
      · rw [if_pos c3] at h2; cases h2
      · rw [if_neg c3]
        show laidB la ++ layB _ = _
        rw [h rfl, lb1]
        exact (take_of_drop hp hd hq).symm
    · rw [if_pos (by simpa using c2)] at h2
      exact absurd h2 c2
theorem one_float {l : List UInt8} {la : List LayV} {p : Nat} {bad : Int} (h : OneInv l la p bad) (b : UInt8) (n : Nat) (t : ByteArray) (hp : p ≤ l.length) :
    OneInv l (la ++ [⟨3, b, n, (rFloat l (p, bad)).1, t⟩]) (rFloat l (p, bad)).2.1 (rFloat l (p, bad)).2.2 := by
  intro h2
  rw [laid_snoc]
  unfold rFloat at h2 ⊢
  by_cases c1 : bad ≠ 0
  · simp only [c1, ne_eq, not_false_eq_true, if_true] at h2
  · have c1' : bad = 0 := by omega
    subst c1'
    simp only [ne_eq, not_true_eq_false, if_false] at h2 ⊢
    by_cases c2 : l.length - p < 8
    · rw [if_pos c2] at h2; cases h2
    · rw [if_neg c2] at h2 ⊢
      by_cases c3 : nanB (le8 l p 0) = true ∧ ¬ le8 l p 0 = bitsOf (le8 l p 0)
      · rw [if_pos c3] at h2; cases h2
      · rw [if_neg c3]
        have hb : bitsOf (le8 l p 0) = le8 l p 0 := by
          by_cases hn : nanB (le8 l p 0) = true
          · by_cases he : le8 l p 0 = bitsOf (le8 l p 0)
            · exact he.symm
            · exact absurd ⟨hn, he⟩ c3
          · unfold bitsOf; rw [if_neg hn]
        show laidB la ++ layB _ = _
        rw [h rfl, lb3]
        show l.take p ++ leB 8 (bitsOf (le8 l p 0)) = l.take (p + 8)
        rw [hb]
        have hlen : ((l.drop p).take 8).length = 8 := by rw [List.length_take, List.length_drop]; omega
        have e : leB 8 (le8 l p 0) = (l.drop p).take 8 := by
          have := leB_leVal ((l.drop p).take 8)
          rw [hlen] at this
          exact this
        rw [e]
        exact (take_of_drop hp (by rw [← List.drop_drop]; exact (List.take_append_drop 8 _).symm) (by rw [hlen])).symm
theorem one_text {l : List UInt8} {la : List LayV} {p : Nat} {bad : Int} (h : OneInv l la p bad) (b : UInt8) (n x : Nat) (hp : p ≤ l.length) (m : Int) :
    OneInv l (la ++ [⟨2, b, n, x, bstr (rText l (p, bad) m).1⟩]) (rText l (p, bad) m).2.1 (rText l (p, bad) m).2.2 := by
  intro h2
  rw [laid_snoc]
  have h0 := h
  unfold rText at h2 ⊢
  by_cases c1 : (rNum l (p, bad) m.toNat).2.2 ≠ 0
  · rw [if_pos c1] at h2; exact absurd h2 c1
  · rw [if_neg c1] at h2 ⊢
    have c1' : (rNum l (p, bad) m.toNat).2.2 = 0 := by omega
    by_cases c2 : l.length - (rNum l (p, bad) m.toNat).2.1 < (rNum l (p, bad) m.toNat).1
    · rw [if_pos c2] at h2; cases h2
    · rw [if_neg c2]
      have hn := one_num h b x ByteArray.empty hp m.toNat c1'
      rw [laid_snoc, lb1] at hn
      have hb : bad = 0 := by
        by_cases hb : bad = 0
        · exact hb
        · unfold rNum at c1'; rw [if_pos hb] at c1'; exact c1'
      show laidB la ++ layB _ = _
      rw [lb2]
      have hlen : ((l.drop (rNum l (p, bad) m.toNat).2.1).take (rNum l (p, bad) m.toNat).1).length = (rNum l (p, bad) m.toNat).1 := by rw [List.length_take, List.length_drop]; omega
      show laidB la ++ (nm (bstr ((l.drop (rNum l (p, bad) m.toNat).2.1).take (rNum l (p, bad) m.toNat).1)).size ++ _) = l.take ((rNum l (p, bad) m.toNat).2.1 + (rNum l (p, bad) m.toNat).1)
      have hsz : (bstr ((l.drop (rNum l (p, bad) m.toNat).2.1).take (rNum l (p, bad) m.toNat).1)).size = (rNum l (p, bad) m.toNat).1 := Eq.trans List.size_toArray hlen
      rw [hsz, ← List.append_assoc]
      have hn' : laidB la ++ nm (rNum l (p, bad) m.toNat).1 = l.take (rNum l (p, bad) m.toNat).2.1 := hn
      rw [hn']
      show _ ++ (l.drop (rNum l (p, bad) m.toNat).2.1).take (rNum l (p, bad) m.toNat).1 = _
      rw [List.take_add]

end Go.Proofs.Ytbeaacchhaipjaa
