/-
  Plain: what stands between the brackets of a span and a byte.
-/
import Derived.Test.YthmjnelnnhidkaaBrkLaw
namespace Go.Proofs.Ythmjnelnnhidkaa

theorem endF_plain (l : List UInt8) (p : Nat) (c : UInt8) (h : l[p]? = some c) (hc : c ≠ 92) : endF l p = some (c.toNat, p + 1) := by
  unfold endF
  rw [h]
  simp only
  rw [if_pos hc]
theorem opensF_not (l : List UInt8) (p : Nat) (c : UInt8) (h : l[p]? = some c) (hc : c ≠ 91) : opensF l p = false := by
  unfold opensF
  rw [h]
  have : ((some c : Option UInt8) == some 91) = false := by rw [beq_eq_false_iff_ne]; intro e; injection e with e; exact hc e
  rw [this]
  rfl
theorem itemF_span (l : List UInt8) (p : Nat) (a z : UInt8) (h0 : l[p]? = some a) (h1 : l[p + 1]? = some 45) (h2 : l[p + 2]? = some z) (ha : a ≠ 92 ∧ a ≠ 91) (hz : z ≠ 92 ∧ z ≠ 91 ∧ z ≠ 93) (haz : a.toNat ≤ z.toNat) : itemF l p = some (mSpan a.toNat z.toNat, p + 3) := by
  have hlt : p + 1 + 1 < l.length := (List.getElem?_eq_some_iff.1 h2).1
  unfold itemF
  rw [opensF_not l p a h0 ha.2, if_neg (by simp), endF_plain l p a h0 ha.1]
  simp only
  rw [if_pos ⟨h1, hlt, by rw [h2]; intro e; injection e with e; exact hz.2.2 e⟩, opensF_not l (p + 1 + 1) z h2 hz.2.1, if_neg (by simp), endF_plain l (p + 1 + 1) z h2 hz.1]
  simp only
  rw [if_pos haz]
theorem itemF_one (l : List UInt8) (p : Nat) (c d : UInt8) (h0 : l[p]? = some c) (h1 : l[p + 1]? = some d) (hc : c ≠ 92 ∧ c ≠ 91) (hd : d ≠ 45) : itemF l p = some (mOf [UInt8.ofNat c.toNat], p + 1) := by
  unfold itemF
  rw [opensF_not l p c h0 hc.2, if_neg (by simp), endF_plain l p c h0 hc.1]
  simp only
  rw [if_neg (by rw [h1]; rintro ⟨e, _⟩; injection e with e; exact hd e)]
theorem itemsF_first (l : List UInt8) (f p q : Nat) (m x : Mem) (h : itemF l p = some (x, q)) : itemsF l (f + 1) p true m = itemsF l f q false (mOr m x) := by
  rw [itemsF, if_neg (by simp), h]
theorem itemsF_more (l : List UInt8) (f p q : Nat) (m x : Mem) (c : UInt8) (h0 : l[p]? = some c) (hc : c ≠ 93) (h : itemF l p = some (x, q)) : itemsF l (f + 1) p false m = itemsF l f q false (mOr m x) := by
  have : ((some c : Option UInt8) == some 93) = false := by rw [beq_eq_false_iff_ne]; intro e; injection e with e; exact hc e
  rw [itemsF, h0, this, if_neg (by simp), h]
theorem itemsF_end (l : List UInt8) (f p : Nat) (m : Mem) (h0 : l[p]? = some 93) : itemsF l (f + 1) p false m = some (m, p) := by
  rw [itemsF, h0]
  rfl

/-- what is in it -/
def spanM (a z c : UInt8) : Mem := mOr (mOr mNone (mSpan a.toNat z.toNat)) (mOf [UInt8.ofNat c.toNat])
theorem bracket_span (a z c : UInt8) (ha : 65 ≤ a.toNat ∧ a.toNat ≤ 84) (hz : a.toNat ≤ z.toNat ∧ z.toNat ≤ 89) (hc : 48 ≤ c.toNat ∧ c.toNat ≤ 57) :
    bracketF [a, 45, z, c, 93] 0 = some (spanM a z c, 5) ∧ bracketF [94, a, 45, z, c, 93] 0 = some (mNot (spanM a z c), 6) := by
  have ne : ∀ (x y : UInt8), x.toNat ≠ y.toNat → x ≠ y := fun x y h e => h (by rw [e])
  have a1 : a ≠ 92 := ne _ _ (by show a.toNat ≠ 92; omega)
  have a2 : a ≠ 91 := ne _ _ (by show a.toNat ≠ 91; omega)
  have a3 : a ≠ 94 := ne _ _ (by show a.toNat ≠ 94; omega)
  have z1 : z ≠ 92 := ne _ _ (by show z.toNat ≠ 92; omega)
  have z2 : z ≠ 91 := ne _ _ (by show z.toNat ≠ 91; omega)
  have z3 : z ≠ 93 := ne _ _ (by show z.toNat ≠ 93; omega)
  have c1 : c ≠ 92 := ne _ _ (by show c.toNat ≠ 92; omega)
  have c2 : c ≠ 91 := ne _ _ (by show c.toNat ≠ 91; omega)
  have c3 : c ≠ 93 := ne _ _ (by show c.toNat ≠ 93; omega)
  constructor
  · unfold bracketF
    have hn : (([a, 45, z, c, 93] : List UInt8)[(0 : Int).toNat]? == some 94) = false := by rw [beq_eq_false_iff_ne]; intro e; injection e with e; exact a3 e
    rw [if_neg (by simp)]
    simp only [hn, Bool.false_eq_true, ↓reduceIte]
    show (match itemsF [a, 45, z, c, 93] (5 + 1) 0 true mNone with | none => none | some (m, e) => some (m, e + 1)) = _
    rw [itemsF_first _ 5 0 3 _ _ (itemF_span _ 0 a z rfl rfl rfl ⟨a1, a2⟩ ⟨z1, z2, z3⟩ hz.1), itemsF_more _ 4 3 4 _ _ c rfl c3 (itemF_one _ 3 c 93 rfl rfl ⟨c1, c2⟩ (by decide)), itemsF_end _ 3 4 _ rfl]
    rfl
  · unfold bracketF
    have hn : (([94, a, 45, z, c, 93] : List UInt8)[(0 : Int).toNat]? == some 94) = true := rfl
    rw [if_neg (by simp)]
    simp only [hn, ↓reduceIte]
    show (match itemsF [94, a, 45, z, c, 93] (6 + 1) 1 true mNone with | none => none | some (m, e) => some (mNot m, e + 1)) = _
    rw [itemsF_first _ 6 1 4 _ _ (itemF_span _ 1 a z rfl rfl rfl ⟨a1, a2⟩ ⟨z1, z2, z3⟩ hz.1), itemsF_more _ 5 4 5 _ _ c rfl c3 (itemF_one _ 4 c 93 rfl rfl ⟨c1, c2⟩ (by decide)), itemsF_end _ 4 5 _ rfl]
    rfl
theorem spanM_eq (a z c : UInt8) : ∀ b, b < 256 → spanM a z c b = mOr (mSpan a.toNat z.toNat) (mOf [c]) b := fun b _ => by
  unfold spanM
  rw [UInt8.ofNat_toNat]
  show ((false || _) || _) = (_ || _)
  rw [Bool.false_or]
theorem spanN_eq (a z c : UInt8) : ∀ b, b < 256 → mNot (spanM a z c) b = mNot (mOr (mSpan a.toNat z.toNat) (mOf [c])) b := fun b h => by
  show (!_) = (!_)
  rw [spanM_eq a z c b h]
end Go.Proofs.Ythmjnelnnhidkaa
