import Derived.Test.YtmkddhkpeiajhaaGreatDoorSetLaw
namespace Go.Proofs.YtmkddhkpeiajhaaGreatDoor
inductive Rx where
 | eps | set (s : W4) | cat (a b : Rx) | alt (a b : Rx) | star (a : Rx) | plus (a : Rx) | opt (a : Rx) | first | last
def rxT : Rx → Tree
 | .eps => .node 0 z4 []
 | .set s => .node 1 s []
 | .cat a b => .node 2 z4 [rxT a, rxT b]
 | .alt a b => .node 3 z4 [rxT a, rxT b]
 | .star a => .node 4 z4 [rxT a]
 | .plus a => .node 5 z4 [rxT a]
 | .opt a => .node 6 z4 [rxT a]
 | .first => .node 7 z4 []
 | .last => .node 8 z4 []
theorem kidsOf_cases {k : Int} {n : Nat} (h : kidsOf k = (n : Int)) :
  (n = 0 ∧ (k = 0 ∨ k = 1 ∨ k = 7 ∨ k = 8)) ∨ (n = 2 ∧ (k = 2 ∨ k = 3)) ∨ (n = 1 ∧ (k = 4 ∨ k = 5 ∨ k = 6)) := by
 unfold kidsOf at h
 split at h
 ·rename_i h1; exact .inl ⟨by omega, h1⟩
 ·split at h
  ·rename_i _ h1; exact .inr (.inl ⟨by omega, h1⟩)
  ·split at h
   ·rename_i _ _ h1; exact .inr (.inr ⟨by omega, h1⟩)
   ·omega
mutual
theorem rx_of_shaped : ∀ (t : Tree) (d : Int), (shapedT t d).isSome = true → ∃ x, t = rxT x
 | .node k s ks, d, h => by
  rw [shapedT] at h
  by_cases hc : d < 1 ∨ kidsOf k ≠ (ks.length : Int) ∨ (k ≠ 1 ∧ s ≠ z4)
  ·rw [if_pos hc] at h; cases h
  ·rw [if_neg hc] at h
   have hk : kidsOf k = (ks.length : Int) := Classical.byContradiction fun hh => hc (.inr (.inl hh))
   have hs : k ≠ 1 → s = z4 := fun h1 => Classical.byContradiction fun hh => hc (.inr (.inr ⟨h1, hh⟩))
   obtain ⟨xs, hxs⟩ := rx_of_shapedL ks d 0 _ h
   rcases kidsOf_cases hk with ⟨hn, hk'⟩ | ⟨hn, hk'⟩ | ⟨hn, hk'⟩
   ·have hks : ks = [] := List.eq_nil_of_length_eq_zero hn
    subst hks
    rcases hk' with rfl | rfl | rfl | rfl
    ·rw [hs (by decide)]; exact ⟨.eps, rfl⟩
    ·exact ⟨.set s, rfl⟩
    ·rw [hs (by decide)]; exact ⟨.first, rfl⟩
    ·rw [hs (by decide)]; exact ⟨.last, rfl⟩
   ·obtain ⟨a, b, rfl⟩ : ∃ a b, xs = [a, b] := by
     rw [hxs, List.length_map] at hn
     match xs, hn with
     | [a, b], _ => exact ⟨a, b, rfl⟩
    subst hxs
    rcases hk' with rfl | rfl
    ·rw [hs (by decide)]; exact ⟨.cat a b, rfl⟩
    ·rw [hs (by decide)]; exact ⟨.alt a b, rfl⟩
   ·obtain ⟨a, rfl⟩ : ∃ a, xs = [a] := by
     rw [hxs, List.length_map] at hn
     match xs, hn with
     | [a], _ => exact ⟨a, rfl⟩
    subst hxs
    rcases hk' with rfl | rfl | rfl
    ·rw [hs (by decide)]; exact ⟨.star a, rfl⟩
    ·rw [hs (by decide)]; exact ⟨.plus a, rfl⟩
    ·rw [hs (by decide)]; exact ⟨.opt a, rfl⟩
theorem rx_of_shapedL : ∀ (ts : List Tree) (d : Int) (i n : Nat), (shapedL ts d i n).isSome = true → ∃ xs : List Rx, ts = xs.map rxT
 | [], _, _, _, _ => ⟨[], rfl⟩
 | t :: ts, d, i, n, h => by
  rw [shapedL] at h
  cases hq : shapedT t (d - 1 + (i : Int)) with
  | none => rw [hq] at h; cases h
  | some q =>
   rw [hq] at h
   simp only at h
   split at h
   ·cases h
   ·obtain ⟨x, hx⟩ := rx_of_shaped t (d - 1 + (i : Int)) (by rw [hq]; rfl)
    obtain ⟨xs, hxs⟩ := rx_of_shapedL ts d (i + 1) (n + q) h
    exact ⟨x :: xs, by rw [hx, hxs]; rfl⟩
end
theorem rx_of_right {t : Tree} (h : rightT t = true) : ∃ x, t = rxT x := rx_of_shaped t 40 h
def w4get (s : W4) (i : Nat) : Nat := if i = 0 then s.1 else if i = 1 then s.2.1 else if i = 2 then s.2.2.1 else s.2.2.2
def w4has (s : W4) (b : Nat) : Bool := w4get s (b / 64) / 2 ^ (b % 64) % 2 == 1
theorem w4has_w4 (p : Mem) {b : Nat} (hb : b < 256) : w4has (w4 p) b = p b := by
 have h := word_has p b
 have hg : w4get (w4 p) (b / 64) = word p (b / 64) := by
  have : b / 64 = 0 ∨ b / 64 = 1 ∨ b / 64 = 2 ∨ b / 64 = 3 := by omega
  rcases this with e | e | e | e <;> rw [e] <;> rfl
 unfold w4has
 rw [hg, h]
 cases p b <;> rfl
inductive Many (R : Nat → Nat → Prop) : Nat → Nat → Prop where
 | nil (i : Nat) : Many R i i
 | cons {i j k : Nat} (h : R i j) (t : Many R j k) : Many R i k
section
variable (x : List UInt8)
def hasAt (s : W4) (p : Nat) : Bool :=
 match x[p]? with
 | some c => w4has s c.toNat
 | none => false
def Mt : Rx → Nat → Nat → Prop
 | .eps, i, j => i = j
 | .set s, i, j => hasAt x s i = true ∧ j = i + 1
 | .cat a b, i, j => ∃ k, Mt a i k ∧ Mt b k j
 | .alt a b, i, j => Mt a i j ∨ Mt b i j
 | .star a, i, j => Many (Mt a) i j
 | .plus a, i, j => ∃ k, Mt a i k ∧ Many (Mt a) k j
 | .opt a, i, j => i = j ∨ Mt a i j
 | .first, i, j => i = j ∧ i = 0
 | .last, i, j => i = j ∧ i = x.length
theorem hasAt_lt {s : W4} {p : Nat} (h : hasAt x s p = true) : p < x.length := by
 unfold hasAt at h
 cases hp : x[p]? with
 | none => rw [hp] at h; cases h
 | some c => exact (List.getElem?_eq_some_iff.1 hp).1
theorem Many.mono {R : Nat → Nat → Prop} {n : Nat} (hR : ∀ i j, R i j → i ≤ n → i ≤ j ∧ j ≤ n) {i j : Nat} (h : Many R i j) : i ≤ n → i ≤ j ∧ j ≤ n := by
 induction h with
 | nil i => exact fun h => ⟨Nat.le_refl _, h⟩
 | cons h _ ih =>
  intro hi
  have h1 := hR _ _ h hi
  have := ih h1.2
  omega
theorem Many.snoc {R : Nat → Nat → Prop} {i j k : Nat} (h : Many R i j) (hr : R j k) : Many R i k := by
 induction h with
 | nil i => exact .cons hr (.nil _)
 | cons h _ ih => exact .cons h (ih hr)
theorem Many.trans {R : Nat → Nat → Prop} {i j k : Nat} (h : Many R i j) (hr : Many R j k) : Many R i k := by
 induction h with
 | nil i => exact hr
 | cons h _ ih => exact .cons h (ih hr)
theorem Mt.mono : ∀ (r : Rx) {i j : Nat}, Mt x r i j → i ≤ x.length → i ≤ j ∧ j ≤ x.length
 | .eps, i, j, h, hi => by have h : i = j := h; omega
 | .set s, i, j, h, hi => by have := hasAt_lt x h.1; have := h.2; omega
 | .cat a b, i, j, h, hi => by
  obtain ⟨k, h1, h2⟩ := h
  have := Mt.mono a h1 hi
  have := Mt.mono b h2 this.2
  omega
 | .alt a b, i, j, h, hi => h.elim (fun h => Mt.mono a h hi) (fun h => Mt.mono b h hi)
 | .star a, i, j, h, hi => Many.mono (fun _ _ h h' => Mt.mono a h h') h hi
 | .plus a, i, j, h, hi => by
  obtain ⟨k, h1, h2⟩ := h
  have := Mt.mono a h1 hi
  have := Many.mono (fun _ _ h h' => Mt.mono a h h') h2 this.2
  omega
 | .opt a, i, j, h, hi => h.elim (fun h => by omega) (fun h => Mt.mono a h hi)
 | .first, i, j, h, hi => by have h1 := h.1; omega
 | .last, i, j, h, hi => by have h1 := h.1; omega
end
structure NSt where
 kind : Nat
 set : W4
 a : Nat
 b : Nat
def setNA (l : List NSt) (i a : Nat) : List NSt := l.modify i fun s => { s with a := a }
def buildF : Rx → Nat → List NSt → List NSt × Nat
 | .eps, to, l => (l, to)
 | .set s, to, l => (l ++ [⟨0, s, to, 0⟩], l.length)
 | .cat a b, to, l => buildF a (buildF b to l).2 (buildF b to l).1
 | .alt a b, to, l => ((buildF b to (buildF a to l).1).1 ++ [⟨1, z4, (buildF a to l).2, (buildF b to (buildF a to l).1).2⟩], (buildF b to (buildF a to l).1).1.length)
 | .star a, to, l => (setNA (buildF a l.length (l ++ [⟨1, z4, 0, to⟩])).1 l.length (buildF a l.length (l ++ [⟨1, z4, 0, to⟩])).2, l.length)
 | .plus a, to, l => (setNA (buildF a l.length (l ++ [⟨1, z4, 0, to⟩])).1 l.length (buildF a l.length (l ++ [⟨1, z4, 0, to⟩])).2, (buildF a l.length (l ++ [⟨1, z4, 0, to⟩])).2)
 | .opt a, to, l => ((buildF a to l).1 ++ [⟨1, z4, (buildF a to l).2, to⟩], (buildF a to l).1.length)
 | .first, to, l => (l ++ [⟨2, z4, to, 0⟩], l.length)
 | .last, to, l => (l ++ [⟨3, z4, to, 0⟩], l.length)
def machF (r : Rx) : List NSt × Nat := buildF r 0 [⟨4, z4, 0, 0⟩]
theorem setNA_len (l : List NSt) (i a : Nat) : (setNA l i a).length = l.length := by unfold setNA; rw [List.length_modify]
theorem setNA_ne (l : List NSt) {i j a : Nat} (h : i ≠ j) : (setNA l i a)[j]? = l[j]? := by unfold setNA; rw [List.getElem?_modify]; cases l[j]? <;> simp [h]
theorem setNA_eq (l : List NSt) (i a : Nat) : (setNA l i a)[i]? = l[i]?.map fun s => { s with a := a } := by unfold setNA; rw [List.getElem?_modify]; cases l[i]? <;> simp
def rxSize : Rx → Nat
 | .eps => 1
 | .set _ => 1
 | .cat a b => rxSize a + rxSize b + 1
 | .alt a b => rxSize a + rxSize b + 1
 | .star a => rxSize a + 1
 | .plus a => rxSize a + 1
 | .opt a => rxSize a + 1
 | .first => 1
 | .last => 1
theorem build_facts : ∀ (r : Rx) (to : Nat) (l : List NSt), l.length ≤ (buildF r to l).1.length ∧ (buildF r to l).1.length ≤ l.length + rxSize r ∧ (∀ i, i < l.length → (buildF r to l).1[i]? = l[i]?) ∧ ((buildF r to l).2 = to ∨ (buildF r to l).2 < (buildF r to l).1.length)
 | .eps, to, l => ⟨Nat.le_refl _, by unfold rxSize; show l.length ≤ _; omega, fun _ _ => rfl, .inl rfl⟩
 | .set s, to, l => by unfold buildF rxSize; exact ⟨by simp, by simp, fun i hi => List.getElem?_append_left hi, .inr (by simp)⟩
 | .first, to, l => by unfold buildF rxSize; exact ⟨by simp, by simp, fun i hi => List.getElem?_append_left hi, .inr (by simp)⟩
 | .last, to, l => by unfold buildF rxSize; exact ⟨by simp, by simp, fun i hi => List.getElem?_append_left hi, .inr (by simp)⟩
 | .cat a b, to, l => by
  unfold buildF rxSize
  obtain ⟨h1, h2, h3, h4⟩ := build_facts b to l
  obtain ⟨g1, g2, g3, g4⟩ := build_facts a (buildF b to l).2 (buildF b to l).1
  exact ⟨by omega, by omega, fun i hi => (g3 i (by omega)).trans (h3 i hi), by omega⟩
 | .alt a b, to, l => by
  unfold buildF rxSize
  obtain ⟨h1, h2, h3, h4⟩ := build_facts a to l
  obtain ⟨g1, g2, g3, g4⟩ := build_facts b to (buildF a to l).1
  refine ⟨by simp; omega, by simp; omega, fun i hi => ?_, .inr (by simp)⟩
  rw [List.getElem?_append_left (by omega)]
  exact (g3 i (by omega)).trans (h3 i hi)
 | .opt a, to, l => by
  unfold buildF rxSize
  obtain ⟨h1, h2, h3, h4⟩ := build_facts a to l
  refine ⟨by simp; omega, by simp; omega, fun i hi => ?_, .inr (by simp)⟩
  rw [List.getElem?_append_left (by omega)]
  exact h3 i hi
 | .star a, to, l => by
  unfold buildF rxSize
  obtain ⟨h1, h2, h3, h4⟩ := build_facts a l.length (l ++ [⟨1, z4, 0, to⟩])
  simp only [List.length_append, List.length_singleton] at h1 h2 h3
  refine ⟨by simp only [setNA_len]; omega, by simp only [setNA_len]; omega, fun i hi => ?_, .inr (by simp only [setNA_len]; omega)⟩
  simp only
  rw [setNA_ne _ (by omega), h3 i (by omega), List.getElem?_append_left hi]
 | .plus a, to, l => by
  unfold buildF rxSize
  obtain ⟨h1, h2, h3, h4⟩ := build_facts a l.length (l ++ [⟨1, z4, 0, to⟩])
  simp only [List.length_append, List.length_singleton] at h1 h2 h3
  refine ⟨by simp only [setNA_len]; omega, by simp only [setNA_len]; omega, fun i hi => ?_, .inr (by simp only [setNA_len]; omega)⟩
  simp only
  rw [setNA_ne _ (by omega), h3 i (by omega), List.getElem?_append_left hi]
section
variable (x : List UInt8) (L : List NSt)
def Eps (p : Nat) (s t : Nat) : Prop := ∃ n, L[s]? = some n ∧ ((n.kind = 1 ∧ (t = n.a ∨ t = n.b)) ∨ (n.kind = 2 ∧ p = 0 ∧ t = n.a) ∨ (n.kind = 3 ∧ p = x.length ∧ t = n.a))
def Eat (p : Nat) (s t : Nat) : Prop := ∃ n, L[s]? = some n ∧ n.kind = 0 ∧ hasAt x n.set p = true ∧ t = n.a
inductive Walk (q : Nat) : Nat → Nat → Nat → Prop where
 | nil : Walk q 0 0 q
 | eps {n s t p : Nat} (h : Eps x L p s t) (r : Walk q n t p) : Walk q (n + 1) s p
 | eat {n s t p : Nat} (h : Eat x L p s t) (r : Walk q n t (p + 1)) : Walk q (n + 1) s p
end
def Built (L : List NSt) (lo : Nat) (l : List NSt) : Prop := ∀ i, lo ≤ i → i < l.length → L[i]? = l[i]?
section
variable {x : List UInt8} {L : List NSt}
theorem built_kid {lo : Nat} {l l' : List NSt} (h : Built L lo l') (hle : l.length ≤ l'.length) (he : ∀ i, lo ≤ i → i < l.length → l'[i]? = l[i]?) : Built L lo l :=
 fun i h1 h2 => (h i h1 (by omega)).trans (he i h1 h2)
theorem get_last (l : List NSt) (n : NSt) : (l ++ [n])[l.length]? = some n := by simp
theorem walk_of_match (q : Nat) : ∀ (r : Rx) (to : Nat) (l : List NSt), Built L l.length (buildF r to l).1 → ∀ i j, Mt x r i j → ∀ n, Walk x L q n to j → ∃ m, Walk x L q m (buildF r to l).2 i
 | .eps, to, l, _, i, j, h, n, hw => by have h : i = j := h; subst h; exact ⟨n, hw⟩
 | .set s, to, l, hb, i, j, h, n, hw => by
  obtain ⟨h1, rfl⟩ := h
  refine ⟨n + 1, .eat ⟨⟨0, s, to, 0⟩, ?_, rfl, h1, rfl⟩ hw⟩
  exact (hb l.length (Nat.le_refl _) (by unfold buildF; simp)).trans (get_last l _)
 | .first, to, l, hb, i, j, h, n, hw => by
  obtain ⟨rfl, h1⟩ := h
  exact ⟨n + 1, .eps ⟨⟨2, z4, to, 0⟩, (hb l.length (Nat.le_refl _) (by unfold buildF; simp)).trans (get_last l _), .inr (.inl ⟨rfl, h1, rfl⟩)⟩ hw⟩
 | .last, to, l, hb, i, j, h, n, hw => by
  obtain ⟨rfl, h1⟩ := h
  exact ⟨n + 1, .eps ⟨⟨3, z4, to, 0⟩, (hb l.length (Nat.le_refl _) (by unfold buildF; simp)).trans (get_last l _), .inr (.inr ⟨rfl, h1, rfl⟩)⟩ hw⟩
 | .cat a b, to, l, hb, i, j, h, n, hw => by
  obtain ⟨k, h1, h2⟩ := h
  unfold buildF at hb ⊢
  have fa := build_facts a (buildF b to l).2 (buildF b to l).1
  have fb := build_facts b to l
  obtain ⟨m, hm⟩ := walk_of_match q b to l (built_kid hb fa.1 (fun i _ h2 => fa.2.2.1 i h2)) k j h2 n hw
  exact walk_of_match q a _ _ (fun i h1 h2 => hb i (by omega) h2) i k h1 m hm
 | .alt a b, to, l, hb, i, j, h, n, hw => by
  unfold buildF at hb ⊢
  have fa := build_facts a to l
  have fb := build_facts b to (buildF a to l).1
  have hn := (hb (buildF b to (buildF a to l).1).1.length (by omega) (by simp)).trans (get_last _ _)
  rcases h with h | h
  ·obtain ⟨m, hm⟩ := walk_of_match q a to l (built_kid hb (by simp; omega) (fun i _ h2 => by
    rw [List.getElem?_append_left (by omega)]; exact fb.2.2.1 i h2)) i j h n hw
   exact ⟨m + 1, .eps ⟨_, hn, .inl ⟨rfl, .inl rfl⟩⟩ hm⟩
  ·obtain ⟨m, hm⟩ := walk_of_match q b to (buildF a to l).1 (fun i h1 h2 => (hb i (by omega) (by simp; omega)).trans (List.getElem?_append_left h2)) i j h n hw
   exact ⟨m + 1, .eps ⟨_, hn, .inl ⟨rfl, .inr rfl⟩⟩ hm⟩
 | .opt a, to, l, hb, i, j, h, n, hw => by
  unfold buildF at hb ⊢
  have fa := build_facts a to l
  have hn := (hb (buildF a to l).1.length (by omega) (by simp)).trans (get_last _ _)
  rcases h with h | h
  ·subst h
   exact ⟨n + 1, .eps ⟨_, hn, .inl ⟨rfl, .inr rfl⟩⟩ hw⟩
  ·obtain ⟨m, hm⟩ := walk_of_match q a to l (fun i h1 h2 => (hb i (by omega) (by simp; omega)).trans (List.getElem?_append_left h2)) i j h n hw
   exact ⟨m + 1, .eps ⟨_, hn, .inl ⟨rfl, .inl rfl⟩⟩ hm⟩
 | .star a, to, l, hb, i, j, h, n, hw => by
  unfold buildF at hb ⊢
  have fa := build_facts a l.length (l ++ [⟨1, z4, 0, to⟩])
  simp only [List.length_append, List.length_singleton] at fa
  have hn : L[l.length]? = some ⟨1, z4, (buildF a l.length (l ++ [⟨1, z4, 0, to⟩])).2, to⟩ := by
   rw [hb l.length (Nat.le_refl _) (by simp only [setNA_len]; omega)]
   simp only
   rw [setNA_eq, fa.2.2.1 l.length (by omega), get_last]; rfl
  have hba : Built L (l ++ [(⟨1, z4, 0, to⟩ : NSt)]).length (buildF a l.length (l ++ [⟨1, z4, 0, to⟩])).1 := fun i h1 h2 => by
   simp only [List.length_append, List.length_singleton] at h1
   rw [hb i (by omega) (by simp only [setNA_len]; omega)]
   exact setNA_ne _ (by omega)
  have key : ∀ i j, Many (Mt x a) i j → (∃ n, Walk x L q n to j) → ∃ m, Walk x L q m l.length i := by
   intro i j h hw
   induction h with
   | nil i => obtain ⟨n, hw⟩ := hw; exact ⟨n + 1, .eps ⟨_, hn, .inl ⟨rfl, .inr rfl⟩⟩ hw⟩
   | cons h _ ih =>
    obtain ⟨m, hm⟩ := ih hw
    obtain ⟨m', hm'⟩ := walk_of_match q a l.length _ hba _ _ h m hm
    exact ⟨m' + 1, .eps ⟨_, hn, .inl ⟨rfl, .inl rfl⟩⟩ hm'⟩
  exact key i j h ⟨n, hw⟩
 | .plus a, to, l, hb, i, j, h, n, hw => by
  unfold buildF at hb ⊢
  have fa := build_facts a l.length (l ++ [⟨1, z4, 0, to⟩])
  simp only [List.length_append, List.length_singleton] at fa
  have hn : L[l.length]? = some ⟨1, z4, (buildF a l.length (l ++ [⟨1, z4, 0, to⟩])).2, to⟩ := by
   rw [hb l.length (Nat.le_refl _) (by simp only [setNA_len]; omega)]
   simp only
   rw [setNA_eq, fa.2.2.1 l.length (by omega), get_last]; rfl
  have hba : Built L (l ++ [(⟨1, z4, 0, to⟩ : NSt)]).length (buildF a l.length (l ++ [⟨1, z4, 0, to⟩])).1 := fun i h1 h2 => by
   simp only [List.length_append, List.length_singleton] at h1
   rw [hb i (by omega) (by simp only [setNA_len]; omega)]
   exact setNA_ne _ (by omega)
  have key : ∀ i j, Many (Mt x a) i j → (∃ n, Walk x L q n to j) → ∃ m, Walk x L q m l.length i := by
   intro i j h hw
   induction h with
   | nil i => obtain ⟨n, hw⟩ := hw; exact ⟨n + 1, .eps ⟨_, hn, .inl ⟨rfl, .inr rfl⟩⟩ hw⟩
   | cons h _ ih =>
    obtain ⟨m, hm⟩ := ih hw
    obtain ⟨m', hm'⟩ := walk_of_match q a l.length _ hba _ _ h m hm
    exact ⟨m' + 1, .eps ⟨_, hn, .inl ⟨rfl, .inl rfl⟩⟩ hm'⟩
  obtain ⟨k, h1, h2⟩ := h
  obtain ⟨m, hm⟩ := key k j h2 ⟨n, hw⟩
  exact walk_of_match q a l.length _ hba _ _ h1 m hm
theorem Walk.step {q n s p : Nat} (h : Walk x L q n s p) (hs : 0 < s) : ∃ m, n = m + 1 ∧ ((∃ t, Eps x L p s t ∧ Walk x L q m t p) ∨ (∃ t, Eat x L p s t ∧ Walk x L q m t (p + 1))) := by
 cases h with
 | nil => omega
 | eps h r => exact ⟨_, rfl, .inl ⟨_, h, r⟩⟩
 | eat h r => exact ⟨_, rfl, .inr ⟨_, h, r⟩⟩
theorem match_of_walk (q : Nat) : ∀ (r : Rx) (to : Nat) (l : List NSt), 0 < l.length → Built L l.length (buildF r to l).1 → ∀ n i, Walk x L q n (buildF r to l).2 i → ∃ j m, m ≤ n ∧ Mt x r i j ∧ Walk x L q m to j
 | .eps, to, l, _, _, n, i, hw => ⟨i, n, Nat.le_refl _, rfl, hw⟩
 | .set s, to, l, hl, hb, n, i, hw => by
  change Walk x L q n l.length i at hw
  have hn := (hb l.length (Nat.le_refl _) (by unfold buildF; simp)).trans (get_last l _)
  have hw0 := hw
  clear hw
  obtain ⟨m, rfl, ⟨t, ⟨u, hu, hc⟩, hw⟩ | ⟨t, ⟨u, hu, hk, hh, rfl⟩, hw⟩⟩ := hw0.step hl
  ·rw [hn] at hu; injection hu with hu; subst hu
   rcases hc with ⟨h, _⟩ | ⟨h, _⟩ | ⟨h, _⟩ <;> cases h
  ·rw [hn] at hu; injection hu with hu; subst hu
   exact ⟨i + 1, m, by omega, ⟨hh, rfl⟩, hw⟩
 | .first, to, l, hl, hb, n, i, hw => by
  change Walk x L q n l.length i at hw
  have hn := (hb l.length (Nat.le_refl _) (by unfold buildF; simp)).trans (get_last l _)
  have hw0 := hw
  clear hw
  obtain ⟨m, rfl, ⟨t, ⟨u, hu, hc⟩, hw⟩ | ⟨t, ⟨u, hu, hk, hh, rfl⟩, hw⟩⟩ := hw0.step hl
  ·rw [hn] at hu; injection hu with hu; subst hu
   rcases hc with ⟨h, _⟩ | ⟨_, h1, rfl⟩ | ⟨h, _⟩
   ·cases h
   ·exact ⟨i, m, by omega, ⟨rfl, h1⟩, hw⟩
   ·cases h
  ·rw [hn] at hu; injection hu with hu; subst hu; cases hk
 | .last, to, l, hl, hb, n, i, hw => by
  change Walk x L q n l.length i at hw
  have hn := (hb l.length (Nat.le_refl _) (by unfold buildF; simp)).trans (get_last l _)
  have hw0 := hw
  clear hw
  obtain ⟨m, rfl, ⟨t, ⟨u, hu, hc⟩, hw⟩ | ⟨t, ⟨u, hu, hk, hh, rfl⟩, hw⟩⟩ := hw0.step hl
  ·rw [hn] at hu; injection hu with hu; subst hu
   rcases hc with ⟨h, _⟩ | ⟨h, _⟩ | ⟨_, h1, rfl⟩
   ·cases h
   ·cases h
   ·exact ⟨i, m, by omega, ⟨rfl, h1⟩, hw⟩
  ·rw [hn] at hu; injection hu with hu; subst hu; cases hk
 | .cat a b, to, l, hl, hb, n, i, hw => by
  unfold buildF at hb hw
  have fa := build_facts a (buildF b to l).2 (buildF b to l).1
  have fb := build_facts b to l
  obtain ⟨k, m, hm, h1, hw⟩ := match_of_walk q a _ _ (by omega) (fun i h1 h2 => hb i (by omega) h2) n i hw
  obtain ⟨j, m', hm', h2, hw⟩ := match_of_walk q b to l hl (built_kid hb fa.1 (fun i _ h2 => fa.2.2.1 i h2)) m k hw
  exact ⟨j, m', by omega, ⟨k, h1, h2⟩, hw⟩
 | .alt a b, to, l, hl, hb, n, i, hw => by
  unfold buildF at hb hw
  have fa := build_facts a to l
  have fb := build_facts b to (buildF a to l).1
  have hn := (hb (buildF b to (buildF a to l).1).1.length (by omega) (by simp)).trans (get_last _ _)
  simp only at hw
  have hw0 := hw
  clear hw
  obtain ⟨m, rfl, ⟨t, ⟨u, hu, hc⟩, hw⟩ | ⟨t, ⟨u, hu, hk, hh, rfl⟩, hw⟩⟩ := hw0.step (by omega)
  ·rw [hn] at hu; injection hu with hu; subst hu
   rcases hc with ⟨_, rfl | rfl⟩ | ⟨h, _⟩ | ⟨h, _⟩
   ·obtain ⟨j, m', hm', h2, hw⟩ := match_of_walk q a to l hl (built_kid hb (by simp; omega) (fun i _ h2 => by
     rw [List.getElem?_append_left (by omega)]; exact fb.2.2.1 i h2)) m i hw
    exact ⟨j, m', by omega, .inl h2, hw⟩
   ·obtain ⟨j, m', hm', h2, hw⟩ := match_of_walk q b to (buildF a to l).1 (by omega) (fun i h1 h2 => (hb i (by omega) (by simp; omega)).trans (List.getElem?_append_left h2)) m i hw
    exact ⟨j, m', by omega, .inr h2, hw⟩
   ·cases h
   ·cases h
  ·rw [hn] at hu; injection hu with hu; subst hu; cases hk
 | .opt a, to, l, hl, hb, n, i, hw => by
  unfold buildF at hb hw
  have fa := build_facts a to l
  have hn := (hb (buildF a to l).1.length (by omega) (by simp)).trans (get_last _ _)
  simp only at hw
  have hw0 := hw
  clear hw
  obtain ⟨m, rfl, ⟨t, ⟨u, hu, hc⟩, hw⟩ | ⟨t, ⟨u, hu, hk, hh, rfl⟩, hw⟩⟩ := hw0.step (by omega)
  ·rw [hn] at hu; injection hu with hu; subst hu
   rcases hc with ⟨_, rfl | rfl⟩ | ⟨h, _⟩ | ⟨h, _⟩
   ·obtain ⟨j, m', hm', h2, hw⟩ := match_of_walk q a to l hl (fun i h1 h2 => (hb i (by omega) (by simp; omega)).trans (List.getElem?_append_left h2)) m i hw
    exact ⟨j, m', by omega, .inr h2, hw⟩
   ·exact ⟨i, m, by omega, .inl rfl, hw⟩
   ·cases h
   ·cases h
  ·rw [hn] at hu; injection hu with hu; subst hu; cases hk
 | .star a, to, l, hl, hb, n, i, hw => by
  unfold buildF at hb hw
  have fa := build_facts a l.length (l ++ [⟨1, z4, 0, to⟩])
  simp only [List.length_append, List.length_singleton] at fa
  have hn : L[l.length]? = some ⟨1, z4, (buildF a l.length (l ++ [⟨1, z4, 0, to⟩])).2, to⟩ := by
   rw [hb l.length (Nat.le_refl _) (by simp only [setNA_len]; omega)]
   simp only
   rw [setNA_eq, fa.2.2.1 l.length (by omega), get_last]; rfl
  have hba : Built L (l ++ [(⟨1, z4, 0, to⟩ : NSt)]).length (buildF a l.length (l ++ [⟨1, z4, 0, to⟩])).1 := fun i h1 h2 => by
   simp only [List.length_append, List.length_singleton] at h1
   rw [hb i (by omega) (by simp only [setNA_len]; omega)]
   exact setNA_ne _ (by omega)
  have hww := hw
  clear hw
  have key : ∀ n i, Walk x L q n l.length i → ∃ j m, m ≤ n ∧ Many (Mt x a) i j ∧ Walk x L q m to j := by
   intro n
   induction n using Nat.strongRecOn with
   | _ n ih =>
    intro i hw
    have hw0 := hw
    clear hw
    obtain ⟨m, rfl, ⟨t, ⟨u, hu, hc⟩, hw⟩ | ⟨t, ⟨u, hu, hk, hh, rfl⟩, hw⟩⟩ := hw0.step hl
    ·rw [hn] at hu; injection hu with hu; subst hu
     rcases hc with ⟨_, rfl | rfl⟩ | ⟨h, _⟩ | ⟨h, _⟩
     ·obtain ⟨k, m', hm', h1, hw⟩ := match_of_walk q a l.length _ (by simp) hba m i hw
      obtain ⟨j, m2, hm2, h2, hw⟩ := ih m' (by omega) k hw
      exact ⟨j, m2, by omega, .cons h1 h2, hw⟩
     ·exact ⟨i, m, by omega, .nil i, hw⟩
     ·cases h
     ·cases h
    ·rw [hn] at hu; injection hu with hu; subst hu; cases hk
  exact key n i hww
 | .plus a, to, l, hl, hb, n, i, hw => by
  unfold buildF at hb hw
  have fa := build_facts a l.length (l ++ [⟨1, z4, 0, to⟩])
  simp only [List.length_append, List.length_singleton] at fa
  have hn : L[l.length]? = some ⟨1, z4, (buildF a l.length (l ++ [⟨1, z4, 0, to⟩])).2, to⟩ := by
   rw [hb l.length (Nat.le_refl _) (by simp only [setNA_len]; omega)]
   simp only
   rw [setNA_eq, fa.2.2.1 l.length (by omega), get_last]; rfl
  have hba : Built L (l ++ [(⟨1, z4, 0, to⟩ : NSt)]).length (buildF a l.length (l ++ [⟨1, z4, 0, to⟩])).1 := fun i h1 h2 => by
   simp only [List.length_append, List.length_singleton] at h1
   rw [hb i (by omega) (by simp only [setNA_len]; omega)]
   exact setNA_ne _ (by omega)
  have hww := hw
  clear hw
  have key : ∀ n i, Walk x L q n l.length i → ∃ j m, m ≤ n ∧ Many (Mt x a) i j ∧ Walk x L q m to j := by
   intro n
   induction n using Nat.strongRecOn with
   | _ n ih =>
    intro i hw
    have hw0 := hw
    clear hw
    obtain ⟨m, rfl, ⟨t, ⟨u, hu, hc⟩, hw⟩ | ⟨t, ⟨u, hu, hk, hh, rfl⟩, hw⟩⟩ := hw0.step hl
    ·rw [hn] at hu; injection hu with hu; subst hu
     rcases hc with ⟨_, rfl | rfl⟩ | ⟨h, _⟩ | ⟨h, _⟩
     ·obtain ⟨k, m', hm', h1, hw⟩ := match_of_walk q a l.length _ (by simp) hba m i hw
      obtain ⟨j, m2, hm2, h2, hw⟩ := ih m' (by omega) k hw
      exact ⟨j, m2, by omega, .cons h1 h2, hw⟩
     ·exact ⟨i, m, by omega, .nil i, hw⟩
     ·cases h
     ·cases h
    ·rw [hn] at hu; injection hu with hu; subst hu; cases hk
  obtain ⟨k, m, hm, h1, hw⟩ := match_of_walk q a l.length _ (by simp) hba n i hww
  obtain ⟨j, m', hm', h2, hw⟩ := key m k hw
  exact ⟨j, m', by omega, ⟨k, h1, h2⟩, hw⟩
end
theorem mach_match (x : List UInt8) (r : Rx) (i j : Nat) : (∃ n, Walk x (machF r).1 j n (machF r).2 i) ↔ Mt x r i j := by
 have hb : Built (machF r).1 [(⟨4, z4, 0, 0⟩ : NSt)].length (buildF r 0 [⟨4, z4, 0, 0⟩]).1 := fun _ _ _ => rfl
 have h0 : (machF r).1[0]? = some ⟨4, z4, 0, 0⟩ := (build_facts r 0 [⟨4, z4, 0, 0⟩]).2.2.1 0 (by simp)
 constructor
 ·rintro ⟨n, hw⟩
  obtain ⟨k, m, _, h1, h2⟩ := match_of_walk j r 0 _ (by simp) hb n i hw
  cases h2 with
  | nil => exact h1
  | eps h _ =>
   obtain ⟨u, hu, hc⟩ := h
   rw [h0] at hu; injection hu with hu; subst hu
   rcases hc with ⟨h, _⟩ | ⟨h, _⟩ | ⟨h, _⟩ <;> cases h
  | eat h _ =>
   obtain ⟨u, hu, hk, _⟩ := h
   rw [h0] at hu; injection hu with hu; subst hu; cases hk
 ·intro h
  exact walk_of_match j r 0 _ hb i j h 0 .nil
end Go.Proofs.YtmkddhkpeiajhaaGreatDoor
namespace Go.Proofs.YtmkddhkpeiajhaaGreatDoor
def reachF (L : List NSt) (len p fr : Nat) : Nat → List Nat → List Nat → List (Nat × Nat) → List Nat × List (Nat × Nat)
 | 0, _, seen, next => (seen, next)
 | _ + 1, [], seen, next => (seen, next)
 | f + 1, s :: st, seen, next =>
  if seen[s]? = some (p + 1) then reachF L len p fr f st seen next
  else match L[s]? with
   | none => (seen, next)
   | some n =>
    if n.kind = 1 then reachF L len p fr f (n.a :: n.b :: st) (seen.set s (p + 1)) next
    else if n.kind = 2 then reachF L len p fr f (if p = 0 then n.a :: st else st) (seen.set s (p + 1)) next
    else if n.kind = 3 then reachF L len p fr f (if p = len then n.a :: st else st) (seen.set s (p + 1)) next
    else reachF L len p fr f st (seen.set s (p + 1)) (next ++ [(s, fr)])
def fuelF (L : List NSt) : Nat := 3 * L.length + 2
def aliveF (hit : Option (Nat × Nat)) (f : Nat) : Bool :=
 match hit with
 | none => true
 | some h => decide (f ≤ h.1)
def kindAt (L : List NSt) (s : Nat) : Nat :=
 match L[s]? with
 | some n => n.kind
 | none => 9
def hitF (L : List NSt) (p : Nat) : List (Nat × Nat) → Option (Nat × Nat) → Option (Nat × Nat)
 | [], h => h
 | u :: l, h => hitF L p l (if (kindAt L u.1 == 4 && aliveF h u.2) = true then some (u.2, p) else h)
def eats (L : List NSt) (x : List UInt8) (p : Nat) (hit : Option (Nat × Nat)) (u : Nat × Nat) : Bool :=
 match L[u.1]? with
 | some n => n.kind == 0 && (hasAt x n.set p && aliveF hit u.2)
 | none => false
def toOf (L : List NSt) (s : Nat) : Nat :=
 match L[s]? with
 | some n => n.a
 | none => 0
def eatF (L : List NSt) (x : List UInt8) (p : Nat) (hit : Option (Nat × Nat)) : List (Nat × Nat) → List Nat → List (Nat × Nat) → List Nat × List (Nat × Nat)
 | [], seen, next => (seen, next)
 | u :: l, seen, next =>
  if eats L x p hit u = true then eatF L x p hit l (reachF L x.length (p + 1) u.2 (fuelF L) [toOf L u.1] seen next).1 (reachF L x.length (p + 1) u.2 (fuelF L) [toOf L u.1] seen next).2
  else eatF L x p hit l seen next
def beginF (L : List NSt) (B : Nat) (x : List UInt8) (most p : Nat) (hit : Option (Nat × Nat)) (seen : List Nat) (next : List (Nat × Nat)) : List Nat × List (Nat × Nat) :=
 if hit = none ∧ p ≤ most then reachF L x.length p p (fuelF L) [B] seen next else (seen, next)
def placeF (L : List NSt) (B : Nat) (x : List UInt8) (most : Nat) : Nat → Nat → List (Nat × Nat) → List Nat → Option (Nat × Nat) → Option (Nat × Nat)
 | 0, _, _, _, hit => hit
 | f + 1, p, next, seen, hit =>
  if p = x.length ∨ ((beginF L B x most p hit seen next).2 = [] ∧ ((hitF L p (beginF L B x most p hit seen next).2 hit).isSome = true ∨ most ≤ p)) then hitF L p (beginF L B x most p hit seen next).2 hit
  else placeF L B x most f (p + 1) (eatF L x p (hitF L p (beginF L B x most p hit seen next).2 hit) (beginF L B x most p hit seen next).2 (beginF L B x most p hit seen next).1 []).2
   (eatF L x p (hitF L p (beginF L B x most p hit seen next).2 hit) (beginF L B x most p hit seen next).2 (beginF L B x most p hit seen next).1 []).1 (hitF L p (beginF L B x most p hit seen next).2 hit)
def findF (M : List NSt × Nat) (x : List UInt8) (fr most : Nat) : Option (Nat × Nat) := placeF M.1 M.2 x most (x.length + 1 - fr) fr [] (List.replicate M.1.length 0) none
def WfM (L : List NSt) : Prop := ∀ (s : Nat) (n : NSt), L[s]? = some n → n.a < L.length ∧ n.b < L.length ∧ n.kind ≤ 4
theorem WfM.snoc {L : List NSt} {n : NSt} (h : WfM L) (ha : n.a ≤ L.length) (hb : n.b ≤ L.length) (hk : n.kind ≤ 4) : WfM (L ++ [n]) := by
 intro s m hm
 rw [List.length_append, List.length_singleton]
 by_cases hs : s < L.length
 ·rw [List.getElem?_append_left hs] at hm
  have := h s m hm
  omega
 ·rw [List.getElem?_append_right (by omega)] at hm
  have : s - L.length = 0 := by
   have := (List.getElem?_eq_some_iff.1 hm).1
   simp at this; omega
  rw [this] at hm
  injection hm with hm
  subst hm
  omega
theorem WfM.setNA {L : List NSt} (h : WfM L) (i : Nat) {a : Nat} (ha : a < L.length) : WfM (setNA L i a) := by
 intro s m hm
 rw [setNA_len]
 by_cases hs : i = s
 ·subst hs
  rw [setNA_eq] at hm
  cases hl : L[i]? with
  | none => rw [hl] at hm; cases hm
  | some n => rw [hl] at hm; injection hm with hm; subst hm; have := h i n hl; exact ⟨ha, this.2⟩
 ·rw [setNA_ne _ hs] at hm
  exact h s m hm
theorem build_wf : ∀ (r : Rx) (to : Nat) (l : List NSt), WfM l → to < l.length → WfM (buildF r to l).1 ∧ (buildF r to l).2 < (buildF r to l).1.length
 | .eps, to, l, h, ht => ⟨h, ht⟩
 | .set s, to, l, h, ht => by unfold buildF; exact ⟨h.snoc (by show to ≤ _; omega) (Nat.zero_le _) (by show 0 ≤ 4; omega), by simp⟩
 | .first, to, l, h, ht => by unfold buildF; exact ⟨h.snoc (by show to ≤ _; omega) (Nat.zero_le _) (by show 2 ≤ 4; omega), by simp⟩
 | .last, to, l, h, ht => by unfold buildF; exact ⟨h.snoc (by show to ≤ _; omega) (Nat.zero_le _) (by show 3 ≤ 4; omega), by simp⟩
 | .cat a b, to, l, h, ht => by
  unfold buildF
  have hb := build_wf b to l h ht
  exact build_wf a _ _ hb.1 hb.2
 | .alt a b, to, l, h, ht => by
  unfold buildF
  have ha := build_wf a to l h ht
  have fa := build_facts a to l
  have hb := build_wf b to (buildF a to l).1 ha.1 (by omega)
  have fb := build_facts b to (buildF a to l).1
  exact ⟨hb.1.snoc (by show (buildF a to l).2 ≤ _; omega) (Nat.le_of_lt hb.2) (by show 1 ≤ 4; omega), by simp⟩
 | .opt a, to, l, h, ht => by
  unfold buildF
  have ha := build_wf a to l h ht
  have fa := build_facts a to l
  exact ⟨ha.1.snoc (Nat.le_of_lt ha.2) (by show to ≤ _; omega) (by show 1 ≤ 4; omega), by simp⟩
 | .star a, to, l, h, ht => by
  unfold buildF
  have h1 : WfM (l ++ [⟨1, z4, 0, to⟩]) := h.snoc (Nat.zero_le _) (Nat.le_of_lt ht) (by show 1 ≤ 4; omega)
  have ha := build_wf a l.length _ h1 (by simp)
  have fa := build_facts a l.length (l ++ [⟨1, z4, 0, to⟩])
  simp only [List.length_append, List.length_singleton] at fa
  exact ⟨ha.1.setNA _ ha.2, by simp only [setNA_len]; omega⟩
 | .plus a, to, l, h, ht => by
  unfold buildF
  have h1 : WfM (l ++ [⟨1, z4, 0, to⟩]) := h.snoc (Nat.zero_le _) (Nat.le_of_lt ht) (by show 1 ≤ 4; omega)
  have ha := build_wf a l.length _ h1 (by simp)
  exact ⟨ha.1.setNA _ ha.2, by simp only [setNA_len]; exact ha.2⟩
theorem mach_wf (r : Rx) : WfM (machF r).1 ∧ (machF r).2 < (machF r).1.length :=
 build_wf r 0 [⟨4, z4, 0, 0⟩] (fun s n h => by
  have hs : s = 0 := by have := (List.getElem?_eq_some_iff.1 h).1; simp at this; omega
  subst hs; injection h with h; subst h; exact ⟨by simp, by simp, by show 4 ≤ 4; omega⟩) (by simp)
theorem mach_zero (r : Rx) : (machF r).1[0]? = some ⟨4, z4, 0, 0⟩ := (build_facts r 0 [⟨4, z4, 0, 0⟩]).2.2.1 0 (by simp)
theorem build_only : ∀ (r : Rx) (to : Nat) (l : List NSt) (s : Nat) (n : NSt), l.length ≤ s → (buildF r to l).1[s]? = some n → n.kind ≠ 4
 | .eps, to, l, s, n, h, hn => by have hn : l[s]? = some n := hn; have := (List.getElem?_eq_some_iff.1 hn).1; omega
 | .set q, to, l, s, n, h, hn => by
  unfold buildF at hn
  rw [List.getElem?_append_right h] at hn
  have : s - l.length = 0 := by have := (List.getElem?_eq_some_iff.1 hn).1; simp at this; omega
  rw [this] at hn; injection hn with hn; subst hn; show 0 ≠ 4; omega
 | .first, to, l, s, n, h, hn => by
  unfold buildF at hn
  rw [List.getElem?_append_right h] at hn
  have : s - l.length = 0 := by have := (List.getElem?_eq_some_iff.1 hn).1; simp at this; omega
  rw [this] at hn; injection hn with hn; subst hn; show 2 ≠ 4; omega
 | .last, to, l, s, n, h, hn => by
  unfold buildF at hn
  rw [List.getElem?_append_right h] at hn
  have : s - l.length = 0 := by have := (List.getElem?_eq_some_iff.1 hn).1; simp at this; omega
  rw [this] at hn; injection hn with hn; subst hn; show 3 ≠ 4; omega
 | .cat a b, to, l, s, n, h, hn => by
  unfold buildF at hn
  have fa := build_facts a (buildF b to l).2 (buildF b to l).1
  by_cases hs : s < (buildF b to l).1.length
  ·rw [fa.2.2.1 s hs] at hn
   exact build_only b to l s n h hn
  ·exact build_only a _ _ s n (by omega) hn
 | .alt a b, to, l, s, n, h, hn => by
  unfold buildF at hn
  have fb := build_facts b to (buildF a to l).1
  simp only at hn
  by_cases hs : s < (buildF b to (buildF a to l).1).1.length
  ·rw [List.getElem?_append_left hs] at hn
   by_cases hs2 : s < (buildF a to l).1.length
   ·rw [fb.2.2.1 s hs2] at hn
    exact build_only a to l s n h hn
   ·exact build_only b to _ s n (by omega) hn
  ·rw [List.getElem?_append_right (by omega)] at hn
   have : s - (buildF b to (buildF a to l).1).1.length = 0 := by have := (List.getElem?_eq_some_iff.1 hn).1; simp at this; omega
   rw [this] at hn; injection hn with hn; subst hn; show 1 ≠ 4; omega
 | .opt a, to, l, s, n, h, hn => by
  unfold buildF at hn
  simp only at hn
  by_cases hs : s < (buildF a to l).1.length
  ·rw [List.getElem?_append_left hs] at hn
   exact build_only a to l s n h hn
  ·rw [List.getElem?_append_right (by omega)] at hn
   have : s - (buildF a to l).1.length = 0 := by have := (List.getElem?_eq_some_iff.1 hn).1; simp at this; omega
   rw [this] at hn; injection hn with hn; subst hn; show 1 ≠ 4; omega
 | .star a, to, l, s, n, h, hn => by
  unfold buildF at hn
  simp only at hn
  exact build_only_star a to l s n h hn
 | .plus a, to, l, s, n, h, hn => by
  unfold buildF at hn
  simp only at hn
  exact build_only_star a to l s n h hn
where
 build_only_star (a : Rx) (to : Nat) (l : List NSt) (s : Nat) (n : NSt) (h : l.length ≤ s) (hn : (setNA (buildF a l.length (l ++ [⟨1, z4, 0, to⟩])).1 l.length (buildF a l.length (l ++ [⟨1, z4, 0, to⟩])).2)[s]? = some n) : n.kind ≠ 4 := by
  have fa := build_facts a l.length (l ++ [⟨1, z4, 0, to⟩])
  simp only [List.length_append, List.length_singleton] at fa
  by_cases hs : l.length = s
  ·subst hs
   rw [setNA_eq, fa.2.2.1 l.length (by omega), get_last] at hn
   injection hn with hn; subst hn; show 1 ≠ 4; omega
  ·rw [setNA_ne _ hs] at hn
   exact build_only a _ _ s n (by simp; omega) hn
theorem mach_only (r : Rx) {s : Nat} (h : kindAt (machF r).1 s = 4) : s = 0 := by
 unfold kindAt at h
 cases hs : (machF r).1[s]? with
 | none => rw [hs] at h; cases h
 | some n =>
  rw [hs] at h
  rcases Nat.eq_zero_or_pos s with h0 | h0
  ·exact h0
  ·exact absurd h (build_only r 0 [⟨4, z4, 0, 0⟩] s n (by simp only [List.length_singleton]; omega) hs)
section
variable (x : List UInt8) (L : List NSt)
inductive ES (p : Nat) : Nat → Nat → Prop where
 | nil (s : Nat) : ES p s s
 | snoc {s t u : Nat} (r : ES p s t) (h : Eps x L p t u) : ES p s u
def Mk (p : Nat) (seen : List Nat) (s : Nat) : Prop := seen[s]? = some (p + 1)
def Leaf (s : Nat) : Prop := kindAt L s = 0 ∨ kindAt L s = 4
def Closed (p : Nat) (seen : List Nat) : Prop := ∀ s t, Mk p seen s → Eps x L p s t → Mk p seen t
def unmk (p : Nat) (seen : List Nat) : Nat := seen.countP fun v => v != p + 1
end
section
variable {x : List UInt8} {L : List NSt}
theorem unmk_set {p s v : Nat} : ∀ {seen : List Nat}, seen[s]? = some v → v ≠ p + 1 → unmk p (seen.set s (p + 1)) + 1 = unmk p seen := by
 intro seen
 unfold unmk
 induction seen generalizing s with
 | nil => intro h; cases h
 | cons a l ih =>
  intro h hv
  cases s with
  | zero =>
   injection h with h
   subst h
   rw [List.set_cons_zero, List.countP_cons, List.countP_cons]
   simp [hv]
  | succ s =>
   have := ih (s := s) h hv
   rw [List.set_cons_succ, List.countP_cons, List.countP_cons]
   omega
theorem Eps.lt (hW : WfM L) {p s t : Nat} (h : Eps x L p s t) : t < L.length := by
 obtain ⟨n, hn, h⟩ := h
 have := hW s n hn
 rcases h with ⟨_, h | h⟩ | ⟨_, _, h⟩ | ⟨_, _, h⟩ <;> omega
structure Rc (x : List UInt8) (L : List NSt) (p fr : Nat) (seen0 : List Nat) (next0 : List (Nat × Nat)) (s0 : Nat) (st seen : List Nat) (next : List (Nat × Nat)) : Prop where
 len : seen.length = L.length
 old : ∀ s, Mk p seen0 s → Mk p seen s
 step : ∀ s t, Mk p seen s → Eps x L p s t → Mk p seen t ∨ t ∈ st
 sound : ∀ s, Mk p seen s → Mk p seen0 s ∨ ES x L p s0 s
 stack : ∀ s ∈ st, ES x L p s0 s ∧ s < L.length
 list : ∃ l, next = next0 ++ l ∧ ∀ u, u ∈ l ↔ (u.2 = fr ∧ Mk p seen u.1 ∧ ¬ Mk p seen0 u.1 ∧ Leaf L u.1)
 bound : ∀ (s v : Nat), seen[s]? = some v → seen0[s]? = some v ∨ v = p + 1
 first : Mk p seen s0 ∨ s0 ∈ st
theorem mk_set {p : Nat} {seen : List Nat} {s t : Nat} (hs : s < seen.length) : Mk p (seen.set s (p + 1)) t ↔ t = s ∨ Mk p seen t := by
 unfold Mk
 by_cases h : s = t
 ·subst h
  rw [List.getElem?_set_self hs]
  exact ⟨fun _ => .inl rfl, fun _ => rfl⟩
 ·rw [List.getElem?_set_ne h]
  exact ⟨.inr, fun h' => h'.elim (fun e => absurd e.symm h) id⟩
theorem Rc.mark {p fr : Nat} {seen0 seen st st' : List Nat} {next0 next : List (Nat × Nat)} {s0 s : Nat} (h : Rc x L p fr seen0 next0 s0 (s :: st) seen next) (hn : ¬ Mk p seen s)
  (hst : ∀ t ∈ st', t ∈ st ∨ (Eps x L p s t)) (hsub : ∀ t ∈ st, t ∈ st') (hW : WfM L)
  (hall : ∀ t, Eps x L p s t → t ∈ st') (next' : List (Nat × Nat)) (hx : (Leaf L s ∧ next' = next ++ [(s, fr)]) ∨ (¬ Leaf L s ∧ next' = next)) : Rc x L p fr seen0 next0 s0 st' (seen.set s (p + 1)) next' := by
 have hs := h.stack s (List.mem_cons_self ..)
 have hl : s < seen.length := by rw [h.len]; exact hs.2
 refine ⟨by rw [List.length_set, h.len], fun t ht => (mk_set hl).2 (.inr (h.old t ht)), fun a t ha he => ?_, fun t ht => ?_, fun t ht => ?_, ?_, fun a v ha => ?_, ?_⟩
 ·rcases (mk_set hl).1 ha with rfl | ha
  ·exact .inr (hall t he)
  ·rcases h.step a t ha he with h' | h'
   ·exact .inl ((mk_set hl).2 (.inr h'))
   ·rcases List.mem_cons.1 h' with rfl | h'
    ·exact .inl ((mk_set hl).2 (.inl rfl))
    ·exact .inr (hsub t h')
 ·rcases (mk_set hl).1 ht with rfl | ht
  ·exact .inr hs.1
  ·exact h.sound t ht
 ·rcases hst t ht with h' | h'
  ·exact h.stack t (List.mem_cons_of_mem _ h')
  ·exact ⟨.snoc hs.1 h', h'.lt hW⟩
 ·obtain ⟨l, rfl, hm⟩ := h.list
  have hn0 : ¬ Mk p seen0 s := fun h' => hn (h.old s h')
  rcases hx with ⟨hlf, rfl⟩ | ⟨hlf, rfl⟩
  ·refine ⟨l ++ [(s, fr)], by rw [List.append_assoc], fun u => ?_⟩
   rw [List.mem_append, hm u, mk_set hl, List.mem_singleton]
   constructor
   ·rintro (⟨h1, h2, h3, h4⟩ | rfl)
    ·exact ⟨h1, .inr h2, h3, h4⟩
    ·exact ⟨rfl, .inl rfl, hn0, hlf⟩
   ·rintro ⟨h1, h2 | h2, h3, h4⟩
    ·exact .inr (by obtain ⟨u1, u2⟩ := u; simp only at h1 h2; rw [h1, h2])
    ·exact .inl ⟨h1, h2, h3, h4⟩
  ·refine ⟨l, rfl, fun u => ?_⟩
   rw [hm u, mk_set hl]
   constructor
   ·rintro ⟨h1, h2, h3, h4⟩
    exact ⟨h1, .inr h2, h3, h4⟩
   ·rintro ⟨h1, h2 | h2, h3, h4⟩
    ·rw [h2] at h4; exact absurd h4 hlf
    ·exact ⟨h1, h2, h3, h4⟩
 ·by_cases hsa : s = a
  ·subst hsa
   rw [List.getElem?_set_self hl] at ha
   injection ha with ha
   exact .inr ha.symm
  ·rw [List.getElem?_set_ne hsa] at ha
   exact h.bound a v ha
 ·rcases h.first with h' | h'
  ·exact .inl ((mk_set hl).2 (.inr h'))
  ·rcases List.mem_cons.1 h' with h' | h'
   ·exact .inl ((mk_set hl).2 (.inl h'))
   ·exact .inr (hsub _ h')
theorem reach_rc (hW : WfM L) (p fr : Nat) (seen0 : List Nat) (next0 : List (Nat × Nat)) (s0 : Nat) : ∀ (f : Nat) (st seen : List Nat) (next : List (Nat × Nat)), Rc x L p fr seen0 next0 s0 st seen next → 3 * unmk p seen + st.length < f →
  Rc x L p fr seen0 next0 s0 [] (reachF L x.length p fr f st seen next).1 (reachF L x.length p fr f st seen next).2
 | 0, _, _, _, _, hf => by omega
 | f + 1, [], seen, next, h, hf => h
 | f + 1, s :: st, seen, next, h, hf => by
  have hs := h.stack s (List.mem_cons_self ..)
  have hl : s < seen.length := by rw [h.len]; exact hs.2
  rw [List.length_cons] at hf
  unfold reachF
  by_cases hk : seen[s]? = some (p + 1)
  ·rw [if_pos hk]
   refine reach_rc hW p fr seen0 next0 s0 f st seen next ⟨h.len, h.old, fun a t ha he => ?_, h.sound, fun t ht => h.stack t (List.mem_cons_of_mem _ ht), h.list, h.bound, ?_⟩ (by omega)
   ·rcases h.step a t ha he with h' | h'
    ·exact .inl h'
    ·rcases List.mem_cons.1 h' with rfl | h'
     ·exact .inl hk
     ·exact .inr h'
   ·rcases h.first with h' | h'
    ·exact .inl h'
    ·rcases List.mem_cons.1 h' with h' | h'
     ·exact .inl (by rw [h']; exact hk)
     ·exact .inr h'
  ·rw [if_neg hk]
   obtain ⟨n, hn⟩ : ∃ n, L[s]? = some n := ⟨_, List.getElem?_eq_getElem hs.2⟩
   have hu : unmk p (seen.set s (p + 1)) + 1 = unmk p seen := by
    obtain ⟨v, hv⟩ : ∃ v, seen[s]? = some v := ⟨_, List.getElem?_eq_getElem hl⟩
    exact unmk_set hv (fun e => hk (by rw [hv, e]))
   have hkd : kindAt L s = n.kind := by unfold kindAt; rw [hn]
   have hw := hW s n hn
   rw [hn]
   simp only
   by_cases h1 : n.kind = 1
   ·rw [if_pos h1]
    refine reach_rc hW p fr seen0 next0 s0 f _ _ _ (h.mark hk (fun t ht => ?_) (fun t ht => List.mem_cons_of_mem _ (List.mem_cons_of_mem _ ht)) hW (fun t he => ?_) _ (.inr ⟨fun hl => by unfold Leaf at hl; omega, rfl⟩)) (by simp only [List.length_cons]; omega)
    ·rcases List.mem_cons.1 ht with rfl | ht
     ·exact .inr ⟨n, hn, .inl ⟨h1, .inl rfl⟩⟩
     ·rcases List.mem_cons.1 ht with rfl | ht
      ·exact .inr ⟨n, hn, .inl ⟨h1, .inr rfl⟩⟩
      ·exact .inl ht
    ·obtain ⟨m, hm, he⟩ := he
     rw [hn] at hm; injection hm with hm; subst hm
     rcases he with ⟨_, rfl | rfl⟩ | ⟨h2, _⟩ | ⟨h2, _⟩
     ·exact List.mem_cons_self ..
     ·exact List.mem_cons_of_mem _ (List.mem_cons_self ..)
     ·omega
     ·omega
   ·rw [if_neg h1]
    by_cases h2 : n.kind = 2
    ·rw [if_pos h2]
     refine reach_rc hW p fr seen0 next0 s0 f _ _ _ (h.mark hk (fun t ht => ?_) (fun t ht => ?_) hW (fun t he => ?_) _ (.inr ⟨fun hl => by unfold Leaf at hl; omega, rfl⟩)) (by split <;> (try simp only [List.length_cons]) <;> omega)
     ·split at ht
      ·rcases List.mem_cons.1 ht with rfl | ht
       ·exact .inr ⟨n, hn, .inr (.inl ⟨h2, by assumption, rfl⟩)⟩
       ·exact .inl ht
      ·exact .inl ht
     ·split
      ·exact List.mem_cons_of_mem _ ht
      ·exact ht
     ·obtain ⟨m, hm, he⟩ := he
      rw [hn] at hm; injection hm with hm; subst hm
      rcases he with ⟨h3, _⟩ | ⟨_, h3, rfl⟩ | ⟨h3, _⟩
      ·omega
      ·rw [if_pos h3]; exact List.mem_cons_self ..
      ·omega
    ·rw [if_neg h2]
     by_cases h3 : n.kind = 3
     ·rw [if_pos h3]
      refine reach_rc hW p fr seen0 next0 s0 f _ _ _ (h.mark hk (fun t ht => ?_) (fun t ht => ?_) hW (fun t he => ?_) _ (.inr ⟨fun hl => by unfold Leaf at hl; omega, rfl⟩)) (by split <;> (try simp only [List.length_cons]) <;> omega)
      ·split at ht
       ·rcases List.mem_cons.1 ht with rfl | ht
        ·exact .inr ⟨n, hn, .inr (.inr ⟨h3, by assumption, rfl⟩)⟩
        ·exact .inl ht
       ·exact .inl ht
      ·split
       ·exact List.mem_cons_of_mem _ ht
       ·exact ht
      ·obtain ⟨m, hm, he⟩ := he
       rw [hn] at hm; injection hm with hm; subst hm
       rcases he with ⟨h4, _⟩ | ⟨h4, _⟩ | ⟨_, h4, rfl⟩
       ·omega
       ·omega
       ·rw [if_pos h4]; exact List.mem_cons_self ..
     ·rw [if_neg h3]
      refine reach_rc hW p fr seen0 next0 s0 f _ _ _ (h.mark hk (fun t ht => .inl ht) (fun t ht => ht) hW (fun t he => ?_) _ (.inl ⟨by unfold Leaf; omega, rfl⟩)) (by omega)
      obtain ⟨m, hm, he⟩ := he
      rw [hn] at hm; injection hm with hm; subst hm
      rcases he with ⟨h4, _⟩ | ⟨h4, _⟩ | ⟨h4, _⟩ <;> omega
theorem ES.closed {p : Nat} {seen : List Nat} (hc : Closed x L p seen) {s t : Nat} (h : ES x L p s t) (hs : Mk p seen s) : Mk p seen t := by
 induction h with
 | nil => exact hs
 | snoc _ h ih => exact hc _ _ ih h
theorem reach_law (hW : WfM L) {p fr : Nat} {seen0 : List Nat} {next0 : List (Nat × Nat)} {s0 : Nat} (hlen : seen0.length = L.length) (hc : Closed x L p seen0) (hs0 : s0 < L.length) :
  let R := reachF L x.length p fr (fuelF L) [s0] seen0 next0
  R.1.length = L.length ∧ Closed x L p R.1 ∧ (∀ s, Mk p R.1 s ↔ Mk p seen0 s ∨ ES x L p s0 s) ∧ (∃ l, R.2 = next0 ++ l ∧ ∀ u, u ∈ l ↔ (u.2 = fr ∧ Mk p R.1 u.1 ∧ ¬ Mk p seen0 u.1 ∧ Leaf L u.1)) ∧ (∀ (s v : Nat), R.1[s]? = some v → seen0[s]? = some v ∨ v = p + 1) := by
 intro R
 have hu : unmk p seen0 ≤ L.length := by rw [← hlen]; exact List.countP_le_length
 have h := reach_rc (x := x) hW p fr seen0 next0 s0 (fuelF L) [s0] seen0 next0 ⟨hlen, fun _ h => h, fun s t h he => .inl (hc s t h he), fun s h => .inl h, fun s hs => by
   rw [List.mem_singleton] at hs; subst hs; exact ⟨.nil _, hs0⟩, ⟨[], by simp, fun u => ⟨fun h => (by cases h), fun h => absurd h.2.1 h.2.2.1⟩⟩, fun s v h => .inl h, .inr (List.mem_singleton.2 rfl)⟩
  (by unfold fuelF; simp only [List.length_singleton]; omega)
 have hcl : Closed x L p R.1 := fun s t hs he => (h.step s t hs he).elim id (fun h => by cases h)
 exact ⟨h.len, hcl, fun s => ⟨h.sound s, fun h' => h'.elim (h.old s) (fun he => he.closed hcl (h.first.elim id (fun h => by cases h)))⟩, h.list, h.bound⟩
end
end Go.Proofs.YtmkddhkpeiajhaaGreatDoor
namespace Go.Proofs.YtmkddhkpeiajhaaGreatDoor
section
variable (x : List UInt8) (L : List NSt) (B : Nat)
inductive Rch (i : Nat) : Nat → Nat → Prop where
 | start : Rch i B i
 | eps {s t p : Nat} (r : Rch i s p) (h : Eps x L p s t) : Rch i t p
 | eat {s t p : Nat} (r : Rch i s p) (h : Eat x L p s t) : Rch i t (p + 1)
end
section
variable {x : List UInt8} {L : List NSt} {B : Nat}
theorem Rch.es {i p s t : Nat} (h : Rch x L B i s p) (he : ES x L p s t) : Rch x L B i t p := by
 induction he with
 | nil => exact h
 | snoc _ h ih => exact .eps ih h
theorem Rch.le {i p s : Nat} (h : Rch x L B i s p) : i ≤ p := by
 induction h with
 | start => exact Nat.le_refl _
 | eps _ _ ih => exact ih
 | eat _ _ ih => omega
theorem Rch.walk {i p s : Nat} (h : Rch x L B i s p) {q : Nat} : ∀ n, Walk x L q n s p → ∃ m, Walk x L q m B i := by
 induction h with
 | start => exact fun n hw => ⟨n, hw⟩
 | eps _ h ih => exact fun n hw => ih (n + 1) (.eps h hw)
 | eat _ h ih => exact fun n hw => ih (n + 1) (.eat h hw)
theorem Walk.rch {q n s p : Nat} (h : Walk x L q n s p) {i : Nat} : Rch x L B i s p → Rch x L B i 0 q := by
 induction h with
 | nil => exact id
 | eps h _ ih => exact fun hr => ih (.eps hr h)
 | eat h _ ih => exact fun hr => ih (.eat hr h)
theorem Rch.split {i p s : Nat} (h : Rch x L B i s p) : (i = p ∧ ES x L p B s) ∨ (∃ p' s' t, p = p' + 1 ∧ Rch x L B i s' p' ∧ Eat x L p' s' t ∧ ES x L p t s) := by
 induction h with
 | start => exact .inl ⟨rfl, .nil _⟩
 | eps _ h ih =>
  rcases ih with ⟨h1, h2⟩ | ⟨p', s', t, h1, h2, h3, h4⟩
  ·exact .inl ⟨h1, .snoc h2 h⟩
  ·exact .inr ⟨p', s', t, h1, h2, h3, .snoc h4 h⟩
 | eat r h _ => exact .inr ⟨_, _, _, rfl, r, h, .nil _⟩
theorem rch_match (r : Rx) (i j : Nat) : Rch x (machF r).1 (machF r).2 i 0 j ↔ Mt x r i j := by
 rw [← mach_match]
 exact ⟨fun h => h.walk 0 .nil, fun ⟨n, h⟩ => h.rch .start⟩
structure Li (x : List UInt8) (L : List NSt) (p : Nat) (seen : List Nat) (next : List (Nat × Nat)) : Prop where
 len : seen.length = L.length
 closed : Closed x L p seen
 bound : ∀ (s v : Nat), seen[s]? = some v → v ≤ p + 1
 sorted : next.Pairwise fun u v => u.2 ≤ v.2
 marked : ∀ u ∈ next, Mk p seen u.1 ∧ Leaf L u.1
 listed : ∀ s, Mk p seen s → Leaf L s → ∃ f, (s, f) ∈ next
def Upto (next : List (Nat × Nat)) (F : Nat) : Prop := ∀ u ∈ next, u.2 ≤ F
theorem reach_li (hW : WfM L) {p F : Nat} {seen : List Nat} {next : List (Nat × Nat)} {s0 : Nat} (h : Li x L p seen next) (hs : s0 < L.length) (hF : Upto next F) :
  let R := reachF L x.length p F (fuelF L) [s0] seen next
  Li x L p R.1 R.2 ∧ Upto R.2 F ∧ (∀ u ∈ next, u ∈ R.2) ∧ (∀ s, Mk p seen s → Mk p R.1 s) ∧ (∀ t, ES x L p s0 t → Mk p R.1 t) ∧ (∀ u ∈ R.2, u ∈ next ∨ (u.2 = F ∧ ES x L p s0 u.1)) ∧ (∀ s, Mk p R.1 s → Mk p seen s ∨ ES x L p s0 s) := by
 intro R
 obtain ⟨h1, h2, h3, ⟨l, h4, hl⟩, h5⟩ := reach_law (x := x) (fr := F) (next0 := next) hW h.len h.closed hs
 have hes : ∀ u ∈ l, ES x L p s0 u.1 := fun u hu => by
  have := (hl u).1 hu
  exact ((h3 u.1).1 this.2.1).elim (fun h' => absurd h' this.2.2.1) id
 refine ⟨⟨h1, h2, fun s v hv => ?_, ?_, ?_, ?_⟩, ?_, ?_, fun s hs => (h3 s).2 (.inl hs), fun t ht => (h3 t).2 (.inr ht), ?_, fun s hs => (h3 s).1 hs⟩
 ·rcases h5 s v hv with h' | h'
  ·exact h.bound s v h'
  ·omega
 ·show List.Pairwise _ R.2
  rw [show R.2 = next ++ l from h4, List.pairwise_append]
  refine ⟨h.sorted, ?_, fun u hu v hv => ?_⟩
  ·have : ∀ u ∈ l, u.2 = F := fun u hu => ((hl u).1 hu).1
   clear hl h4 h3 h5 hes
   clear R h1 h2
   induction l with
   | nil => exact .nil
   | cons a l ih =>
    refine List.pairwise_cons.2 ⟨fun b hb => ?_, ih fun u hu => this u (List.mem_cons_of_mem _ hu)⟩
    rw [this a (List.mem_cons_self ..), this b (List.mem_cons_of_mem _ hb)]
    exact Nat.le_refl _
  ·have := hF u hu
   have := ((hl v).1 hv).1
   omega
 ·intro u hu
  rw [show R.2 = next ++ l from h4, List.mem_append] at hu
  rcases hu with hu | hu
  ·have := h.marked u hu
   exact ⟨(h3 u.1).2 (.inl this.1), this.2⟩
  ·have := (hl u).1 hu
   exact ⟨this.2.1, this.2.2.2⟩
 ·intro s hs hf
  rw [show R.2 = next ++ l from h4]
  by_cases h0 : Mk p seen s
  ·obtain ⟨f, hf⟩ := h.listed s h0 hf
   exact ⟨f, List.mem_append_left _ hf⟩
  ·exact ⟨F, List.mem_append_right _ ((hl (s, F)).2 ⟨rfl, hs, h0, hf⟩)⟩
 ·intro u hu
  rw [show R.2 = next ++ l from h4, List.mem_append] at hu
  rcases hu with hu | hu
  ·exact hF u hu
  ·have := ((hl u).1 hu).1
   omega
 ·intro u hu
  rw [show R.2 = next ++ l from h4]
  exact List.mem_append_left _ hu
 ·intro u hu
  rw [show R.2 = next ++ l from h4, List.mem_append] at hu
  rcases hu with hu | hu
  ·exact .inl hu
  ·exact .inr ⟨((hl u).1 hu).1, hes u hu⟩
theorem Li.none {p : Nat} {seen : List Nat} (hlen : seen.length = L.length) (hb : ∀ (s v : Nat), seen[s]? = some v → v ≤ p) : Li x L p seen [] :=
 have hno : ∀ s, ¬ Mk p seen s := fun s h => by have := hb s _ h; omega
 ⟨hlen, fun s t h => absurd h (hno s), fun s v h => by have := hb s v h; omega, .nil, fun u h => (by cases h), fun s h => absurd h (hno s)⟩
theorem eats_iff {p : Nat} {hit : Option (Nat × Nat)} {u : Nat × Nat} : eats L x p hit u = true ↔ Eat x L p u.1 (toOf L u.1) ∧ aliveF hit u.2 = true := by
 unfold eats Eat toOf
 cases h : L[u.1]? with
 | none =>
  constructor
  ·intro h; cases h
  ·rintro ⟨⟨n, h, _⟩, _⟩; cases h
 | some n =>
  simp only [Bool.and_eq_true, beq_iff_eq]
  constructor
  ·rintro ⟨h1, h2, h3⟩
   exact ⟨⟨n, rfl, h1, h2, rfl⟩, h3⟩
  ·rintro ⟨⟨m, hm, h1, h2, _⟩, h3⟩
   injection hm with hm
   subst hm
   exact ⟨h1, h2, h3⟩
theorem Eat.to {p s t : Nat} (h : Eat x L p s t) : t = toOf L s := by
 obtain ⟨n, hn, _, _, rfl⟩ := h
 unfold toOf
 rw [hn]
theorem Eat.leaf {p s t : Nat} (h : Eat x L p s t) : Leaf L s := by
 obtain ⟨n, hn, h0, _, rfl⟩ := h
 unfold Leaf kindAt
 rw [hn]
 exact .inl h0
theorem Eat.lt (hW : WfM L) {p s t : Nat} (h : Eat x L p s t) : t < L.length := by
 obtain ⟨n, hn, _, _, rfl⟩ := h
 exact (hW s n hn).1
theorem eat_li (hW : WfM L) {p : Nat} {hit : Option (Nat × Nat)} : ∀ (l : List (Nat × Nat)) (seen : List Nat) (next : List (Nat × Nat)), Li x L (p + 1) seen next → l.Pairwise (fun u v => u.2 ≤ v.2) → (∀ u ∈ l, Upto next u.2) →
  let R := eatF L x p hit l seen next
  Li x L (p + 1) R.1 R.2 ∧ (∀ u ∈ next, u ∈ R.2) ∧ (∀ s, Mk (p + 1) seen s → Mk (p + 1) R.1 s) ∧
   (∀ u ∈ R.2, u ∈ next ∨ ∃ v t, v ∈ l ∧ v.2 = u.2 ∧ aliveF hit v.2 = true ∧ Eat x L p v.1 t ∧ ES x L (p + 1) t u.1) ∧
   (∀ v ∈ l, aliveF hit v.2 = true → ∀ t, Eat x L p v.1 t → ∀ s, ES x L (p + 1) t s → Mk (p + 1) R.1 s ∧ (Leaf L s → ∃ f, f ≤ v.2 ∧ (s, f) ∈ R.2))
 | [], seen, next, h, _, _ => ⟨h, fun u hu => hu, fun s hs => hs, fun u hu => .inl hu, fun v hv => (by cases hv)⟩
 | v :: l, seen, next, h, hp, hF => by
  intro R
  obtain ⟨hp1, hp2⟩ := List.pairwise_cons.1 hp
  by_cases he : eats L x p hit v = true
  ·have hR : R = eatF L x p hit l (reachF L x.length (p + 1) v.2 (fuelF L) [toOf L v.1] seen next).1 (reachF L x.length (p + 1) v.2 (fuelF L) [toOf L v.1] seen next).2 := by
    show eatF L x p hit (v :: l) seen next = _
    rw [eatF, if_pos he]
   obtain ⟨he1, he2⟩ := eats_iff.1 he
   obtain ⟨g1, g2, g3, g4, g5, g6, g7⟩ := reach_li hW h (he1.lt hW) (hF v (List.mem_cons_self ..))
   obtain ⟨k1, k2, k3, k4, k5⟩ := eat_li hW l _ _ g1 hp2 (fun u hu w hw => Nat.le_trans (g2 w hw) (hp1 u hu))
   rw [← hR] at k1 k2 k3 k4 k5
   refine ⟨k1, fun u hu => k2 u (g3 u hu), fun s hs => k3 s (g4 s hs), fun u hu => ?_, fun w hw hal t ht s hs => ?_⟩
   ·rcases k4 u hu with h' | ⟨w, t, hw, h'⟩
    ·rcases g6 u h' with h' | ⟨h1, h2⟩
     ·exact .inl h'
     ·exact .inr ⟨v, _, List.mem_cons_self .., h1.symm, he2, he1, h2⟩
    ·exact .inr ⟨w, t, List.mem_cons_of_mem _ hw, h'⟩
   ·rcases List.mem_cons.1 hw with rfl | hw
    ·rw [ht.to] at hs
     have hm := g5 s hs
     refine ⟨k3 s hm, fun hl => ?_⟩
     obtain ⟨f, hf⟩ := g1.listed s hm hl
     exact ⟨f, g2 _ hf, k2 _ hf⟩
    ·exact k5 w hw hal t ht s hs
  ·have hR : R = eatF L x p hit l seen next := by
    show eatF L x p hit (v :: l) seen next = _
    rw [eatF, if_neg he]
   obtain ⟨k1, k2, k3, k4, k5⟩ := eat_li hW l _ _ h hp2 (fun u hu => hF u (List.mem_cons_of_mem _ hu))
   rw [← hR] at k1 k2 k3 k4 k5
   refine ⟨k1, k2, k3, fun u hu => ?_, fun w hw hal t ht s hs => ?_⟩
   ·rcases k4 u hu with h' | ⟨w, t, hw, h'⟩
    ·exact .inl h'
    ·exact .inr ⟨w, t, List.mem_cons_of_mem _ hw, h'⟩
   ·rcases List.mem_cons.1 hw with rfl | hw
    ·exact absurd (eats_iff.2 ⟨by rw [← ht.to]; exact ht, hal⟩) he
    ·exact k5 w hw hal t ht s hs
theorem hit_law {p : Nat} (h4 : ∀ s, kindAt L s = 4 ↔ s = 0) : ∀ (l : List (Nat × Nat)) (hit : Option (Nat × Nat)), l.Pairwise (fun u v => u.2 ≤ v.2) →
  (hitF L p l hit = hit ∧ ∀ f, (0, f) ∈ l → aliveF hit f = false) ∨ (∃ f, hitF L p l hit = some (f, p) ∧ (0, f) ∈ l ∧ aliveF hit f = true ∧ ∀ f', (0, f') ∈ l → f ≤ f')
 | [], hit, _ => .inl ⟨rfl, fun f h => (by cases h)⟩
 | u :: l, hit, hp => by
  obtain ⟨hp1, hp2⟩ := List.pairwise_cons.1 hp
  by_cases hc : (kindAt L u.1 == 4 && aliveF hit u.2) = true
  ·rw [hitF, if_pos hc]
   simp only [Bool.and_eq_true, beq_iff_eq] at hc
   have hu0 := (h4 _).1 hc.1
   have hmem : ((0 : Nat), u.2) ∈ u :: l := by rw [← hu0]; exact List.mem_cons_self ..
   have hmin : ∀ f', (0, f') ∈ u :: l → u.2 ≤ f' := fun f' hf' => by
    rcases List.mem_cons.1 hf' with h | h
    ·rw [← h]; exact Nat.le_refl _
    ·exact hp1 _ h
   rcases hit_law h4 l (some (u.2, p)) hp2 with ⟨h1, _⟩ | ⟨f, h1, h2, h3, h5⟩
   ·exact .inr ⟨u.2, h1, hmem, hc.2, hmin⟩
   ·have h3 : decide (f ≤ u.2) = true := h3
    have h3 := of_decide_eq_true h3
    have h6 := hmin f (List.mem_cons_of_mem _ h2)
    have : f = u.2 := by omega
    subst this
    exact .inr ⟨_, h1, hmem, hc.2, hmin⟩
  ·rw [hitF, if_neg hc]
   simp only [Bool.and_eq_true, beq_iff_eq, not_and, Bool.not_eq_true] at hc
   rcases hit_law h4 l hit hp2 with ⟨h1, h2⟩ | ⟨f, h1, h2, h3, h5⟩
   ·refine .inl ⟨h1, fun f hf => ?_⟩
    rcases List.mem_cons.1 hf with h | h
    ·rw [← h] at hc; exact hc ((h4 0).2 rfl)
    ·exact h2 f h
   ·refine .inr ⟨f, h1, List.mem_cons_of_mem _ h2, h3, fun f' hf' => ?_⟩
    rcases List.mem_cons.1 hf' with h | h
    ·rw [← h] at hc hp1
     have h' := hc ((h4 0).2 rfl)
     have := hp1 _ h2
     cases hit with
     | none => cases h'
     | some g =>
      have h3 : decide (f ≤ g.1) = true := h3
      have h' : decide (f' ≤ g.1) = false := h'
      have := of_decide_eq_true h3
      have := of_decide_eq_false h'
      omega
    ·exact h5 f' h
end
section
variable (x : List UInt8) (L : List NSt) (B lo most : Nat)
def HitOk (p : Nat) : Option (Nat × Nat) → Prop
 | none => ∀ i j, lo ≤ i → i ≤ most → j < p → ¬ Rch x L B i 0 j
 | some h => lo ≤ h.1 ∧ h.1 ≤ most ∧ h.2 < p ∧ Rch x L B h.1 0 h.2 ∧ (∀ i j, lo ≤ i → i ≤ most → j < p → Rch x L B i 0 j → h.1 ≤ i) ∧ (∀ j, j < p → Rch x L B h.1 0 j → j ≤ h.2)
structure AtPlace (p : Nat) (next : List (Nat × Nat)) (seen : List Nat) (hit : Option (Nat × Nat)) : Prop where
 li : Li x L p seen next
 sound : ∀ u ∈ next, Rch x L B u.2 u.1 p ∧ lo ≤ u.2 ∧ u.2 ≤ most ∧ u.2 < p
 comp : ∀ i s, lo ≤ i → i ≤ most → i < p → aliveF hit i = true → Rch x L B i s p → Mk p seen s ∧ (Leaf L s → ∃ f, f ≤ i ∧ (s, f) ∈ next)
 hit : HitOk x L B lo most p hit
end
def Best (R : Nat → Nat → Prop) (lo most : Nat) : Option (Nat × Nat) → Prop
 | none => ∀ i j, lo ≤ i → i ≤ most → ¬ R i j
 | some h => lo ≤ h.1 ∧ h.1 ≤ most ∧ R h.1 h.2 ∧ (∀ i j, lo ≤ i → i ≤ most → R i j → h.1 ≤ i) ∧ (∀ j, R h.1 j → j ≤ h.2)
section
variable {x : List UInt8} {L : List NSt} {B lo most : Nat}
theorem Rch.bound {i s p : Nat} (h : Rch x L B i s p) (hi : i ≤ x.length) : p ≤ x.length := by
 induction h with
 | start => exact hi
 | eps _ _ ih => exact ih
 | eat _ h _ =>
  obtain ⟨n, _, _, h, _⟩ := h
  exact hasAt_lt x h
theorem best_of_hit {p : Nat} {hit : Option (Nat × Nat)} (h : HitOk x L B lo most (p + 1) hit) (hend : ∀ i j, lo ≤ i → i ≤ most → aliveF hit i = true → p < j → ¬ Rch x L B i 0 j) :
  Best (fun i j => Rch x L B i 0 j) lo most hit := by
 cases hit with
 | none =>
  intro i j h1 h2 hr
  by_cases hj : j < p + 1
  ·exact h i j h1 h2 hj hr
  ·exact hend i j h1 h2 rfl (by omega) hr
 | some g =>
  obtain ⟨h1, h2, h3, h4, h5, h6⟩ := h
  refine ⟨h1, h2, h4, fun i j a b hr => ?_, fun j hr => ?_⟩
  ·by_cases hj : j < p + 1
   ·exact h5 i j a b hj hr
   ·by_cases hi : i ≤ g.1
    ·exact absurd hr (hend i j a b (decide_eq_true hi) (by omega))
    ·omega
  ·by_cases hj : j < p + 1
   ·exact h6 j hj hr
   ·exact absurd hr (hend g.1 j h1 h2 (decide_eq_true (Nat.le_refl _)) (by omega))
theorem Rch.mid {i s j : Nat} (h : Rch x L B i s j) : ∀ p, i ≤ p → p < j → ∃ s' t, Rch x L B i s' p ∧ Eat x L p s' t := by
 induction h with
 | start => intro p h1 h2; omega
 | eps _ _ ih => exact ih
 | eat r h ih =>
  rename_i s t q
  intro p h1 h2
  by_cases hp : p < q
  ·exact ih p h1 hp
  ·obtain rfl : p = q := by omega
   exact ⟨s, t, r, h⟩
theorem begin_place (hW : WfM L) (hB : B < L.length) {p : Nat} {next : List (Nat × Nat)} {seen : List Nat} {hit : Option (Nat × Nat)} (h : AtPlace x L B lo most p next seen hit) (hlo : lo ≤ p) :
  let R := beginF L B x most p hit seen next
  Li x L p R.1 R.2 ∧ (∀ u ∈ R.2, Rch x L B u.2 u.1 p ∧ lo ≤ u.2 ∧ u.2 ≤ most ∧ u.2 ≤ p) ∧ (∀ i s, lo ≤ i → i ≤ most → i ≤ p → aliveF hit i = true → Rch x L B i s p → Mk p R.1 s ∧ (Leaf L s → ∃ f, f ≤ i ∧ (s, f) ∈ R.2)) := by
 intro R
 by_cases hc : hit = none ∧ p ≤ most
 ·have hR : R = reachF L x.length p p (fuelF L) [B] seen next := if_pos hc
  obtain ⟨g1, g2, g3, g4, g5, g6, g7⟩ := reach_li (F := p) hW h.li hB (fun u hu => Nat.le_of_lt (h.sound u hu).2.2.2)
  rw [← hR] at g1 g2 g3 g4 g5 g6 g7
  refine ⟨g1, fun u hu => ?_, fun i s h1 h2 h3 h4 h5 => ?_⟩
  ·rcases g6 u hu with h' | ⟨h', h''⟩
   ·have := h.sound u h'
    exact ⟨this.1, this.2.1, this.2.2.1, Nat.le_of_lt this.2.2.2⟩
   ·rw [h']
    exact ⟨Rch.start.es h'', hlo, hc.2, Nat.le_refl _⟩
  ·by_cases hi : i < p
   ·obtain ⟨k1, k2⟩ := h.comp i s h1 h2 hi h4 h5
    exact ⟨g4 s k1, fun hl => by obtain ⟨f, hf, hm⟩ := k2 hl; exact ⟨f, hf, g3 _ hm⟩⟩
   ·obtain rfl : i = p := by omega
    have hes : ES x L i B s := by
     rcases h5.split with ⟨_, h'⟩ | ⟨p', s', t, h', hr, _⟩
     ·exact h'
     ·have := hr.le; omega
    refine ⟨g5 s hes, fun hl => ?_⟩
    obtain ⟨f, hf⟩ := g1.listed s (g5 s hes) hl
    exact ⟨f, g2 _ hf, hf⟩
 ·have hR : R = (seen, next) := if_neg hc
  rw [hR]
  refine ⟨h.li, fun u hu => ?_, fun i s h1 h2 h3 h4 h5 => ?_⟩
  ·have := h.sound u hu
   exact ⟨this.1, this.2.1, this.2.2.1, Nat.le_of_lt this.2.2.2⟩
  ·refine h.comp i s h1 h2 ?_ h4 h5
   cases hit with
   | none => have : ¬ p ≤ most := fun h' => hc ⟨rfl, h'⟩; omega
   | some g =>
    have h4 : decide (i ≤ g.1) = true := h4
    have h4 := of_decide_eq_true h4
    have := h.hit
    obtain ⟨_, _, h3', h4', _⟩ := this
    have := h4'.le
    omega
theorem hit_place (h4 : ∀ s, kindAt L s = 4 ↔ s = 0) {p : Nat} {hit : Option (Nat × Nat)} {seen : List Nat} {now : List (Nat × Nat)} (hh : HitOk x L B lo most p hit) (hl : Li x L p seen now)
  (hs : ∀ u ∈ now, Rch x L B u.2 u.1 p ∧ lo ≤ u.2 ∧ u.2 ≤ most ∧ u.2 ≤ p) (hc : ∀ i s, lo ≤ i → i ≤ most → i ≤ p → aliveF hit i = true → Rch x L B i s p → Mk p seen s ∧ (Leaf L s → ∃ f, f ≤ i ∧ (s, f) ∈ now)) :
  HitOk x L B lo most (p + 1) (hitF L p now hit) ∧ (∀ i, aliveF (hitF L p now hit) i = true → aliveF hit i = true) := by
 have hleaf : Leaf L 0 := .inr ((h4 0).2 rfl)
 rcases hit_law (p := p) h4 now hit hl.sorted with ⟨h1, h2⟩ | ⟨f, h1, h2, h3, h5⟩
 ·rw [h1]
  refine ⟨?_, fun i h => h⟩
  have hno : ∀ i, lo ≤ i → i ≤ most → aliveF hit i = true → ¬ Rch x L B i 0 p := fun i a b c hr => by
   obtain ⟨f, hf, hm⟩ := (hc i 0 a b hr.le c hr).2 hleaf
   have h' := h2 f hm
   cases hit with
   | none => cases h'
   | some g =>
    have c : decide (i ≤ g.1) = true := c
    have h' : decide (f ≤ g.1) = false := h'
    have := of_decide_eq_true c
    have := of_decide_eq_false h'
    omega
  cases hit with
  | none =>
   intro i j a b hj hr
   by_cases hjp : j < p
   ·exact hh i j a b hjp hr
   ·obtain rfl : j = p := by omega
    exact hno i a b rfl hr
  | some g =>
   obtain ⟨k1, k2, k3, k4, k5, k6⟩ := hh
   refine ⟨k1, k2, by omega, k4, fun i j a b hj hr => ?_, fun j hj hr => ?_⟩
   ·by_cases hjp : j < p
    ·exact k5 i j a b hjp hr
    ·obtain rfl : j = p := by omega
     by_cases hi : i ≤ g.1
     ·exact absurd hr (hno i a b (decide_eq_true hi))
     ·omega
   ·by_cases hjp : j < p
    ·exact k6 j hjp hr
    ·obtain rfl : j = p := by omega
     exact absurd hr (hno g.1 k1 k2 (decide_eq_true (Nat.le_refl _)))
 ·rw [h1]
  have hf := hs _ h2
  simp only at hf
  have hmin : ∀ i j, lo ≤ i → i ≤ most → j < p + 1 → Rch x L B i 0 j → f ≤ i := fun i j a b hj hr => by
   by_cases hjp : j < p
   ·cases hit with
    | none => exact absurd hr (hh i j a b hjp)
    | some g =>
     have := hh.2.2.2.2.1 i j a b hjp hr
     have h3 := of_decide_eq_true (show decide (f ≤ g.1) = true from h3)
     omega
   ·obtain rfl : j = p := by omega
    by_cases hi : f ≤ i
    ·exact hi
    ·have hal : aliveF hit i = true := by
      cases hit with
      | none => rfl
      | some g =>
       have h3 := of_decide_eq_true (show decide (f ≤ g.1) = true from h3)
       exact decide_eq_true (by omega)
     obtain ⟨f', hf', hm⟩ := (hc i 0 a b hr.le hal hr).2 hleaf
     have := h5 f' hm
     omega
  refine ⟨⟨hf.2.1, hf.2.2.1, by show p < p + 1; omega, hf.1, hmin, fun j hj _ => by show j ≤ p; omega⟩, fun i hi => ?_⟩
  have hi := of_decide_eq_true (show decide (i ≤ f) = true from hi)
  cases hit with
  | none => rfl
  | some g =>
   have h3 := of_decide_eq_true (show decide (f ≤ g.1) = true from h3)
   exact decide_eq_true (by omega)
theorem place_law (hW : WfM L) (hB : B < L.length) (h4 : ∀ s, kindAt L s = 4 ↔ s = 0) (hm : most ≤ x.length) : ∀ (f p : Nat) (next : List (Nat × Nat)) (seen : List Nat) (hit : Option (Nat × Nat)), AtPlace x L B lo most p next seen hit → lo ≤ p → p ≤ x.length → f = x.length + 1 - p →
  Best (fun i j => Rch x L B i 0 j) lo most (placeF L B x most f p next seen hit)
 | 0, p, next, seen, hit, h, hlo, hp, hf => by omega
 | f + 1, p, next, seen, hit, h, hlo, hp, hf => by
  obtain ⟨g1, g2, g3⟩ := begin_place hW hB h hlo
  rw [placeF]
  generalize hRR : beginF L B x most p hit seen next = R at g1 g2 g3 ⊢
  obtain ⟨k1, k2⟩ := hit_place h4 h.hit g1 g2 g3
  by_cases hc : p = x.length ∨ (R.2 = [] ∧ ((hitF L p R.2 hit).isSome = true ∨ most ≤ p))
  ·rw [if_pos hc]
   refine best_of_hit k1 fun i j a b c hj hr => ?_
   rcases hc with hc | ⟨hc, hc2⟩
   ·have := hr.bound (by omega)
    omega
   ·have hip : i ≤ p := by
     rcases hc2 with hc2 | hc2
     ·cases hh : hitF L p R.2 hit with
      | none => rw [hh] at hc2; cases hc2
      | some g =>
       rw [hh] at k1 c
       have c := of_decide_eq_true (show decide (i ≤ g.1) = true from c)
       have := k1.2.2.2.1.le
       have := k1.2.2.1
       omega
     ·omega
    obtain ⟨s', t, hs', he⟩ := hr.mid p hip (by omega)
    obtain ⟨f', _, hm⟩ := (g3 i s' a b hip (k2 i c) hs').2 he.leaf
    rw [hc] at hm
    cases hm
  ·rw [if_neg hc]
   have hno : Li x L (p + 1) R.1 [] := Li.none g1.len fun s v hv => by have := g1.bound s v hv; omega
   obtain ⟨e1, e2, e3, e4, e5⟩ := eat_li (hit := hitF L p R.2 hit) hW R.2 R.1 [] hno g1.sorted (fun u hu w hw => by cases hw)
   have hpx : p ≠ x.length := fun h' => hc (.inl h')
   refine place_law hW hB h4 hm f (p + 1) _ _ _ ⟨e1, fun u hu => ?_, fun i s a b hip c hr => ?_, k1⟩ (by omega) (by omega) (by omega)
   ·rcases e4 u hu with h' | ⟨v, t, hv, h1, h2, h3, h5⟩
    ·cases h'
    ·have := g2 v hv
     rw [← h1]
     exact ⟨(Rch.eat this.1 h3).es h5, this.2.1, this.2.2.1, by omega⟩
   ·rcases hr.split with ⟨h', _⟩ | ⟨p', s', t, h', hr', he, hes⟩
    ·omega
    ·injection h' with h'
     subst h'
     obtain ⟨f', hf', hm'⟩ := (g3 i s' a b (by omega) (k2 i c) hr').2 he.leaf
     have hal : aliveF (hitF L p R.2 hit) f' = true := by
      cases hh : hitF L p R.2 hit with
      | none => rfl
      | some g =>
       rw [hh] at c
       have c := of_decide_eq_true (show decide (i ≤ g.1) = true from c)
       exact decide_eq_true (by omega)
     obtain ⟨q1, q2⟩ := e5 _ hm' hal t he s hes
     exact ⟨q1, fun hl => by obtain ⟨f'', h1, h2⟩ := q2 hl; exact ⟨f'', by omega, h2⟩⟩
end
theorem find_law (r : Rx) (x : List UInt8) (lo most : Nat) (hlo : lo ≤ x.length) (hm : most ≤ x.length) : Best (Mt x r) lo most (findF (machF r) x lo most) := by
 have h4 : ∀ s, kindAt (machF r).1 s = 4 ↔ s = 0 := fun s => ⟨mach_only r, fun h => by subst h; unfold kindAt; rw [mach_zero]⟩
 have hW := mach_wf r
 have h := place_law (x := x) (lo := lo) (most := most) hW.1 hW.2 h4 hm (x.length + 1 - lo) lo [] (List.replicate (machF r).1.length 0) none
  ⟨Li.none (by simp) (fun s v hv => by rw [List.getElem?_replicate] at hv; split at hv <;> cases hv; omega), fun u hu => (by cases hu), fun i s a _ b => by omega, fun i j a _ b hr => by have := hr.le; omega⟩ (Nat.le_refl _) hlo rfl
 have e : (fun i j => Rch x (machF r).1 (machF r).2 i 0 j) = Mt x r := by
  funext i j
  exact propext (rch_match r i j)
 rw [e] at h
 exact h
end Go.Proofs.YtmkddhkpeiajhaaGreatDoor
