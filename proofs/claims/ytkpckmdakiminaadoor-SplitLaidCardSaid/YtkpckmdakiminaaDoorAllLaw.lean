/-
  All the records of bytes that come in pieces, as plain functions. No program in sight.
-/
import Derived.Test.YtkpckmdakiminaaDoorSplitLaw
namespace Go.Proofs.YtkpckmdakiminaaDoor
open Go.RowKit

def Sp.size (s : Sp) : Nat := s.rest.length + s.wait.toNat
/-- nothing under way -/
def Sp.clear (s : Sp) : Prop := s.wait = false ∧ s.got = [] ∧ s.over = false

theorem nextB_some (d : UInt8) {x : List UInt8} {s' : Sp} : ∀ (r : List UInt8) (s : Sp), nextB d s r = (some x, s') → s'.clear ∧ s'.rest.length < r.length
  | [], s, h => by unfold nextB at h; injection h with h; cases h
  | c :: r, s, h => by
    unfold nextB at h
    split at h
    · injection h with _ h
      subst h
      exact ⟨⟨rfl, rfl, rfl⟩, by simp⟩
    · have := nextB_some d r (s.add c) h
      exact ⟨this.1, by have := this.2; simp; omega⟩
theorem Sp.add_wait (s : Sp) (c : UInt8) : (s.add c).wait = s.wait := by unfold Sp.add; split <;> rfl
theorem nextB_none (d : UInt8) {s' : Sp} : ∀ (r : List UInt8) (s : Sp), nextB d s r = (none, s') → s'.rest = [] ∧ s'.wait = s.wait
  | [], s, h => by
    unfold nextB at h
    injection h with _ h
    subst h
    exact ⟨rfl, rfl⟩
  | c :: r, s, h => by
    unfold nextB at h
    split at h
    · injection h with h; cases h
    · have := nextB_none d r (s.add c) h
      rw [Sp.add_wait] at this
      exact this
theorem nextP_some {x : List UInt8} {s' : Sp} : ∀ (r : List UInt8) (s : Sp), nextP s r = (some x, s') → s'.clear ∧ s'.rest.length < r.length
  | [], s, h => by unfold nextP at h; injection h with h; cases h
  | c :: r, s, h => by
    have key : ∀ s : Sp, nextP s r = (some x, s') → s'.clear ∧ s'.rest.length < (c :: r).length := fun s h => by
      have := nextP_some r s h
      exact ⟨this.1, by have := this.2; simp; omega⟩
    unfold nextP at h
    split at h
    · split at h
      · injection h with _ h
        subst h
        exact ⟨⟨rfl, rfl, rfl⟩, by simp⟩
      · split at h
        · exact key _ h
        · exact key _ h
    · split at h
      · exact key _ h
      · exact key _ h
theorem nextP_none {s' : Sp} : ∀ (r : List UInt8) (s : Sp), nextP s r = (none, s') → s'.rest = [] ∧ s'.wait.toNat ≤ r.length + s.wait.toNat
  | [], s, h => by
    unfold nextP at h
    injection h with _ h
    subst h
    exact ⟨rfl, by simp⟩
  | c :: r, s, h => by
    have key : ∀ s1 : Sp, nextP s1 r = (none, s') → s'.rest = [] ∧ s'.wait.toNat ≤ (c :: r).length + s.wait.toNat := fun s1 h => by
      have h1 := nextP_none r s1 h
      refine ⟨h1.1, ?_⟩
      have : s'.wait.toNat ≤ 1 := by cases s'.wait <;> decide
      simp
      omega
    unfold nextP at h
    split at h
    · split at h
      · injection h with h; cases h
      · split at h
        · exact key _ h
        · exact key _ h
    · split at h
      · exact key _ h
      · exact key _ h

theorem Sp.next_cons (s : Sp) (d : UInt8) (t : List UInt8) : s.next (d :: t) = if s.wait = true then (if (10 : UInt8) = d then (some s.got, s.take) else nextB d (({ s with wait := false } : Sp).add 10) s.rest) else nextB d s s.rest := rfl
theorem Sp.next_some {s s' : Sp} {rs x : List UInt8} (h : s.next rs = (some x, s')) : s'.clear ∧ s'.size < s.size := by
  have key : s'.clear ∧ s'.rest.length < s.rest.length → s'.clear ∧ s'.size < s.size := fun ⟨h1, h2⟩ => ⟨h1, by
    unfold Sp.size; rw [h1.1]; simp; omega⟩
  cases rs with
  | nil => exact key (nextP_some s.rest s h)
  | cons d t =>
    rw [Sp.next_cons] at h
    split at h
    · split at h
      · rename_i hw _
        injection h with _ h
        subst h
        refine ⟨⟨rfl, rfl, rfl⟩, ?_⟩
        unfold Sp.size
        rw [hw]
        simp [Sp.take]
      · exact key (nextB_some d s.rest _ h)
    · exact key (nextB_some d s.rest s h)
theorem Sp.next_none {s s' : Sp} {rs : List UInt8} (h : s.next rs = (none, s')) : s'.rest = [] ∧ s'.size ≤ s.size := by
  have hr : s'.rest = [] → s'.wait.toNat ≤ s.rest.length + s.wait.toNat → s'.rest = [] ∧ s'.size ≤ s.size := fun h1 h2 => ⟨h1, by unfold Sp.size; rw [h1]; simpa using h2⟩
  cases rs with
  | nil => have := nextP_none s.rest s h; exact hr this.1 this.2
  | cons d t =>
    rw [Sp.next_cons] at h
    split at h
    · split at h
      · injection h with h; cases h
      · have := nextB_none d s.rest _ h
        rw [Sp.add_wait] at this
        exact hr this.1 (by rw [this.2]; simp)
    · have := nextB_none d s.rest _ h
      exact hr this.1 (by rw [this.2]; omega)

/-- whether a byte was ever under way -/
def Sp.idle (s : Sp) : Prop := s.got = [] ∧ s.over = false
instance (s : Sp) : Decidable s.idle := inferInstanceAs (Decidable (_ ∧ _))
def Sp.size2 (s : Sp) : Nat := s.size + if s.idle then 0 else 1

theorem Sp.size_size2 (s : Sp) : s.size ≤ s.size2 ∧ s.size2 ≤ s.size + 1 := by unfold Sp.size2; split <;> omega
theorem Sp.next_zero {s : Sp} (rs : List UInt8) (h : s.size = 0) : s.next rs = (none, s) := by
  have hr : s.rest = [] := by unfold Sp.size at h; exact List.length_eq_zero_iff.1 (by omega)
  have hw : s.wait = false := by
    unfold Sp.size at h
    cases hw : s.wait
    · rfl
    · rw [hw] at h; simp at h
  obtain ⟨m, g, o, w, r⟩ := s
  simp only at hr hw
  subst hr; subst hw
  cases rs <;> rfl
theorem Sp.last_some {s s' : Sp} {rs x : List UInt8} (h : s.last rs = (some x, s')) : s'.idle ∧ s'.size2 < s.size2 := by
  unfold Sp.last at h
  split at h
  · rename_i r s1 e
    injection h with h1 h2
    subst h2
    have := Sp.next_some e
    refine ⟨⟨this.1.2.1, this.1.2.2⟩, ?_⟩
    unfold Sp.size2
    rw [if_pos (show s1.idle from ⟨this.1.2.1, this.1.2.2⟩)]
    omega
  · rename_i s1 e
    split at h
    · injection h with h; cases h
    · rename_i hi
      injection h with h1 h2
      subst h2
      refine ⟨⟨rfl, rfl⟩, ?_⟩
      have hn := Sp.next_none e
      have h0 : (s1.take).size2 = 0 := by
        unfold Sp.size2
        rw [if_pos (show s1.take.idle from ⟨rfl, rfl⟩)]
        unfold Sp.size Sp.take
        rw [hn.1]
        rfl
      rw [h0]
      by_cases hs : s.size = 0
      · have hz := Sp.next_zero rs hs
        rw [hz] at e
        injection e with _ e
        subst e
        unfold Sp.size2
        rw [if_neg (show ¬ s.idle from hi)]
        omega
      · unfold Sp.size2
        omega
theorem Sp.last_none {s s' : Sp} {rs : List UInt8} (h : s.last rs = (none, s')) : s.next rs = (none, s') ∧ s'.idle := by
  unfold Sp.last at h
  split at h
  · injection h with h; cases h
  · rename_i s1 e
    split at h
    · rename_i hi
      injection h with _ h
      subst h
      exact ⟨e, hi⟩
    · injection h with h; cases h

/-- the records that are whole -/
def drain (rs : List UInt8) : Nat → Sp → List (List UInt8) × Sp
  | 0, s => ([], s)
  | k + 1, s => match s.next rs with
    | (none, s') => ([], s')
    | (some r, s') => (r :: (drain rs k s').1, (drain rs k s').2)
/-- all that is left -/
def lasts (rs : List UInt8) : Nat → Sp → List (List UInt8)
  | 0, _ => []
  | k + 1, s => match s.last rs with
    | (none, _) => []
    | (some r, s') => r :: lasts rs k s'
theorem drain_none {rs : List UInt8} {k : Nat} {s s' : Sp} (h : s.next rs = (none, s')) (hk : s.size < k) : drain rs k s = ([], s') := by
  cases k with
  | zero => omega
  | succ k => simp [drain, h]
theorem drain_enough (rs : List UInt8) : ∀ (k j : Nat) (s : Sp), s.size < k → s.size < j → drain rs k s = drain rs j s
  | 0, _, s, h, _ => by omega
  | k + 1, 0, s, _, h => by omega
  | k + 1, j + 1, s, h1, h2 => by
    unfold drain
    split
    · rfl
    · rename_i r s' e
      have := (Sp.next_some e).2
      rw [drain_enough rs k j s' (by omega) (by omega)]
theorem drain_some {rs r : List UInt8} {k : Nat} {s s' : Sp} (h : s.next rs = (some r, s')) (hk : s.size < k) : drain rs k s = (r :: (drain rs k s').1, (drain rs k s').2) := by
  have hs := (Sp.next_some h).2
  cases k with
  | zero => omega
  | succ k =>
    rw [drain_enough rs (k + 1) k s' (by omega) (by omega)]
    simp [drain, h]
theorem lasts_none {rs : List UInt8} {k : Nat} {s s' : Sp} (h : s.last rs = (none, s')) : lasts rs k s = [] := by
  cases k with
  | zero => rfl
  | succ k => simp [lasts, h]
theorem lasts_enough (rs : List UInt8) : ∀ (k j : Nat) (s : Sp), s.size2 < k → s.size2 < j → lasts rs k s = lasts rs j s
  | 0, _, s, h, _ => by omega
  | k + 1, 0, s, _, h => by omega
  | k + 1, j + 1, s, h1, h2 => by
    unfold lasts
    split
    · rfl
    · rename_i r s' e
      have := (Sp.last_some e).2
      rw [lasts_enough rs k j s' (by omega) (by omega)]
theorem lasts_some {rs r : List UInt8} {k : Nat} {s s' : Sp} (h : s.last rs = (some r, s')) (hk : s.size2 < k) : lasts rs k s = r :: lasts rs k s' := by
  have hs := (Sp.last_some h).2
  cases k with
  | zero => omega
  | succ k =>
    rw [lasts_enough rs (k + 1) k s' (by omega) (by omega)]
    simp [lasts, h]
theorem drain_size (rs : List UInt8) : ∀ (k : Nat) (s : Sp), (drain rs k s).1.length + (drain rs k s).2.size ≤ s.size
  | 0, s => by simp [drain]
  | k + 1, s => by
    unfold drain
    split
    · rename_i s' e
      simpa using (Sp.next_none e).2
    · rename_i r s' e
      have h1 := drain_size rs k s'
      have h2 := (Sp.next_some e).2
      simp
      omega

/-- how many bytes the next piece has -/
def piece (pick : Int → Nat → Nat) : List Int → Nat → Nat
  | [], n => n
  | c :: _, n => pick c (n + 1)
/-- all that is told of bytes that come in pieces -/
def pieces (pick : Int → Nat → Nat) (rs : List UInt8) (k : Nat) : List Int → Sp → List UInt8 → List (List UInt8) × Sp
  | [], s, b => drain rs k (s.feed b)
  | c :: cs, s, b =>
    let d := drain rs k (s.feed (b.take (pick c (b.length + 1))))
    if b.drop (pick c (b.length + 1)) = [] then d else (d.1 ++ (pieces pick rs k cs d.2 (b.drop (pick c (b.length + 1)))).1, (pieces pick rs k cs d.2 (b.drop (pick c (b.length + 1)))).2)

end Go.Proofs.YtkpckmdakiminaaDoor
