/-
  Of one byte as the separator the records are what stands between: a plain law.
-/
import Derived.Test.YtkpckmdakiminaaAllLaw
namespace Go.Proofs.Ytkpckmdakiminaa
open Go.RowKit

/-- what stands between separators, each cut off at a length; what follows the last one, if it is not empty -/
def recs (d : UInt8) (m : Nat) (cur : List UInt8) : List UInt8 → List (List UInt8)
  | [] => if cur = [] then [] else [cur.take m]
  | c :: r => if c = d then cur.take m :: recs d m [] r else recs d m (cur ++ [c]) r

def drainX (rs : List UInt8) (k : Nat) : Option (List UInt8) × Sp → List (List UInt8) × Sp
  | (none, s') => ([], s')
  | (some r, s') => (r :: (drain rs k s').1, (drain rs k s').2)
theorem drain_succ (rs : List UInt8) (k : Nat) (s : Sp) : drain rs (k + 1) s = drainX rs k (s.next rs) := by
  unfold drain drainX
  cases h : s.next rs with
  | mk x s' => cases x <;> rfl

/-- the record under way is what was seen of it -/
def Curs (m : Nat) (cur : List UInt8) (s : Sp) : Prop := s.most = m ∧ s.got = cur.take m ∧ s.over = decide (m < cur.length) ∧ s.wait = false
theorem Curs.add {m : Nat} {cur : List UInt8} {s : Sp} (h : Curs m cur s) (c : UInt8) : Curs m (cur ++ [c]) (s.add c) := by
  obtain ⟨h1, h2, h3, h4⟩ := h
  unfold Sp.add
  by_cases hlt : cur.length < m
  · rw [if_pos (by rw [h2, h1, List.length_take]; omega)]
    refine ⟨h1, ?_, ?_, h4⟩
    · show s.got ++ [c] = _
      rw [h2, List.take_of_length_le (Nat.le_of_lt hlt), List.take_of_length_le (by simp; omega)]
    · show s.over = _
      rw [h3, decide_eq_decide]
      simp
      omega
  · rw [if_neg (by rw [h2, h1, List.length_take]; omega)]
    refine ⟨h1, ?_, ?_, h4⟩
    · show s.got = _
      rw [h2, List.take_append_of_le_length (by omega)]
    · show true = _
      rw [eq_comm, decide_eq_true_iff]
      simp
      omega
theorem Curs.idle {m : Nat} {cur : List UInt8} {s : Sp} (hm : 1 ≤ m) (h : Curs m cur s) : s.idle ↔ cur = [] := by
  obtain ⟨h1, h2, h3, h4⟩ := h
  unfold Sp.idle
  constructor
  · rintro ⟨e, _⟩
    rw [h2] at e
    rcases List.take_eq_nil_iff.1 e with e | e
    · omega
    · exact e
  · rintro rfl
    exact ⟨by rw [h2]; simp, by rw [h3]; simp⟩
theorem next_one {d : UInt8} {s : Sp} (h : s.wait = false) : s.next [d] = nextB d s s.rest := by
  rw [Sp.next_cons, h]
  rfl

theorem drain_recs (d : UInt8) (m : Nat) : ∀ (r cur : List UInt8) (s : Sp) (k : Nat), Curs m cur s → r.length ≤ k →
    ∃ cur' s', (drainX [d] k (nextB d s r)).2 = s' ∧ Curs m cur' s' ∧ s'.rest = [] ∧ recs d m cur r = (drainX [d] k (nextB d s r)).1 ++ (if cur' = [] then [] else [cur'.take m])
  | [], cur, s, k, h, _ => ⟨cur, { s with rest := [] }, rfl, h, rfl, by simp [recs, nextB, drainX]⟩
  | c :: r, cur, s, k, h, hk => by
    rw [List.length_cons] at hk
    by_cases hc : c = d
    · obtain ⟨j, rfl⟩ : ∃ j, k = j + 1 := ⟨k - 1, by omega⟩
      have e : nextB d s (c :: r) = (some s.got, { s.take with rest := r }) := by rw [nextB, if_pos hc]
      have h0 : Curs m [] ({ s.take with rest := r } : Sp) := ⟨h.1, by simp [Sp.take], by simp [Sp.take], rfl⟩
      obtain ⟨cur', s', h1, h2, h3, h4⟩ := drain_recs d m r [] { s.take with rest := r } j h0 (by omega)
      have hd : drain [d] (j + 1) ({ s.take with rest := r } : Sp) = drainX [d] j (nextB d { s.take with rest := r } r) := by rw [drain_succ, next_one rfl]
      refine ⟨cur', s', ?_, h2, h3, ?_⟩
      · rw [e]; show (drain [d] (j + 1) _).2 = _; rw [hd]; exact h1
      · rw [e]
        show recs d m cur (c :: r) = (s.got :: (drain [d] (j + 1) _).1) ++ _
        rw [hd, recs, if_pos hc, h4, h.2.1]
        rfl
    · have e : nextB d s (c :: r) = nextB d (s.add c) r := by rw [nextB, if_neg hc]
      rw [e, recs, if_neg hc]
      exact drain_recs d m r (cur ++ [c]) (s.add c) k (h.add c) (by omega)

theorem recsOf_one (d : UInt8) (m : Nat) (hm : 1 ≤ m) (l : List UInt8) :
    (drain [d] (l.length + 1) ((Sp.init m).feed l)).1 ++ lasts [d] (l.length + 2) (drain [d] (l.length + 1) ((Sp.init m).feed l)).2 = recs d m [] l := by
  have h0 : Curs m [] ((Sp.init m).feed l) := ⟨rfl, by simp [Sp.init, Sp.feed], by simp [Sp.init, Sp.feed], rfl⟩
  obtain ⟨cur, s', h1, h2, h3, h4⟩ := drain_recs d m l [] ((Sp.init m).feed l) l.length h0 (Nat.le_refl _)
  rw [drain_succ, next_one rfl]
  show (drainX [d] l.length (nextB d _ l)).1 ++ lasts [d] _ (drainX [d] l.length (nextB d _ l)).2 = _
  rw [h4, h1]
  have hn : s'.next [d] = (none, s') := Sp.next_zero [d] (by unfold Sp.size; rw [h3, h2.2.2.2]; rfl)
  by_cases hc : cur = []
  · rw [if_pos hc]
    have hi := (h2.idle hm).2 hc
    have hl : s'.last [d] = (none, s') := by unfold Sp.last; rw [hn]; exact if_pos hi
    rw [lasts_none hl]
  · rw [if_neg hc]
    have hi : ¬ s'.idle := fun e => hc ((h2.idle hm).1 e)
    have hl : s'.last [d] = (some s'.got, s'.take) := by unfold Sp.last; rw [hn]; exact if_neg hi
    have hl2 : s'.take.last [d] = (none, s'.take) := by
      have hz : s'.take.next [d] = (none, s'.take) := Sp.next_zero [d] (by unfold Sp.size Sp.take; rw [h3]; rfl)
      unfold Sp.last
      rw [hz]
      exact if_pos ⟨rfl, rfl⟩
    have h9 : s'.size2 < l.length + 2 := by
      have := s'.size_size2.2
      have hz : s'.size = 0 := by unfold Sp.size; rw [h3, h2.2.2.2]; rfl
      omega
    rw [lasts_some hl h9, lasts_none hl2, h2.2.1]

end Go.Proofs.Ytkpckmdakiminaa
