/-
  However bytes are cut into pieces, the records are the same: a plain law of splitters. No program in sight.
-/
import Derived.Test.YtkpckmdakiminaaDoorAllLaw
namespace Go.Proofs.YtkpckmdakiminaaDoor
open Go.RowKit

theorem nextB_rest0 (d : UInt8) (q : List UInt8) : ∀ (r : List UInt8) (s : Sp), nextB d { s with rest := q } r = nextB d s r
  | [], s => rfl
  | c :: r, s => by
    unfold nextB
    split
    · rfl
    · rw [Sp.add_rest]; exact nextB_rest0 d q r (s.add c)
theorem nextP_rest0 (q : List UInt8) : ∀ (r : List UInt8) (s : Sp), nextP { s with rest := q } r = nextP s r
  | [], s => rfl
  | c :: r, s => by
    unfold nextP
    split
    · show (if s.wait = true then _ else _) = _
      split
      · rfl
      · show (if 0 < s.got.length then _ else _) = _
        split
        · exact nextP_rest0 q r { s with wait := true }
        · exact nextP_rest0 q r s
    · show (if s.wait = true then _ else _) = _
      split
      · have e : (({ ({ s with rest := q } : Sp) with wait := false } : Sp).add 10).add c = { (({ s with wait := false } : Sp).add 10).add c with rest := q } := by
          rw [← Sp.add_rest, ← Sp.add_rest]
        rw [e]
        exact nextP_rest0 q r ((({ s with wait := false } : Sp).add 10).add c)
      · rw [Sp.add_rest]; exact nextP_rest0 q r (s.add c)

theorem nextB_app_some (d : UInt8) (y : List UInt8) {r : List UInt8} {s' : Sp} : ∀ (x : List UInt8) (s : Sp), nextB d s x = (some r, s') → nextB d s (x ++ y) = (some r, s'.feed y)
  | [], s, h => by unfold nextB at h; injection h with h; cases h
  | c :: x, s, h => by
    rw [List.cons_append]
    unfold nextB at h ⊢
    split at h
    · rename_i hc
      rw [if_pos hc]
      injection h with h1 h2
      subst h2
      rw [h1]; rfl
    · rename_i hc
      rw [if_neg hc]
      exact nextB_app_some d y x (s.add c) h
theorem nextB_app_none (d : UInt8) (y : List UInt8) {s' : Sp} : ∀ (x : List UInt8) (s : Sp), nextB d s x = (none, s') → nextB d s (x ++ y) = nextB d s' y
  | [], s, h => by
    unfold nextB at h
    injection h with _ h
    subst h
    exact (nextB_rest0 d [] y s).symm
  | c :: x, s, h => by
    rw [List.cons_append]
    unfold nextB at h
    split at h
    · injection h with h; cases h
    · rename_i hc
      rw [nextB, if_neg hc]
      exact nextB_app_none d y x (s.add c) h
theorem nextP_app_some (y : List UInt8) {r : List UInt8} {s' : Sp} : ∀ (x : List UInt8) (s : Sp), nextP s x = (some r, s') → nextP s (x ++ y) = (some r, s'.feed y)
  | [], s, h => by unfold nextP at h; injection h with h; cases h
  | c :: x, s, h => by
    rw [List.cons_append]
    unfold nextP at h ⊢
    by_cases hc : c = 10
    · rw [if_pos hc] at h ⊢
      by_cases hw : s.wait = true
      · rw [if_pos hw] at h ⊢
        injection h with h1 h2
        subst h2
        rw [h1]; rfl
      · rw [if_neg hw] at h ⊢
        by_cases hg : 0 < s.got.length
        · rw [if_pos hg] at h ⊢
          exact nextP_app_some y x _ h
        · rw [if_neg hg] at h ⊢
          exact nextP_app_some y x _ h
    · rw [if_neg hc] at h ⊢
      by_cases hw : s.wait = true
      · rw [if_pos hw] at h ⊢
        exact nextP_app_some y x _ h
      · rw [if_neg hw] at h ⊢
        exact nextP_app_some y x _ h
theorem nextP_app_none (y : List UInt8) {s' : Sp} : ∀ (x : List UInt8) (s : Sp), nextP s x = (none, s') → nextP s (x ++ y) = nextP s' y
  | [], s, h => by
    unfold nextP at h
    injection h with _ h
    subst h
    exact (nextP_rest0 [] y s).symm
  | c :: x, s, h => by
    rw [List.cons_append]
    unfold nextP at h
    rw [nextP]
    by_cases hc : c = 10
    · rw [if_pos hc] at h ⊢
      by_cases hw : s.wait = true
      · rw [if_pos hw] at h
        injection h with h; cases h
      · rw [if_neg hw] at h ⊢
        by_cases hg : 0 < s.got.length
        · rw [if_pos hg] at h ⊢
          exact nextP_app_none y x _ h
        · rw [if_neg hg] at h ⊢
          exact nextP_app_none y x _ h
    · rw [if_neg hc] at h ⊢
      by_cases hw : s.wait = true
      · rw [if_pos hw] at h ⊢
        exact nextP_app_none y x _ h
      · rw [if_neg hw] at h ⊢
        exact nextP_app_none y x _ h

theorem Sp.add_feed (s : Sp) (c : UInt8) (y : List UInt8) : (s.feed y).add c = (s.add c).feed y := by unfold Sp.add Sp.feed; split <;> rfl
theorem Sp.next_feed_some {s s' : Sp} {rs r : List UInt8} (y : List UInt8) (h : s.next rs = (some r, s')) : (s.feed y).next rs = (some r, s'.feed y) := by
  cases rs with
  | nil =>
    have h : nextP s s.rest = (some r, s') := h
    have := nextP_app_some y s.rest s h
    exact (nextP_rest0 (s.rest ++ y) (s.rest ++ y) s).trans this
  | cons d t =>
    rw [Sp.next_cons] at h ⊢
    by_cases hw : s.wait = true
    · rw [if_pos hw] at h
      rw [if_pos (show (s.feed y).wait = true from hw)]
      by_cases hd : (10 : UInt8) = d
      · rw [if_pos hd] at h ⊢
        injection h with h1 h2
        subst h2
        rw [← h1]; rfl
      · rw [if_neg hd] at h ⊢
        have := nextB_app_some d y s.rest _ h
        rw [← this]
        have e : (({ (s.feed y) with wait := false } : Sp).add 10) = { ({ s with wait := false } : Sp).add 10 with rest := s.rest ++ y } := by
          rw [← Sp.add_rest]; rfl
        rw [e]
        exact nextB_rest0 d _ _ _
    · rw [if_neg hw] at h
      rw [if_neg (show ¬ (s.feed y).wait = true from hw)]
      have := nextB_app_some d y s.rest s h
      exact (nextB_rest0 d (s.rest ++ y) (s.rest ++ y) s).trans this
theorem Sp.next_feed_none {s s' : Sp} {rs : List UInt8} (y : List UInt8) (h : s.next rs = (none, s')) : (s.feed y).next rs = (s'.feed y).next rs := by
  have hr := (Sp.next_none h).1
  have hfr : (s'.feed y).rest = y := by unfold Sp.feed; rw [hr]; rfl
  cases rs with
  | nil =>
    have h : nextP s s.rest = (none, s') := h
    have h1 := nextP_app_none y s.rest s h
    have h2 : nextP (s'.feed y) (s'.feed y).rest = nextP s' y := by rw [hfr]; exact nextP_rest0 _ y s'
    exact ((nextP_rest0 (s.rest ++ y) (s.rest ++ y) s).trans h1).trans h2.symm
  | cons d t =>
    rw [Sp.next_cons] at h
    rw [Sp.next_cons, Sp.next_cons]
    have key : ∀ s1 : Sp, s1.wait = false → nextB d s1 s.rest = (none, s') → nextB d s1 (s.rest ++ y) = (if (s'.feed y).wait = true then (if (10 : UInt8) = d then (some (s'.feed y).got, (s'.feed y).take) else nextB d (({ (s'.feed y) with wait := false } : Sp).add 10) (s'.feed y).rest) else nextB d (s'.feed y) (s'.feed y).rest) := fun s1 hw h1 => by
      have hw' : s'.wait = false := by rw [(nextB_none d s.rest s1 h1).2]; exact hw
      rw [if_neg (show ¬ (s'.feed y).wait = true from by show ¬ s'.wait = true; rw [hw']; decide), nextB_app_none d y s.rest s1 h1, hfr]
      exact (nextB_rest0 d _ y s').symm
    by_cases hw : s.wait = true
    · rw [if_pos hw] at h
      rw [if_pos (show (s.feed y).wait = true from hw)]
      by_cases hd : (10 : UInt8) = d
      · rw [if_pos hd] at h
        injection h with h; cases h
      · rw [if_neg hd] at h
        rw [if_neg hd]
        rw [← key _ (by rw [Sp.add_wait]) h]
        have e : (({ (s.feed y) with wait := false } : Sp).add 10) = { ({ s with wait := false } : Sp).add 10 with rest := s.rest ++ y } := by
          rw [← Sp.add_rest]; rfl
        rw [e]
        exact nextB_rest0 d _ _ _
    · rw [if_neg hw] at h
      rw [if_neg (show ¬ (s.feed y).wait = true from hw)]
      rw [← key s (by simpa using hw) h]
      exact nextB_rest0 d (s.rest ++ y) (s.rest ++ y) s

theorem Sp.feed_feed (s : Sp) (x y : List UInt8) : (s.feed x).feed y = s.feed (x ++ y) := by unfold Sp.feed; simp
theorem Sp.feed_size (s : Sp) (y : List UInt8) : (s.feed y).size = s.size + y.length := by unfold Sp.size Sp.feed; simp; omega

/-- records of bytes that come in two pieces -/
theorem drain_feed (rs y : List UInt8) : ∀ (k : Nat) (s : Sp) (j : Nat), s.size < k → s.size + y.length < j →
    drain rs j (s.feed y) = ((drain rs k s).1 ++ (drain rs j ((drain rs k s).2.feed y)).1, (drain rs j ((drain rs k s).2.feed y)).2)
  | 0, _, _, h, _ => by omega
  | k + 1, s, j, h, hj => by
    cases e : s.next rs with
    | mk o s' =>
      cases o with
      | none =>
        rw [drain_none e h]
        have hle := (Sp.next_none e).2
        show drain rs j (s.feed y) = ([] ++ (drain rs j (s'.feed y)).1, (drain rs j (s'.feed y)).2)
        rw [List.nil_append]
        cases j with
        | zero => omega
        | succ j =>
          unfold drain
          rw [Sp.next_feed_none y e]
      | some r =>
        have hlt := (Sp.next_some e).2
        have e2 := Sp.next_feed_some y e
        rw [drain_some e h, drain_some e2 (by rw [Sp.feed_size]; omega), drain_enough rs (k + 1) k s' (by omega) (by omega)]
        rw [drain_feed rs y k s' j (by omega) (by omega)]
        rfl

/-- the records of bytes that come in two pieces, as one walk of the law tells them -/
theorem pieces_step (rs : List UInt8) {N : Nat} {s : Sp} {x y : List UInt8} (h : s.size + (x ++ y).length ≤ N) :
    (drain rs (N + 1) (s.feed (x ++ y))).1 = (drain rs (N + 1) (s.feed x)).1 ++ (drain rs (N + 1) ((drain rs (N + 1) (s.feed x)).2.feed y)).1 ∧
    (drain rs (N + 1) (s.feed (x ++ y))).2 = (drain rs (N + 1) ((drain rs (N + 1) (s.feed x)).2.feed y)).2 := by
  rw [List.length_append] at h
  have := drain_feed rs y (N + 1) (s.feed x) (N + 1) (by rw [Sp.feed_size]; omega) (by rw [Sp.feed_size]; omega)
  rw [Sp.feed_feed] at this
  rw [this]
  exact ⟨rfl, rfl⟩
theorem pieces_end (rs : List UInt8) {N : Nat} {s : Sp} (h : s.size ≤ N) : drain rs (N + 1) ((drain rs (N + 1) s).2.feed []) = ([], (drain rs (N + 1) s).2) := by
  have hf : ∀ t : Sp, t.feed [] = t := fun t => by unfold Sp.feed; rw [List.append_nil]
  rw [hf]
  have h1 := drain_feed rs [] (N + 1) s (N + 1) (by omega) (by simp; omega)
  rw [hf, hf] at h1
  have e1 := congrArg Prod.fst h1
  have e2 := congrArg Prod.snd h1
  have e1 : (drain rs (N + 1) s).1 = (drain rs (N + 1) s).1 ++ (drain rs (N + 1) (drain rs (N + 1) s).2).1 := e1
  have e3 : (drain rs (N + 1) (drain rs (N + 1) s).2).1 = [] := by
    have := congrArg List.length e1
    rw [List.length_append] at this
    exact List.eq_nil_of_length_eq_zero (by omega)
  exact Prod.ext e3 e2.symm

end Go.Proofs.YtkpckmdakiminaaDoor
