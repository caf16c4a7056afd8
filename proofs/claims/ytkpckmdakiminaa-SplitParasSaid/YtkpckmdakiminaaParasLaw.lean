/-
  Of paragraphs none is empty, begins or ends with a line feed, or has two in a row; put together they have all other bytes: a plain law.
-/
import Derived.Test.YtkpckmdakiminaaAllLaw
namespace Go.Proofs.Ytkpckmdakiminaa
open Go.RowKit

/-- not empty, no line feed ahead, behind, or next to another -/
def Good (x : List UInt8) : Prop := x ≠ [] ∧ x[0]? ≠ some 10 ∧ ∀ k : Nat, x[k]? = some 10 → ∃ y : UInt8, x[k + 1]? = some y ∧ y ≠ 10
/-- the bytes that are no line feeds -/
def filt (x : List UInt8) : List UInt8 := x.filter (fun c => c != 10)
theorem filt_append (x y : List UInt8) : filt (x ++ y) = filt x ++ filt y := List.filter_append ..
theorem filt_feed : filt [10] = [] := by decide
theorem filt_other {c : UInt8} (h : ¬ c = 10) : filt [c] = [c] := by unfold filt; simp [h]

theorem Good.one {c : UInt8} (h : ¬ c = 10) : Good [c] := by
  refine ⟨by simp, by simpa using h, fun k hk => ?_⟩
  match k, hk with
  | 0, hk => simp at hk; exact absurd hk h
theorem Good.snoc {x : List UInt8} (hx : Good x) {c : UInt8} (h : ¬ c = 10) : Good (x ++ [c]) := by
  obtain ⟨h1, h2, h3⟩ := hx
  have hl : 0 < x.length := List.length_pos_iff.2 h1
  refine ⟨by simp, by rw [List.getElem?_append_left hl]; exact h2, fun k hk => ?_⟩
  rcases Nat.lt_or_ge k x.length with hlt | hge
  · rw [List.getElem?_append_left hlt] at hk
    obtain ⟨y, hy, hy2⟩ := h3 k hk
    have := (List.getElem?_eq_some_iff.1 hy).1
    exact ⟨y, by rw [List.getElem?_append_left this]; exact hy, hy2⟩
  · rw [List.getElem?_append_right hge] at hk
    have := (List.getElem?_eq_some_iff.1 hk).1
    simp at this
    rw [this] at hk
    simp at hk
    exact absurd hk h
theorem Good.snoc2 {x : List UInt8} (hx : Good x) {c : UInt8} (h : ¬ c = 10) : Good (x ++ [10] ++ [c]) := by
  obtain ⟨h1, h2, h3⟩ := hx
  have hl : 0 < x.length := List.length_pos_iff.2 h1
  refine ⟨by simp, by rw [List.append_assoc, List.getElem?_append_left hl]; exact h2, fun k hk => ?_⟩
  rw [List.append_assoc] at hk ⊢
  rcases Nat.lt_or_ge k x.length with hlt | hge
  · rw [List.getElem?_append_left hlt] at hk
    obtain ⟨y, hy, hy2⟩ := h3 k hk
    have := (List.getElem?_eq_some_iff.1 hy).1
    exact ⟨y, by rw [List.getElem?_append_left this]; exact hy, hy2⟩
  · rw [List.getElem?_append_right hge] at hk
    rw [List.getElem?_append_right (by omega)]
    have hb := (List.getElem?_eq_some_iff.1 hk).1
    simp at hb
    have hc : k - x.length = 0 ∨ k - x.length = 1 := by omega
    rcases hc with e | e
    · refine ⟨c, ?_, h⟩
      rw [show k + 1 - x.length = 1 from by omega]
      rfl
    · rw [e] at hk
      simp at hk
      exact absurd hk h

/-- a splitter of paragraphs with room for all of r -/
def POk (s : Sp) (r : List UInt8) : Prop := s.over = false ∧ s.got.length + s.wait.toNat + r.length ≤ s.most ∧ (s.got = [] ∨ Good s.got) ∧ (s.wait = true → s.got ≠ [])
theorem Sp.add_room {s : Sp} {c : UInt8} (h : s.got.length < s.most) : s.add c = { s with got := s.got ++ [c] } := by unfold Sp.add; rw [if_pos h]

theorem nextP_ok : ∀ (r : List UInt8) (s : Sp), POk s r →
    (∀ x s', nextP s r = (some x, s') → Good x ∧ filt (s.got ++ r) = filt x ++ filt s'.rest ∧ POk s' s'.rest ∧ s'.got = []) ∧
    (∀ s', nextP s r = (none, s') → filt (s.got ++ r) = filt s'.got ∧ POk s' [] ∧ s'.rest = [])
  | [], s, h => by
    refine ⟨fun x s' e => ?_, fun s' e => ?_⟩
    · unfold nextP at e; injection e with e; cases e
    · unfold nextP at e
      injection e with _ e
      subst e
      exact ⟨by simp, h, rfl⟩
  | c :: r, s, h => by
    obtain ⟨h1, h2, h3, h4⟩ := h
    rw [List.length_cons] at h2
    -- by a step to s1: the same bytes
    have key : ∀ s1 : Sp, nextP s (c :: r) = nextP s1 r → POk s1 r → filt (s.got ++ c :: r) = filt (s1.got ++ r) →
        (∀ x s', nextP s (c :: r) = (some x, s') → Good x ∧ filt (s.got ++ c :: r) = filt x ++ filt s'.rest ∧ POk s' s'.rest ∧ s'.got = []) ∧
        (∀ s', nextP s (c :: r) = (none, s') → filt (s.got ++ c :: r) = filt s'.got ∧ POk s' [] ∧ s'.rest = []) := fun s1 e1 ok e2 => by
      rw [e1, e2]; exact nextP_ok r s1 ok
    by_cases hc : c = 10
    · subst hc
      have hf : filt (s.got ++ 10 :: r) = filt (s.got ++ r) := by
        rw [filt_append, filt_append, show (10 : UInt8) :: r = [10] ++ r from rfl, filt_append, filt_feed, List.nil_append]
      cases hw : s.wait with
      | true =>
        have hg : Good s.got := by
          rcases h3 with h3 | h3
          · exact absurd h3 (h4 hw)
          · exact h3
        have e : nextP s (10 :: r) = (some s.got, { s.take with rest := r }) := by rw [nextP, if_pos rfl, if_pos hw]
        refine ⟨fun x s' e2 => ?_, fun s' e2 => ?_⟩
        · rw [e] at e2
          injection e2 with e2 e3
          injection e2 with e2
          subst e2; subst e3
          refine ⟨hg, by rw [hf, filt_append], ⟨rfl, ?_, .inl rfl, fun q => by cases q⟩, rfl⟩
          show 0 + 0 + r.length ≤ s.most
          omega
        · rw [e] at e2; injection e2 with e2; cases e2
      | false =>
        by_cases hg : 0 < s.got.length
        · refine key { s with wait := true } ?_ ⟨h1, ?_, h3, fun _ e => ?_⟩ hf
          · rw [nextP, if_pos rfl, if_neg (by rw [hw]; decide), if_pos hg]
          · show s.got.length + 1 + r.length ≤ s.most
            omega
          · have e : s.got = [] := e
            rw [e] at hg; simp at hg
        · refine key s ?_ ⟨h1, by omega, h3, h4⟩ hf
          rw [nextP, if_pos rfl, if_neg (by rw [hw]; decide), if_neg hg]
    · have hf : ∀ g : List UInt8, filt (g ++ c :: r) = filt (g ++ [c] ++ r) := fun g => by rw [List.append_assoc]; rfl
      cases hw : s.wait with
      | true =>
        have hg : Good s.got := by
          rcases h3 with h3 | h3
          · exact absurd h3 (h4 hw)
          · exact h3
        rw [hw] at h2
        have h2 : s.got.length + 1 + (r.length + 1) ≤ s.most := h2
        have a1 : ({ s with wait := false } : Sp).add 10 = { s with wait := false, got := s.got ++ [10] } := Sp.add_room (show s.got.length < s.most by omega)
        have a2 : ({ s with wait := false, got := s.got ++ [10] } : Sp).add c = { s with wait := false, got := s.got ++ [10] ++ [c] } := Sp.add_room (show (s.got ++ [10]).length < s.most by simp; omega)
        refine key { s with wait := false, got := s.got ++ [10] ++ [c] } ?_ ⟨h1, ?_, .inr (hg.snoc2 hc), fun q => by cases q⟩ ?_
        · rw [nextP, if_neg hc, if_pos hw, a1, a2]
        · show (s.got ++ [10] ++ [c]).length + 0 + r.length ≤ s.most
          simp
          omega
        · show _ = filt (s.got ++ [10] ++ [c] ++ r)
          rw [hf]
          simp only [filt_append, filt_feed, List.append_nil]
      | false =>
        have a1 : s.add c = { s with got := s.got ++ [c] } := Sp.add_room (by omega)
        refine key { s with got := s.got ++ [c] } ?_ ⟨h1, ?_, .inr ?_, fun q => ?_⟩ (hf _)
        · rw [nextP, if_neg hc, if_neg (by rw [hw]; decide), a1]
        · show (s.got ++ [c]).length + s.wait.toNat + r.length ≤ s.most
          simp
          omega
        · rcases h3 with h3 | h3
          · show Good (s.got ++ [c])
            rw [h3]; exact Good.one hc
          · exact h3.snoc hc
        · have q : s.wait = true := q
          rw [hw] at q; cases q

theorem drain_paras : ∀ (k : Nat) (s : Sp), POk s s.rest → s.size < k →
    (∀ x ∈ (drain [] k s).1, Good x) ∧ filt (s.got ++ s.rest) = filt (drain [] k s).1.flatten ++ filt (drain [] k s).2.got ∧ POk (drain [] k s).2 [] ∧ (drain [] k s).2.rest = []
  | 0, s, _, h => by omega
  | k + 1, s, h, hk => by
    have hn := nextP_ok s.rest s h
    cases e : nextP s s.rest with
    | mk o s' =>
      have e' : s.next [] = (o, s') := e
      cases o with
      | none =>
        obtain ⟨h1, h2, h3⟩ := hn.2 s' e
        rw [drain_none e' hk]
        exact ⟨(fun x hx => by cases hx), h1, h2, h3⟩
      | some x =>
        obtain ⟨h1, h2, h3, h4⟩ := hn.1 x s' e
        have hlt := (Sp.next_some e').2
        obtain ⟨g1, g2, g3, g4⟩ := drain_paras k s' h3 (by omega)
        rw [drain_some e' hk, drain_enough [] (k + 1) k s' (by omega) (by omega)]
        refine ⟨fun y hy => ?_, ?_, g3, g4⟩
        · rcases List.mem_cons.1 hy with rfl | hy
          · exact h1
          · exact g1 y hy
        · rw [h2]
          rw [h4, List.nil_append] at g2
          rw [g2, List.flatten_cons, filt_append, List.append_assoc]

theorem lasts_paras (s : Sp) (k : Nat) (h : POk s []) (hr : s.rest = []) (hk : s.size2 < k) : (∀ x ∈ lasts [] k s, Good x) ∧ filt (lasts [] k s).flatten = filt s.got := by
  have hn : s.next [] = (none, s) := by
    show nextP s s.rest = _
    rw [hr, nextP, ← hr]
  obtain ⟨h1, h2, h3, h4⟩ := h
  by_cases hg : s.got = []
  · have hl : s.last [] = (none, s) := by unfold Sp.last; rw [hn]; exact if_pos ⟨hg, h1⟩
    rw [lasts_none hl]
    exact ⟨(fun x hx => by cases hx), by rw [hg]; rfl⟩
  · have hl : s.last [] = (some s.got, s.take) := by unfold Sp.last; rw [hn]; exact if_neg (fun q => hg q.1)
    have hl2 : s.take.last [] = (none, s.take) := by
      have hz : s.take.next [] = (none, s.take) := Sp.next_zero [] (by unfold Sp.size Sp.take; rw [hr]; rfl)
      unfold Sp.last
      rw [hz]
      exact if_pos ⟨rfl, rfl⟩
    rw [lasts_some hl hk, lasts_none hl2]
    refine ⟨fun x hx => ?_, by simp⟩
    rw [List.mem_singleton.1 hx]
    rcases h3 with h3 | h3
    · exact absurd h3 hg
    · exact h3

theorem paras_all (m : Nat) (l : List UInt8) (hm : l.length ≤ m) (R : List (List UInt8))
    (hR : (drain [] (l.length + 1) ((Sp.init m).feed l)).1 ++ lasts [] (l.length + 2) (drain [] (l.length + 1) ((Sp.init m).feed l)).2 = R) : (∀ x ∈ R, Good x) ∧ filt R.flatten = filt l := by
  have h0 : POk ((Sp.init m).feed l) ((Sp.init m).feed l).rest := ⟨rfl, by simpa [Sp.init, Sp.feed] using hm, .inl rfl, fun q => by cases q⟩
  have hz : ((Sp.init m).feed l).size < l.length + 1 := by simp [Sp.size, Sp.init, Sp.feed]
  obtain ⟨g1, g2, g3, g4⟩ := drain_paras (l.length + 1) _ h0 hz
  have hs := drain_size [] (l.length + 1) ((Sp.init m).feed l)
  have h9 := (drain [] (l.length + 1) ((Sp.init m).feed l)).2.size_size2.2
  obtain ⟨k1, k2⟩ := lasts_paras _ (l.length + 2) g3 g4 (by omega)
  subst hR
  refine ⟨fun x hx => ?_, ?_⟩
  · rcases List.mem_append.1 hx with h | h
    · exact g1 x h
    · exact k1 x h
  · rw [List.flatten_append, filt_append, k2, ← g2]
    rfl

/-- no record is longer than may be -/
theorem Sp.add_le {s : Sp} {c : UInt8} (h : s.got.length ≤ s.most) : (s.add c).got.length ≤ s.most ∧ (s.add c).most = s.most := by
  unfold Sp.add
  split
  · exact ⟨by simp; omega, rfl⟩
  · exact ⟨h, rfl⟩
theorem nextP_most : ∀ (r : List UInt8) (s : Sp), s.got.length ≤ s.most → (nextP s r).2.most = s.most ∧ (nextP s r).2.got.length ≤ s.most ∧ ∀ x, (nextP s r).1 = some x → x.length ≤ s.most
  | [], s, h => ⟨rfl, h, fun x e => by cases e⟩
  | c :: r, s, h => by
    unfold nextP
    split
    · split
      · exact ⟨rfl, Nat.zero_le _, fun x e => by injection e with e; rw [← e]; exact h⟩
      · split
        · exact nextP_most r { s with wait := true } h
        · exact nextP_most r s h
    · split
      · have h1 : (({ s with wait := false } : Sp).add 10).got.length ≤ s.most ∧ (({ s with wait := false } : Sp).add 10).most = s.most := Sp.add_le (s := { s with wait := false }) h
        have h2 := Sp.add_le (s := ({ s with wait := false } : Sp).add 10) (c := c) (by rw [h1.2]; exact h1.1)
        have h3 := nextP_most r ((({ s with wait := false } : Sp).add 10).add c) (by rw [h2.2]; exact h2.1)
        rw [h2.2, h1.2] at h3
        exact h3
      · have h2 := Sp.add_le (c := c) h
        have h3 := nextP_most r (s.add c) (by rw [h2.2]; exact h2.1)
        rw [h2.2] at h3
        exact h3
theorem drain_most : ∀ (k : Nat) (s : Sp), s.got.length ≤ s.most → (drain [] k s).2.most = s.most ∧ (drain [] k s).2.got.length ≤ s.most ∧ ∀ x ∈ (drain [] k s).1, x.length ≤ s.most
  | 0, s, h => ⟨rfl, h, fun x e => by cases e⟩
  | k + 1, s, h => by
    have hn := nextP_most s.rest s h
    unfold drain
    split
    · rename_i s' e
      have e : nextP s s.rest = (none, s') := e
      rw [e] at hn
      exact ⟨hn.1, hn.2.1, fun x e => by cases e⟩
    · rename_i r s' e
      have e : nextP s s.rest = (some r, s') := e
      rw [e] at hn
      have h1 : s'.most = s.most := hn.1
      have h2 := drain_most k s' (by rw [h1]; exact hn.2.1)
      rw [h1] at h2
      refine ⟨h2.1, h2.2.1, fun x hx => ?_⟩
      rcases List.mem_cons.1 hx with rfl | hx
      · exact hn.2.2 x rfl
      · exact h2.2.2 x hx
theorem lasts_most : ∀ (k : Nat) (s : Sp), s.got.length ≤ s.most → ∀ x ∈ lasts [] k s, x.length ≤ s.most
  | 0, s, h => fun x e => by cases e
  | k + 1, s, h => by
    have hn := nextP_most s.rest s h
    cases e : nextP s s.rest with
    | mk o s' =>
      have e' : s.next [] = (o, s') := e
      rw [e] at hn
      have h1 : s'.most = s.most := hn.1
      have h2 : s'.got.length ≤ s.most := hn.2.1
      intro x hx
      cases o with
      | some r =>
        have hl : s.last [] = (some r, s') := by unfold Sp.last; rw [e']
        simp only [lasts, hl] at hx
        rcases List.mem_cons.1 hx with rfl | hx
        · exact hn.2.2 x rfl
        · have := lasts_most k s' (by rw [h1]; exact h2) x hx
          omega
      | none =>
        by_cases hi : s'.got = [] ∧ s'.over = false
        · have hl : s.last [] = (none, s') := by unfold Sp.last; rw [e']; exact if_pos hi
          simp only [lasts, hl] at hx
          cases hx
        · have hl : s.last [] = (some s'.got, s'.take) := by unfold Sp.last; rw [e']; exact if_neg hi
          simp only [lasts, hl] at hx
          rcases List.mem_cons.1 hx with rfl | hx
          · exact h2
          · have := lasts_most k s'.take (Nat.zero_le _) x hx
            have h3 : s'.take.most = s.most := h1
            omega
theorem paras_most (m : Nat) (l : List UInt8) (R : List (List UInt8))
    (hR : (drain [] (l.length + 1) ((Sp.init m).feed l)).1 ++ lasts [] (l.length + 2) (drain [] (l.length + 1) ((Sp.init m).feed l)).2 = R) : ∀ x ∈ R, x.length ≤ m := by
  have hd := drain_most (l.length + 1) ((Sp.init m).feed l) (Nat.zero_le _)
  have h0 : ((Sp.init m).feed l).most = m := rfl
  rw [h0] at hd
  have hl := lasts_most (l.length + 2) (drain [] (l.length + 1) ((Sp.init m).feed l)).2 (by rw [hd.1]; exact hd.2.1)
  rw [hd.1] at hl
  subst hR
  intro x hx
  rcases List.mem_append.1 hx with h | h
  · exact hd.2.2 x h
  · exact hl x h

end Go.Proofs.Ytkpckmdakiminaa
