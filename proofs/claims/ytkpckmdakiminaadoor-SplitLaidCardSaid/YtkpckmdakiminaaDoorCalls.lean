/-
  split's New, Next, Rest, Held, of any separator; a splitter as its user sees it.
-/
import Derived.Test.YtkpckmdakiminaaDoorNextP
namespace Go.Proofs.YtkpckmdakiminaaDoor
open Go.RowKit

theorem nextB_len (d : UInt8) : ∀ (r : List UInt8) (s : Sp), (nextB d s r).2.rest.length ≤ r.length
  | [], s => by simp [nextB]
  | c :: r, s => by
    unfold nextB
    split
    · simp
    · have := nextB_len d r (s.add c); simp; omega
theorem nextP_len : ∀ (r : List UInt8) (s : Sp), (nextP s r).2.rest.length ≤ r.length
  | [], s => by simp [nextP]
  | c :: r, s => by
    unfold nextP
    split
    · split
      · simp
      · split
        · have := nextP_len r { s with wait := true }; simp; omega
        · have := nextP_len r s; simp; omega
    · split
      · have := nextP_len r ((({ s with wait := false } : Sp).add 10).add c); simp; omega
      · have := nextP_len r (s.add c); simp; omega
theorem Sp.next_len (s : Sp) (rs : List UInt8) : (s.next rs).2.rest.length ≤ s.rest.length := by
  cases rs with
  | nil => exact nextP_len s.rest s
  | cons d t =>
    show (if s.wait = true then (if (10 : UInt8) = d then (some s.got, s.take) else nextB d (({ s with wait := false } : Sp).add 10) s.rest) else nextB d s s.rest).2.rest.length ≤ _
    split
    · split
      · exact Nat.le_refl _
      · exact nextB_len d s.rest _
    · exact nextB_len d s.rest s

theorem next_any (rs : List UInt8) (w : World) (base g : Nat) (R1 R2 : Option Nat) (s : Sp) (h : SpOk w base g R1 R2 s) (hbase : base ≤ w.heap.size) (hrl : s.rest.length ≤ 140737488355328) :
    Calls Tryd.prog 13 #[.pointer (some ⟨g, 0, none⟩), .string (bstr rs)] w (Nexted w base g R1 R2 (s.next rs)) := by
  cases rs with
  | nil => exact nextP_any _ w base g R1 R2 s h hbase hrl rfl
  | cons d t =>
    refine nextB_any (bstr (d :: t)) d (by rw [bstr_toList]; rfl) (fun W => ?_) _ w base g R1 R2 s h hbase hrl rfl
    have hz : (bstr (d :: t)).size = t.length + 1 := by show (d :: t).toArray.size = _; simp
    rw [run_index_string (h := Tryd.underlying9), dif_pos ⟨by decide, by rw [hz]; omega⟩]
    rfl

set_option maxRecDepth 100000 in
set_option maxHeartbeats 1000000 in
theorem rest_any (rs : List UInt8) (w : World) (base g : Nat) (R1 R2 : Option Nat) (s : Sp) (h : SpOk w base g R1 R2 s) (hbase : base ≤ w.heap.size) (hrl : s.rest.length ≤ 140737488355328) :
    Calls Tryd.prog 16 #[.pointer (some ⟨g, 0, none⟩), .string (bstr rs)] w (Nexted w base g R1 R2 (s.last rs)) := by
  have HN := Lib.hid (next_any rs w base g R1 R2 s h hbase hrl)
  clear h hrl
  obtain ⟨o, s1, hx⟩ : ∃ o s1, (o, s1) = s.next rs := ⟨_, _, rfl⟩
  have HX := Lib.hid hx
  rw [← hx] at HN
  clear hx
  go_enter Tryd.func16, Tryd.ntmps16
  go_wp2_with fail
  refine HN.out.mono ?_
  rintro e w1 ⟨rfl, hw1⟩
  cases o with
  | some r =>
    have hl : Hid (s.last rs = (some r, s1)) := by
      show _ = _
      unfold Sp.last
      rw [← HX.out]
    go_wp2_with fail
    go_ret2
    exact nexted_some hl.out hw1
  | none =>
    have hl0 : Hid (s.last rs = if s1.got = [] ∧ s1.over = false then (none, s1) else (some s1.got, s1.take)) := by
      show _ = _
      unfold Sp.last
      rw [← HX.out]
    obtain ⟨R1', R2', hs, hf, n1, n2⟩ := hw1
    obtain ⟨A, n, c, A2, n2', c2, hA, hA2, h1, h2, x0, x1, x2, x3, x4, hfz⟩ := hs.cells
    have hln : s1.got.length = n := h1.len
    have HS := Lib.hid hs
    clear hs hA hA2 h1 h2 x0 x3 x4 hfz
    by_cases hn : n = 0
    · subst hn
      have hg0 : s1.got = [] := List.length_eq_zero_iff.1 hln
      cases hov : s1.over with
      | false =>
        have hl : Hid (s.last rs = (none, s1)) := by have := hl0.out; rw [if_pos ⟨hg0, hov⟩] at this; exact this
        rw [hov] at x2
        clear hl0 hov hg0 hln
        go_wp2_with fail
        go_ret2
        exact nexted_none hl.out ⟨_, _, HS.out, hf, n1, n2⟩
      | true =>
        have hl : Hid (s.last rs = (some s1.got, s1.take)) := by have := hl0.out; rw [if_neg (by rw [hov]; simp)] at this; exact this
        rw [hov] at x2
        clear hl0 hov hg0 hln
        go_wp2_with fail
        refine (take_any w1 base g R1' R2' s1 HS.out).mono ?_
        rintro e w2 ⟨rfl, hw2⟩
        go_wp2_with fail
        go_ret2
        exact nexted_some hl.out (Went.comp hf n1 n2 hw2)
    · have hne : ((n : Int) == 0) = false := beq_eq_false_iff_ne.2 (by omega)
      have hl : Hid (s.last rs = (some s1.got, s1.take)) := by
        have := hl0.out
        rw [if_neg (fun q => hn (by rw [← hln, q.1]; rfl))] at this
        exact this
      clear hl0 hln
      go_wp2_with fail
      refine (take_any w1 base g R1' R2' s1 HS.out).mono ?_
      rintro e w2 ⟨rfl, hw2⟩
      go_wp2_with fail
      go_ret2
      exact nexted_some hl.out (Went.comp hf n1 n2 hw2)

set_option maxRecDepth 100000 in
theorem held_any (w : World) (base g : Nat) (R1 R2 : Option Nat) (s : Sp) (h : SpOk w base g R1 R2 s) :
    Calls Tryd.prog 22 #[.pointer (some ⟨g, 0, none⟩)] w fun e w' => e = .returned (.int .i64 (s.got.length : Int)) ∧ w' = w := by
  obtain ⟨A, n, c, A2, n2', c2, hA, hA2, h1, h2, x0, x1, x2, x3, x4, hfz⟩ := h.cells
  have hln := h1.len
  clear h hA hA2 h1 h2 x0 x2 x3 x4 hfz
  rw [hln]
  clear hln
  go_enter Tryd.func22, Tryd.ntmps22
  go_wp2_with fail
  go_ret
  exact ⟨rfl, rfl⟩

set_option maxRecDepth 100000 in
theorem new_any (m : Nat) (h1 : 1 ≤ m) (h2 : m ≤ 200) (w : World) :
    Calls Tryd.prog 11 #[.int .i64 (m : Int)] w fun e w' => ∃ g, e = .returned (.tuple #[.pointer (some ⟨g, 0, none⟩), .int .i64 0]) ∧ SpOk w' w.heap.size g none none (Sp.init m) ∧ Below w.heap.size w w' := by
  have q1 : ¬ (m : Int) < 1 := by omega
  have q2 : ¬ (200 : Int) < (m : Int) := by omega
  go_enter Tryd.func11, Tryd.ntmps11
  go_wp2_with fail
  go_ret2
  refine ⟨_, rfl, ⟨Nat.le_refl _, (fun k hk => by cases hk), Nat.zero_le _, h2, none, 0, 0, none, 0, 0, rfl, rfl, Blk.new w _ _, OwnM.nil, OwnM.nil⟩, (Below.refl _ _).alloc (Nat.le_refl _) _⟩
set_option maxRecDepth 100000 in
theorem new_bad (w : World) (m : Int) (hm : m < 1 ∨ 200 < m) (h0 : 0 ≤ m) (h9 : m ≤ 1000) :
    Calls Tryd.prog 11 #[.int .i64 m] w fun e w' => e = .returned (.tuple #[.pointer none, .int .i64 1]) ∧ w' = w := by
  by_cases q1 : m < 1
  · go_enter Tryd.func11, Tryd.ntmps11
    go_wp2_with fail
    go_ret2
    exact ⟨rfl, rfl⟩
  · have q2 : 200 < m := by omega
    go_enter Tryd.func11, Tryd.ntmps11
    go_wp2_with fail
    go_ret2
    exact ⟨rfl, rfl⟩

/-- a splitter as its user sees it -/
def Sps (B : Nat) (w0 w : World) (g : Nat) (s : Sp) : Prop := B ≤ w.heap.size ∧ Below B w0 w ∧ ∃ R1 R2, SpOk w B g R1 R2 s
theorem Sps.went {B : Nat} {w0 w w' : World} {g : Nat} {R1 R2 : Option Nat} {s s' : Sp} (hb : Below B w0 w) (hB : B ≤ w.heap.size) (h : SpOk w B g R1 R2 s) (hw : Went w B g R1 R2 s' w') : Sps B w0 w' g s' := by
  have hb2 := hw.below h (Nat.le_refl _) hB
  obtain ⟨R1', R2', hs, hf, _⟩ := hw
  exact ⟨Nat.le_trans hB hf.size, hb.trans hb2, R1', R2', hs⟩
theorem Sps.below {B : Nat} {w0 w w' : World} {g : Nat} {s : Sp} (h : Sps B w0 w g s) (hb : Below w.heap.size w w') : Sps B w0 w' g s := by
  obtain ⟨hB, hb0, R1, R2, hs⟩ := h
  exact ⟨Nat.le_trans hB hb.size, hb0.trans (hb.mono hB), R1, R2, hs.below hb (Nat.le_refl _)⟩
theorem sp_some {B : Nat} {w0 w : World} {g : Nat} {s : Sp} (h : Sps B w0 w g s) (hrl : s.rest.length ≤ 140737488355328) (rs r : List UInt8) (s' : Sp) (hx : s.next rs = (some r, s')) :
    Calls Tryd.prog 13 #[.pointer (some ⟨g, 0, none⟩), .string (bstr rs)] w fun e w' => e = .returned (.tuple #[.string (bstr r), .bool true]) ∧ Sps B w0 w' g s' := by
  obtain ⟨hB, hb, R1, R2, hs⟩ := h
  have hc := next_any rs w B g R1 R2 s hs hB hrl
  rw [hx] at hc
  exact hc.mono fun e w' ⟨he, hw⟩ => ⟨he, Sps.went hb hB hs hw⟩
theorem sp_none {B : Nat} {w0 w : World} {g : Nat} {s : Sp} (h : Sps B w0 w g s) (hrl : s.rest.length ≤ 140737488355328) (rs : List UInt8) (s' : Sp) (hx : s.next rs = (none, s')) :
    Calls Tryd.prog 13 #[.pointer (some ⟨g, 0, none⟩), .string (bstr rs)] w fun e w' => e = .returned (.tuple #[.string ⟨#[]⟩, .bool false]) ∧ Sps B w0 w' g s' := by
  obtain ⟨hB, hb, R1, R2, hs⟩ := h
  have hc := next_any rs w B g R1 R2 s hs hB hrl
  rw [hx] at hc
  exact hc.mono fun e w' ⟨he, hw⟩ => ⟨he, Sps.went hb hB hs hw⟩
theorem sp_last_some {B : Nat} {w0 w : World} {g : Nat} {s : Sp} (h : Sps B w0 w g s) (hrl : s.rest.length ≤ 140737488355328) (rs r : List UInt8) (s' : Sp) (hx : s.last rs = (some r, s')) :
    Calls Tryd.prog 16 #[.pointer (some ⟨g, 0, none⟩), .string (bstr rs)] w fun e w' => e = .returned (.tuple #[.string (bstr r), .bool true]) ∧ Sps B w0 w' g s' := by
  obtain ⟨hB, hb, R1, R2, hs⟩ := h
  have hc := rest_any rs w B g R1 R2 s hs hB hrl
  rw [hx] at hc
  exact hc.mono fun e w' ⟨he, hw⟩ => ⟨he, Sps.went hb hB hs hw⟩
theorem sp_last_none {B : Nat} {w0 w : World} {g : Nat} {s : Sp} (h : Sps B w0 w g s) (hrl : s.rest.length ≤ 140737488355328) (rs : List UInt8) (s' : Sp) (hx : s.last rs = (none, s')) :
    Calls Tryd.prog 16 #[.pointer (some ⟨g, 0, none⟩), .string (bstr rs)] w fun e w' => e = .returned (.tuple #[.string ⟨#[]⟩, .bool false]) ∧ Sps B w0 w' g s' := by
  obtain ⟨hB, hb, R1, R2, hs⟩ := h
  have hc := rest_any rs w B g R1 R2 s hs hB hrl
  rw [hx] at hc
  exact hc.mono fun e w' ⟨he, hw⟩ => ⟨he, Sps.went hb hB hs hw⟩
theorem sp_feed {B : Nat} {w0 w : World} {g : Nat} {s : Sp} (h : Sps B w0 w g s) (A3 : Option Addr) (n3 c3 : Nat) (b : List UInt8) (B3 : Nat) (hr : RdB w B3 A3 n3 b) (hn : s.rest.length + n3 ≤ 140737488355328) :
    Calls Tryd.prog 12 #[.pointer (some ⟨g, 0, none⟩), .slice A3 n3 c3] w fun e w' => e = .returned (.tuple #[]) ∧ Sps B w0 w' g (s.feed b) := by
  obtain ⟨hB, hb, R1, R2, hs⟩ := h
  exact (feed_any A3 n3 c3 b B3 w B g R1 R2 s hs hB hr hn).mono fun e w' ⟨he, hw⟩ => ⟨he, Sps.went hb hB hs hw⟩

end Go.Proofs.YtkpckmdakiminaaDoor
