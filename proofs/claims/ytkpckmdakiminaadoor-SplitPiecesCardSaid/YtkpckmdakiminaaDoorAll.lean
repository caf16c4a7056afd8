/-
  The contract of law 7's all, of bytes that come in one piece.
-/
import Derived.Test.YtkpckmdakiminaaDoorCalls
import Derived.Test.YtkpckmdakiminaaDoorAllLaw
import Derived.Test.YtkpckmdakiminaaDoorStrs
namespace Go.Proofs.YtkpckmdakiminaaDoor
open Go.RowKit

/-- strings of the call's own lie in no block of a splitter -/
theorem OwnS.apart {w : World} {b base n c g : Nat} {A : Option Addr} {ss : List (List UInt8)} {R1 R2 : Option Nat} {s : Sp} (h : OwnS w b A n c ss) (hs : SpOk w base g R1 R2 s) : ∀ k, SpIn g R1 R2 k → ob A ≠ some k := by
  obtain ⟨_, _, _, _, A1, n1, c1, A2, n2, c2, rfl, rfl, hblk, h1, h2⟩ := hs
  rintro k (rfl | e | e)
  · exact h.ne_blk hblk (by decide)
  · rcases h1.2 with ⟨hv, _⟩ | ⟨g', cap, cur, hv, _, hb, _⟩
    · injection hv with hv
      subst hv
      cases e
    · injection hv with hv
      subst hv
      injection e with e
      subst e
      exact h.ne_blk (show Blk w g' 5 cur from hb) (by decide)
  · rcases h2.2 with ⟨rfl, _⟩ | ⟨g', off, cur, rfl, _, hb, _⟩
    · cases e
    · injection e with e
      subst e
      exact h.ne_blk hb (by decide)

/-- a splitter and strings of the call's own -/
def All (B : Nat) (w wr : World) (g : Nat) (s : Sp) (A : Option Addr) (n c : Nat) (ss : List (List UInt8)) : Prop :=
  B ≤ wr.heap.size ∧ Below B w wr ∧ OwnS wr B A n c ss ∧ ∃ R1 R2, SpOk wr B g R1 R2 s
section
variable {B : Nat} {w wr w' : World} {g n c : Nat} {s s' : Sp} {A : Option Addr} {ss : List (List UInt8)}
theorem All.went {R1 R2 : Option Nat} (h1 : B ≤ wr.heap.size) (h2 : Below B w wr) (h3 : OwnS wr B A n c ss) (hs : SpOk wr B g R1 R2 s) (hw : Went wr B g R1 R2 s' w') : All B w w' g s' A n c ss := by
  have hb2 := hw.below hs (Nat.le_refl _) h1
  obtain ⟨R1', R2', hs', hf, _⟩ := hw
  exact ⟨Nat.le_trans h1 hf.size, h2.trans hb2, h3.fr hf (fun k hk hin => h3.apart hs k hin hk), R1', R2', hs'⟩
theorem All.feed_ (h : All B w wr g s A n c ss) (A3 : Option Addr) (n3 c3 : Nat) (b : List UInt8) (B3 : Nat) (hr : RdB wr B3 A3 n3 b) (hn : s.rest.length + n3 ≤ 140737488355328) :
    Calls Tryd.prog 12 #[.pointer (some ⟨g, 0, none⟩), .slice A3 n3 c3] wr fun e w' => e = .returned (.tuple #[]) ∧ All B w w' g (s.feed b) A n c ss := by
  obtain ⟨h1, h2, h3, R1, R2, hs⟩ := h
  exact (feed_any A3 n3 c3 b B3 wr B g R1 R2 s hs h1 hr hn).mono fun e w' ⟨he, hw⟩ => ⟨he, All.went h1 h2 h3 hs hw⟩
theorem All.next_ (h : All B w wr g s A n c ss) (hrl : s.rest.length ≤ 140737488355328) (rs : List UInt8) (x : Option (List UInt8)) (s' : Sp) (hx : s.next rs = (x, s')) :
    Calls Tryd.prog 13 #[.pointer (some ⟨g, 0, none⟩), .string (bstr rs)] wr fun e w' => e = .returned (.tuple #[.string (bstr (x.getD [])), .bool x.isSome]) ∧ All B w w' g s' A n c ss := by
  obtain ⟨h1, h2, h3, R1, R2, hs⟩ := h
  have hc := next_any rs wr B g R1 R2 s hs h1 hrl
  rw [hx] at hc
  exact hc.mono fun e w' ⟨he, hw⟩ => ⟨he, All.went h1 h2 h3 hs hw⟩
theorem All.last_ (h : All B w wr g s A n c ss) (hrl : s.rest.length ≤ 140737488355328) (rs : List UInt8) (x : Option (List UInt8)) (s' : Sp) (hx : s.last rs = (x, s')) :
    Calls Tryd.prog 16 #[.pointer (some ⟨g, 0, none⟩), .string (bstr rs)] wr fun e w' => e = .returned (.tuple #[.string (bstr (x.getD [])), .bool x.isSome]) ∧ All B w w' g s' A n c ss := by
  obtain ⟨h1, h2, h3, R1, R2, hs⟩ := h
  have hc := rest_any rs wr B g R1 R2 s hs h1 hrl
  rw [hx] at hc
  exact hc.mono fun e w' ⟨he, hw⟩ => ⟨he, All.went h1 h2 h3 hs hw⟩
theorem All.grown {A' : Option Addr} {n' c' : Nat} {ss' : List (List UInt8)} {o : Obj} (h : All B w wr g s A n c ss) (ho : OwnS w' B A' n' c' ss') (hg : (wr.alloc o).grownBy w' (ob A)) : All B w w' g s A' n' c' ss' := by
  obtain ⟨h1, h2, h3, R1, R2, hs⟩ := h
  have hz := hg.size
  simp only [World.size_alloc] at hz
  refine ⟨by omega, (h2.alloc h1 _).grown hg (by simp; omega) (fun k hk => (h3.lt k hk).1), ho, R1, R2, ?_⟩
  have hs1 : SpOk (wr.alloc o) B g R1 R2 s := hs.below ((Below.refl _ _).alloc (Nat.le_refl _) _) (Nat.le_refl _)
  exact hs1.fr (Fr.of_grown hg) (fun k hk e => (h3.alloc o).apart hs1 k hk e)
end
def sliceLen : Value → Nat | .slice _ n _ => n | _ => 0
theorem Sp.rest_size (s : Sp) : s.rest.length ≤ s.size := Nat.le_add_right _ _


/-- all the records of bytes that come in one piece -/
def recsOf (rs : List UInt8) (m : Nat) (l : List UInt8) : List (List UInt8) :=
  (drain rs (l.length + 1) ((Sp.init m).feed l)).1 ++ lasts rs (l.length + 2) (drain rs (l.length + 1) ((Sp.init m).feed l)).2

set_option maxRecDepth 100000 in
set_option maxHeartbeats 2000000 in
theorem all_any (m : Nat) (hm1 : 1 ≤ m) (hm2 : m ≤ 200) (A : Option Addr) (n c : Nat) (l rs : List UInt8) (w : World) (hr : RdB w w.heap.size A n l) (hc : n ≤ c) (hn : n ≤ 100000) :
    Calls Tryd.prog 8 #[.int .i64 (m : Int), .slice A n c, .slice none 0 0, .string (bstr rs), .bool true] w fun e w' =>
      ∃ A' n' c', e = .returned (.tuple #[.slice A' n' c', .bool true]) ∧ OwnS w' w.heap.size A' n' c' (recsOf rs m l) ∧ n' ≤ n + 1 ∧ Below w.heap.size w w' := by
  have hl := hr.len
  obtain ⟨A2, hsl, hrd⟩ := slice_l A n c n (Nat.le_refl _) hc
  obtain ⟨N, hN⟩ : ∃ N, Hid (N = n) := ⟨n, rfl⟩
  have hN9 : N ≤ 100000 := by rw [hN.out]; exact hn
  have hl : l.length = N := by rw [hN.out]; exact hl
  obtain ⟨D, dr⟩ : ∃ D, Hid (drain rs (N + 1) ((Sp.init m).feed l) = D) := ⟨_, rfl⟩
  obtain ⟨T, tt⟩ : ∃ T, Hid (recsOf rs m l = T) := ⟨_, rfl⟩
  have hT : Hid (D.1 ++ lasts rs (N + 2) D.2 = T) := by
    have := tt.out
    unfold recsOf at this
    rw [hl, dr.out] at this
    exact this
  rw [tt.out]
  clear tt hrd
  have HL := Lib.hid hl
  clear hl
  go_enter Tryd.func8, Tryd.ntmps8
  go_wp2_with fail
  refine (new_any m hm1 hm2 w).mono ?_
  rintro e w1 ⟨g, rfl, hs1, hb1⟩
  have H1 : All w.heap.size w w1 g (Sp.init m) none 0 0 [] := ⟨hb1.size, hb1, OwnS.nil, _, _, hs1⟩
  clear hs1
  go_wp2_with fail
  go_loopw [1, 14, 15] (fun v1 v14 v15 wr => (v1 = .slice A n c ∧ v14 = .slice none 0 0 ∧ v15 = .int .i64 0 ∧ All w.heap.size w wr g (Sp.init m) none 0 0 []) ∨
    (∃ A' c' Ao no co, v1 = .slice A' 0 c' ∧ v14 = .slice Ao no co ∧ v15 = .int .i64 1 ∧ All w.heap.size w wr g D.2 Ao no co D.1 ∧ no + D.2.size ≤ N)) (fun _ _ i _ => 1 - (intOf i).toNat)
  case atStart => exact .inl ⟨rfl, rfl, rfl, H1⟩
  case round =>
    rcases hrel with ⟨rfl, rfl, rfl, HA⟩ | ⟨A', c', Ao, no, co, rfl, rfl, rfl, HA, hno⟩
    · have HF := Lib.hid (HA.feed_ A n c l w.heap.size (hr.below HA.2.1) (by show 0 + n ≤ _; omega))
      clear HA
      clear hr
      have h02 : n = 0 ∨ 0 < n := Nat.eq_zero_or_pos n
      rcases h02 with rfl | h01
      all_goals
        go_wp2_with fail
        refine HF.out.mono ?_
        rintro e w2 ⟨rfl, HA2⟩
        go_wp2_with fail
        go_loopw [14] (fun v wr => ∃ s ss Ao no co, v = .slice Ao no co ∧ All w.heap.size w wr g s Ao no co ss ∧ Hid (ss ++ (drain rs (N + 1) s).1 = D.1 ∧ (drain rs (N + 1) s).2 = D.2) ∧ no + s.size ≤ N) (fun v _ => N - sliceLen v)
        case atStart => exact ⟨_, _, _, _, _, rfl, HA2, ⟨by rw [dr.out]; rfl, by rw [dr.out]⟩, by rw [Nat.zero_add, ← HL.out]; simp [Sp.size, Sp.feed, Sp.init]⟩
        case round =>
          obtain ⟨s, ss, Ao, no, co, rfl, HB, hinv, hno⟩ := hrel
          have hrz := s.rest_size
          cases hx : s.next rs with
          | mk x s' =>
            cases x with
            | none =>
              have hle := (Sp.next_none hx).2
              have HN := HB.next_ (by omega) rs _ _ hx
              have hd := drain_none hx (k := N + 1) (by omega)
              have hfin : Hid (D = (ss, s')) := by
                have := hinv.out
                rw [hd] at this
                obtain ⟨e1, e2⟩ := this
                rw [List.append_nil] at e1
                show _ = _
                rw [e1, show s' = D.2 from e2]
              have HNh := Lib.hid HN
              clear HN hx hd hinv
              go_wp2_with fail
              refine HNh.out.mono ?_
              rintro e w3 ⟨rfl, HC⟩
              go_wp2_with fail
              go_roundw
              case rel =>
                refine .inr ⟨_, _, Ao, no, co, (by first | rfl | rw [Nat.sub_self]), rfl, rfl, ?_, ?_⟩
                · rw [hfin.out]; exact HC
                · rw [hfin.out]; show no + s'.size ≤ N; omega
              case measure => simp [intOf]
            | some r =>
              have hlt := (Sp.next_some hx).2
              have HN := HB.next_ (by omega) rs _ _ hx
              have hd := drain_some hx (k := N + 1) (by omega)
              have hinv2 : Hid ((ss ++ [r]) ++ (drain rs (N + 1) s').1 = D.1 ∧ (drain rs (N + 1) s').2 = D.2) := by
                have := hinv.out
                rw [hd] at this
                exact ⟨by rw [List.append_assoc]; exact this.1, this.2⟩
              have HNh := Lib.hid HN
              clear HN hx hd hinv
              go_wp2_with fail
              refine HNh.out.mono ?_
              rintro e w3 ⟨rfl, HC⟩
              have hB3 := HC.1
              go_wp2_with (at_builtin; go_loud (refine wpList_append_s _ rfl (.tmp 71) (.tmp 73) rfl w.heap.size Ao no co ss rfl (HC.2.2.1.alloc _) r _ _ rfl (reads_s w3 r _) (by omega) (by simp; omega) ?_); intro A9 n9 c9 w4 hn9 hown9 hg9)
              go_roundw
              case rel => exact ⟨s', ss ++ [r], A9, n9, c9, by rw [hn9], HC.grown hown9 hg9, hinv2, by omega⟩
              case measure => simp [sliceLen]; omega
    · go_wp2_with fail
      go_loopw [14] (fun v wr => ∃ s ss Ao no co, v = .slice Ao no co ∧ All w.heap.size w wr g s Ao no co ss ∧ Hid (ss ++ lasts rs (N + 2) s = T) ∧ no + s.size2 ≤ N + 1) (fun v _ => N + 1 - sliceLen v)
      case atStart => exact ⟨_, _, _, _, _, rfl, HA, hT, by have := D.2.size_size2.2; omega⟩
      case round =>
        obtain ⟨s, ss, Ao, no, co, rfl, HB, hinv, hno⟩ := hrel
        have hrz := s.rest_size
        have hrz2 := s.size_size2.1
        cases hx : s.last rs with
        | mk x s' =>
          cases x with
          | none =>
            have HN := HB.last_ (by omega) rs _ _ hx
            have hfin : Hid (T = ss) := by
              have := hinv.out
              rw [lasts_none hx, List.append_nil] at this
              exact this.symm
            have HNh := Lib.hid HN
            clear HN hx hinv
            go_wp2_with fail
            refine HNh.out.mono ?_
            rintro e w3 ⟨rfl, HC⟩
            go_wp2_with fail
            go_ret2
            refine ⟨Ao, no, co, rfl, ?_, by have := hN.out; omega, HC.2.1⟩
            rw [hfin.out]; exact HC.2.2.1
          | some r =>
            have hlt := (Sp.last_some hx).2
            have HN := HB.last_ (by omega) rs _ _ hx
            have hinv2 : Hid ((ss ++ [r]) ++ lasts rs (N + 2) s' = T) := by
              have := hinv.out
              rw [lasts_some hx (by omega)] at this
              show _ = _
              rw [List.append_assoc]; exact this
            have HNh := Lib.hid HN
            clear HN hx hinv
            go_wp2_with fail
            refine HNh.out.mono ?_
            rintro e w3 ⟨rfl, HC⟩
            have hB3 := HC.1
            go_wp2_with (at_builtin; go_loud (refine wpList_append_s _ rfl (.tmp 84) (.tmp 86) rfl w.heap.size Ao no co ss rfl (HC.2.2.1.alloc _) r _ _ rfl (reads_s w3 r _) (by omega) (by simp; omega) ?_); intro A9 n9 c9 w4 hn9 hown9 hg9)
            go_roundw
            case rel => exact ⟨s', ss ++ [r], A9, n9, c9, by rw [hn9], HC.grown hown9 hg9, hinv2, by omega⟩
            case measure => simp [sliceLen]; omega

end Go.Proofs.YtkpckmdakiminaaDoor
