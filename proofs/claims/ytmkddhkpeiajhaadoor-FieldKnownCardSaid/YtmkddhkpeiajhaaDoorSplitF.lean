/-
  Package field's Plain and Split at blanks, at a byte, of no text.
-/
import Derived.Test.YtmkddhkpeiajhaaDoorField
import Derived.Test.YtmkddhkpeiajhaaDoorWords
namespace Go.Proofs.YtmkddhkpeiajhaaDoor
open Go.RowKit

theorem RetSs.own {w w' : World} {A : Option Addr} {n c : Nat} {ss : List (List UInt8)} (h : OwnZ w' w.heap.size A n c ss) (hl : Later w w') : RetSs w ss (.slice A n c) w' := ⟨A, n, c, rfl, h.rd, hl⟩

/-- strings of the call's own that a function leaves -/
def RetZ (w : World) (ss : List (List UInt8)) (v : Value) (w' : World) : Prop := ∃ A n c, v = .slice A n c ∧ OwnZ w' w.heap.size A n c ss ∧ Later w w'
theorem RetZ.ss {w w' : World} {ss : List (List UInt8)} {v : Value} (h : RetZ w ss v w') : RetSs w ss v w' := by
  obtain ⟨A, n, c, rfl, h1, h2⟩ := h
  exact RetSs.own h1 h2

set_option maxRecDepth 100000 in
set_option maxHeartbeats 4000000 in
theorem plain_wordz (L : List UInt8) (w : World) (hL : L.length ≤ 1000000) (hn : L ≠ []) :
    Calls Tryd.prog 18 #[.string (bstr L), .string (bstr [32])] w fun e w' => ∃ v, e = .returned (.tuple #[v, .bool true]) ∧ RetZ w (wordsF L) v w' := by
  have hwd := fun (wx : World) => words_any L hL wx
  have e1 : (bstr L).toList.isEmpty = false := by rw [bstr_toList]; cases L with | nil => exact absurd rfl hn | cons _ _ => rfl
  have e2 : ((bstr [32]).toList == [32]) = true := by rw [bstr_toList]; rfl
  obtain ⟨S, hS⟩ : ∃ S, S = bstr L := ⟨_, rfl⟩
  obtain ⟨T, hT⟩ : ∃ T, T = bstr [32] := ⟨_, rfl⟩
  rw [← hS] at hwd e1 ⊢
  rw [← hT] at e2 ⊢
  have HWD := Lib.hid hwd
  clear hS hT hwd hn
  go_enter Tryd.func18, Tryd.ntmps18
  go_wp2_with fail
  refine (HWD.out _).mono ?_
  rintro e w1 ⟨A, n, c, rfl, hv, hl⟩
  have HV := Lib.hid hv
  have HL := Lib.hid hl
  clear hv hl
  go_wp2_with fail
  go_ret2
  exact ⟨_, rfl, _, _, _, rfl, HV.out, HL.out⟩
theorem plain_words (L : List UInt8) (w : World) (hL : L.length ≤ 1000000) (hn : L ≠ []) :
    Calls Tryd.prog 18 #[.string (bstr L), .string (bstr [32])] w fun e w' => ∃ v, e = .returned (.tuple #[v, .bool true]) ∧ RetSs w (wordsF L) v w' :=
  (plain_wordz L w hL hn).mono fun _ _ ⟨v, h1, h2⟩ => ⟨v, h1, h2.ss⟩

set_option maxRecDepth 100000 in
set_option maxHeartbeats 4000000 in
theorem plain_nil (T : ByteArray) (w : World) :
    Calls Tryd.prog 18 #[.string ⟨#[]⟩, .string T] w fun e w' => e = .returned (.tuple #[.slice none 0 0, .bool true]) ∧ Later w w' := by
  go_enter Tryd.func18, Tryd.ntmps18
  go_wp2_with fail
  go_ret2
  exact ⟨rfl, Later.refl _⟩

set_option maxRecDepth 100000 in
set_option maxHeartbeats 4000000 in
/-- Split, where Plain answers -/
theorem fsplit_plain (S T : ByteArray) (Q : World → Value → World → Prop) (w : World)
    (hp : ∀ wx, Later w wx → Calls Tryd.prog 18 #[.string S, .string T] wx fun e w' => ∃ v, e = .returned (.tuple #[v, .bool true]) ∧ Q wx v w') :
    Calls Tryd.prog 6 #[.string S, .string T] w fun e w' => ∃ v, e = .returned (.tuple #[v, .int .i64 0]) ∧ Q w v w' := by
  have HP := Lib.hid hp
  clear hp
  go_enter Tryd.func6, Tryd.ntmps6
  go_wp2_with fail
  refine (HP.out _ (Later.refl _)).mono ?_
  rintro e w1 ⟨v, rfl, hv⟩
  have HV := Lib.hid hv
  clear hv
  go_wp2_with fail
  go_ret2
  exact ⟨v, rfl, HV.out⟩
theorem fsplit_at (c : UInt8) (L : List UInt8) (w : World) (hm : MaxL w) (hL : L.length ≤ 1000000) (hn : L ≠ []) (h32 : c ≠ 32) (h92 : c ≠ 92) :
    Calls Tryd.prog 6 #[.string (bstr L), .string (bstr [c])] w fun e w' => ∃ v, e = .returned (.tuple #[v, .int .i64 0]) ∧ RetSs w (piecesC c L) v w' :=
  fsplit_plain _ _ (fun a v b => RetSs a (piecesC c L) v b) w fun wx hx => plain_at c L wx (hm.later hx) hL hn h32 h92
theorem fsplit_words (L : List UInt8) (w : World) (hL : L.length ≤ 1000000) (hn : L ≠ []) :
    Calls Tryd.prog 6 #[.string (bstr L), .string (bstr [32])] w fun e w' => ∃ v, e = .returned (.tuple #[v, .int .i64 0]) ∧ RetSs w (wordsF L) v w' :=
  fsplit_plain _ _ (fun a v b => RetSs a (wordsF L) v b) w fun wx _ => plain_words L wx hL hn
theorem fsplit_wordz (L : List UInt8) (w : World) (hL : L.length ≤ 1000000) :
    Calls Tryd.prog 6 #[.string (bstr L), .string (bstr [32])] w fun e w' => ∃ v, e = .returned (.tuple #[v, .int .i64 0]) ∧ RetZ w (wordsF L) v w' :=
  fsplit_plain _ _ (fun a v b => RetZ a (wordsF L) v b) w fun wx _ => by
    by_cases hn : L = []
    · subst hn
      exact (plain_nil (bstr [32]) wx).mono fun _ w' ⟨he, hl⟩ => ⟨_, he, none, 0, 0, rfl, OwnZ.nil, hl⟩
    · exact plain_wordz L wx hL hn
theorem fsplit_nil (T : ByteArray) (w : World) :
    Calls Tryd.prog 6 #[.string ⟨#[]⟩, .string T] w fun e w' => ∃ v, e = .returned (.tuple #[v, .int .i64 0]) ∧ RetSs w [] v w' :=
  fsplit_plain _ _ (fun a v b => RetSs a [] v b) w fun wx _ => (plain_nil T wx).mono fun _ w' ⟨he, hl⟩ => ⟨_, he, none, 0, 0, rfl, ⟨rfl, fun h => absurd h (by omega)⟩, hl⟩

end Go.Proofs.YtmkddhkpeiajhaaDoor
