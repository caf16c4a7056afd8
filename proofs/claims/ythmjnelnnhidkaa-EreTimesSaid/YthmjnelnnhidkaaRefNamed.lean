import Derived.Test.YthmjnelnnhidkaaPacked
import Derived.LoopTactic
import Derived.Deep.CutBlock
import Derived.Deep.DeepCutAuto
import Derived.Test.YthmjnelnnhidkaaBoolRow
/-
  The document's classes: in, is, Named.
-/
namespace Go.Proofs.Ythmjnelnnhidkaa
open Go.RowKit

/-- pairs, as cells -/
def pairsC (l : List (Nat × Nat)) : List Value := l.flatMap fun x => [.int .i64 (x.1 : Int), .int .i64 (x.2 : Int)]
theorem pairsC_get : ∀ (l : List (Nat × Nat)) (k : Nat) (x : Nat × Nat), l[k]? = some x → (pairsC l)[2 * k]? = some (.int .i64 (x.1 : Int)) ∧ (pairsC l)[2 * k + 1]? = some (.int .i64 (x.2 : Int))
  | [], k, x, h => by simp at h
  | y :: l, 0, x, h => by
    injection h with h
    subst h
    exact ⟨rfl, rfl⟩
  | y :: l, k + 1, x, h => by
    have := pairsC_get l k x (by simpa using h)
    have e : pairsC (y :: l) = .int .i64 (y.1 : Int) :: .int .i64 (y.2 : Int) :: pairsC l := rfl
    rw [e, show 2 * (k + 1) = 2 * k + 1 + 1 by omega]
    exact this
def inP (b : Nat) (x : Nat × Nat) : Bool := decide (x.1 ≤ b) && decide (b ≤ x.2)

theorem in_any (b : Nat) (hb : b < 256) (l : List (Nat × Nat)) (n g : Nat) (hl : l.length ≤ 1000) (hn : n = 2 * l.length) (w : World) (h : Blk w g 3 (pairsC l).toArray) :
    Calls Try.prog 99 #[.int .i64 (b : Int), .slice (some ⟨g, 0, none⟩) n n] w fun e w' => e = .returned (.bool (l.any (inP b))) ∧ w = w' := by
  have hb1 : (b : Int) ≤ 255 := by omega
  have HN := Lib.hid hn
  have hn2 : n ≤ 2000 := by omega
  clear hn
  go_enter Try.func99, Try.ntmps99
  go_wp2
  go_loop [5] (fun i => ∃ k j : Nat, k ≤ l.length ∧ Hid (j = 2 * k) ∧ i = .int .i64 (j : Int) ∧ Hid ((l.take k).any (inP b) = false)) (fun i => n + 1 - (intOf i).toNat)
  case atStart => exact ⟨0, 0, by omega, rfl, rfl, rfl⟩
  case round =>
    obtain ⟨k, j, hk, HJ, rfl, HA⟩ := hrel
    by_cases hlt : k < l.length
    · obtain ⟨x, hx⟩ : ∃ x, l[k]? = some x := ⟨_, List.getElem?_eq_getElem hlt⟩
      obtain ⟨c1, c2⟩ := pairsC_get l k x hx
      have hnx : (l.take (k + 1)).any (inP b) = inP b x := by
        obtain ⟨hkl, e⟩ := List.getElem?_eq_some_iff.1 hx
        rw [List.take_succ_eq_append_getElem hkl, List.any_append, HA.out, e]
        simp
      have hj1 : (j : Int) + 1 < (n : Int) := by have := HN.out; have := HJ.out; omega
      have d1 : w.cell? ⟨g, j, none⟩ = some (.int .i64 (x.1 : Int)) := by rw [h.cell, List.getElem?_toArray, HJ.out]; exact c1
      have d2 : w.cell? ⟨g, j + 1, none⟩ = some (.int .i64 (x.2 : Int)) := by rw [h.cell, List.getElem?_toArray, HJ.out]; exact c2
      have hjn : j < n := by omega
      have hjn1 : j + 1 < n := by omega
      have hany : Hid (inP b x = true → l.any (inP b) = true) := by
        show _ → _
        intro hp
        rw [List.any_eq_true]
        exact ⟨x, List.mem_of_getElem? hx, hp⟩
      have HNX := Lib.hid hnx
      have HJ2 : Hid (j + 2 = 2 * (k + 1)) := by show _ = _; have := HJ.out; omega
      clear c1 c2 hx hnx
      by_cases h1 : x.1 ≤ b
      · by_cases h2 : b ≤ x.2
        · have hp : inP b x = true := by unfold inP; rw [decide_eq_true h1, decide_eq_true h2]; rfl
          have HP := Lib.hid (hany.out hp)
          have i1 : (x.1 : Int) ≤ (b : Int) := by omega
          have i2 : (b : Int) ≤ (x.2 : Int) := by omega
          clear h1 h2 hp
          go_wp2
          go_ret
          exact ⟨by rw [HP.out]; rfl, rfl⟩
        · have hp : inP b x = false := by unfold inP; rw [decide_eq_false h2, Bool.and_false]
          have HP : Hid ((l.take (k + 1)).any (inP b) = false) := HNX.out.trans hp
          have i1 : (x.1 : Int) ≤ (b : Int) := by omega
          have i2 : ¬ (b : Int) ≤ (x.2 : Int) := by omega
          clear h1 h2 hp
          go_wp2
          go_round
          case rel => exact ⟨k + 1, j + 2, by omega, HJ2, by go_num, HP⟩
          case measure => simp [intOf]; omega
      · have hp : inP b x = false := by unfold inP; rw [decide_eq_false h1]; rfl
        have HP : Hid ((l.take (k + 1)).any (inP b) = false) := HNX.out.trans hp
        have i1 : ¬ (x.1 : Int) ≤ (b : Int) := by omega
        clear h1 hp
        go_wp2
        go_round
        case rel => exact ⟨k + 1, j + 2, by omega, HJ2, by go_num, HP⟩
        case measure => simp [intOf]; omega
    · obtain rfl : k = l.length := by omega
      have hf : Hid (l.any (inP b) = false) := by have := HA.out; rw [List.take_length] at this; exact this
      have hj1 : ¬ (j : Int) + 1 < (n : Int) := by have := HN.out; have := HJ.out; omega
      have hj2 : (j : Int) ≤ 2000 := by have := HN.out; have := HJ.out; omega
      clear HA
      go_wp2
      go_ret
      exact ⟨by rw [hf.out]; rfl, rfl⟩

theorem in_new (b : Nat) (hb : b < 256) (l : List (Nat × Nat)) (n : Nat) (xs : Array Value) (r : Bool) (hl : l.length ≤ 1000) (hn : n = 2 * l.length) (hx : (pairsC l).toArray = xs) (hr : l.any (inP b) = r) (w : World) :
    Calls Try.prog 99 #[.int .i64 (b : Int), .slice (some ⟨w.heap.size, 0, none⟩) n n] (w.alloc (.cells xs 3)) fun e w' => e = .returned (.bool r) ∧ w.alloc (.cells xs 3) = w' := by
  subst hx hr
  exact in_any b hb l n _ hl hn _ (Blk.new _ _ _)
theorem cls_alpha : ∀ b, b < 256 → ([(65, 90), (97, 122)] : List (Nat × Nat)).any (inP b) = (mOr (mSpan 65 90) (mSpan 97 122)) b := by decide +kernel
theorem cls_digit : ∀ b, b < 256 → ([(48, 57)] : List (Nat × Nat)).any (inP b) = (mSpan 48 57) b := by decide +kernel
theorem cls_alnum : ∀ b, b < 256 → ([(65, 90), (97, 122), (48, 57)] : List (Nat × Nat)).any (inP b) = (mOr (mOr (mSpan 65 90) (mSpan 97 122)) (mSpan 48 57)) b := by decide +kernel
theorem cls_upper : ∀ b, b < 256 → ([(65, 90)] : List (Nat × Nat)).any (inP b) = (mSpan 65 90) b := by decide +kernel
theorem cls_lower : ∀ b, b < 256 → ([(97, 122)] : List (Nat × Nat)).any (inP b) = (mSpan 97 122) b := by decide +kernel
theorem cls_space : ∀ b, b < 256 → ([(9, 13), (32, 32)] : List (Nat × Nat)).any (inP b) = (mOr (mSpan 9 13) (mOf [32])) b := by decide +kernel
theorem cls_blank : ∀ b, b < 256 → ([(9, 9), (32, 32)] : List (Nat × Nat)).any (inP b) = (mOf [9, 32]) b := by decide +kernel
theorem cls_punct : ∀ b, b < 256 → ([(33, 47), (58, 64), (91, 96), (123, 126)] : List (Nat × Nat)).any (inP b) = (mOr (mOr (mOr (mSpan 33 47) (mSpan 58 64)) (mSpan 91 96)) (mSpan 123 126)) b := by decide +kernel
theorem cls_print : ∀ b, b < 256 → ([(32, 126)] : List (Nat × Nat)).any (inP b) = (mSpan 32 126) b := by decide +kernel
theorem cls_graph : ∀ b, b < 256 → ([(33, 126)] : List (Nat × Nat)).any (inP b) = (mSpan 33 126) b := by decide +kernel
theorem cls_cntrl : ∀ b, b < 256 → ([(0, 31), (127, 127)] : List (Nat × Nat)).any (inP b) = (mOr (mSpan 0 31) (mOf [127])) b := by decide +kernel
theorem cls_xdigit : ∀ b, b < 256 → ([(48, 57), (65, 70), (97, 102)] : List (Nat × Nat)).any (inP b) = (mOr (mOr (mSpan 48 57) (mSpan 65 70)) (mSpan 97 102)) b := by decide +kernel

set_option maxHeartbeats 8000000 in
theorem is_any (s : ByteArray) (b : Nat) (hb : b < 256) (w : World) :
    Calls Try.prog 98 #[.string s, .int .i64 (b : Int)] w fun e w' => e = .returned (.tuple #[.bool ((classOf s.data.toList).getD mNone b), .bool (classOf s.data.toList).isSome]) ∧ Later w w' := by
  obtain ⟨o, ho⟩ : ∃ o, o = classOf s.data.toList := ⟨_, rfl⟩
  rw [← ho]
  have HO := Lib.hid ho
  clear ho
  by_cases t0 : s.data.toList = [97, 108, 112, 104, 97]
  · have hC : o = some (mOr (mSpan 65 90) (mSpan 97 122)) := by rw [HO.out, t0]; rfl
    have q0 : (s.toList == [97, 108, 112, 104, 97]) = true := by rw [ByteArray.toList_eq, t0]; rfl
    subst hC
    clear t0 HO
    go_enter Try.func98, Try.ntmps98
    go_wp2_with fail
    refine (in_new b hb [(65, 90), (97, 122)] 4 #[.int .i64 65, .int .i64 90, .int .i64 97, .int .i64 122] _ (by decide) rfl rfl (cls_alpha b hb) _).mono ?_
    rintro e w1 ⟨rfl, rfl⟩
    go_wp2_with fail
    go_ret2
    exact ⟨rfl, (Later.refl w).alloc _⟩
  have q0 : (s.toList == [97, 108, 112, 104, 97]) = false := by rw [ByteArray.toList_eq]; exact beq_eq_false_iff_ne.2 t0
  by_cases t1 : s.data.toList = [100, 105, 103, 105, 116]
  · have hC : o = some (mSpan 48 57) := by rw [HO.out, t1]; rfl
    have q1 : (s.toList == [100, 105, 103, 105, 116]) = true := by rw [ByteArray.toList_eq, t1]; rfl
    subst hC
    clear t1 HO
    go_enter Try.func98, Try.ntmps98
    go_wp2_with fail
    refine (in_new b hb [(48, 57)] 2 #[.int .i64 48, .int .i64 57] _ (by decide) rfl rfl (cls_digit b hb) _).mono ?_
    rintro e w1 ⟨rfl, rfl⟩
    go_wp2_with fail
    go_ret2
    exact ⟨rfl, (Later.refl w).alloc _⟩
  have q1 : (s.toList == [100, 105, 103, 105, 116]) = false := by rw [ByteArray.toList_eq]; exact beq_eq_false_iff_ne.2 t1
  by_cases t2 : s.data.toList = [97, 108, 110, 117, 109]
  · have hC : o = some (mOr (mOr (mSpan 65 90) (mSpan 97 122)) (mSpan 48 57)) := by rw [HO.out, t2]; rfl
    have q2 : (s.toList == [97, 108, 110, 117, 109]) = true := by rw [ByteArray.toList_eq, t2]; rfl
    subst hC
    clear t2 HO
    go_enter Try.func98, Try.ntmps98
    go_wp2_with fail
    refine (in_new b hb [(65, 90), (97, 122), (48, 57)] 6 #[.int .i64 65, .int .i64 90, .int .i64 97, .int .i64 122, .int .i64 48, .int .i64 57] _ (by decide) rfl rfl (cls_alnum b hb) _).mono ?_
    rintro e w1 ⟨rfl, rfl⟩
    go_wp2_with fail
    go_ret2
    exact ⟨rfl, (Later.refl w).alloc _⟩
  have q2 : (s.toList == [97, 108, 110, 117, 109]) = false := by rw [ByteArray.toList_eq]; exact beq_eq_false_iff_ne.2 t2
  by_cases t3 : s.data.toList = [117, 112, 112, 101, 114]
  · have hC : o = some (mSpan 65 90) := by rw [HO.out, t3]; rfl
    have q3 : (s.toList == [117, 112, 112, 101, 114]) = true := by rw [ByteArray.toList_eq, t3]; rfl
    subst hC
    clear t3 HO
    go_enter Try.func98, Try.ntmps98
    go_wp2_with fail
    refine (in_new b hb [(65, 90)] 2 #[.int .i64 65, .int .i64 90] _ (by decide) rfl rfl (cls_upper b hb) _).mono ?_
    rintro e w1 ⟨rfl, rfl⟩
    go_wp2_with fail
    go_ret2
    exact ⟨rfl, (Later.refl w).alloc _⟩
  have q3 : (s.toList == [117, 112, 112, 101, 114]) = false := by rw [ByteArray.toList_eq]; exact beq_eq_false_iff_ne.2 t3
  by_cases t4 : s.data.toList = [108, 111, 119, 101, 114]
  · have hC : o = some (mSpan 97 122) := by rw [HO.out, t4]; rfl
    have q4 : (s.toList == [108, 111, 119, 101, 114]) = true := by rw [ByteArray.toList_eq, t4]; rfl
    subst hC
    clear t4 HO
    go_enter Try.func98, Try.ntmps98
    go_wp2_with fail
    refine (in_new b hb [(97, 122)] 2 #[.int .i64 97, .int .i64 122] _ (by decide) rfl rfl (cls_lower b hb) _).mono ?_
    rintro e w1 ⟨rfl, rfl⟩
    go_wp2_with fail
    go_ret2
    exact ⟨rfl, (Later.refl w).alloc _⟩
  have q4 : (s.toList == [108, 111, 119, 101, 114]) = false := by rw [ByteArray.toList_eq]; exact beq_eq_false_iff_ne.2 t4
  by_cases t5 : s.data.toList = [115, 112, 97, 99, 101]
  · have hC : o = some (mOr (mSpan 9 13) (mOf [32])) := by rw [HO.out, t5]; rfl
    have q5 : (s.toList == [115, 112, 97, 99, 101]) = true := by rw [ByteArray.toList_eq, t5]; rfl
    subst hC
    clear t5 HO
    go_enter Try.func98, Try.ntmps98
    go_wp2_with fail
    refine (in_new b hb [(9, 13), (32, 32)] 4 #[.int .i64 9, .int .i64 13, .int .i64 32, .int .i64 32] _ (by decide) rfl rfl (cls_space b hb) _).mono ?_
    rintro e w1 ⟨rfl, rfl⟩
    go_wp2_with fail
    go_ret2
    exact ⟨rfl, (Later.refl w).alloc _⟩
  have q5 : (s.toList == [115, 112, 97, 99, 101]) = false := by rw [ByteArray.toList_eq]; exact beq_eq_false_iff_ne.2 t5
  by_cases t6 : s.data.toList = [98, 108, 97, 110, 107]
  · have hC : o = some (mOf [9, 32]) := by rw [HO.out, t6]; rfl
    have q6 : (s.toList == [98, 108, 97, 110, 107]) = true := by rw [ByteArray.toList_eq, t6]; rfl
    subst hC
    clear t6 HO
    go_enter Try.func98, Try.ntmps98
    go_wp2_with fail
    refine (in_new b hb [(9, 9), (32, 32)] 4 #[.int .i64 9, .int .i64 9, .int .i64 32, .int .i64 32] _ (by decide) rfl rfl (cls_blank b hb) _).mono ?_
    rintro e w1 ⟨rfl, rfl⟩
    go_wp2_with fail
    go_ret2
    exact ⟨rfl, (Later.refl w).alloc _⟩
  have q6 : (s.toList == [98, 108, 97, 110, 107]) = false := by rw [ByteArray.toList_eq]; exact beq_eq_false_iff_ne.2 t6
  by_cases t7 : s.data.toList = [112, 117, 110, 99, 116]
  · have hC : o = some (mOr (mOr (mOr (mSpan 33 47) (mSpan 58 64)) (mSpan 91 96)) (mSpan 123 126)) := by rw [HO.out, t7]; rfl
    have q7 : (s.toList == [112, 117, 110, 99, 116]) = true := by rw [ByteArray.toList_eq, t7]; rfl
    subst hC
    clear t7 HO
    go_enter Try.func98, Try.ntmps98
    go_wp2_with fail
    refine (in_new b hb [(33, 47), (58, 64), (91, 96), (123, 126)] 8 #[.int .i64 33, .int .i64 47, .int .i64 58, .int .i64 64, .int .i64 91, .int .i64 96, .int .i64 123, .int .i64 126] _ (by decide) rfl rfl (cls_punct b hb) _).mono ?_
    rintro e w1 ⟨rfl, rfl⟩
    go_wp2_with fail
    go_ret2
    exact ⟨rfl, (Later.refl w).alloc _⟩
  have q7 : (s.toList == [112, 117, 110, 99, 116]) = false := by rw [ByteArray.toList_eq]; exact beq_eq_false_iff_ne.2 t7
  by_cases t8 : s.data.toList = [112, 114, 105, 110, 116]
  · have hC : o = some (mSpan 32 126) := by rw [HO.out, t8]; rfl
    have q8 : (s.toList == [112, 114, 105, 110, 116]) = true := by rw [ByteArray.toList_eq, t8]; rfl
    subst hC
    clear t8 HO
    go_enter Try.func98, Try.ntmps98
    go_wp2_with fail
    refine (in_new b hb [(32, 126)] 2 #[.int .i64 32, .int .i64 126] _ (by decide) rfl rfl (cls_print b hb) _).mono ?_
    rintro e w1 ⟨rfl, rfl⟩
    go_wp2_with fail
    go_ret2
    exact ⟨rfl, (Later.refl w).alloc _⟩
  have q8 : (s.toList == [112, 114, 105, 110, 116]) = false := by rw [ByteArray.toList_eq]; exact beq_eq_false_iff_ne.2 t8
  by_cases t9 : s.data.toList = [103, 114, 97, 112, 104]
  · have hC : o = some (mSpan 33 126) := by rw [HO.out, t9]; rfl
    have q9 : (s.toList == [103, 114, 97, 112, 104]) = true := by rw [ByteArray.toList_eq, t9]; rfl
    subst hC
    clear t9 HO
    go_enter Try.func98, Try.ntmps98
    go_wp2_with fail
    refine (in_new b hb [(33, 126)] 2 #[.int .i64 33, .int .i64 126] _ (by decide) rfl rfl (cls_graph b hb) _).mono ?_
    rintro e w1 ⟨rfl, rfl⟩
    go_wp2_with fail
    go_ret2
    exact ⟨rfl, (Later.refl w).alloc _⟩
  have q9 : (s.toList == [103, 114, 97, 112, 104]) = false := by rw [ByteArray.toList_eq]; exact beq_eq_false_iff_ne.2 t9
  by_cases t10 : s.data.toList = [99, 110, 116, 114, 108]
  · have hC : o = some (mOr (mSpan 0 31) (mOf [127])) := by rw [HO.out, t10]; rfl
    have q10 : (s.toList == [99, 110, 116, 114, 108]) = true := by rw [ByteArray.toList_eq, t10]; rfl
    subst hC
    clear t10 HO
    go_enter Try.func98, Try.ntmps98
    go_wp2_with fail
    refine (in_new b hb [(0, 31), (127, 127)] 4 #[.int .i64 0, .int .i64 31, .int .i64 127, .int .i64 127] _ (by decide) rfl rfl (cls_cntrl b hb) _).mono ?_
    rintro e w1 ⟨rfl, rfl⟩
    go_wp2_with fail
    go_ret2
    exact ⟨rfl, (Later.refl w).alloc _⟩
  have q10 : (s.toList == [99, 110, 116, 114, 108]) = false := by rw [ByteArray.toList_eq]; exact beq_eq_false_iff_ne.2 t10
  by_cases t11 : s.data.toList = [120, 100, 105, 103, 105, 116]
  · have hC : o = some (mOr (mOr (mSpan 48 57) (mSpan 65 70)) (mSpan 97 102)) := by rw [HO.out, t11]; rfl
    have q11 : (s.toList == [120, 100, 105, 103, 105, 116]) = true := by rw [ByteArray.toList_eq, t11]; rfl
    subst hC
    clear t11 HO
    go_enter Try.func98, Try.ntmps98
    go_wp2_with fail
    refine (in_new b hb [(48, 57), (65, 70), (97, 102)] 6 #[.int .i64 48, .int .i64 57, .int .i64 65, .int .i64 70, .int .i64 97, .int .i64 102] _ (by decide) rfl rfl (cls_xdigit b hb) _).mono ?_
    rintro e w1 ⟨rfl, rfl⟩
    go_wp2_with fail
    go_ret2
    exact ⟨rfl, (Later.refl w).alloc _⟩
  have q11 : (s.toList == [120, 100, 105, 103, 105, 116]) = false := by rw [ByteArray.toList_eq]; exact beq_eq_false_iff_ne.2 t11
  have hC : o = none := by rw [HO.out]; unfold classOf; rw [if_neg t0, if_neg t1, if_neg t2, if_neg t3, if_neg t4, if_neg t5, if_neg t6, if_neg t7, if_neg t8, if_neg t9, if_neg t10, if_neg t11]
  subst hC
  clear HO t0 t1 t2 t3 t4 t5 t6 t7 t8 t9 t10 t11
  go_enter Try.func98, Try.ntmps98
  go_wp2_with fail
  go_ret2
  exact ⟨rfl, Later.refl w⟩

end Go.Proofs.Ythmjnelnnhidkaa

/-
  The document's Named: a set as 256 bools.
-/
namespace Go.Proofs.Ythmjnelnnhidkaa
open Go.RowKit

theorem blkLat {w w' : World} {g : Nat} {t : TypeId} {cs : Array Value} (hl : Later w w') (h : Blk w g t cs) : Blk w' g t cs := h.below hl h.lt

set_option maxHeartbeats 1000000 in
theorem refNamed_any (s : ByteArray) (w : World) :
    Calls Try.prog 97 #[.string s] w fun e w' => e = .returned (.tuple #[.agg (boolC ((classOf s.data.toList).getD mNone)), .bool (classOf s.data.toList).isSome]) ∧ Later w w' := by
  obtain ⟨hz, hsz⟩ := zero_set
  obtain ⟨m, hm⟩ : ∃ m, m = (classOf s.data.toList).getD mNone := ⟨_, rfl⟩
  obtain ⟨ok, hok⟩ : ∃ ok, ok = (classOf s.data.toList).isSome := ⟨_, rfl⟩
  have hI : ∀ (b : Nat) (_hb : b < 256) (w : World), Calls Try.prog 98 #[.string s, .int .i64 (b : Int)] w fun e w' => e = .returned (.tuple #[.bool (m b), .bool ok]) ∧ Later w w' := fun b hb w => by rw [hm, hok]; exact is_any s b hb w
  rw [← hm, ← hok]
  have HI := Lib.hid hI
  clear hm hok hI
  go_enter Try.func97, Try.ntmps97
  go_wp2_with fail
  go_loopw [5, 6] (fun x i wr => ∃ (k : Nat) (o : Bool), k ≤ 256 ∧ i = .int .i64 (k : Int) ∧ x = .bool o ∧ (0 < k → Hid (o = ok)) ∧ Blk wr (w.heap.size + 1) 36 (boolC (mLow m k)) ∧ Blk wr w.heap.size 36 (boolC mNone) ∧ Later w wr) (fun _ i _ => 256 - (intOf i).toNat)
  case atStart => exact ⟨0, false, by omega, rfl, rfl, fun h => absurd h (by omega), by rw [boolC_ext (mLow m 0) mNone (fun b _ => by unfold mLow; rfl)]; exact blk_at (by simp), (Blk.new w _ _).alloc _, ((Later.refl w).alloc _).alloc _⟩
  case round =>
    obtain ⟨k, o, hk, rfl, rfl, ho, h1, h3, hl⟩ := hrel
    by_cases hlt : k < 256
    · have hlti : (k : Int) < 256 := by omega
      have hst := Lib.hid (boolC_step m k hlt)
      clear ho
      go_wp2_with fail
      refine (HI.out k hlt _).mono ?_
      rintro e w1 ⟨rfl, hl1⟩
      have h1 := blkLat hl1 h1
      have h3 := blkLat hl1 h3
      have hl := hl.trans hl1
      have c1 : w1.cell? ⟨w.heap.size + 1, k, none⟩ = some (.bool (mLow m k k)) := by rw [h1.cell, boolC_get _ hlt]
      have f1 := h1.frozen k
      go_wp2_with fail
      go_roundw
      case rel => exact ⟨k + 1, ok, by omega, by go_num, rfl, fun _ => rfl, by rw [← hst.out]; exact h1.set_ k _, h3.far (by simp) _, Later.setCell hl (Nat.le_succ _) _⟩
      case measure => simp [intOf]; omega
    · obtain rfl : k = 256 := by omega
      have he : boolC (mLow m 256) = boolC m := boolC_ext _ _ fun b hb => by unfold mLow; rw [decide_eq_true hb, Bool.true_and]
      rw [he] at h1
      obtain rfl : o = ok := (ho (by omega)).out
      clear he ho
      have R1 : Hid (wr.rangeAt (w.heap.size + 1) 0 (boolC m).toList) := rangeB h1
      have R2 : Hid (wr.there w.heap.size 0 (boolC m).size) := thereB h3
      go_wp2_with (first
        | (refine wpList_load_mid (P := Try.prog) rfl 36 (.tmp 4) rfl (w.heap.size + 1) 0 rfl (boolC m).toList _ R1.out Try.underlying36 rfl (sizeB m) ?_)
        | (refine wpList_store_mid (P := Try.prog) rfl 36 (.tmp 2) (.tmp 19) rfl w.heap.size 0 (boolC m) rfl rfl R2.out (sizeB' m) (oneB m) ?_))
      have hld := run_loadVar_mid (P := Try.prog) _ w.heap.size 0 36 (boolC m).toList _ (World.rangeAt_setCells_same wr w.heap.size 0 (boolC m).toList (by rw [Array.length_toList]; exact R2.out)) Try.underlying36 rfl (sizeB m)
      rw [Array.toArray_toList] at hld
      refine bodyPost_ret (v := .tuple #[.agg (boolC m), .bool o]) ?_ rfl ⟨rfl, laterCells hl _ _⟩
      simp [results, Try.results97, asAddr, hld]

end Go.Proofs.Ythmjnelnnhidkaa
