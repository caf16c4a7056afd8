/-
  Package ere's set, text, Print.
-/
import Derived.Test.YthmjnelnnhidkaaQuote
namespace Go.Proofs.Ythmjnelnnhidkaa
open Go.RowKit

/-! ### plain -/
def okW (s : W4) : Prop := s.1 < 18446744073709551616 ∧ s.2.1 < 18446744073709551616 ∧ s.2.2.1 < 18446744073709551616 ∧ s.2.2.2 < 18446744073709551616
/-- a set's words as a set -/
def memW (s : W4) : Mem := fun b => if b < 64 then s.1.testBit b else if b < 128 then s.2.1.testBit (b - 64) else if b < 192 then s.2.2.1.testBit (b - 128) else if b < 256 then s.2.2.2.testBit (b - 192) else false
theorem word_of (p : Mem) (i x : Nat) (hx : x < 2 ^ 64) (h : ∀ j, j < 64 → p (64 * i + j) = x.testBit j) : word p i = x := by
  apply Nat.eq_of_testBit_eq
  intro j
  show (nbits _ 64).testBit j = _
  rw [nbits_bit]
  by_cases hj : j < 64
  · rw [decide_eq_true hj, Bool.true_and, ← h j hj]
  · rw [decide_eq_false hj, Bool.false_and]
    exact (Nat.testBit_lt_two_pow (Nat.lt_of_lt_of_le hx (Nat.pow_le_pow_right (by omega) (by omega)))).symm
theorem w4_mem {s : W4} (h : okW s) : w4 (memW s) = s := by
  obtain ⟨s0, s1, s2, s3⟩ := s
  obtain ⟨h0, h1, h2, h3⟩ := h
  have e0 : word (memW (s0, s1, s2, s3)) 0 = s0 := word_of _ 0 s0 h0 fun j hj => by unfold memW; rw [if_pos (by omega)]; rw [show 64 * 0 + j = j by omega]
  have e1 : word (memW (s0, s1, s2, s3)) 1 = s1 := word_of _ 1 s1 h1 fun j hj => by unfold memW; rw [if_neg (by omega), if_pos (by omega)]; rw [show 64 * 1 + j - 64 = j by omega]
  have e2 : word (memW (s0, s1, s2, s3)) 2 = s2 := word_of _ 2 s2 h2 fun j hj => by unfold memW; rw [if_neg (by omega), if_neg (by omega), if_pos (by omega)]; rw [show 64 * 2 + j - 128 = j by omega]
  have e3 : word (memW (s0, s1, s2, s3)) 3 = s3 := word_of _ 3 s3 h3 fun j hj => by unfold memW; rw [if_neg (by omega), if_neg (by omega), if_neg (by omega), if_pos (by omega)]; rw [show 64 * 3 + j - 192 = j by omega]
  unfold w4
  rw [e0, e1, e2, e3]

/-- the bytes of a set, up to one of them -/
def setUp (m : Mem) (j : Nat) : List UInt8 := (List.range j).flatMap fun b => if m b then octD b else []
def setL (m : Mem) : List UInt8 := if cntN m 256 = 256 then [46] else if cntN m 256 = 0 then [91, 94, 92, 48, 48, 48, 45, 92, 51, 55, 55, 93] else 91 :: (setUp m 256 ++ [93])
theorem setUp_succ (m : Mem) (j : Nat) : setUp m (j + 1) = setUp m j ++ (if m j then octD j else []) := by
  unfold setUp
  rw [List.range_succ, List.flatMap_append]
  simp
theorem setUp_len (m : Mem) : ∀ j, (setUp m j).length ≤ 4 * j
  | 0 => by simp [setUp]
  | j + 1 => by
    have := setUp_len m j
    rw [setUp_succ, List.length_append]
    split
    · rw [octD_len]; omega
    · simp; omega
theorem setL_len (m : Mem) : (setL m).length ≤ 1026 := by
  have := setUp_len m 256
  unfold setL
  split
  · simp
  · split
    · simp
    · simp only [List.length_cons, List.length_append, List.length_nil]; omega

mutual
/-- all sets' words are words -/
def wT : Tree → Prop
  | .node _ s ks => okW s ∧ wL ks
def wL : List Tree → Prop
  | [] => True
  | t :: ts => wT t ∧ wL ts
end
theorem wL_get : ∀ {ts : List Tree} (_h : wL ts) {t : Tree}, t ∈ ts → wT t
  | [], _, _, ht => by cases ht
  | u :: us, h, t, ht => by
    unfold wL at h
    rcases List.mem_cons.1 ht with rfl | ht
    · exact h.1
    · exact wL_get h.2 ht

/-- a tree's text -/
def textT : Tree → List UInt8
  | .node k s [] => if k = 0 then [40, 46, 63, 41, 123, 48, 125] else if k = 1 then setL (memW s) else if k = 7 then [94] else [36]
  | .node k _ [a] => if k = 4 then [40] ++ textT a ++ [41, 42] else if k = 5 then [40] ++ textT a ++ [41, 43] else [40] ++ textT a ++ [41, 63]
  | .node k _ [a, b] => if k = 2 then [40] ++ textT a ++ [41, 40] ++ textT b ++ [41] else [40, 40] ++ textT a ++ [41, 124, 40] ++ textT b ++ [41, 41]
  | _ => []
def printT (t : Tree) : List UInt8 := if rightT t then textT t else []

/-- what a right tree is -/
theorem shaped_cases {k : Int} {s : W4} {ks : List Tree} {D : Int} {n : Nat} (h : shapedT (.node k s ks) D = some n) :
    1 ≤ D ∧ n ≤ 400 ∧ ((ks = [] ∧ n = 1 ∧ (k = 0 ∨ k = 1 ∨ k = 7 ∨ k = 8)) ∨ (∃ a, ks = [a] ∧ shapedT a (D - 1) = some n ∧ (k = 4 ∨ k = 5 ∨ k = 6)) ∨ (∃ a b n1 n2, ks = [a, b] ∧ shapedT a (D - 1) = some n1 ∧ shapedT b D = some n2 ∧ n = n1 + n2 ∧ (k = 2 ∨ k = 3))) ∧ (k ≠ 1 → s = z4) := by
  have hle := shapedT_le _ _ _ h
  unfold shapedT at h
  by_cases hc : D < 1 ∨ kidsOf k ≠ (ks.length : Int) ∨ (k ≠ 1 ∧ s ≠ z4)
  · rw [if_pos hc] at h; cases h
  · rw [if_neg hc] at h
    simp only [not_or, not_and, Decidable.not_not] at hc
    obtain ⟨h1, h2, h3⟩ := hc
    refine ⟨by omega, hle, ?_, h3⟩
    have hk : (k = 0 ∨ k = 1 ∨ k = 7 ∨ k = 8) ∧ kidsOf k = 0 ∨ (k = 2 ∨ k = 3) ∧ kidsOf k = 2 ∨ (k = 4 ∨ k = 5 ∨ k = 6) ∧ kidsOf k = 1 ∨ kidsOf k = -1 := by
      unfold kidsOf
      by_cases q1 : k = 0 ∨ k = 1 ∨ k = 7 ∨ k = 8
      · rw [if_pos q1]; exact .inl ⟨q1, rfl⟩
      · rw [if_neg q1]
        by_cases q2 : k = 2 ∨ k = 3
        · rw [if_pos q2]; exact .inr (.inl ⟨q2, rfl⟩)
        · rw [if_neg q2]
          by_cases q3 : k = 4 ∨ k = 5 ∨ k = 6
          · rw [if_pos q3]; exact .inr (.inr (.inl ⟨q3, rfl⟩))
          · rw [if_neg q3]; exact .inr (.inr (.inr rfl))
    rcases hk with ⟨hk, e⟩ | ⟨hk, e⟩ | ⟨hk, e⟩ | e
    · rw [e] at h2
      obtain rfl : ks = [] := List.eq_nil_of_length_eq_zero (by omega)
      left
      rw [shapedL_nil] at h
      injection h with h
      exact ⟨rfl, h.symm, hk⟩
    · rw [e] at h2
      have hl : ks.length = 2 := by omega
      match ks, hl with
      | [a, b], _ =>
        right; right
        rw [shapedL_cons] at h
        cases h5 : shapedT a (D - 1 + ((0 : Nat) : Int)) with
        | none => rw [h5] at h; cases h
        | some n1 =>
          rw [h5] at h
          simp only at h
          by_cases h6 : 400 < (if [a, b].length = 0 then 1 else 0) + n1
          · rw [if_pos h6] at h; cases h
          · rw [if_neg h6, shapedL_cons] at h
            cases h7 : shapedT b (D - 1 + ((0 + 1 : Nat) : Int)) with
            | none => rw [h7] at h; cases h
            | some n2 =>
              rw [h7] at h
              simp only at h
              by_cases h8 : 400 < (if [a, b].length = 0 then 1 else 0) + n1 + n2
              · rw [if_pos h8] at h; cases h
              · rw [if_neg h8, shapedL_nil] at h
                injection h with h
                refine ⟨a, b, n1, n2, rfl, ?_, ?_, ?_, hk⟩
                · rw [← h5]; congr 1; omega
                · rw [← h7]; congr 1; omega
                · rw [← h]; simp
    · rw [e] at h2
      have hl : ks.length = 1 := by omega
      match ks, hl with
      | [a], _ =>
        right; left
        rw [shapedL_cons] at h
        cases h5 : shapedT a (D - 1 + ((0 : Nat) : Int)) with
        | none => rw [h5] at h; cases h
        | some n1 =>
          rw [h5] at h
          simp only at h
          by_cases h6 : 400 < (if [a].length = 0 then 1 else 0) + n1
          · rw [if_pos h6] at h; cases h
          · rw [if_neg h6, shapedL_nil] at h
            injection h with h
            refine ⟨a, rfl, ?_, hk⟩
            rw [show D - 1 = D - 1 + ((0 : Nat) : Int) by omega, h5, ← h]
            simp
    · omega

/-- how long a text is -/
theorem text_len : ∀ (fuel : Nat) (t : Tree) (D : Nat) (n : Nat), SizeOf.sizeOf t ≤ fuel → shapedT t (D : Int) = some n → 1 ≤ n ∧ (textT t).length + 9 ≤ n * (1035 + 9 * D)
  | 0, t, _, _, hf, _ => by cases t; simp at hf
  | fuel + 1, .node k s ks, D, n, hf, h => by
    obtain ⟨hD, _, hc, _⟩ := shaped_cases h
    rcases hc with ⟨rfl, rfl, hk⟩ | ⟨a, rfl, ha, hk⟩ | ⟨a, b, n1, n2, rfl, ha, hb, rfl, hk⟩
    · refine ⟨Nat.le_refl _, ?_⟩
      have := setL_len (memW s)
      rw [textT]
      split
      · simp; omega
      · split
        · omega
        · split <;> simp <;> omega
    · obtain ⟨D', rfl⟩ : ∃ D', D = D' + 1 := ⟨D - 1, by omega⟩
      have ih := text_len fuel a D' n (by simp at hf; omega) (by rw [← ha]; congr 1; omega)
      refine ⟨ih.1, ?_⟩
      have e : n * (1035 + 9 * (D' + 1)) = n * (1035 + 9 * D') + 9 * n := by rw [show 1035 + 9 * (D' + 1) = (1035 + 9 * D') + 9 by omega, Nat.mul_add]; omega
      rw [e, textT]
      split
      · simp; omega
      · split <;> simp <;> omega
    · obtain ⟨D', rfl⟩ : ∃ D', D = D' + 1 := ⟨D - 1, by omega⟩
      have i1 := text_len fuel a D' n1 (by simp at hf; omega) (by rw [← ha]; congr 1; omega)
      have i2 := text_len fuel b (D' + 1) n2 (by simp at hf; omega) hb
      refine ⟨by omega, ?_⟩
      have e : (n1 + n2) * (1035 + 9 * (D' + 1)) = n1 * (1035 + 9 * D') + 9 * n1 + n2 * (1035 + 9 * (D' + 1)) := by rw [Nat.add_mul, show 1035 + 9 * (D' + 1) = (1035 + 9 * D') + 9 by omega, Nat.mul_add, Nat.mul_add]; omega
      rw [e, textT]
      split <;> simp <;> omega
theorem text_max {t : Tree} {D n : Nat} (hD : D ≤ 40) (h : shapedT t (D : Int) = some n) : (textT t).length ≤ 600000 := by
  have h1 := text_len _ t D n (Nat.le_refl _) h
  have h2 := shapedT_le t _ n h
  have : n * (1035 + 9 * D) ≤ 400 * 1395 := Nat.mul_le_mul h2 (by omega)
  omega

/-! ### the walks -/
theorem set_known (m : Mem) (L : List UInt8) (w : World) (n : Nat) (hn : n = cntN m 256) (hL : L = setL m) (h : n = 256 ∨ n = 0) :
    Calls Try.prog 71 #[.agg #[.int .u64 (word m 0 : Nat), .int .u64 (word m 1 : Nat), .int .u64 (word m 2 : Nat), .int .u64 (word m 3 : Nat)]] w fun e w' => e = .returned (.string (bstr L)) ∧ Later w w' := by
  have hcnt : ∀ wx : World, Calls Try.prog 19 #[.agg #[.int .u64 (word m 0 : Nat), .int .u64 (word m 1 : Nat), .int .u64 (word m 2 : Nat), .int .u64 (word m 3 : Nat)]] wx fun e w' => e = .returned (.int .i64 (n : Int)) ∧ Later wx w' := fun wx => by rw [hn]; exact count_any m wx
  have HC := Lib.hid hcnt
  rcases h with h | h
  · have HL : Hid (L = [46]) := by show _ = _; rw [hL]; unfold setL; rw [if_pos (by omega)]
    subst h
    clear hn hL hcnt
    go_enter Try.func71, Try.ntmps71
    go_wp2_with fail
    refine (HC.out _).mono ?_
    rintro e w1 ⟨rfl, hl1⟩
    go_wp2_with fail
    go_ret
    exact ⟨by rw [HL.out]; rfl, ((Later.refl w).alloc _).trans hl1⟩
  · have HL : Hid (L = [91, 94, 92, 48, 48, 48, 45, 92, 51, 55, 55, 93]) := by show _ = _; rw [hL]; unfold setL; rw [if_neg (by omega), if_pos (by omega)]
    subst h
    clear hn hL hcnt
    go_enter Try.func71, Try.ntmps71
    go_wp2_with fail
    refine (HC.out _).mono ?_
    rintro e w1 ⟨rfl, hl1⟩
    go_wp2_with fail
    go_ret
    exact ⟨by rw [HL.out]; rfl, ((Later.refl w).alloc _).trans hl1⟩

theorem u8_small (j : Nat) (hj : j < 256) : IntKind.u8.wrap (j : Int) = (j : Int) := IntWalk.u8_in _ (by omega)

set_option maxHeartbeats 4000000 in
theorem set_other (m : Mem) (L : List UInt8) (w : World) (n : Nat) (hn : n = cntN m 256) (hL : L = setL m) (h : n ≠ 256 ∧ n ≠ 0) :
    Calls Try.prog 71 #[.agg #[.int .u64 (word m 0 : Nat), .int .u64 (word m 1 : Nat), .int .u64 (word m 2 : Nat), .int .u64 (word m 3 : Nat)]] w fun e w' => e = .returned (.string (bstr L)) ∧ Later w w' := by
  have hcnt : ∀ wx : World, Calls Try.prog 19 #[.agg #[.int .u64 (word m 0 : Nat), .int .u64 (word m 1 : Nat), .int .u64 (word m 2 : Nat), .int .u64 (word m 3 : Nat)]] wx fun e w' => e = .returned (.int .i64 (n : Int)) ∧ Later wx w' := fun wx => by rw [hn]; exact count_any m wx
  have HC := Lib.hid hcnt
  have HL : Hid (L = 91 :: (setUp m 256 ++ [93])) := by show _ = _; rw [hL]; unfold setL; rw [if_neg (by omega), if_neg (by omega)]
  have q1 : ((n : Int) == 256) = false := by rw [beq_eq_false_iff_ne]; omega
  have q2 : ((n : Int) == 0) = false := by rw [beq_eq_false_iff_ne]; omega
  have HH : Hid (∀ (b : Nat) (x : Int) (wx : World), x = (b : Int) → b < 256 → Calls Try.prog 20 #[.agg #[.int .u64 (word m 0 : Nat), .int .u64 (word m 1 : Nat), .int .u64 (word m 2 : Nat), .int .u64 (word m 3 : Nat)], .int .u8 x] wx fun e w' => e = .returned (.bool (m b)) ∧ Later wx w') := fun b x wx hx hb => by subst hx; exact has_any m b hb wx
  have hwd : ∀ i, ((word m i : Nat) : Int) < 18446744073709551616 := fun i => by have : word m i < 2 ^ 64 := nbits_lt _ 64; omega
  clear hn hL hcnt h
  go_enter Try.func71, Try.ntmps71
  go_wp2_with fail
  refine (HC.out _).mono ?_
  rintro e w1 ⟨rfl, hl1⟩
  have B0 : Blk w1 w.heap.size 24 #[.int .u64 (word m 0 : Nat), .int .u64 (word m 1 : Nat), .int .u64 (word m 2 : Nat), .int .u64 (word m 3 : Nat)] := blkL hl1 (Blk.new w _ _)
  have hlw : Later w w1 := ((Later.refl w).alloc _).trans hl1
  clear hl1
  go_wp2_with fail
  go_loopw [3, 4] (fun s3 s4 wr => ∃ j : Nat, j ≤ 256 ∧ s4 = .int .i64 (j : Int) ∧ s3 = .string (bstr (91 :: setUp m j)) ∧ Blk wr w.heap.size 24 #[.int .u64 (word m 0 : Nat), .int .u64 (word m 1 : Nat), .int .u64 (word m 2 : Nat), .int .u64 (word m 3 : Nat)] ∧ Later w wr) (fun _ s4 _ => 256 - (intOf s4).toNat)
  case atStart => exact ⟨0, by omega, rfl, rfl, B0, hlw⟩
  case round =>
    clear B0 hlw
    obtain ⟨j, hj, rfl, rfl, B0, hlw⟩ := hrel
    obtain ⟨u0, u1, u2, u3, -⟩ := cells4 B0
    by_cases hlt : j < 256
    · have hlti : (j : Int) < 256 := by omega
      have hlen := setUp_len m j
      have hu8 := u8_small j hlt
      have hcc : ¬ 9223372036854775807 < (bstr (91 :: setUp m j)).size + (bstr (octD j)).size := by
        rw [bstr_size, bstr_size, octD_len, List.length_cons]
        omega
      clear hlen
      cases hm : m j with
      | true =>
        have HTK : Hid (bstr (91 :: setUp m j) ++ bstr (octD j) = bstr (91 :: setUp m (j + 1))) := by
          show _ = _
          rw [bstr_app, setUp_succ, hm]
          rfl
        have HM := Lib.hid hm
        clear hm
        go_wp2_with fail
        refine (HH.out j _ _ rfl hlt).mono ?_
        rw [HM.out]
        rintro e w2 ⟨rfl, hl2⟩
        have B0 := blkL hl2 B0
        clear u0 u1 u2 u3
        go_wp2_with fail
        refine (octal_any j hlt _).mono ?_
        rintro e w3 ⟨rfl, hl3⟩
        have B0 := blkL hl3 B0
        go_wp2_with fail
        go_roundw
        case rel => exact ⟨j + 1, by omega, by go_num, by rw [← HTK.out], B0, (hlw.trans hl2).trans hl3⟩
        case measure => simp [intOf]; omega
      | false =>
        have HTK : Hid (bstr (91 :: setUp m j) = bstr (91 :: setUp m (j + 1))) := by
          show _ = _
          rw [setUp_succ, hm]
          simp
        have HM := Lib.hid hm
        clear hm
        go_wp2_with fail
        refine (HH.out j _ _ rfl hlt).mono ?_
        rw [HM.out]
        rintro e w2 ⟨rfl, hl2⟩
        have B0 := blkL hl2 B0
        clear u0 u1 u2 u3
        go_wp2_with fail
        go_roundw
        case rel => exact ⟨j + 1, by omega, by go_num, by rw [← HTK.out], B0, hlw.trans hl2⟩
        case measure => simp [intOf]; omega
    · obtain rfl : j = 256 := by omega
      have hlen := setUp_len m 256
      have hcc : ¬ 9223372036854775807 < (bstr (91 :: setUp m 256)).size + (⟨#[93]⟩ : ByteArray).size := by
        rw [bstr_size, List.length_cons]
        show ¬ 9223372036854775807 < _ + 1
        omega
      have HTK : Hid (bstr (91 :: setUp m 256) ++ (⟨#[93]⟩ : ByteArray) = bstr L) := by
        show _ = _
        rw [show (⟨#[93]⟩ : ByteArray) = bstr [93] from rfl, bstr_app, HL.out]
        rfl
      clear hlen
      go_wp2_with fail
      go_ret
      exact ⟨by rw [← HTK.out]; try rfl, hlw⟩

theorem eset_any (s : W4) (hs : okW s) (x : W4) (hx : x = s) (w : World) :
    Calls Try.prog 71 #[.agg #[.int .u64 (x.1 : Nat), .int .u64 (x.2.1 : Nat), .int .u64 (x.2.2.1 : Nat), .int .u64 (x.2.2.2 : Nat)]] w fun e w' => e = .returned (.string (bstr (setL (memW s)))) ∧ Later w w' := by
  have e := w4_mem hs
  rw [← e] at hx
  subst hx
  by_cases h : cntN (memW s) 256 = 256 ∨ cntN (memW s) 256 = 0
  · exact set_known (memW s) _ w _ rfl rfl h
  · exact set_other (memW s) _ w _ rfl rfl (by omega)

end Go.Proofs.Ythmjnelnnhidkaa
