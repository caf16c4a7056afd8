/-
  EreDeep: brackets in one another.
-/
import Derived.Test.YthmjnelnnhidkaaRrd6
import Derived.Test.YthmjnelnnhidkaaEreKn
import Derived.Test.YthmjnelnnhidkaaQuote
import Derived.Test.YthmjnelnnhidkaaAsB
namespace Go.Proofs.Ythmjnelnnhidkaa
open Go.RowKit

/-- no bracket in it -/
def No91 (L : List UInt8) : Prop := ∀ x ∈ L, x ≠ 91
theorem no91_app {a b : List UInt8} (h : No91 a) (g : No91 b) : No91 (a ++ b) := fun x hx => by
  rcases List.mem_append.1 hx with h1 | h1
  · exact h x h1
  · exact g x h1
theorem no91_is {L : List UInt8} (h : No91 L) (a : Nat) : isAt L a 91 = false := by
  unfold isAt
  cases hx : L[a]? with
  | none => rfl
  | some x =>
    have h1 := h x (List.mem_of_getElem? hx)
    simp only [beq_eq_false_iff_ne]
    intro e
    apply h1
    exact UInt8.toNat_inj.1 e
theorem atom91_no {L : List UInt8} (h : No91 L) (d : Nat) : Atom91 (bstr L) d := fun _ _ st _ _ _ _ hi => by
  have h1 : isAt L st.at_ 91 = true := hi
  rw [no91_is h] at h1
  cases h1
/-- the text so far -/
def Txt (m : Nat) (v : Value) : Prop := ∃ L : List UInt8, v = .string (bstr L) ∧ L.length ≤ m ∧ No91 L
/-- both parses are the same -/
structure EndP (R : Tree × Nat × Nat) (k a b c d : Int) (A : Option Addr) (n cp : Nat) (k2 a2 b2 c2 d2 : Int) (A2 : Option Addr) (n2 cp2 : Nat) (W : World) : Prop where
  same : ∀ wx, Later W wx → Calls Try.prog 31 #[.agg #[.int .i64 k, .int .u64 a, .int .u64 b, .int .u64 c, .int .u64 d, .slice A n cp], .agg #[.int .i64 k2, .int .u64 a2, .int .u64 b2, .int .u64 c2, .int .u64 d2, .slice A2 n2 cp2]] wx fun e w' => e = .returned (.bool true) ∧ Later wx w'
theorem parse_thin (s : List UInt8) : thinT (parseF s).1 := by
  rw [← parse_same]
  have gen : ∀ (r : Tree) (x y z : Nat), thinT r → thinT (if x ≠ 0 then (tEmpty, y, z) else if rightR r = false then (tEmpty, 0, 24) else (r, 0, 0) : Tree × Nat × Nat).1 := by
    intro r x y z h
    split
    · exact thin0 _ _
    · split
      · exact thin0 _ _
      · exact h
  unfold rParse
  split
  · exact thin0 _ _
  · exact gen _ _ _ _ (thin_alt s 11 st0)
theorem known_l {W : World} (x : LW W) : Calls Try.prog 30 #[] x.val fun e w' => e = .returned (.bool true) ∧ Later x.val w' := ereKnown_any x.val

/-- the law's last line, of a text -/
def Both (L : List UInt8) (w : World) (wr : World) : Prop := Later w wr ∧ No91 L ∧ L.length ≤ 2000

set_option maxRecDepth 100000 in
set_option maxHeartbeats 16000000 in
theorem ereDeep_any (n : Int) (A : Option Addr) (nb cb : Nat) (l : List UInt8) (row : Int) (w : World) (hr : RdB w w.heap.size A nb l) (hnb : nb ≤ 140737488355232) :
    Calls Try.prog 8 #[.int .i64 n, .slice A nb cb, .int .i64 row] w fun e w' => e = .returned (.bool true) ∧ Later w w' := by
  obtain ⟨p, hp, hp1⟩ := pick_nat n 14 (by omega)
  obtain ⟨q, hq, hq1⟩ := pick_nat row 450 (by omega)
  have HRD := Lib.hid hr
  have HLN := Lib.hid hr.len
  clear hr
  go_enter Try.func8, Try.ntmps8
  go_wp2_with fail
  refine (pick_at n 14 p _ (by omega) (by omega) hp).mono ?_
  rintro e w0 ⟨rfl, rfl⟩
  go_wp2_with fail
  go_loop [7, 8] (fun s7 s8 => ∃ i : Nat, i ≤ p ∧ s8 = .int .i64 (i : Int) ∧ Txt i s7) (fun _ s8 => p - (intOf s8).toNat)
  case atStart => exact ⟨0, Nat.zero_le _, rfl, [], rfl, Nat.zero_le _, fun x hx => by cases hx⟩
  case round =>
    obtain ⟨i, hi, rfl, L, rfl, hLi, hL91⟩ := hrel
    by_cases hlt : i < p
    · have hlti : (i : Int) < (p : Int) := by omega
      have hcc : ¬ 9223372036854775807 < (⟨#[40]⟩ : ByteArray).size + (bstr L).size := by
        rw [bstr_size]
        show ¬ 9223372036854775807 < 1 + _
        omega
      have HTK : Hid ((⟨#[40]⟩ : ByteArray) ++ bstr L = bstr ([40] ++ L)) := by
        show _ = _
        rw [show (⟨#[40]⟩ : ByteArray) = bstr [40] from rfl, bstr_app]
      have HL := Lib.hid hL91
      clear hL91
      go_wp2_with fail
      go_round
      case rel => exact ⟨i + 1, by omega, by go_num, [40] ++ L, by rw [← HTK.out], by rw [List.length_append]; show 1 + _ ≤ _; omega, no91_app (by intro x hx; simp at hx; subst hx; decide) HL.out⟩
      case measure => simp [intOf]; omega
    · obtain rfl : p = i := by omega
      have hpd : decide (p < p) = false := by simp
      have hcc : ¬ 9223372036854775807 < (bstr L).size + (⟨#[97]⟩ : ByteArray).size := by
        rw [bstr_size]
        show ¬ 9223372036854775807 < _ + 1
        omega
      have HTK : Hid (bstr L ++ (⟨#[97]⟩ : ByteArray) = bstr (L ++ [97])) := by
        show _ = _
        rw [show (⟨#[97]⟩ : ByteArray) = bstr [97] from rfl, bstr_app]
      have HL := Lib.hid hL91
      clear hL91
      go_wp2_with fail
      go_loop [7, 9] (fun s7 s9 => ∃ i : Nat, i ≤ p ∧ s9 = .int .i64 (i : Int) ∧ Txt (20 + 3 * i) s7) (fun _ s9 => p - (intOf s9).toNat)
      case atStart => exact ⟨0, Nat.zero_le _, rfl, L ++ [97], by rw [← HTK.out], by rw [List.length_append]; show _ + 1 ≤ _; omega, no91_app HL.out (by intro x hx; simp at hx; subst hx; decide)⟩
      case round =>
        clear hcc HTK HL hLi hpd hlt hi
        obtain ⟨i, hi, rfl, L, rfl, hLi, hL91⟩ := hrel
        by_cases hlt : i < p
        · have hlti : (i : Int) < (p : Int) := by omega
          have hcc : ¬ 9223372036854775807 < (bstr L).size + (⟨#[41]⟩ : ByteArray).size := by
            rw [bstr_size]
            show ¬ 9223372036854775807 < _ + 1
            omega
          have HTK : Hid (bstr L ++ (⟨#[41]⟩ : ByteArray) = bstr (L ++ [41])) := by
            show _ = _
            rw [show (⟨#[41]⟩ : ByteArray) = bstr [41] from rfl, bstr_app]
          have HL := Lib.hid hL91
          obtain ⟨M, hM⟩ : ∃ M, M = L ++ [41] := ⟨_, rfl⟩
          rw [← hM] at HTK
          have hMl : M.length ≤ 21 + 3 * i := by rw [hM, List.length_append]; show _ + 1 ≤ _; omega
          have HM91 : Hid (No91 M) := by rw [hM]; exact no91_app HL.out (by intro x hx; simp at hx; subst hx; decide)
          have HTK2 := HTK.out
          clear hL91 hM HTK HL
          by_cases hb : i < nb
          · have hbi : (i : Int) < (nb : Int) := by omega
            obtain ⟨b, off, rfl, -, hcell⟩ := HRD.out.at_ hb
            obtain ⟨x, hx⟩ : ∃ x, x = l[i]?.getD 0 := ⟨_, rfl⟩
            rw [← hx] at hcell
            have hx256 := x.toNat_lt
            have hr4 : x.toNat % 4 = 0 ∨ x.toNat % 4 = 1 ∨ x.toNat % 4 = 2 ∨ x.toNat % 4 = 3 := by omega
            clear hx
            rcases hr4 with hr | hr | hr | hr
            · have hri : (x.toNat : Int) % 4 = 0 := by omega
              have hix : ∀ w, (Instr.index 55 (.agg #[.string ⟨#[]⟩, .string ⟨#[42]⟩, .string ⟨#[98]⟩, .string ⟨#[124, 99]⟩]) (.int .u8 0)).run Try.prog w = .ok (.string ⟨#[]⟩) w := fun _ => rfl
              have hcc2 : ¬ 9223372036854775807 < (bstr M).size + (⟨#[]⟩ : ByteArray).size := by
                rw [bstr_size]
                show ¬ 9223372036854775807 < _ + 0
                omega
              have HTK3 : Hid (bstr M ++ (⟨#[]⟩ : ByteArray) = bstr (M ++ [])) := by
                show _ = _
                rw [show (⟨#[]⟩ : ByteArray) = bstr [] from rfl, bstr_app]
              clear hr
              go_wp2_with fail
              go_round
              case rel => exact ⟨i + 1, by omega, by go_num, M ++ [], by rw [← HTK3.out], by rw [List.length_append]; show _ + 0 ≤ _; omega, no91_app HM91.out (by intro y hy; simp at hy)⟩
              case measure => simp [intOf]; omega
            · have hri : (x.toNat : Int) % 4 = 1 := by omega
              have hix : ∀ w, (Instr.index 55 (.agg #[.string ⟨#[]⟩, .string ⟨#[42]⟩, .string ⟨#[98]⟩, .string ⟨#[124, 99]⟩]) (.int .u8 1)).run Try.prog w = .ok (.string ⟨#[42]⟩) w := fun _ => rfl
              have hcc2 : ¬ 9223372036854775807 < (bstr M).size + (⟨#[42]⟩ : ByteArray).size := by
                rw [bstr_size]
                show ¬ 9223372036854775807 < _ + 1
                omega
              have HTK3 : Hid (bstr M ++ (⟨#[42]⟩ : ByteArray) = bstr (M ++ [42])) := by
                show _ = _
                rw [show (⟨#[42]⟩ : ByteArray) = bstr [42] from rfl, bstr_app]
              clear hr
              go_wp2_with fail
              go_round
              case rel => exact ⟨i + 1, by omega, by go_num, M ++ [42], by rw [← HTK3.out], by rw [List.length_append]; show _ + 1 ≤ _; omega, no91_app HM91.out (by intro y hy; simp at hy; subst hy; decide)⟩
              case measure => simp [intOf]; omega
            · have hri : (x.toNat : Int) % 4 = 2 := by omega
              have hix : ∀ w, (Instr.index 55 (.agg #[.string ⟨#[]⟩, .string ⟨#[42]⟩, .string ⟨#[98]⟩, .string ⟨#[124, 99]⟩]) (.int .u8 2)).run Try.prog w = .ok (.string ⟨#[98]⟩) w := fun _ => rfl
              have hcc2 : ¬ 9223372036854775807 < (bstr M).size + (⟨#[98]⟩ : ByteArray).size := by
                rw [bstr_size]
                show ¬ 9223372036854775807 < _ + 1
                omega
              have HTK3 : Hid (bstr M ++ (⟨#[98]⟩ : ByteArray) = bstr (M ++ [98])) := by
                show _ = _
                rw [show (⟨#[98]⟩ : ByteArray) = bstr [98] from rfl, bstr_app]
              clear hr
              go_wp2_with fail
              go_round
              case rel => exact ⟨i + 1, by omega, by go_num, M ++ [98], by rw [← HTK3.out], by rw [List.length_append]; show _ + 1 ≤ _; omega, no91_app HM91.out (by intro y hy; simp at hy; subst hy; decide)⟩
              case measure => simp [intOf]; omega
            · have hri : (x.toNat : Int) % 4 = 3 := by omega
              have hix : ∀ w, (Instr.index 55 (.agg #[.string ⟨#[]⟩, .string ⟨#[42]⟩, .string ⟨#[98]⟩, .string ⟨#[124, 99]⟩]) (.int .u8 3)).run Try.prog w = .ok (.string ⟨#[124, 99]⟩) w := fun _ => rfl
              have hcc2 : ¬ 9223372036854775807 < (bstr M).size + (⟨#[124, 99]⟩ : ByteArray).size := by
                rw [bstr_size]
                show ¬ 9223372036854775807 < _ + 2
                omega
              have HTK3 : Hid (bstr M ++ (⟨#[124, 99]⟩ : ByteArray) = bstr (M ++ [124, 99])) := by
                show _ = _
                rw [show (⟨#[124, 99]⟩ : ByteArray) = bstr [124, 99] from rfl, bstr_app]
              clear hr
              go_wp2_with fail
              go_round
              case rel => exact ⟨i + 1, by omega, by go_num, M ++ [124, 99], by rw [← HTK3.out], by rw [List.length_append]; show _ + 2 ≤ _; omega, no91_app HM91.out (by intro y hy; simp at hy; rcases hy with rfl | rfl <;> decide)⟩
              case measure => simp [intOf]; omega
          · have hbd : decide (i < nb) = false := by simp; omega
            clear hb
            go_wp2_with fail
            go_round
            case rel => exact ⟨i + 1, by omega, by go_num, M, by first | rfl | (rw [← HTK2]), by omega, HM91.out⟩
            case measure => simp [intOf]; omega
        · obtain rfl : p = i := by omega
          have hpd : decide (p < p) = false := by simp
          have HL := Lib.hid hL91
          clear hL91 hlt
          go_wp2_with fail
          refine (pick_at row 450 q _ (by omega) (by omega) hq).mono ?_
          rintro e w0 ⟨rfl, rfl⟩
          go_wp2_with fail
          go_loop [7, 10] (fun s7 s10 => ∃ i : Nat, i ≤ 450 ∧ s10 = .int .i64 (i : Int) ∧ Txt (600 - i) s7) (fun _ s10 => (intOf s10).toNat)
          case atStart => exact ⟨q, by omega, rfl, L, rfl, by omega, HL.out⟩
          case round =>
            clear HL hLi hpd hi
            obtain ⟨i, hi, rfl, L, rfl, hLi, hL91⟩ := hrel
            cases i with
            | succ i =>
              have e1 : ((i + 1 : Nat) : Int) = (i : Int) + 1 := by omega
              have hpos : (0 : Int) < (i : Int) + 1 := by omega
              rw [e1]
              clear e1
              have hcc : ¬ 9223372036854775807 < (bstr L).size + (⟨#[98]⟩ : ByteArray).size := by
                rw [bstr_size]
                show ¬ 9223372036854775807 < _ + 1
                omega
              have HTK : Hid (bstr L ++ (⟨#[98]⟩ : ByteArray) = bstr (L ++ [98])) := by
                show _ = _
                rw [show (⟨#[98]⟩ : ByteArray) = bstr [98] from rfl, bstr_app]
              have HL := Lib.hid hL91
              clear hL91
              go_wp2_with fail
              go_round
              case rel => exact ⟨i, by omega, by go_num, L ++ [98], by rw [← HTK.out], by rw [List.length_append]; show _ + 1 ≤ _; omega, no91_app HL.out (by intro x hx; simp at hx; subst hx; decide)⟩
              case measure => simp [intOf]
            | zero =>
              have e0 : ((0 : Nat) : Int) = 0 := rfl
              rw [e0]
              have hLs : (bstr L).size ≤ 20000 := by show L.length ≤ _; omega
              have H91 := Lib.hid (atom91_no hL91)
              clear e0 hL91
              go_wp2_with fail
              refine (parse_any (bstr L) (fun _ => True) _ (by omega) (fun _ _ => trivial)).mono ?_
              rintro e w1 ⟨k, a, b1, c, d, A1, n1, cp, rfl, hC1, hl1⟩
              obtain ⟨R, hR⟩ : ∃ R, R = parseF (bstr L).data.toList := ⟨_, rfl⟩
              have hps := parse_same (bstr L).data.toList
              rw [← hR] at hC1 hps ⊢
              have hth : thinT R.1 := by rw [hR]; exact parse_thin _
              have HPS := Lib.hid hps
              have HTH := Lib.hid hth
              clear hR hps hth
              go_upto_region 19 with fail
              obtain ⟨g1, hg1⟩ : ∃ g1, g1 = w1.heap.size := ⟨_, rfl⟩
              obtain ⟨W1, hW1⟩ : ∃ W1, W1 = w1.alloc (.cells #[.int .i64 k, .int .u64 a, .int .u64 b1, .int .u64 c, .int .u64 d, .slice A1 n1 cp] 49) := ⟨_, rfl⟩
              have B1 : Blk W1 g1 49 #[.int .i64 k, .int .u64 a, .int .u64 b1, .int .u64 c, .int .u64 d, .slice A1 n1 cp] := by rw [hW1, hg1]; exact Blk.new w1 _ _
              have hl2 : Later w1 W1 := by rw [hW1]; exact (Later.refl w1).alloc _
              have hlw := hl1.trans hl2
              have hC1 := hC1.later hl2
              rw [← hW1, ← hg1]
              clear hW1 hg1 hl2 hl1
              go_wp2_with fail
              refine (refParse_any (bstr L) (fun _ => True) _ hLs H91.out (fun _ _ => trivial)).mono ?_
              rw [HPS.out]
              rintro e w2 ⟨k2, a2, b2, c2, d2, A2, n2, cp2, rfl, hC2, hl2⟩
              have hlw := hlw.trans hl2
              have B1 := blkL hl2 B1
              have hC1 := hC1.later hl2
              clear hl2
              go_upto_region 20 with fail
              obtain ⟨g2, hg2⟩ : ∃ g2, g2 = w2.heap.size := ⟨_, rfl⟩
              obtain ⟨W2, hW2⟩ : ∃ W2, W2 = w2.alloc (.cells #[.int .i64 k2, .int .u64 a2, .int .u64 b2, .int .u64 c2, .int .u64 d2, .slice A2 n2 cp2] 49) := ⟨_, rfl⟩
              have B2 : Blk W2 g2 49 #[.int .i64 k2, .int .u64 a2, .int .u64 b2, .int .u64 c2, .int .u64 d2, .slice A2 n2 cp2] := by rw [hW2, hg2]; exact Blk.new w2 _ _
              have hl2 : Later w2 W2 := by rw [hW2]; exact (Later.refl w2).alloc _
              have hlw := hlw.trans hl2
              have hC1 := hC1.later hl2
              have hC2 := hC2.later hl2
              have B1 := blkL hl2 B1
              rw [← hW2, ← hg2]
              clear hW2 hg2 hl2
              have hE : EndP R k a b1 c d A1 n1 cp k2 a2 b2 c2 d2 A2 n2 cp2 W2 := ⟨fun wx hl => same_any _ R.1 (fun _ => True) (fun _ => True) k a b1 c d A1 n1 cp k2 a2 b2 c2 d2 A2 n2 cp2 wx (Nat.le_refl _) HTH.out (hC1.later hl) (hC2.later hl)⟩
              have HE := Lib.hid hE
              obtain ⟨r1, hr1⟩ : ∃ r1, r1 = R.2.1 := ⟨_, rfl⟩
              obtain ⟨r2, hr2⟩ : ∃ r2, r2 = R.2.2 := ⟨_, rfl⟩
              rw [← hr1, ← hr2]
              have e1 : ((r1 : Int) == (r1 : Int)) = true := beq_self_eq_true _
              have e2 : ((r2 : Int) == (r2 : Int)) = true := beq_self_eq_true _
              have e3 : (r1 == r1) = true := beq_self_eq_true _
              have e4 : (r2 == r2) = true := beq_self_eq_true _
              clear hE hC1 hC2 hr1 hr2 HPS HTH
              go_wp2_with fail
              refine (ereKnown_any _).mono ?_
              rintro e w3 ⟨rfl, hl3⟩
              have B1 := blkL hl3 B1
              have B2 := blkL hl3 B2
              obtain ⟨ha1, ha2, ha3, ha4, ha5, ha6⟩ := cells6 B1
              obtain ⟨hb1, hb2, hb3, hb4, hb5, hb6⟩ := cells6 B2
              go_wp2_with fail
              refine (HE.out.same _ hl3).mono ?_
              rintro e w4 ⟨rfl, hl4⟩
              go_wp2_with fail
              go_ret
              exact ⟨rfl, hlw.trans (hl3.trans hl4)⟩

end Go.Proofs.Ythmjnelnnhidkaa
