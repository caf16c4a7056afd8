/-
  Contracts of pack's Reader: Float, Text.
-/
import Derived.Test.YtbeaacchhaipjaaReader2
import Derived.Test.YtbeaacchhaipjaaFloat
namespace Go.Proofs.Ytbeaacchhaipjaa
open Go.RowKit

/-- bytes as a number, the lowest first -/
def leVal : List UInt8 → Nat
  | [] => 0
  | x :: r => x.toNat + 256 * leVal r
/-- the eight bytes' number at a place, from the k-th byte on -/
def le8 (l : List UInt8) (p k : Nat) : Nat := leVal ((l.drop (p + k)).take (8 - k))
theorem le8_end (l : List UInt8) (p : Nat) : le8 l p 8 = 0 := by unfold le8; simp [leVal]
theorem le8_step {l : List UInt8} {p k : Nat} (hk : k < 8) (hl : p + k < l.length) : le8 l p k = (l[p + k]?.getD 0).toNat + 256 * le8 l p (k + 1) := by
  unfold le8
  rw [List.drop_eq_getElem_cons hl, show 8 - k = (8 - (k + 1)) + 1 from by omega, List.take_succ_cons]
  rw [List.getElem?_eq_getElem hl]
  rfl
theorem leVal_lt (l : List UInt8) : leVal l < 256 ^ l.length := by
  induction l with
  | nil => simp [leVal]
  | cons x r ih =>
    have hx := x.toNat_lt
    simp only [leVal, List.length_cons, Nat.pow_succ]
    omega
theorem le8_lt (l : List UInt8) (p k : Nat) (hk : k ≤ 8) : le8 l p k < 256 ^ (8 - k) := by
  unfold le8
  have := leVal_lt ((l.drop (p + k)).take (8 - k))
  have h2 : ((l.drop (p + k)).take (8 - k)).length ≤ 8 - k := by rw [List.length_take]; omega
  exact Nat.lt_of_lt_of_le this (Nat.pow_le_pow_right (by decide) h2)

theorem or_byte {acc x : Nat} (ha : acc < 72057594037927936) (hx : x < 256) : bits .or .u64 ((acc : Int) * 256) (x : Int) = ((x + 256 * acc : Nat) : Int) := by
  rw [show (acc : Int) * 256 = ((256 * acc : Nat) : Int) from by omega, u64_or_nat _ _ (by omega) (by omega), nat_join 8 _ _ (by omega) hx, Nat.add_comm]
theorem float_step {l : List UInt8} {n p k acc : Nat} (hl : l.length = n) (hk : k ≤ 8) (hk0 : ¬ k = 0) (hlt : p + (k - 1) < n) (h : Hid (acc = le8 l p k)) : Hid ((l[p + (k - 1)]?.getD 0).toNat + 256 * acc = le8 l p (k - 1)) := by
  show _ = _
  rw [h.out, le8_step (k := k - 1) (by omega) (by omega), show k - 1 + 1 = k from by omega]

theorem float_56 {l : List UInt8} {p k acc : Nat} (hk : k ≤ 8) (hk0 : ¬ k = 0) (h : Hid (acc = le8 l p k)) : acc < 72057594037927936 := by
  have h1 := le8_lt l p k hk
  rw [← h.out] at h1
  have h2 : 256 ^ (8 - k) ≤ 256 ^ 7 := Nat.pow_le_pow_right (by decide) (by omega)
  exact Nat.lt_of_lt_of_le h1 (Nat.le_trans h2 (by decide))
theorem int_eq {a b : Int} (h : a = b) : Value.int .i64 a = .int .i64 b := by rw [h]

/-- Float, on its state: the float's bits -/
def rFloat (l : List UInt8) (s : Nat × Int) : Nat × Nat × Int :=
  if s.2 ≠ 0 then (0, s)
  else if l.length - s.1 < 8 then (0, s.1, 10)
  else if nanB (le8 l s.1 0) = true ∧ le8 l s.1 0 ≠ bitsOf (le8 l s.1 0) then (0, s.1, 11)
  else (le8 l s.1 0, s.1 + 8, 0)

theorem rf_val {l : List UInt8} {s s' : Nat × Int} {b : Nat} (h : rFloat l s = (b, s')) : Value.float .f64 b = .float .f64 (rFloat l s).1 := by rw [h]
theorem rf_st {l : List UInt8} {s s' : Nat × Int} {b : Nat} (h : rFloat l s = (b, s')) : s' = (rFloat l s).2 := by rw [h]

set_option maxRecDepth 100000 in
set_option maxHeartbeats 1000000 in
theorem reader_float (w : World) (base g : Nat) (l : List UInt8) (p : Nat) (bad : Int) (hr : RrOk w base g l (p, bad)) (hbad : -100 < bad ∧ bad < 100) :
    Calls Try.prog 33 #[.pointer (some ⟨g, 0, none⟩)] w (Red base g l w (.float .f64 (rFloat l (p, bad)).1) (rFloat l (p, bad)).2) := by
  have HR := Lib.hid hr
  obtain ⟨hb, h1, h2, A, n, c, h3, h4⟩ := hr
  have HL : Hid (l.length = n) := h4.len
  have hc0 := h3.cell 0
  have hc1 := h3.cell 1
  have hc2 := h3.cell 2
  simp only [List.getElem?_toArray, List.getElem?_cons_succ, List.getElem?_cons_zero] at hc0 hc1 hc2
  have hfz := h3.frozen 1
  have hn : n ≤ 140737488355320 := by have := HL.out; omega
  have hp : p ≤ n := by have := HL.out; simp only at h1; omega
  by_cases hb0 : bad = 0
  · subst hb0
    by_cases hlt : n - p < 8
    · have hspec : rFloat l (p, 0) = (0, p, 10) := by
        unfold rFloat; rw [if_neg (by simp), if_pos (by rw [HL.out]; exact hlt)]
      rw [hspec]
      have hwr : IntKind.i64.wrap ((n : Int) - (p : Int)) = (n : Int) - (p : Int) := IntWalk.i64_in _ (by omega)
      have hlti : (n : Int) - (p : Int) < 8 := by omega
      go_enter Try.func33, Try.ntmps33
      go_wp2_with fail
      go_quiet (fail)
      go_wp2_with fail
      refine (fault_any 10 _ base g l p (HR.out.drewN _)).mono ?_
      rintro e w1 ⟨rfl, hr1, hf1⟩
      go_wp2_with fail
      go_ret
      exact Red.mk ((Fr.refl w _).drewN _) rfl rfl ⟨hr1, hf1⟩
    · have hwr : IntKind.i64.wrap ((n : Int) - (p : Int)) = (n : Int) - (p : Int) := IntWalk.i64_in _ (by omega)
      have hlti : (8 : Int) ≤ (n : Int) - (p : Int) := by omega
      go_enter Try.func33, Try.ntmps33
      go_wp2_with fail
      go_quiet (fail)
      go_wp2_with fail
      clear hwr
      go_loopw [3, 4] (fun v i wr => ∃ (k q acc : Nat), k ≤ 8 ∧ i = .int .i64 ((k : Int) - 1) ∧ v = .int .u64 (acc : Int) ∧ acc < 18446744073709551616 ∧ Hid (acc = le8 l p k) ∧ wr = w.drewN q) (fun _ i _ => (intOf i + 1).toNat)
      case atStart => exact ⟨8, _, 0, by omega, rfl, rfl, by omega, (le8_end l p).symm, rfl⟩
      case round =>
        obtain ⟨k, q, acc, hk, rfl, rfl, hacc, haccv, rfl⟩ := hrel
        by_cases hk0 : k = 0
        · subst hk0
          have hfr := run_f64from acc
          have hM : acc = le8 l p 0 := haccv.out
          have HM := Lib.hid hM
          clear hM
          by_cases hnan : nanB acc = true
          · by_cases heq : acc = bitsOf acc
            · have hspec : rFloat l (p, 0) = (acc, p + 8, 0) := by
                unfold rFloat; simp only [← HM.out]; rw [if_neg (by simp), if_neg (by rw [HL.out]; exact hlt), if_neg (fun h => h.2 heq)]
              have HS := Lib.hid hspec
              have hbe : ((acc : Int) != (bitsOf acc : Int)) = false := by rw [← heq]; simp
              have hres := Lib.hid fun q => (HR.out.drewN q).set_ (w := w.drewN q) (p + 8, 0) (by have := HL.out; simp only; omega) 1 (.int .i64 ((p : Int) + 8)) (fun v => rfl)
              have HQ := Lib.hid heq
              clear heq hspec
              go_wp2_with (go_at_call 49; refine (isNaN_any acc _).mono ?_; rintro e w' ⟨rfl, rfl⟩)
              refine (bits_any acc _).mono ?_
              rintro e w' ⟨rfl, rfl⟩
              go_wp2_with fail
              go_ret
              exact Red.mk ((Fr.refl w _).drewN q) (rf_val HS.out) (rf_st HS.out) (hres.out q)
            · have hspec : rFloat l (p, 0) = (0, p, 11) := by
                unfold rFloat; simp only [← HM.out]; rw [if_neg (by simp), if_neg (by rw [HL.out]; exact hlt), if_pos ⟨hnan, heq⟩]
              have HS := Lib.hid hspec
              have hbe : ((acc : Int) != (bitsOf acc : Int)) = true := by rw [bne_iff_ne]; omega
              have HQ := Lib.hid heq
              clear heq hspec
              go_wp2_with (go_at_call 49; refine (isNaN_any acc _).mono ?_; rintro e w' ⟨rfl, rfl⟩)
              refine (bits_any acc _).mono ?_
              rintro e w' ⟨rfl, rfl⟩
              go_wp2_with fail
              refine (fault_any 11 _ base g l p (HR.out.drewN _)).mono ?_
              rintro e w1 ⟨rfl, hr1, hf1⟩
              go_wp2_with fail
              go_ret
              exact Red.mk ((Fr.refl w _).drewN q) (rf_val HS.out) (rf_st HS.out) ⟨hr1, hf1⟩
          · have hspec : rFloat l (p, 0) = (acc, p + 8, 0) := by
              unfold rFloat; simp only [← HM.out]; rw [if_neg (by simp), if_neg (by rw [HL.out]; exact hlt), if_neg (fun h => hnan h.1)]
            have HS := Lib.hid hspec
            have hnf : nanB acc = false := by simpa using hnan
            have hres := Lib.hid fun q => (HR.out.drewN q).set_ (w := w.drewN q) (p + 8, 0) (by have := HL.out; simp only; omega) 1 (.int .i64 ((p : Int) + 8)) (fun v => rfl)
            clear hspec hnan
            go_wp2_with (go_at_call 49; refine (isNaN_any acc _).mono ?_; rintro e w' ⟨rfl, rfl⟩)
            go_ret
            exact Red.mk ((Fr.refl w _).drewN q) (rf_val HS.out) (rf_st HS.out) (hres.out q)
        · have hlt2 : p + (k - 1) < n := by omega
          obtain ⟨g1, o1, rfl, _, hcx⟩ := h4.rd.at_ hlt2
          have hx1 : ((l[p + (k - 1)]?.getD 0).toNat : Int) < 256 := by have := (l[p + (k - 1)]?.getD 0).toNat_lt; omega
          have hk1 : (0 : Int) ≤ (k : Int) - 1 := by omega
          have hpi : (p : Int) + ((k : Int) - 1) < (n : Int) := by omega
          have hp0 : (0 : Int) ≤ (p : Int) + ((k : Int) - 1) := by omega
          have hwr1 : IntKind.i64.wrap ((p : Int) + ((k : Int) - 1)) = (p : Int) + ((k : Int) - 1) := IntWalk.i64_in _ (by omega)
          have htn : ((p : Int) + ((k : Int) - 1)).toNat = p + (k - 1) := by omega
          have h56 := float_56 hk hk0 haccv
          go_wp2_with fail
          go_quiet (fail)
          go_wp2_with fail
          go_roundw
          case rel => exact ⟨k - 1, _, _, by omega, int_eq (by omega), num_val (or_byte h56 (by omega)), by omega, float_step HL.out hk hk0 hlt2 haccv, rfl⟩
          case measure => simp [intOf]; omega
  · have hspec : rFloat l (p, bad) = (0, p, bad) := by unfold rFloat; rw [if_pos (by simpa using hb0)]
    rw [hspec]
    go_enter Try.func33, Try.ntmps33
    go_wp2
    go_ret
    exact Red.mk (Fr.refl _ _) rfl rfl ⟨HR.out, Fr.refl _ _⟩

end Go.Proofs.Ytbeaacchhaipjaa
