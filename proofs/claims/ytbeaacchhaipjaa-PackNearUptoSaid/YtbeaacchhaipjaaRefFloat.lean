/-
  The contract of the document's Reader.Float.
-/
import Derived.Test.YtbeaacchhaipjaaRefReader
import Derived.Test.YtbeaacchhaipjaaReader3
namespace Go.Proofs.Ytbeaacchhaipjaa
open Go.RowKit

set_option maxRecDepth 100000 in
set_option maxHeartbeats 1000000 in
theorem refReader_float (w : World) (base g : Nat) (l : List UInt8) (p : Nat) (bad : Int) (hr : RfOk w base g l (p, bad)) :
    Calls Try.prog 35 #[.pointer (some ⟨g, 0, none⟩)] w (Rfd base g l w (.float .f64 (rFloat l (p, bad)).1) (rFloat l (p, bad)).2) := by
  have HR := Lib.hid hr
  obtain ⟨hb, h1, h2, A, n, c, h3, h4, h5⟩ := hr
  have HL : Hid (l.length = n) := h4.len
  have hc0 := h3.cell 0
  have hc1 := h3.cell 1
  have hc2 := h3.cell 2
  simp only [List.getElem?_toArray, List.getElem?_cons_succ, List.getElem?_cons_zero] at hc0 hc1 hc2
  have hfz := h3.frozen 1
  have hfz2 := h3.frozen 2
  have hn : n ≤ 140737488355320 := by have := HL.out; omega
  have hp : p ≤ n := by have := HL.out; simp only at h1; omega
  by_cases hb0 : bad = 0
  · subst hb0
    by_cases hlt : n - p < 8
    · have hspec : rFloat l (p, 0) = (0, p, 10) := by
        unfold rFloat; rw [if_neg (by simp), if_pos (by rw [HL.out]; exact hlt)]
      rw [hspec]
      have hwr : IntKind.i64.wrap ((n : Int) - (p : Int)) = (n : Int) - (p : Int) := IntWalk.i64_in _ (by omega)
      have hlti : (n : Int) - (p : Int) < 8 := by omega
      have hres := Lib.hid fun q => (HR.out.drewN q).set_ (w := w.drewN q) (p, 10) h1 2 (.int .i64 10) (fun v => rfl)
      go_enter Try.func35, Try.ntmps35
      go_wp2_with fail
      go_quiet (fail)
      go_wp2_with fail
      go_ret
      exact Rfd.mk ((Fr.refl w _).drewN _) rfl rfl (hres.out _)
    · have hwr : IntKind.i64.wrap ((n : Int) - (p : Int)) = (n : Int) - (p : Int) := IntWalk.i64_in _ (by omega)
      have hlti : (8 : Int) ≤ (n : Int) - (p : Int) := by omega
      go_enter Try.func35, Try.ntmps35
      go_wp2_with fail
      go_quiet (fail)
      go_wp2_with fail
      clear hwr
      go_loopw [3, 4] (fun v i wr => ∃ (k q acc : Nat), k ≤ 8 ∧ i = .int .i64 ((k : Int) - 1) ∧ v = .int .u64 (acc : Int) ∧ acc < 18446744073709551616 ∧ Hid (acc = le8 l p k) ∧ wr = w.drewN q) (fun _ i _ => (intOf i + 1).toNat)
      case atStart => exact ⟨8, _, 0, by omega, rfl, rfl, by omega, (le8_end l p).symm, rfl⟩
      case round =>
        obtain ⟨k, q, acc, hk, rfl, rfl, hacc, haccv, rfl⟩ := hrel
        by_cases hk0 : k = 0
        · subst hk0
          have hfr := run_f64from acc
          have hM : acc = le8 l p 0 := haccv.out
          have HM := Lib.hid hM
          clear hM
          by_cases hnan : FloatKind.f64.format.order acc acc = some Ordering.eq
          · have hnb : nanB acc = false := by unfold nanB; rw [hnan]; rfl
            have hspec : rFloat l (p, 0) = (acc, p + 8, 0) := by
              unfold rFloat; simp only [← HM.out]; rw [if_neg (by simp), if_neg (by rw [HL.out]; exact hlt), if_neg (fun h => by rw [hnb] at h; cases h.1)]
            have HS := Lib.hid hspec
            have hnf : (FloatKind.f64.format.order acc acc != some Ordering.eq) = false := by rw [hnan]; rfl
            have hres := Lib.hid fun q => (HR.out.drewN q).set_ (w := w.drewN q) (p + 8, 0) (by have := HL.out; simp only; omega) 1 (.int .i64 ((p : Int) + 8)) (fun v => rfl)
            clear hspec hnb
            go_wp2_with fail
            go_ret
            exact Rfd.mk ((Fr.refl w _).drewN q) (rf_val HS.out) (rf_st HS.out) (hres.out q)
          · have hnf : (FloatKind.f64.format.order acc acc != some Ordering.eq) = true := bne_iff_ne.2 hnan
            have hnb : nanB acc = true := by unfold nanB; rw [beq_eq_false_iff_ne.2 hnan]; rfl
            have hbo : bitsOf acc = 9221120237041090561 := by unfold bitsOf; rw [if_pos hnb]
            have hfb : ∀ w, (callFunc 46 #[.float .f64 9221120237041090561]).run Try.prog w = .ok (.value (.int .u64 9221120237041090561)) w := fun w => run_f64bits 9221120237041090561 w
            by_cases heq : acc = 9221120237041090561
            · have hspec : rFloat l (p, 0) = (acc, p + 8, 0) := by
                unfold rFloat; simp only [← HM.out]; rw [if_neg (by simp), if_neg (by rw [HL.out]; exact hlt), if_neg (fun h => h.2 (by rw [hbo, heq]))]
              have HS := Lib.hid hspec
              have hbe : ((acc : Int) != 9221120237041090561) = false := by rw [bne_eq_false_iff_eq]; omega
              have hres := Lib.hid fun q => (HR.out.drewN q).set_ (w := w.drewN q) (p + 8, 0) (by have := HL.out; simp only; omega) 1 (.int .i64 ((p : Int) + 8)) (fun v => rfl)
              clear hspec heq hbo hnb hnan
              go_wp2_with fail
              refine (nan_any _).mono ?_
              rintro e w' ⟨rfl, rfl⟩
              go_wp2_with fail
              go_ret
              exact Rfd.mk ((Fr.refl w _).drewN q) (rf_val HS.out) (rf_st HS.out) (hres.out q)
            · have hspec : rFloat l (p, 0) = (0, p, 11) := by
                unfold rFloat; simp only [← HM.out]; rw [if_neg (by simp), if_neg (by rw [HL.out]; exact hlt), if_pos ⟨hnb, fun h => heq (by rw [hbo] at h; exact h)⟩]
              have HS := Lib.hid hspec
              have hbe : ((acc : Int) != 9221120237041090561) = true := by rw [bne_iff_ne]; omega
              have hres := Lib.hid fun q => (HR.out.drewN q).set_ (w := w.drewN q) (p, 11) h1 2 (.int .i64 11) (fun v => rfl)
              clear hspec heq hbo hnb hnan
              go_wp2_with fail
              refine (nan_any _).mono ?_
              rintro e w' ⟨rfl, rfl⟩
              go_wp2_with fail
              go_ret
              exact Rfd.mk ((Fr.refl w _).drewN q) (rf_val HS.out) (rf_st HS.out) (hres.out q)
        · have hlt2 : p + (k - 1) < n := by omega
          obtain ⟨g1, o1, rfl, _, hcx⟩ := h4.at_ hlt2
          have hx1 : ((l[p + (k - 1)]?.getD 0).toNat : Int) < 256 := by have := (l[p + (k - 1)]?.getD 0).toNat_lt; omega
          have hk1 : (0 : Int) ≤ (k : Int) - 1 := by omega
          have hpi : (p : Int) + ((k : Int) - 1) < (n : Int) := by omega
          have hp0 : (0 : Int) ≤ (p : Int) + ((k : Int) - 1) := by omega
          have hwr1 : IntKind.i64.wrap ((p : Int) + ((k : Int) - 1)) = (p : Int) + ((k : Int) - 1) := IntWalk.i64_in _ (by omega)
          have htn : ((p : Int) + ((k : Int) - 1)).toNat = p + (k - 1) := by omega
          have h56 := float_56 hk hk0 haccv
          have he1 : IntKind.u64.wrap (256 * (acc : Int)) = 256 * (acc : Int) := IntWalk.u64_in _ (by omega)
          have he2 : IntKind.u64.wrap (256 * (acc : Int) + ((l[p + (k - 1)]?.getD 0).toNat : Int)) = 256 * (acc : Int) + ((l[p + (k - 1)]?.getD 0).toNat : Int) := IntWalk.u64_in _ (by omega)
          go_wp2_with fail
          go_quiet (fail)
          go_wp2_with fail
          go_roundw
          case rel => exact ⟨k - 1, _, (l[p + (k - 1)]?.getD 0).toNat + 256 * acc, by omega, int_eq (by omega), num_val (by omega), by omega, float_step HL.out hk hk0 hlt2 haccv, rfl⟩
          case measure => simp [intOf]; omega
  · have hspec : rFloat l (p, bad) = (0, p, bad) := by unfold rFloat; rw [if_pos (by simpa using hb0)]
    rw [hspec]
    have hbb : (bad == 0) = false := beq_eq_false_iff_ne.2 hb0
    go_enter Try.func35, Try.ntmps35
    go_wp2
    go_ret
    exact Rfd.mk (Fr.refl _ _) rfl rfl ⟨HR.out, Fr.refl _ _⟩

end Go.Proofs.Ytbeaacchhaipjaa
