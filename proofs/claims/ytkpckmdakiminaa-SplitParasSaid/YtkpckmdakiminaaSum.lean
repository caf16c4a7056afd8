/-
  Contracts of pack.whole and pack.Sum: the sum of bytes is the plain function sumC, as two whole floats.
-/
import Derived.Test.YtkpckmdakiminaaProg
import Derived.Test.YtkpckmdakiminaaFl
import Derived.Test.YtkpckmdakiminaaBytes
namespace Go.Proofs.Ytkpckmdakiminaa
open Go.RowKit

def md (n : Int) : Int := n % 16777199

theorem md_bd (n : Int) : 0 ≤ md n ∧ md n < 16777199 := by unfold md; omega

theorem tmod_bd (n : Int) : -16777199 < n.tmod 16777199 ∧ n.tmod 16777199 < 16777199 :=
  ⟨by have := Int.lt_tmod_of_pos n (b := 16777199) (by omega); omega, Int.tmod_lt_of_pos n (by omega)⟩
theorem tmod_md (n : Int) : md n = if n.tmod 16777199 < 0 then n.tmod 16777199 + 16777199 else n.tmod 16777199 := by
  unfold md
  have h := Int.mul_tdiv_add_tmod n 16777199
  have b := tmod_bd n
  split <;> omega
theorem ret_fl {a b : Int} (h : a = b) : Ending.returned (.float .f64 (fl b)) = .returned (.float .f64 (fl a)) := by rw [h]

set_option maxHeartbeats 400000 in
theorem whole_any (n : Int) (h1 : -4503599627370496 ≤ n) (h2 : n ≤ 4503599627370496) (w : World) :
    Calls Try.prog 37 #[.float .f64 (fl n)] w fun e w' => e = .returned (.float .f64 (fl (md n))) ∧ w = w' := by
  have hconv : ∀ w, (convert 62 2 (.float .f64 (fl n))).run Try.prog w = .ok (.int .i64 n) w := fun w =>
    run_convert_float_int w _ _ .f64 .i64 _ n (by kernel_rfl) Try.underlying2 (fl_toI64 n (by omega))
  have hb1 := (tmod_bd n).1
  have hb2 := (tmod_bd n).2
  go_enter Try.func37, Try.ntmps37
  go_wp2
  · have hlt : n.tmod 16777199 < 0 := by assumption
    go_ret
    exact ⟨ret_fl (by rw [tmod_md]; rw [if_pos hlt]), rfl⟩
  · have hlt : 0 ≤ n.tmod 16777199 := by assumption
    go_ret
    exact ⟨ret_fl (by rw [tmod_md]; rw [if_neg (by omega)]), rfl⟩

/-- one byte's step -/
def smStep (s : Int × Int) (x : UInt8) : Int × Int := (md (s.1 * 257 - s.2 * 3 + ((x.toNat : Int) + 1)), md (s.1 * 3 + s.2 * 257))
/-- the sum of bytes: its two parts -/
def sm (l : List UInt8) : Int × Int := l.foldl smStep (1, 0)
theorem sm_snoc (l : List UInt8) (x : UInt8) : sm (l ++ [x]) = smStep (sm l) x := by unfold sm; rw [List.foldl_append]; rfl
theorem smStep_bd (s : Int × Int) (x : UInt8) : 0 ≤ (smStep s x).1 ∧ (smStep s x).1 < 16777199 ∧ 0 ≤ (smStep s x).2 ∧ (smStep s x).2 < 16777199 :=
  ⟨(md_bd _).1, (md_bd _).2, (md_bd _).1, (md_bd _).2⟩
theorem foldl_bd (l : List UInt8) : ∀ s : Int × Int, (0 ≤ s.1 ∧ s.1 < 16777199 ∧ 0 ≤ s.2 ∧ s.2 < 16777199) → 0 ≤ (l.foldl smStep s).1 ∧ (l.foldl smStep s).1 < 16777199 ∧ 0 ≤ (l.foldl smStep s).2 ∧ (l.foldl smStep s).2 < 16777199 := by
  induction l with
  | nil => intro s h; exact h
  | cons x l ih => intro s _; exact ih _ (smStep_bd s x)
theorem sm_bd (l : List UInt8) : 0 ≤ (sm l).1 ∧ (sm l).1 < 16777199 ∧ 0 ≤ (sm l).2 ∧ (sm l).2 < 16777199 := foldl_bd l _ (by decide)

theorem sum_mul (a b : Int) (ha : 0 ≤ a) (ha' : a < 16777199) (hb : 0 ≤ b) (hb' : b < 16777199) (w : World) :
    (binOp .mul 60 (.complex .f64 (fl a) (fl b)) (.complex .f64 4643228808005025792 4613937818241073152)).run Try.prog w = .ok (.complex .f64 (fl (a * 257 - b * 3)) (fl (a * 3 + b * 257))) w :=
  run_complex_mul w _ _ _ _ _ _ _ (by rw [fl_257, fl_3]; exact cMul_fl a b (by omega) (by omega) ha hb)
theorem sum_one (x : Int) (h0 : 0 ≤ x) (h1 : x < 256) (w : World) :
    (binOp .add 62 (.float .f64 (fl x)) (.float .f64 4607182418800017408)).run Try.prog w = .ok (.float .f64 (fl (x + 1))) w :=
  run_float_arith w _ _ _ _ _ _ (by rw [fl_1]; exact floatBits_add x 1 (by omega) (by omega) (by omega))
theorem sum_add (a b x : Int) (h0 : -4503599627370496 < a) (h1 : a < 4503599627370496) (h2 : -4503599627370496 < b) (h3 : b < 4503599627370496) (h4 : 0 ≤ x) (h5 : x < 257) (w : World) :
    (binOp .add 60 (.complex .f64 (fl a) (fl b)) (.complex .f64 (fl x) 0)).run Try.prog w = .ok (.complex .f64 (fl (a + x)) (fl b)) w :=
  run_complex_sum w _ (.inl rfl) _ _ _ _ _ _ _ _ (by
    have := cSum_fl a b x 0 (by omega) (by omega) (by omega) (by omega)
    rw [Int.add_zero] at this
    rw [← this, ← fl_0])

theorem ret_sum {n : Nat} {l : List UInt8} (hn : l.length = n) {a b : Int} (h : (a, b) = sm (l.take n)) :
    Ending.returned (.complex .f64 (fl a) (fl b)) = .returned (.complex .f64 (fl (sm l).1) (fl (sm l).2)) := by
  rw [List.take_of_length_le (by omega)] at h
  rw [← h]

theorem take_snoc {l : List UInt8} {n k : Nat} (hl : l.length = n) (hk : k < n) : l.take (k + 1) = l.take k ++ [l[k]?.getD 0] := by
  rw [List.take_succ_eq_append_getElem (by omega), List.getElem?_eq_getElem (by omega)]; rfl
theorem sm_step {l : List UInt8} {n k : Nat} (hl : l.length = n) (hk : k < n) {a b : Int} (h : (a, b) = sm (l.take k)) :
    Hid ((md (a * 257 - b * 3 + (((l[k]?.getD 0).toNat : Int) + 1)), md (a * 3 + b * 257)) = sm (l.take (k + 1))) := by
  show _ = _
  rw [take_snoc hl hk, sm_snoc, ← h]; rfl

set_option maxHeartbeats 400000 in
theorem sum_any (A : Option Addr) (n c : Nat) (l : List UInt8) (B : Nat) (w : World) (hr : RdB w B A n l) (hn : n ≤ 140737488355328) :
    Calls Try.prog 34 #[.slice A n c] w fun e w' => e = .returned (.complex .f64 (fl (sm l).1) (fl (sm l).2)) ∧ w = w' := by
  go_enter Try.func34, Try.ntmps34
  go_wp2
  go_loop [3, 8] (fun s i => ∃ (k : Nat) (a b : Int), k ≤ n ∧ i = .int .i64 k ∧ s = .complex .f64 (fl a) (fl b) ∧ 0 ≤ a ∧ a < 16777199 ∧ 0 ≤ b ∧ b < 16777199 ∧ Hid ((a, b) = sm (l.take k))) (fun _ i => n - (intOf i).toNat)
  case atStart => exact ⟨0, 1, 0, Nat.zero_le _, rfl, by rw [← fl_1, ← fl_0], by omega, by omega, by omega, by omega, rfl⟩
  case round =>
    obtain ⟨k, a, b, hk, rfl, rfl, ha, ha', hb, hb', hs⟩ := hrel
    by_cases hlt : k < n
    · obtain ⟨g, off, rfl, _, hc⟩ := hr.at_ hlt
      have hmul := sum_mul a b ha ha' hb hb'
      have hx0 : (0 : Int) ≤ ((l[k]?.getD 0).toNat : Int) := by omega
      have hx1 : ((l[k]?.getD 0).toNat : Int) < 256 := by have := (l[k]?.getD 0).toNat_lt; omega
      have hone := sum_one _ hx0 hx1
      have hadd := sum_add (a * 257 - b * 3) (a * 3 + b * 257) (((l[k]?.getD 0).toNat : Int) + 1) (by omega) (by omega) (by omega) (by omega) (by omega) (by omega)
      go_wp2_with (go_at_call 37; refine (whole_any _ (by omega) (by omega) _).mono ?_; rintro e w' ⟨rfl, rfl⟩)
      go_round
      case rel =>
        refine ⟨k + 1, md (a * 257 - b * 3 + (((l[k]?.getD 0).toNat : Int) + 1)), md (a * 3 + b * 257), by omega, by go_num, rfl, (md_bd _).1, (md_bd _).2, (md_bd _).1, (md_bd _).2, ?_⟩
        exact sm_step hr.len hlt hs
      case measure => simp [intOf]; omega
    · go_wp2
      go_ret
      obtain rfl : k = n := by omega
      exact ⟨ret_sum hr.len hs, rfl⟩

/-- the sum, its parts under names of their own -/
theorem sum_at {p q : Int} (A : Option Addr) (n c : Nat) (l : List UInt8) (B : Nat) (w : World) (hr : RdB w B A n l) (hn : n ≤ 140737488355328) (h : Hid ((p, q) = sm l)) :
    Calls Try.prog 34 #[.slice A n c] w fun e w' => e = .returned (.complex .f64 (fl p) (fl q)) ∧ w = w' := by
  have := sum_any A n c l B w hr hn
  rw [← h.out] at this
  exact this
theorem sm_names (l : List UInt8) : ∃ p q : Int, Hid ((p, q) = sm l) ∧ 0 ≤ p ∧ p < 16777199 ∧ 0 ≤ q ∧ q < 16777199 := by
  have := sm_bd l
  exact ⟨(sm l).1, (sm l).2, rfl, this⟩

theorem ord_eq {a b : Int} (ha : 0 ≤ a ∧ a < 16777199) (h : a = b) : FloatKind.f64.format.order (fl a) (fl b) = some Ordering.eq := by
  subst h
  have := fl_eq a a (by omega) (by omega)
  rw [decide_eq_true rfl] at this
  exact beq_iff_eq.1 this
theorem ord_ne {a b c d : Int} (ha : 0 ≤ a) (ha' : a < 16777199) (hc : 0 ≤ c) (hc' : c < 16777199) (hb : 0 ≤ b) (hb' : b < 16777199) (hd : 0 ≤ d) (hd' : d < 16777199) (h : Hid (¬ (a, b) = (c, d))) :
    ¬ (FloatKind.f64.format.order (fl a) (fl c) = some Ordering.eq ∧ FloatKind.f64.format.order (fl b) (fl d) = some Ordering.eq) := by
  rintro ⟨h1, h2⟩
  have e1 := fl_eq a c (by omega) (by omega)
  have e2 := fl_eq b d (by omega) (by omega)
  rw [h1] at e1
  rw [h2] at e2
  have f1 : a = c := of_decide_eq_true e1.symm
  have f2 : b = d := of_decide_eq_true e2.symm
  exact h.out (by rw [f1, f2])
theorem ret_bool {b : Bool} (h : b = true) : Ending.returned (.bool b) = .returned (.bool true) := by rw [h]
theorem not_both {p q : Prop} (h : ¬ (p ∧ q)) : ¬ p ∨ ¬ q := by
  by_cases hp : p
  · exact .inr fun hq => h ⟨hp, hq⟩
  · exact .inl hp

end Go.Proofs.Ytkpckmdakiminaa
