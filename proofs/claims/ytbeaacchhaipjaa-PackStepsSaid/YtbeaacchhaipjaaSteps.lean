/-
  The walk of PackSteps: it returns true and writes nothing that was there.
-/
import Derived.Test.YtbeaacchhaipjaaStepsLaw
import Derived.Test.YtbeaacchhaipjaaKnown
namespace Go.Proofs.Ytbeaacchhaipjaa
open Go.RowKit

theorem run_fl_i64 (n : Int) (h1 : -4503599627370496 ≤ n) (h2 : n ≤ 4503599627370496) (w : World) :
    (convert 25 2 (.float .f64 (fl n))).run Try.prog w = .ok (.int .i64 n) w :=
  run_convert_float_int w _ _ .f64 .i64 _ n (by kernel_rfl) Try.underlying2 (fl_toI64 n (by omega))

/-- two whole complex numbers, held against one another -/
theorem cpx_eql (a b c d : Int) (ha : a.natAbs < 2 ^ 53) (hb : b.natAbs < 2 ^ 53) (hc : c.natAbs < 2 ^ 53) (hd : d.natAbs < 2 ^ 53) (w : World) :
    (binOp .eql 23 (.complex .f64 (fl a) (fl b)) (.complex .f64 (fl c) (fl d))).run Try.prog w = .ok (.bool (decide ((a, b) = (c, d)))) w := by
  rw [run_eql_complex, fl_eq _ _ ha hc, fl_eq _ _ hb hd, ← Bool.decide_and]
  simp only [Prod.mk.injEq]
theorem cpx_neq (a b c d : Int) (ha : a.natAbs < 2 ^ 53) (hb : b.natAbs < 2 ^ 53) (hc : c.natAbs < 2 ^ 53) (hd : d.natAbs < 2 ^ 53) (w : World) :
    (binOp .neq 23 (.complex .f64 (fl a) (fl b)) (.complex .f64 (fl c) (fl d))).run Try.prog w = .ok (.bool !(decide ((a, b) = (c, d)))) w := by
  rw [run_neq_complex, fl_eq _ _ ha hc, fl_eq _ _ hb hd, ← Bool.decide_and]
  simp only [Prod.mk.injEq]

/-- the sum, its parts under names of their own -/
theorem sum_at {p q : Int} (A : Option Addr) (n c : Nat) (l : List UInt8) (B : Nat) (w : World) (hr : RdB w B A n l) (hn : n ≤ 140737488355328) (h : Hid ((p, q) = sm l)) :
    Calls Try.prog 14 #[.slice A n c] w fun e w' => e = .returned (.complex .f64 (fl p) (fl q)) ∧ w = w' := by
  have := sum_any A n c l B w hr hn
  rw [← h.out] at this
  exact this
theorem sm_names (l : List UInt8) : ∃ p q : Int, Hid ((p, q) = sm l) ∧ 0 ≤ p ∧ p < 16777199 ∧ 0 ≤ q ∧ q < 16777199 := by
  have := sm_bd l
  exact ⟨(sm l).1, (sm l).2, rfl, this⟩

theorem ord_eq {a b : Int} (ha : 0 ≤ a ∧ a < 16777199) (h : a = b) : FloatKind.f64.format.order (fl a) (fl b) = some Ordering.eq := by
  subst h
  have := fl_eq a a (by omega) (by omega)
  rw [decide_eq_true rfl] at this
  exact beq_iff_eq.1 this
theorem ord_ne {a b c d : Int} (ha : 0 ≤ a) (ha' : a < 16777199) (hc : 0 ≤ c) (hc' : c < 16777199) (hb : 0 ≤ b) (hb' : b < 16777199) (hd : 0 ≤ d) (hd' : d < 16777199) (h : Hid (¬ (a, b) = (c, d))) :
    ¬ (FloatKind.f64.format.order (fl a) (fl c) = some Ordering.eq ∧ FloatKind.f64.format.order (fl b) (fl d) = some Ordering.eq) := by
  rintro ⟨h1, h2⟩
  have e1 := fl_eq a c (by omega) (by omega)
  have e2 := fl_eq b d (by omega) (by omega)
  rw [h1] at e1
  rw [h2] at e2
  have f1 : a = c := of_decide_eq_true e1.symm
  have f2 : b = d := of_decide_eq_true e2.symm
  exact h.out (by rw [f1, f2])
theorem ret_bool {b : Bool} (h : b = true) : Ending.returned (.bool b) = .returned (.bool true) := by rw [h]
theorem ne_close {c : Bool} {p q : Option Ordering} (h : ¬ (p = some Ordering.eq ∧ q = some Ordering.eq)) : (c || (!(p == some Ordering.eq) || !(q == some Ordering.eq))) = true := by
  by_cases h1 : p = some Ordering.eq
  · by_cases h2 : q = some Ordering.eq
    · exact absurd ⟨h1, h2⟩ h
    · have e : (q == some Ordering.eq) = false := beq_eq_false_iff_ne.2 h2
      rw [e]; simp
  · have e : (p == some Ordering.eq) = false := beq_eq_false_iff_ne.2 h1
    rw [e]; simp
theorem not_both {p q : Prop} (h : ¬ (p ∧ q)) : ¬ p ∨ ¬ q := by
  by_cases hp : p
  · exact .inr fun hq => h ⟨hp, hq⟩
  · exact .inl hp
theorem want1 {a1 b1 a3 b3 : Int} {la : List UInt8} {x : UInt8} (h1 : Hid ((a1, b1) = sm la)) (h3 : Hid ((a3, b3) = sm (la ++ [x]))) : a3 = (a1 * 257 - b1 * 3 + (x.toNat : Int) + 1).tmod 16777199 % 16777199 := by
  have h := h3.out
  rw [← steps_want, ← h1.out] at h
  have h' : a3 = _ := congrArg Prod.fst h
  rw [h']; simp
theorem want2 {a1 b1 a3 b3 : Int} {la : List UInt8} {x : UInt8} (h1 : Hid ((a1, b1) = sm la)) (h3 : Hid ((a3, b3) = sm (la ++ [x]))) : b3 = (a1 * 3 + b1 * 257) % 16777199 := by
  have h := h3.out
  rw [sm_snoc, ← h1.out] at h
  exact congrArg Prod.snd h
theorem sums_cases {a1 b1 a2 b2 a3 b3 a4 b4 : Int} {la lb : List UInt8} {x : UInt8} (h1 : Hid ((a1, b1) = sm la)) (h2 : Hid ((a2, b2) = sm lb)) (h3 : Hid ((a3, b3) = sm (la ++ [x]))) (h4 : Hid ((a4, b4) = sm (lb ++ [x]))) :
    (Hid (a1 = a2) ∧ Hid (b1 = b2) ∧ Hid (a3 = a4) ∧ Hid (b3 = b4)) ∨ (Hid (¬ (a1, b1) = (a2, b2)) ∧ Hid (¬ (a3, b3) = (a4, b4))) := by
  have h1 := h1.out
  have h2 := h2.out
  have h3 := h3.out
  have h4 := h4.out
  by_cases h : (a1, b1) = (a2, b2)
  · left
    have e : (a3, b3) = (a4, b4) := by rw [h3, h4, sm_snoc, sm_snoc, ← h1, ← h2, h]
    injection h with e1 e2
    injection e with e3 e4
    exact ⟨e1, e2, e3, e4⟩
  · right
    refine ⟨h, fun e => h ?_⟩
    rw [h3, h4, sm_snoc, sm_snoc] at e
    rw [h1, h2]
    exact smStep_inj (sm_bd _) (sm_bd _) e

set_option maxRecDepth 100000 in
set_option maxHeartbeats 1000000 in
theorem steps_any (A1 A2 : Option Addr) (n1 c1 n2 c2 : Nat) (la lb : List UInt8) (x : UInt8) (w : World) (hra : RdB w w.heap.size A1 n1 la) (hrb : RdB w w.heap.size A2 n2 lb) (hn1 : n1 ≤ 140737488351232) (hn2 : n2 ≤ 140737488351232) :
    Calls Try.prog 3 #[.slice A1 n1 c1, .slice A2 n2 c2, .int .u8 (x.toNat : Int)] w fun e w' => e = .returned (.bool true) ∧ Below w.heap.size w w' := by
  have hx0 : (0 : Int) ≤ (x.toNat : Int) := by omega
  have hx1 : (x.toNat : Int) < 256 := by have := x.toNat_lt; omega
  obtain ⟨a1, b1, h1, pa1, pa1', pb1, pb1'⟩ := sm_names la
  obtain ⟨a2, b2, h2, pa2, pa2', pb2, pb2'⟩ := sm_names lb
  obtain ⟨a3, b3, h3, pa3, pa3', pb3, pb3'⟩ := sm_names (la ++ [x])
  obtain ⟨a4, b4, h4, pa4, pa4', pb4, pb4'⟩ := sm_names (lb ++ [x])
  have hmul := sum_mul a1 b1 pa1 pa1' pb1 pb1'
  have hre := run_fl_i64 (a1 * 257 - b1 * 3) (by omega) (by omega)
  have him := run_fl_i64 (a1 * 3 + b1 * 257) (by omega) (by omega)
  have ht1 := (tmod_bd (a1 * 257 - b1 * 3 + (x.toNat : Int) + 1)).1
  have ht2 := (tmod_bd (a1 * 257 - b1 * 3 + (x.toNat : Int) + 1)).2
  go_enter Try.func3, Try.ntmps3
  go_wp2_with (first
    | (at_builtin; refine wpList_append_b _ rfl (.tmp 13) (.tmp 14) rfl w.heap.size _ 0 0 [] rfl (OwnB.made (Nat.le_refl _)) _ A1 n1 c1 la rfl (hra.alloc (Nat.le_refl _) _) (by omega) (by simp) ?_; intro A' n' c' w1 hown1 hg1 hob1; have hn' : n' ≤ 140737488351232 := (by have := hown1.len; rw [List.nil_append, hra.len] at this; omega); have hb1 := below_grown (Below.refl w.heap.size w) hg1 (Nat.le_refl _) (by simp); have hs1 := hb1.size)
    | (at_builtin; refine wpList_append_b _ rfl (.tmp 15) (.tmp 17) rfl w.heap.size A' n' c' ([] ++ la) rfl (hown1.alloc _) _ _ 1 1 [byt x.toNat] rfl (rd_byt w1 hx0 hx1) (by omega) (by simp; omega) ?_; intro A2' n2' c2' w2 hown2 hg2 hob2; have hn2' : n2' ≤ 140737488351233 := (by have := hown2.len; rw [List.length_append, List.nil_append, hra.len] at this; simp only [List.length_singleton] at this; omega); have hb2 := below_grown hb1 hg2 (by omega) (fun k hk => (hown1.lt k hk).1); have hs2 := hb2.size))
  rw [byt_of, List.nil_append] at hown2
  refine (sum_at _ _ _ _ _ _ hown2.rd (by omega) h3).mono ?_
  rintro e w' ⟨rfl, rfl⟩
  go_wp2_with fail
  refine (sum_at _ _ _ _ _ _ (hra.below hb2) (by omega) h1).mono ?_
  rintro e w' ⟨rfl, rfl⟩
  go_wp2_with (first
    | (at_builtin; refine wpList_append_b _ rfl (.tmp 44) (.tmp 45) rfl w.heap.size _ 0 0 [] rfl (OwnB.made (by omega)) _ A2 n2 c2 lb rfl ((hrb.below hb2).alloc (by omega) _) (by omega) (by simp; omega) ?_; intro A3' n3' c3' w3 hown3 hg3 hob3; have hn3' : n3' ≤ 140737488351232 := (by have := hown3.len; rw [List.nil_append, hrb.len] at this; omega); have hb3 := below_grown hb2 hg3 (by omega) (by intro g hg; injection hg with hg; simp at hg; omega); have hs3 := hb3.size)
    | (at_builtin; refine wpList_append_b _ rfl (.tmp 46) (.tmp 48) rfl w.heap.size A3' n3' c3' ([] ++ lb) rfl (hown3.alloc _) _ _ 1 1 [byt x.toNat] rfl (rd_byt w3 hx0 hx1) (by omega) (by simp; omega) ?_; intro A4' n4' c4' w4 hown4 hg4 hob4; have hn4' : n4' ≤ 140737488351233 := (by have := hown4.len; rw [List.length_append, List.nil_append, hrb.len] at this; simp only [List.length_singleton] at this; omega); have hb4 := below_grown hb3 hg4 (by omega) (fun k hk => (hown3.lt k hk).1); have hs4 := hb4.size))
  rw [byt_of, List.nil_append] at hown4
  refine (sum_at _ _ _ _ _ _ hown4.rd (by omega) h4).mono ?_
  rintro e w' ⟨rfl, rfl⟩
  go_wp2_with fail
  refine (known_any _).mono ?_
  rintro e w5 ⟨rfl, hb5⟩
  have hb6 : Below w.heap.size w w5 := hb4.trans (hb5.mono (by omega))
  have hs1 := ord_eq (a := a3) (b := (a1 * 257 - b1 * 3 + (x.toNat : Int) + 1).tmod 16777199 % 16777199) (by omega) (want1 h1 h3)
  have hs2 := ord_eq (a := b3) (b := (a1 * 3 + b1 * 257) % 16777199) (by omega) (want2 h1 h3)
  rcases sums_cases h1 h2 h3 h4 with ⟨e1, e2, e3, e4⟩ | ⟨e1, e2⟩
  · obtain rfl := e1.out
    obtain rfl := e2.out
    obtain rfl := e3.out
    obtain rfl := e4.out
    clear e1 e2 e3 e4
    have o1 := ord_eq (a := a1) (b := a1) (by omega) rfl
    have o2 := ord_eq (a := b1) (b := b1) (by omega) rfl
    have o3 := ord_eq (a := a3) (b := a3) (by omega) rfl
    have o4 := ord_eq (a := b3) (b := b3) (by omega) rfl
    go_wp2_with fail
    refine (sum_at _ _ _ _ _ _ (hra.below hb6) (by omega) h1).mono ?_
    rintro e w' ⟨rfl, rfl⟩
    go_wp2_with fail
    refine (sum_at _ _ _ _ _ _ (hrb.below hb6) (by omega) h2).mono ?_
    rintro e w' ⟨rfl, rfl⟩
    go_wp2_with fail
    refine (sum_at _ _ _ _ _ _ (hra.below hb6) (by omega) h1).mono ?_
    rintro e w' ⟨rfl, rfl⟩
    go_wp2_with fail
    refine (sum_at _ _ _ _ _ _ (hrb.below hb6) (by omega) h2).mono ?_
    rintro e w' ⟨rfl, rfl⟩
    go_wp2_with fail
    go_ret
    exact ⟨rfl, hb6⟩
  · have o1 := ord_ne pa1 pa1' pa2 pa2' pb1 pb1' pb2 pb2' e1
    have o2 := ord_ne pa3 pa3' pa4 pa4' pb3 pb3' pb4 pb4' e2
    have o3 := not_both o1
    have o4 := not_both o2
    go_wp2_with fail
    refine (sum_at _ _ _ _ _ _ (hra.below hb6) (by omega) h1).mono ?_
    rintro e w' ⟨rfl, rfl⟩
    go_wp2_with fail
    refine (sum_at _ _ _ _ _ _ (hrb.below hb6) (by omega) h2).mono ?_
    rintro e w' ⟨rfl, rfl⟩
    go_wp2_with fail
    refine (sum_at _ _ _ _ _ _ (hra.below hb6) (by omega) h1).mono ?_
    rintro e w' ⟨rfl, rfl⟩
    go_wp2_with fail
    refine (sum_at _ _ _ _ _ _ (hrb.below hb6) (by omega) h2).mono ?_
    rintro e w' ⟨rfl, rfl⟩
    go_wp2_with fail
    go_ret
    exact ⟨ret_bool (ne_close o2), hb6⟩

end Go.Proofs.Ytbeaacchhaipjaa
