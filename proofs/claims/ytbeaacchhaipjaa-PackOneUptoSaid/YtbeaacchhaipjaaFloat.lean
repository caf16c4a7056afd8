/-
  Contracts of pack's bits and Writer.Float, and of the document's Num, Float, Text.
-/
import Derived.Test.YtbeaacchhaipjaaWriter
import Derived.Laws.Externs
namespace Go.Proofs.Ytbeaacchhaipjaa
open Go.RowKit

/-- is it no number? -/
def nanB (x : Nat) : Bool := !(FloatKind.f64.format.order x x == some Ordering.eq)
/-- the bits of a float; of one that is no number just some -/
def bitsOf (x : Nat) : Nat := if nanB x then 9221120237041090561 else x
theorem bitsOf_lt {x : Nat} (h : x < 18446744073709551616) : bitsOf x < 18446744073709551616 := by unfold bitsOf; split <;> omega
/-- so many bytes of a number, the lowest first -/
def leB : Nat → Nat → List UInt8
  | 0, _ => []
  | k + 1, m => byt (m % 256 : Nat) :: leB k (m / 256)
theorem leB_len (k m : Nat) : (leB k m).length = k := by
  induction k generalizing m with
  | zero => rfl
  | succ k ih => simp [leB, ih]

theorem run_f64bits (x : Nat) (w : World) : (callFunc 46 #[.float .f64 x]).run Try.prog w = .ok (.value (.int .u64 (x : Int))) w := by
  rw [run_callFunc_extern (e := Extern.MathFloatBits.float64bits) Try.func46 (by kernel_rfl) (by kernel_rfl) (by kernel_rfl) (by kernel_rfl)]
  rfl
theorem run_f64from (n : Nat) (w : World) : (callFunc 48 #[.int .u64 (n : Int)]).run Try.prog w = .ok (.value (.float .f64 n)) w := by
  rw [run_callFunc_extern (e := Extern.MathFloatBits.float64frombits) Try.func48 (by kernel_rfl) (by kernel_rfl) (by kernel_rfl) (by kernel_rfl)]
  rfl

set_option maxRecDepth 100000 in
set_option maxHeartbeats 400000 in
theorem nan_any (w : World) : Calls Try.prog 45 #[] w fun e w' => e = .returned (.float .f64 9221120237041090561) ∧ w = w' := by
  have hfr : ∀ w, (callFunc 48 #[.int .u64 9221120237041090561]).run Try.prog w = .ok (.value (.float .f64 9221120237041090561)) w := fun w => run_f64from 9221120237041090561 w
  go_enter Try.func45, Try.ntmps45
  go_wp2
  go_ret
  exact ⟨rfl, rfl⟩

set_option maxRecDepth 100000 in
set_option maxHeartbeats 400000 in
theorem isNaN_any (x : Nat) (w : World) : Calls Try.prog 49 #[.float .f64 x] w fun e w' => e = .returned (.bool (nanB x)) ∧ w = w' := by
  go_enter Try.func49, Try.ntmps49
  go_wp2
  go_ret
  exact ⟨rfl, rfl⟩

set_option maxRecDepth 100000 in
set_option maxHeartbeats 400000 in
theorem bits_any (x : Nat) (w : World) : Calls Try.prog 44 #[.float .f64 x] w fun e w' => e = .returned (.int .u64 (bitsOf x : Int)) ∧ w = w' := by
  by_cases hx : nanB x = true
  · have HX := Lib.hid hx
    have hfb : ∀ w, (callFunc 46 #[.float .f64 9221120237041090561]).run Try.prog w = .ok (.value (.int .u64 9221120237041090561)) w := fun w => run_f64bits 9221120237041090561 w
    go_enter Try.func44, Try.ntmps44
    go_wp2_with (first | (go_at_call 49; refine (isNaN_any x _).mono ?_; rintro e w' ⟨rfl, rfl⟩) | (go_at_call 45; refine (nan_any _).mono ?_; rintro e w' ⟨rfl, rfl⟩))
    go_ret
    have e : bitsOf x = 9221120237041090561 := by unfold bitsOf; rw [if_pos HX.out]
    rw [e]
    exact ⟨rfl, rfl⟩
  · have HX := Lib.hid hx
    have hx' : nanB x = false := by simpa using hx
    have hfb := run_f64bits x
    go_enter Try.func44, Try.ntmps44
    go_wp2_with (first | (go_at_call 49; refine (isNaN_any x _).mono ?_; rintro e w' ⟨rfl, rfl⟩) | (go_at_call 45; refine (nan_any _).mono ?_; rintro e w' ⟨rfl, rfl⟩))
    go_ret
    have e : bitsOf x = x := by unfold bitsOf; rw [if_neg HX.out]
    rw [e]
    exact ⟨rfl, rfl⟩

theorem le_round {k m M K : Nat} {l cur : List UInt8} (hk : k < 8) (h : Hid (l ++ leB K M = cur ++ leB (8 - k) m)) : Hid (l ++ leB K M = (cur ++ [byt ((m : Int) % 256)]) ++ leB (8 - (k + 1)) (m / 256)) := by
  show _ = _
  rw [h.out, show 8 - k = (8 - (k + 1)) + 1 from by omega]
  show cur ++ (byt ((m % 256 : Nat) : Int) :: _) = _
  rw [show ((m % 256 : Nat) : Int) = (m : Int) % 256 from by omega]
  simp

set_option maxRecDepth 100000 in
set_option maxHeartbeats 400000 in
theorem writer_float (x : Nat) (hx : x < 18446744073709551616) (w : World) (base g : Nat) (R : Option Nat) (l : List UInt8) (hw : WrOk w base g R l) (hl : l.length + 8 ≤ 140737488355328) (hbase : base ≤ w.heap.size) :
    Calls Try.prog 26 #[.pointer (some ⟨g, 0, none⟩), .float .f64 x] w fun e w' => e = .returned (.tuple #[]) ∧ Laid w base g R (l ++ leB 8 (bitsOf x)) w' := by
  have hbx := bitsOf_lt hx
  obtain ⟨M, HM, hM⟩ : ∃ M, Hid (bitsOf x = M) ∧ M < 18446744073709551616 := ⟨_, rfl, hbx⟩
  rw [HM.out]
  clear hbx hx
  go_enter Try.func26, Try.ntmps26
  go_wp2_with fail
  refine (bits_any x w).mono ?_
  rintro e w' ⟨rfl, rfl⟩
  rw [HM.out]
  go_wp2_with fail
  go_loopw [4, 5] (fun v i wr => ∃ (k m : Nat) (cur : List UInt8), k ≤ 8 ∧ i = .int .i64 k ∧ v = .int .u64 (m : Int) ∧ m < 18446744073709551616 ∧ cur.length ≤ l.length + k ∧ Hid (l ++ leB 8 M = cur ++ leB (8 - k) m) ∧ Laid w base g R cur wr)
    (fun _ i _ => 8 - (intOf i).toNat)
  case atStart => exact ⟨0, M, l, by omega, rfl, rfl, hM, by omega, rfl, Laid.refl hw⟩
  case round =>
    obtain ⟨k, m, cur, hk, rfl, rfl, hm, hcl, hcur, R1, ⟨hb, A, n, c, rfl, hblk, hown⟩, hf1, hR1⟩ := hrel
    have hcell := hblk.cell 0
    simp only [List.getElem?_toArray, List.getElem?_cons_zero] at hcell
    have hne : ob A ≠ some g := hown.ne_blk hblk (by decide)
    have hn : n ≤ l.length + k := by have := hown.len; omega
    have hsz := hf1.size
    by_cases hlt : k < 8
    · go_wp2_with (at_builtin; refine wpList_append_b _ rfl (.tmp 16) (.tmp 19) rfl base A n c cur rfl (hown.alloc _) _ _ 1 1 [_] rfl (rd_byt wr (by omega) (by omega)) (by omega) (by simp; omega) ?_; intro A' n' c' w1 hown1 hg1 hob; have hblk1 := (hblk.alloc _).grown hg1 (Ne.symm hne); have hcell1 := hblk1.cell 0; simp only [List.getElem?_toArray, List.getElem?_cons_zero] at hcell1; have hfz1 := hblk1.frozen 0)
      go_roundw
      case rel =>
        have hL := laid_step hb hblk hown hown1 hg1 hob
        exact ⟨k + 1, m / 256, _, by omega, by go_num, by go_num, by omega, by simp only [List.length_append, List.length_singleton]; omega, le_round hlt hcur, Laid.then_ hf1 hR1 hL⟩
      case measure => simp [intOf]; omega
    · obtain rfl : k = 8 := by omega
      go_wp2
      go_end0
      have e : l ++ leB 8 M = cur := by rw [hcur.out]; simp [leB]
      rw [e]
      exact ⟨rfl, Laid.then_ hf1 hR1 (Laid.refl ⟨hb, A, n, c, rfl, hblk, hown⟩)⟩

/-- what a function of the document's that makes bytes leaves -/
def Made (w : World) (l : List UInt8) (e : Ending) (w' : World) : Prop := ∃ A n c, e = .returned (.slice A n c) ∧ OwnB w' w.heap.size A n c l ∧ Below w.heap.size w w'

theorem num_round' {N f m : Nat} {cur : List UInt8} (hlt : ¬ m < 128) (hmf : Hid (m < 128 ^ (f + 1))) (hcur : Hid (nm N = cur ++ nmF f m)) :
    ∃ f', f = f' + 1 ∧ Hid (m / 128 < 128 ^ (f' + 1)) ∧ Hid (nm N = (cur ++ [byt ((m : Int) % 128 + 128)]) ++ nmF f' (m / 128)) := by
  obtain ⟨f', h1, h2, h3⟩ := num_round (l := []) hlt hmf (by show _ = _; rw [List.nil_append]; exact hcur.out)
  refine ⟨f', h1, h2, ?_⟩
  have h3 := h3.out
  rw [List.nil_append, or128] at h3
  rw [show ((m % 128 + 128 : Nat) : Int) = (m : Int) % 128 + 128 from by omega] at h3
  exact h3

set_option maxRecDepth 100000 in
set_option maxHeartbeats 400000 in
theorem refNum_any (N : Nat) (hN : N < 18446744073709551616) (w : World) : Calls Try.prog 25 #[.int .u64 (N : Int)] w (Made w (nm N)) := by
  go_enter Try.func25, Try.ntmps25
  go_wp2
  go_loopw [0, 3] (fun v s wr => ∃ (f m : Nat) (cur : List UInt8) (A : Option Addr) (n c : Nat), v = .int .u64 (m : Int) ∧ s = .slice A n c ∧ m < 18446744073709551616 ∧ Hid (m < 128 ^ (f + 1)) ∧ n + f ≤ 9 ∧ Hid (nm N = cur ++ nmF f m) ∧ OwnB wr w.heap.size A n c cur ∧ Below w.heap.size w wr)
    (fun v _ _ => (intOf v).toNat)
  case atStart => exact ⟨9, N, [], none, 0, 0, rfl, rfl, hN, (by show N < 128 ^ 10; omega), by omega, rfl, OwnB.nil, Below.refl _ _⟩
  case round =>
    obtain ⟨f, m, cur, A, n, c, rfl, rfl, hm, hmf, hnf, hcur, hown, hbw⟩ := hrel
    have hsz := hbw.size
    have HL : Hid (cur.length = n) := hown.len
    by_cases hlt : m < 128
    · go_wp2_with (at_builtin; refine wpList_append_b _ rfl (.tmp 15) (.tmp 18) rfl w.heap.size A n c cur rfl (hown.alloc _) _ _ 1 1 [_] rfl (rd_byt wr (by omega) (by omega)) (by omega) (by simp; omega) ?_; intro A' n' c' w1 hown1 hg1 hob)
      go_ret
      have e : nm N = cur ++ [byt m] := by rw [hcur.out, nmF_small hlt]
      exact ⟨_, _, _, rfl, by rw [e]; exact hown1, below_grown hbw hg1 hsz (fun k hk => (hown.lt k hk).1)⟩
    · go_wp2_with (at_builtin; refine wpList_append_b _ rfl (.tmp 6) (.tmp 11) rfl w.heap.size A n c cur rfl (hown.alloc _) _ _ 1 1 [_] rfl (rd_byt wr (by omega) (by omega)) (by omega) (by simp; omega) ?_; intro A' n' c' w1 hown1 hg1 hob)
      go_roundw
      case rel =>
        obtain ⟨f', hf', hmf', hcat⟩ := num_round' hlt hmf hcur
        have hl1 : n' + f' ≤ 9 := by have := hown1.len; rw [List.length_append, HL.out] at this; simp only [List.length_singleton] at this; omega
        exact ⟨f', m / 128, _, A', n', c', by go_num, rfl, by omega, hmf', hl1, hcat, hown1, below_grown hbw hg1 hsz (fun k hk => (hown.lt k hk).1)⟩
      case measure => simp [intOf]; omega

set_option maxRecDepth 100000 in
set_option maxHeartbeats 1000000 in
theorem refFloat_any (x : Nat) (hx : x < 18446744073709551616) (w : World) : Calls Try.prog 27 #[.float .f64 x] w (Made w (leB 8 (bitsOf x))) := by
  have hbx := bitsOf_lt hx
  obtain ⟨M, HM, hM⟩ : ∃ M, Hid (bitsOf x = M) ∧ M < 18446744073709551616 := ⟨_, rfl, hbx⟩
  rw [HM.out]
  clear hbx
  by_cases hnan : FloatKind.f64.format.order x x = some Ordering.eq
  · have e : x = M := by
      rw [← HM.out]; unfold bitsOf nanB; rw [hnan]; rfl
    subst e
    clear HM
    have hfb := run_f64bits x
    go_enter Try.func27, Try.ntmps27
    go_wp2_with fail
    go_loopw [3, 4, 5] (fun v s i wr => ∃ (k m : Nat) (cur : List UInt8) (A : Option Addr) (n c : Nat), k ≤ 8 ∧ i = .int .i64 k ∧ v = .int .u64 (m : Int) ∧ s = .slice A n c ∧ m < 18446744073709551616 ∧ n ≤ k ∧ Hid ([] ++ leB 8 x = cur ++ leB (8 - k) m) ∧ OwnB wr w.heap.size A n c cur ∧ Below w.heap.size w wr)
      (fun _ _ i _ => 8 - (intOf i).toNat)
    case atStart => exact ⟨0, x, [], none, 0, 0, by omega, rfl, rfl, rfl, hx, by omega, rfl, OwnB.nil, Below.refl _ _⟩
    case round =>
      obtain ⟨k, m, cur, A, n, c, hk, rfl, rfl, rfl, hm, hnk, hcur, hown, hbw⟩ := hrel
      have hsz := hbw.size
      have HL : Hid (cur.length = n) := hown.len
      by_cases hlt : k < 8
      · go_wp2_with (at_builtin; refine wpList_append_b _ rfl (.tmp 16) (.tmp 19) rfl w.heap.size A n c cur rfl (hown.alloc _) _ _ 1 1 [_] rfl (rd_byt wr (by omega) (by omega)) (by omega) (by simp; omega) ?_; intro A' n' c' w1 hown1 hg1 hob)
        go_roundw
        case rel =>
          have hl1 : n' ≤ k + 1 := by have := hown1.len; rw [List.length_append, HL.out] at this; simp only [List.length_singleton] at this; omega
          exact ⟨k + 1, m / 256, _, A', n', c', by omega, by go_num, by go_num, rfl, by omega, hl1, le_round hlt hcur, hown1, below_grown hbw hg1 hsz (fun k hk => (hown.lt k hk).1)⟩
        case measure => simp [intOf]; omega
      · obtain rfl : k = 8 := by omega
        go_wp2
        go_ret
        have e : leB 8 x = cur := by have h := hcur.out; simpa [leB] using h
        exact ⟨_, _, _, rfl, by rw [e]; exact hown, hbw⟩
  · have e : (9221120237041090561 : Nat) = M := by
      rw [← HM.out]; unfold bitsOf nanB; rw [beq_eq_false_iff_ne.2 hnan]; rfl
    have HE : Hid ((9221120237041090561 : Int) = (M : Int)) := by show _ = _; rw [← e]; rfl
    have hfb : ∀ w, (callFunc 46 #[.float .f64 9221120237041090561]).run Try.prog w = .ok (.value (.int .u64 (M : Int))) w := by
      intro w; rw [← e]; exact run_f64bits 9221120237041090561 w
    clear e HM
    have hb : (FloatKind.f64.format.order x x != some Ordering.eq) = true := bne_iff_ne.2 hnan
    go_enter Try.func27, Try.ntmps27
    go_wp2_with (go_at_call 45; refine (nan_any _).mono ?_; rintro e w' ⟨rfl, rfl⟩)
    go_loopw [3, 4, 5] (fun v s i wr => ∃ (k m : Nat) (cur : List UInt8) (A : Option Addr) (n c : Nat), k ≤ 8 ∧ i = .int .i64 k ∧ v = .int .u64 (m : Int) ∧ s = .slice A n c ∧ m < 18446744073709551616 ∧ n ≤ k ∧ Hid ([] ++ leB 8 M = cur ++ leB (8 - k) m) ∧ OwnB wr w.heap.size A n c cur ∧ Below w.heap.size w wr)
      (fun _ _ i _ => 8 - (intOf i).toNat)
    case atStart => exact ⟨0, M, [], none, 0, 0, by omega, rfl, rfl, rfl, hM, by omega, rfl, OwnB.nil, Below.refl _ _⟩
    case round =>
      obtain ⟨k, m, cur, A, n, c, hk, rfl, rfl, rfl, hm, hnk, hcur, hown, hbw⟩ := hrel
      have hsz := hbw.size
      have HL : Hid (cur.length = n) := hown.len
      by_cases hlt : k < 8
      · go_wp2_with (at_builtin; refine wpList_append_b _ rfl (.tmp 16) (.tmp 19) rfl w.heap.size A n c cur rfl (hown.alloc _) _ _ 1 1 [_] rfl (rd_byt wr (by omega) (by omega)) (by omega) (by simp; omega) ?_; intro A' n' c' w1 hown1 hg1 hob)
        go_roundw
        case rel =>
          have hl1 : n' ≤ k + 1 := by have := hown1.len; rw [List.length_append, HL.out] at this; simp only [List.length_singleton] at this; omega
          exact ⟨k + 1, m / 256, _, A', n', c', by omega, by go_num, by go_num, rfl, by omega, hl1, le_round hlt hcur, hown1, below_grown hbw hg1 hsz (fun k hk => (hown.lt k hk).1)⟩
        case measure => simp [intOf]; omega
      · obtain rfl : k = 8 := by omega
        go_wp2
        go_ret
        have e : leB 8 M = cur := by have h := hcur.out; simpa [leB] using h
        exact ⟨_, _, _, rfl, by rw [e]; exact hown, hbw⟩

set_option maxRecDepth 100000 in
set_option maxHeartbeats 400000 in
theorem refText_any (str : ByteArray) (hs : str.size ≤ 140737488355318) (w : World) : Calls Try.prog 29 #[.string str] w (Made w (nm str.size ++ str.data.toList)) := by
  have hnl := nm_len str.size
  go_enter Try.func29, Try.ntmps29
  go_wp2_with fail
  refine (refNum_any str.size (by omega) w).mono ?_
  rintro e w1 ⟨A, n, c, rfl, hown, hbw⟩
  have hn : n ≤ 10 := by have := hown.len; omega
  have hsz := hbw.size
  go_wp2_with (refine wpList_append_str _ rfl (.tmp 6) (.tmp 7) rfl w.heap.size A n c (nm str.size) rfl hown str rfl (by omega) (by omega) ?_; intro A' n' c' w2 hown1 hg1 hob)
  go_ret
  exact ⟨_, _, _, rfl, hown1, hbw.grown hg1 hsz (fun k hk => (hown.lt k hk).1)⟩

end Go.Proofs.Ytbeaacchhaipjaa
