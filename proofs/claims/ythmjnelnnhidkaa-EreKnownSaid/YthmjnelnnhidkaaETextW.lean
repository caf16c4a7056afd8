/-
  Package ere's text, Print.
-/
import Derived.Test.YthmjnelnnhidkaaEText
namespace Go.Proofs.Ythmjnelnnhidkaa
open Go.RowKit

set_option maxRecDepth 100000 in
set_option maxHeartbeats 16000000 in
theorem text_any : ∀ (fuel : Nat) (t : Tree) (D n' : Nat) (lo : Nat → Prop) (k a b c d : Int) (A : Option Addr) (n p : Nat) (w : World), SizeOf.sizeOf t ≤ fuel → D ≤ 40 → shapedT t (D : Int) = some n' → wT t → ReC w lo t ⟨k, a, b, c, d, A, n, p⟩ →
    Calls Try.prog 58 #[.agg #[.int .i64 k, .int .u64 a, .int .u64 b, .int .u64 c, .int .u64 d, .slice A n p]] w fun e w' => e = .returned (.string (bstr (textT t))) ∧ Later w w' := by
  intro fuel
  induction fuel with
  | zero => intro t D n' lo k a b c d A n p w hf; cases t; simp at hf
  | succ fuel ih =>
    intro t D n' lo k a b c d A n p w hf hD hsh hw hC
    obtain ⟨R, hR⟩ : ∃ R, R = textT t := ⟨_, rfl⟩
    rw [← hR]
    have HR := Lib.hid hR
    obtain ⟨k', s, ks⟩ := t
    unfold ReC at hC
    obtain ⟨hk, hset, hn, hcp, xs, hL, hKs⟩ := hC
    obtain rfl : k = k' := hk
    obtain ⟨s0, s1, s2, s3⟩ := s
    simp only at hset hn hcp hL
    obtain ⟨rfl, rfl, rfl, rfl⟩ := hset
    unfold wT at hw
    obtain ⟨hw1, hw2⟩ := hw
    obtain ⟨hD1, _, hcs, _⟩ := shaped_cases hsh
    rcases hcs with ⟨rfl, rfl, hk⟩ | ⟨a, rfl, ha, hk⟩ | ⟨a, b, n1, n2, rfl, ha, hb, rfl, hk⟩
    · clear hsh hw2 hL hKs hcp ih hf hR
      rcases hk with rfl | rfl | rfl | rfl
      · have HR2 : Hid (R = [40, 46, 63, 41, 123, 48, 125]) := by show _ = _; rw [HR.out, textT]; rfl
        go_enter Try.func58, Try.ntmps58
        go_wp2_with fail
        go_ret
        exact ⟨by rw [HR2.out]; rfl, (Later.refl w).alloc _⟩
      · have HR2 : Hid (R = setL (memW (s0, s1, s2, s3))) := by show _ = _; rw [HR.out, textT]; rfl
        have hse := fun wx => eset_any (s0, s1, s2, s3) hw1 _ rfl wx
        rw [← HR2.out] at hse
        have HSE := Lib.hid hse
        clear hse
        go_enter Try.func58, Try.ntmps58
        go_wp2_with fail
        refine (HSE.out _).mono ?_
        rintro e w1 ⟨rfl, hl1⟩
        go_wp2_with fail
        go_ret
        exact ⟨rfl, ((Later.refl w).alloc _).trans hl1⟩
      · have HR2 : Hid (R = [94]) := by show _ = _; rw [HR.out, textT]; rfl
        go_enter Try.func58, Try.ntmps58
        go_wp2_with fail
        go_ret
        exact ⟨by rw [HR2.out]; rfl, (Later.refl w).alloc _⟩
      · have HR2 : Hid (R = [36]) := by show _ = _; rw [HR.out, textT]; rfl
        go_enter Try.func58, Try.ntmps58
        go_wp2_with fail
        go_ret
        exact ⟨by rw [HR2.out]; rfl, (Later.refl w).alloc _⟩
    · obtain rfl : n = 1 := by simp at hn; omega
      obtain ⟨D', rfl⟩ : ∃ D', D = D' + 1 := ⟨D - 1, by omega⟩
      have ha : shapedT a (D' : Int) = some n' := by rw [← ha]; congr 1; omega
      obtain ⟨x, hx, hCx⟩ := hKs.get 0 a rfl
      obtain ⟨jk, ja, jb, jc, jd, jA, jn, jp⟩ := x
      obtain ⟨p0, off, hA, e0, e1, e2, e3, e4, e5⟩ := hL.six (by omega : 0 < 1) hx
      rw [Nat.zero_mul, Nat.add_zero] at e0 e1 e2 e3 e4 e5
      simp only at e0 e1 e2 e3 e4 e5
      have hih : ∀ wx, Later w wx → Calls Try.prog 58 #[.agg #[.int .i64 jk, .int .u64 ja, .int .u64 jb, .int .u64 jc, .int .u64 jd, .slice jA jn jp]] wx fun e w' => e = .returned (.string (bstr (textT a))) ∧ Later wx w' :=
        fun wx hwx => ih a D' n' lo jk ja jb jc jd jA jn jp wx (by simp at hf; omega) (by omega) ha (wL_get hw2 (List.mem_cons_self ..)) (hCx.later hwx)
      have hlen := text_max (by omega) ha
      subst hA
      clear hsh hw1 hw2 hL hKs hcp hf hn hx hCx ha ih hR
      rcases hk with rfl | rfl | rfl
      · obtain ⟨SA, hSA⟩ : ∃ SA, SA = bstr (textT a) := ⟨_, rfl⟩
        have HR2 : Hid ((⟨#[40]⟩ : ByteArray) ++ SA ++ (⟨#[41, 42]⟩ : ByteArray) = bstr R) := by
          show _ = _
          rw [hSA, show (⟨#[40]⟩ : ByteArray) = bstr [40] from rfl, show (⟨#[41, 42]⟩ : ByteArray) = bstr [41, 42] from rfl, bstr_app, bstr_app, HR.out, textT]
          simp
        have hq1 : ¬ 9223372036854775807 < (⟨#[40]⟩ : ByteArray).size + SA.size := by rw [hSA, bstr_size]; show ¬ _ < 1 + _; omega
        have hq2 : ¬ 9223372036854775807 < ((⟨#[40]⟩ : ByteArray) ++ SA).size + (⟨#[41, 42]⟩ : ByteArray).size := by rw [ByteArray.size_append, hSA, bstr_size]; show ¬ _ < 1 + _ + 2; omega
        rw [← hSA] at hih
        have HIH := Lib.hid hih
        clear hih hSA hlen
        go_enter Try.func58, Try.ntmps58
        go_upto_region 11 with fail
        obtain ⟨W1, hW1⟩ : ∃ W1, W1 = w.alloc (.cells #[.int .i64 4, .int .u64 (s0 : Nat), .int .u64 (s1 : Nat), .int .u64 (s2 : Nat), .int .u64 (s3 : Nat), .slice (some ⟨p0, off, none⟩) 1 p] 49) := ⟨_, rfl⟩
        have hl0 : Later w W1 := by rw [hW1]; exact (Later.refl w).alloc _
        have B0 : Blk W1 w.heap.size 49 #[.int .i64 4, .int .u64 (s0 : Nat), .int .u64 (s1 : Nat), .int .u64 (s2 : Nat), .int .u64 (s3 : Nat), .slice (some ⟨p0, off, none⟩) 1 p] := by rw [hW1]; exact Blk.new w _ _
        have f0 := fun (q : Addr) (v : Value) (hq : w.cell? q = some v) => (show W1.cell? q = some v from (Later.cell hl0 (World.block_lt_of_cell? w q hq)).trans hq)
        have q5 : W1.cell? ⟨w.heap.size, 5, none⟩ = some (.slice (some ⟨p0, off, none⟩) 1 p) := B0.cell 5
        have e0 := f0 _ _ e0
        have e1 := f0 _ _ e1
        have e2 := f0 _ _ e2
        have e3 := f0 _ _ e3
        have e4 := f0 _ _ e4
        have e5 := f0 _ _ e5
        rw [← hW1]
        clear hW1 B0 f0
        go_wp2_with fail
        refine (HIH.out _ hl0).mono ?_
        rintro e w1 ⟨rfl, hl1⟩
        go_wp2_with fail
        go_ret
        exact ⟨by rw [← HR2.out]; try rfl, hl0.trans hl1⟩
      · obtain ⟨SA, hSA⟩ : ∃ SA, SA = bstr (textT a) := ⟨_, rfl⟩
        have HR2 : Hid ((⟨#[40]⟩ : ByteArray) ++ SA ++ (⟨#[41, 43]⟩ : ByteArray) = bstr R) := by
          show _ = _
          rw [hSA, show (⟨#[40]⟩ : ByteArray) = bstr [40] from rfl, show (⟨#[41, 43]⟩ : ByteArray) = bstr [41, 43] from rfl, bstr_app, bstr_app, HR.out, textT]
          simp
        have hq1 : ¬ 9223372036854775807 < (⟨#[40]⟩ : ByteArray).size + SA.size := by rw [hSA, bstr_size]; show ¬ _ < 1 + _; omega
        have hq2 : ¬ 9223372036854775807 < ((⟨#[40]⟩ : ByteArray) ++ SA).size + (⟨#[41, 43]⟩ : ByteArray).size := by rw [ByteArray.size_append, hSA, bstr_size]; show ¬ _ < 1 + _ + 2; omega
        rw [← hSA] at hih
        have HIH := Lib.hid hih
        clear hih hSA hlen
        go_enter Try.func58, Try.ntmps58
        go_upto_region 13 with fail
        obtain ⟨W1, hW1⟩ : ∃ W1, W1 = w.alloc (.cells #[.int .i64 5, .int .u64 (s0 : Nat), .int .u64 (s1 : Nat), .int .u64 (s2 : Nat), .int .u64 (s3 : Nat), .slice (some ⟨p0, off, none⟩) 1 p] 49) := ⟨_, rfl⟩
        have hl0 : Later w W1 := by rw [hW1]; exact (Later.refl w).alloc _
        have B0 : Blk W1 w.heap.size 49 #[.int .i64 5, .int .u64 (s0 : Nat), .int .u64 (s1 : Nat), .int .u64 (s2 : Nat), .int .u64 (s3 : Nat), .slice (some ⟨p0, off, none⟩) 1 p] := by rw [hW1]; exact Blk.new w _ _
        have f0 := fun (q : Addr) (v : Value) (hq : w.cell? q = some v) => (show W1.cell? q = some v from (Later.cell hl0 (World.block_lt_of_cell? w q hq)).trans hq)
        have q5 : W1.cell? ⟨w.heap.size, 5, none⟩ = some (.slice (some ⟨p0, off, none⟩) 1 p) := B0.cell 5
        have e0 := f0 _ _ e0
        have e1 := f0 _ _ e1
        have e2 := f0 _ _ e2
        have e3 := f0 _ _ e3
        have e4 := f0 _ _ e4
        have e5 := f0 _ _ e5
        rw [← hW1]
        clear hW1 B0 f0
        go_wp2_with fail
        refine (HIH.out _ hl0).mono ?_
        rintro e w1 ⟨rfl, hl1⟩
        go_wp2_with fail
        go_ret
        exact ⟨by rw [← HR2.out]; try rfl, hl0.trans hl1⟩
      · obtain ⟨SA, hSA⟩ : ∃ SA, SA = bstr (textT a) := ⟨_, rfl⟩
        have HR2 : Hid ((⟨#[40]⟩ : ByteArray) ++ SA ++ (⟨#[41, 63]⟩ : ByteArray) = bstr R) := by
          show _ = _
          rw [hSA, show (⟨#[40]⟩ : ByteArray) = bstr [40] from rfl, show (⟨#[41, 63]⟩ : ByteArray) = bstr [41, 63] from rfl, bstr_app, bstr_app, HR.out, textT]
          simp
        have hq1 : ¬ 9223372036854775807 < (⟨#[40]⟩ : ByteArray).size + SA.size := by rw [hSA, bstr_size]; show ¬ _ < 1 + _; omega
        have hq2 : ¬ 9223372036854775807 < ((⟨#[40]⟩ : ByteArray) ++ SA).size + (⟨#[41, 63]⟩ : ByteArray).size := by rw [ByteArray.size_append, hSA, bstr_size]; show ¬ _ < 1 + _ + 2; omega
        rw [← hSA] at hih
        have HIH := Lib.hid hih
        clear hih hSA hlen
        go_enter Try.func58, Try.ntmps58
        go_upto_region 15 with fail
        obtain ⟨W1, hW1⟩ : ∃ W1, W1 = w.alloc (.cells #[.int .i64 6, .int .u64 (s0 : Nat), .int .u64 (s1 : Nat), .int .u64 (s2 : Nat), .int .u64 (s3 : Nat), .slice (some ⟨p0, off, none⟩) 1 p] 49) := ⟨_, rfl⟩
        have hl0 : Later w W1 := by rw [hW1]; exact (Later.refl w).alloc _
        have B0 : Blk W1 w.heap.size 49 #[.int .i64 6, .int .u64 (s0 : Nat), .int .u64 (s1 : Nat), .int .u64 (s2 : Nat), .int .u64 (s3 : Nat), .slice (some ⟨p0, off, none⟩) 1 p] := by rw [hW1]; exact Blk.new w _ _
        have f0 := fun (q : Addr) (v : Value) (hq : w.cell? q = some v) => (show W1.cell? q = some v from (Later.cell hl0 (World.block_lt_of_cell? w q hq)).trans hq)
        have q5 : W1.cell? ⟨w.heap.size, 5, none⟩ = some (.slice (some ⟨p0, off, none⟩) 1 p) := B0.cell 5
        have e0 := f0 _ _ e0
        have e1 := f0 _ _ e1
        have e2 := f0 _ _ e2
        have e3 := f0 _ _ e3
        have e4 := f0 _ _ e4
        have e5 := f0 _ _ e5
        rw [← hW1]
        clear hW1 B0 f0
        go_wp2_with fail
        refine (HIH.out _ hl0).mono ?_
        rintro e w1 ⟨rfl, hl1⟩
        go_wp2_with fail
        go_ret
        exact ⟨by rw [← HR2.out]; try rfl, hl0.trans hl1⟩
    · obtain rfl : n = 2 := by simp at hn; omega
      obtain ⟨D', rfl⟩ : ∃ D', D = D' + 1 := ⟨D - 1, by omega⟩
      have ha : shapedT a (D' : Int) = some n1 := by rw [← ha]; congr 1; omega
      obtain ⟨x, hx, hCx⟩ := hKs.get 0 a rfl
      obtain ⟨y, hy, hCy⟩ := hKs.get 1 b rfl
      obtain ⟨jk, ja, jb, jc, jd, jA, jn, jp⟩ := x
      obtain ⟨ik, ia, ib, ic, id, iA, im, ip⟩ := y
      obtain ⟨p0, off, hA, e0, e1, e2, e3, e4, e5⟩ := hL.six (by omega : 0 < 2) hx
      obtain ⟨p2, off2, hA2, g0, g1, g2, g3, g4, g5⟩ := hL.six (by omega : 1 < 2) hy
      rw [hA] at hA2
      injection hA2 with hA2
      injection hA2 with h3 h4
      subst h3 h4
      rw [Nat.zero_mul, Nat.add_zero] at e0 e1 e2 e3 e4 e5
      simp only at e0 e1 e2 e3 e4 e5 g0 g1 g2 g3 g4 g5
      rw [Nat.one_mul] at g0 g1 g2 g3 g4 g5
      have hih : ∀ wx, Later w wx → Calls Try.prog 58 #[.agg #[.int .i64 jk, .int .u64 ja, .int .u64 jb, .int .u64 jc, .int .u64 jd, .slice jA jn jp]] wx fun e w' => e = .returned (.string (bstr (textT a))) ∧ Later wx w' :=
        fun wx hwx => ih a D' n1 lo jk ja jb jc jd jA jn jp wx (by simp at hf; omega) (by omega) ha (wL_get hw2 (List.mem_cons_self ..)) (hCx.later hwx)
      have hih2 : ∀ wx, Later w wx → Calls Try.prog 58 #[.agg #[.int .i64 ik, .int .u64 ia, .int .u64 ib, .int .u64 ic, .int .u64 id, .slice iA im ip]] wx fun e w' => e = .returned (.string (bstr (textT b))) ∧ Later wx w' :=
        fun wx hwx => ih b (D' + 1) n2 lo ik ia ib ic id iA im ip wx (by simp at hf; omega) hD hb (wL_get hw2 (List.mem_cons_of_mem _ (List.mem_cons_self ..))) (hCy.later hwx)
      have hlen := text_max (by omega) ha
      have hlen2 := text_max hD hb
      subst hA
      clear hsh hw1 hw2 hL hKs hcp hf hn hx hCx ha ih hR hy hCy hb
      rcases hk with rfl | rfl
      · obtain ⟨SA, hSA⟩ : ∃ SA, SA = bstr (textT a) := ⟨_, rfl⟩
        obtain ⟨SB, hSB⟩ : ∃ SB, SB = bstr (textT b) := ⟨_, rfl⟩
        have HR2 : Hid ((⟨#[40]⟩ : ByteArray) ++ SA ++ (⟨#[41, 40]⟩ : ByteArray) ++ SB ++ (⟨#[41]⟩ : ByteArray) = bstr R) := by
          show _ = _
          rw [hSA, hSB, show (⟨#[40]⟩ : ByteArray) = bstr [40] from rfl, show (⟨#[41, 40]⟩ : ByteArray) = bstr [41, 40] from rfl, show (⟨#[41]⟩ : ByteArray) = bstr [41] from rfl, bstr_app, bstr_app, bstr_app, bstr_app, HR.out, textT]
          simp
        have hq1 : ¬ 9223372036854775807 < (⟨#[40]⟩ : ByteArray).size + SA.size := by rw [hSA, bstr_size]; show ¬ _ < 1 + _; omega
        have hq2 : ¬ 9223372036854775807 < ((⟨#[40]⟩ : ByteArray) ++ SA).size + (⟨#[41, 40]⟩ : ByteArray).size := by rw [ByteArray.size_append, hSA, bstr_size]; show ¬ _ < 1 + _ + 2; omega
        have hq3 : ¬ 9223372036854775807 < ((⟨#[40]⟩ : ByteArray) ++ SA ++ (⟨#[41, 40]⟩ : ByteArray)).size + SB.size := by rw [ByteArray.size_append, ByteArray.size_append, hSA, hSB, bstr_size, bstr_size]; show ¬ _ < 1 + _ + 2 + _; omega
        have hq4 : ¬ 9223372036854775807 < ((⟨#[40]⟩ : ByteArray) ++ SA ++ (⟨#[41, 40]⟩ : ByteArray) ++ SB).size + (⟨#[41]⟩ : ByteArray).size := by rw [ByteArray.size_append, ByteArray.size_append, ByteArray.size_append, hSA, hSB, bstr_size, bstr_size]; show ¬ _ < 1 + _ + 2 + _ + 1; omega
        rw [← hSA] at hih
        rw [← hSB] at hih2
        have HIH := Lib.hid hih
        have HIH2 := Lib.hid hih2
        clear hih hSA hlen hih2 hSB hlen2
        go_enter Try.func58, Try.ntmps58
        go_upto_region 7 with fail
        obtain ⟨W1, hW1⟩ : ∃ W1, W1 = w.alloc (.cells #[.int .i64 2, .int .u64 (s0 : Nat), .int .u64 (s1 : Nat), .int .u64 (s2 : Nat), .int .u64 (s3 : Nat), .slice (some ⟨p0, off, none⟩) 2 p] 49) := ⟨_, rfl⟩
        have hl0 : Later w W1 := by rw [hW1]; exact (Later.refl w).alloc _
        have B0 : Blk W1 w.heap.size 49 #[.int .i64 2, .int .u64 (s0 : Nat), .int .u64 (s1 : Nat), .int .u64 (s2 : Nat), .int .u64 (s3 : Nat), .slice (some ⟨p0, off, none⟩) 2 p] := by rw [hW1]; exact Blk.new w _ _
        have f0 := fun (q : Addr) (v : Value) (hq : w.cell? q = some v) => (show W1.cell? q = some v from (Later.cell hl0 (World.block_lt_of_cell? w q hq)).trans hq)
        have q5 : ∀ x : LW W1, x.val.cell? ⟨w.heap.size, 5, none⟩ = some (.slice (some ⟨p0, off, none⟩) 2 p) := LW.cell_ (B0.cell 5)
        have k0 : ∀ x : LW W1, x.val.cell? ⟨p0, off, none⟩ = some (.int .i64 jk) := LW.cell_ (f0 _ _ e0)
        have k1 : ∀ x : LW W1, x.val.cell? ⟨p0, off + 1, none⟩ = some (.int .u64 ja) := LW.cell_ (f0 _ _ e1)
        have k2 : ∀ x : LW W1, x.val.cell? ⟨p0, off + 2, none⟩ = some (.int .u64 jb) := LW.cell_ (f0 _ _ e2)
        have k3 : ∀ x : LW W1, x.val.cell? ⟨p0, off + 3, none⟩ = some (.int .u64 jc) := LW.cell_ (f0 _ _ e3)
        have k4 : ∀ x : LW W1, x.val.cell? ⟨p0, off + 4, none⟩ = some (.int .u64 jd) := LW.cell_ (f0 _ _ e4)
        have k5 : ∀ x : LW W1, x.val.cell? ⟨p0, off + 5, none⟩ = some (.slice jA jn jp) := LW.cell_ (f0 _ _ e5)
        have l0 : ∀ x : LW W1, x.val.cell? ⟨p0, off + 6, none⟩ = some (.int .i64 ik) := LW.cell_ (f0 _ _ g0)
        have l1 : ∀ x : LW W1, x.val.cell? ⟨p0, off + 7, none⟩ = some (.int .u64 ia) := LW.cell_ (f0 _ _ g1)
        have l2 : ∀ x : LW W1, x.val.cell? ⟨p0, off + 8, none⟩ = some (.int .u64 ib) := LW.cell_ (f0 _ _ g2)
        have l3 : ∀ x : LW W1, x.val.cell? ⟨p0, off + 9, none⟩ = some (.int .u64 ic) := LW.cell_ (f0 _ _ g3)
        have l4 : ∀ x : LW W1, x.val.cell? ⟨p0, off + 10, none⟩ = some (.int .u64 id) := LW.cell_ (f0 _ _ g4)
        have l5 : ∀ x : LW W1, x.val.cell? ⟨p0, off + 11, none⟩ = some (.slice iA im ip) := LW.cell_ (f0 _ _ g5)
        rw [← hW1]
        clear hW1 B0 f0 e0 e1 e2 e3 e4 e5 g0 g1 g2 g3 g4 g5
        refine wp_region_laterq (by kernel_rfl) (by kernel_rfl) ?_
        repeat (go_big_quiet_step (((go_at_call 58; first | (with_reducible refine Calls.laterq (HIH.out _ (hl0.trans (LW.later _)))) | (with_reducible refine Calls.laterq (HIH2.out _ (hl0.trans (LW.later _))))))))
        refine wpQuiet_nil ?_
        intro _ hwq
        obtain ⟨xz, rfl⟩ := hwq
        go_wp2_with fail
        go_ret
        exact ⟨by rw [← HR2.out]; try rfl, hl0.trans xz.later⟩
      · obtain ⟨SA, hSA⟩ : ∃ SA, SA = bstr (textT a) := ⟨_, rfl⟩
        obtain ⟨SB, hSB⟩ : ∃ SB, SB = bstr (textT b) := ⟨_, rfl⟩
        have HR2 : Hid ((⟨#[40, 40]⟩ : ByteArray) ++ SA ++ (⟨#[41, 124, 40]⟩ : ByteArray) ++ SB ++ (⟨#[41, 41]⟩ : ByteArray) = bstr R) := by
          show _ = _
          rw [hSA, hSB, show (⟨#[40, 40]⟩ : ByteArray) = bstr [40, 40] from rfl, show (⟨#[41, 124, 40]⟩ : ByteArray) = bstr [41, 124, 40] from rfl, show (⟨#[41, 41]⟩ : ByteArray) = bstr [41, 41] from rfl, bstr_app, bstr_app, bstr_app, bstr_app, HR.out, textT]
          simp
        have hq1 : ¬ 9223372036854775807 < (⟨#[40, 40]⟩ : ByteArray).size + SA.size := by rw [hSA, bstr_size]; show ¬ _ < 2 + _; omega
        have hq2 : ¬ 9223372036854775807 < ((⟨#[40, 40]⟩ : ByteArray) ++ SA).size + (⟨#[41, 124, 40]⟩ : ByteArray).size := by rw [ByteArray.size_append, hSA, bstr_size]; show ¬ _ < 2 + _ + 3; omega
        have hq3 : ¬ 9223372036854775807 < ((⟨#[40, 40]⟩ : ByteArray) ++ SA ++ (⟨#[41, 124, 40]⟩ : ByteArray)).size + SB.size := by rw [ByteArray.size_append, ByteArray.size_append, hSA, hSB, bstr_size, bstr_size]; show ¬ _ < 2 + _ + 3 + _; omega
        have hq4 : ¬ 9223372036854775807 < ((⟨#[40, 40]⟩ : ByteArray) ++ SA ++ (⟨#[41, 124, 40]⟩ : ByteArray) ++ SB).size + (⟨#[41, 41]⟩ : ByteArray).size := by rw [ByteArray.size_append, ByteArray.size_append, ByteArray.size_append, hSA, hSB, bstr_size, bstr_size]; show ¬ _ < 2 + _ + 3 + _ + 2; omega
        rw [← hSA] at hih
        rw [← hSB] at hih2
        have HIH := Lib.hid hih
        have HIH2 := Lib.hid hih2
        clear hih hSA hlen hih2 hSB hlen2
        go_enter Try.func58, Try.ntmps58
        go_upto_region 9 with fail
        obtain ⟨W1, hW1⟩ : ∃ W1, W1 = w.alloc (.cells #[.int .i64 3, .int .u64 (s0 : Nat), .int .u64 (s1 : Nat), .int .u64 (s2 : Nat), .int .u64 (s3 : Nat), .slice (some ⟨p0, off, none⟩) 2 p] 49) := ⟨_, rfl⟩
        have hl0 : Later w W1 := by rw [hW1]; exact (Later.refl w).alloc _
        have B0 : Blk W1 w.heap.size 49 #[.int .i64 3, .int .u64 (s0 : Nat), .int .u64 (s1 : Nat), .int .u64 (s2 : Nat), .int .u64 (s3 : Nat), .slice (some ⟨p0, off, none⟩) 2 p] := by rw [hW1]; exact Blk.new w _ _
        have f0 := fun (q : Addr) (v : Value) (hq : w.cell? q = some v) => (show W1.cell? q = some v from (Later.cell hl0 (World.block_lt_of_cell? w q hq)).trans hq)
        have q5 : ∀ x : LW W1, x.val.cell? ⟨w.heap.size, 5, none⟩ = some (.slice (some ⟨p0, off, none⟩) 2 p) := LW.cell_ (B0.cell 5)
        have k0 : ∀ x : LW W1, x.val.cell? ⟨p0, off, none⟩ = some (.int .i64 jk) := LW.cell_ (f0 _ _ e0)
        have k1 : ∀ x : LW W1, x.val.cell? ⟨p0, off + 1, none⟩ = some (.int .u64 ja) := LW.cell_ (f0 _ _ e1)
        have k2 : ∀ x : LW W1, x.val.cell? ⟨p0, off + 2, none⟩ = some (.int .u64 jb) := LW.cell_ (f0 _ _ e2)
        have k3 : ∀ x : LW W1, x.val.cell? ⟨p0, off + 3, none⟩ = some (.int .u64 jc) := LW.cell_ (f0 _ _ e3)
        have k4 : ∀ x : LW W1, x.val.cell? ⟨p0, off + 4, none⟩ = some (.int .u64 jd) := LW.cell_ (f0 _ _ e4)
        have k5 : ∀ x : LW W1, x.val.cell? ⟨p0, off + 5, none⟩ = some (.slice jA jn jp) := LW.cell_ (f0 _ _ e5)
        have l0 : ∀ x : LW W1, x.val.cell? ⟨p0, off + 6, none⟩ = some (.int .i64 ik) := LW.cell_ (f0 _ _ g0)
        have l1 : ∀ x : LW W1, x.val.cell? ⟨p0, off + 7, none⟩ = some (.int .u64 ia) := LW.cell_ (f0 _ _ g1)
        have l2 : ∀ x : LW W1, x.val.cell? ⟨p0, off + 8, none⟩ = some (.int .u64 ib) := LW.cell_ (f0 _ _ g2)
        have l3 : ∀ x : LW W1, x.val.cell? ⟨p0, off + 9, none⟩ = some (.int .u64 ic) := LW.cell_ (f0 _ _ g3)
        have l4 : ∀ x : LW W1, x.val.cell? ⟨p0, off + 10, none⟩ = some (.int .u64 id) := LW.cell_ (f0 _ _ g4)
        have l5 : ∀ x : LW W1, x.val.cell? ⟨p0, off + 11, none⟩ = some (.slice iA im ip) := LW.cell_ (f0 _ _ g5)
        rw [← hW1]
        clear hW1 B0 f0 e0 e1 e2 e3 e4 e5 g0 g1 g2 g3 g4 g5
        refine wp_region_laterq (by kernel_rfl) (by kernel_rfl) ?_
        repeat (go_big_quiet_step (((go_at_call 58; first | (with_reducible refine Calls.laterq (HIH.out _ (hl0.trans (LW.later _)))) | (with_reducible refine Calls.laterq (HIH2.out _ (hl0.trans (LW.later _))))))))
        refine wpQuiet_nil ?_
        intro _ hwq
        obtain ⟨xz, rfl⟩ := hwq
        go_wp2_with fail
        go_ret
        exact ⟨by rw [← HR2.out]; try rfl, hl0.trans xz.later⟩

theorem print_any (t : Tree) (lo : Nat → Prop) (k a b c d : Int) (A : Option Addr) (n p : Nat) (w : World) (hw : wT t) (hC : ReC w lo t ⟨k, a, b, c, d, A, n, p⟩) :
    Calls Try.prog 40 #[.agg #[.int .i64 k, .int .u64 a, .int .u64 b, .int .u64 c, .int .u64 d, .slice A n p]] w fun e w' => e = .returned (.string (bstr (printT t))) ∧ Later w w' := by
  have hri := fun (wx : World) (hl : Later w wx) => right_any t lo k a b c d A n p wx (hC.later hl)
  have HRI := Lib.hid hri
  clear hri
  cases hr : rightT t with
  | false =>
    have HP : Hid (printT t = []) := by show _ = _; unfold printT; rw [if_neg (by rw [hr]; simp)]
    have HRT := Lib.hid hr
    clear hr
    go_enter Try.func40, Try.ntmps40
    go_wp2_with fail
    refine (HRI.out _ ((Later.refl w).alloc _)).mono ?_
    rw [HRT.out]
    rintro e w1 ⟨rfl, hl1⟩
    go_wp2_with fail
    go_ret
    exact ⟨by rw [HP.out]; rfl, ((Later.refl w).alloc _).trans hl1⟩
  | true =>
    have HP : Hid (printT t = textT t) := by show _ = _; unfold printT; rw [if_pos hr]
    have HRT := Lib.hid hr
    obtain ⟨m, hm⟩ : ∃ m, shapedT t ((40 : Nat) : Int) = some m := by
      unfold rightT at hr
      exact Option.isSome_iff_exists.1 hr
    have htx := fun (wx : World) (hl : Later w wx) => text_any _ t 40 m lo k a b c d A n p wx (Nat.le_refl _) (Nat.le_refl _) hm hw (hC.later hl)
    have HTX := Lib.hid htx
    clear hr hm htx
    go_enter Try.func40, Try.ntmps40
    go_wp2_with fail
    refine (HRI.out _ ((Later.refl w).alloc _)).mono ?_
    rw [HRT.out]
    rintro e w1 ⟨rfl, hl1⟩
    have B1 : Blk w1 w.heap.size 49 #[.int .i64 k, .int .u64 a, .int .u64 b, .int .u64 c, .int .u64 d, .slice A n p] := blkL hl1 (Blk.new w _ _)
    have hlw : Later w w1 := ((Later.refl w).alloc _).trans hl1
    obtain ⟨u0, u1, u2, u3, u4, u5, -⟩ := cells6 B1
    go_wp2_with fail
    refine (HTX.out _ hlw).mono ?_
    rintro e w2 ⟨rfl, hl2⟩
    go_wp2_with fail
    go_ret
    exact ⟨by rw [HP.out]; try rfl, hlw.trans hl2⟩

end Go.Proofs.Ythmjnelnnhidkaa
