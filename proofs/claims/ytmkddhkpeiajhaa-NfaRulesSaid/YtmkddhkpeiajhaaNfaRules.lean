/-
  NfaRules: two ways, one or the other: the longer of both ends; as often as one likes holds at nothing, and once.
-/
import Derived.Test.YtmkddhkpeiajhaaRulesLaw
import Derived.Test.YtmkddhkpeiajhaaLetters
namespace Go.Proofs.Ytmkddhkpeiajhaa
open Go.RowKit

theorem nfaKn_l {W : World} (x : LW W) : Calls Try.prog 12 #[] x.val fun e w' => e = .returned (.bool true) ∧ Later x.val w' := nfaKnown_any x.val
theorem comp_at (r : Rx) (lo : Nat → Prop) (k a b c d : Int) (A : Option Addr) (n cp : Nat) (w : World) (h : ReC w lo (rxT r) ⟨k, a, b, c, d, A, n, cp⟩) (hr : rightT (rxT r) = true) (hk : okR r) :
    Calls Try.prog 10 #[.agg #[.int .i64 k, .int .u64 a, .int .u64 b, .int .u64 c, .int .u64 d, .slice A n cp]] w fun e w' => ∃ g, e = .returned (.tuple #[.pointer (some ⟨g, 0, none⟩), .int .i64 0]) ∧ RunsM w' w.heap.size g (machF r).1 (machF r).2 ∧ Later w w' :=
  (compile_yes r lo k a b c d A n cp w h hr).mono fun _ _ ⟨g, h1, h2⟩ => ⟨g, h1, h2.runs hk hr, h2.2.2⟩
theorem al1 {w : World} {p : Addr} {v : Value} (h : w.cell? p = some v) (o : Obj) : (w.alloc o).cell? p = some v := by rw [World.cell?_alloc_lt w o p (World.block_lt_of_cell? w p h), h]
/-- the six answers, as far as they stand -/
def upI (f : Nat → Int) (i : Nat) : Array Value := #[.int .i64 (if 0 < i then f 0 else 0), .int .i64 (if 1 < i then f 1 else 0), .int .i64 (if 2 < i then f 2 else 0), .int .i64 (if 3 < i then f 3 else 0), .int .i64 (if 4 < i then f 4 else 0), .int .i64 (if 5 < i then f 5 else 0)]
def upB (f : Nat → Bool) (i : Nat) : Array Value := #[.bool (if 0 < i then f 0 else false), .bool (if 1 < i then f 1 else false), .bool (if 2 < i then f 2 else false), .bool (if 3 < i then f 3 else false), .bool (if 4 < i then f 4 else false), .bool (if 5 < i then f 5 else false)]
theorem lt6 {i : Nat} (h : i < 6) : i = 0 ∨ i = 1 ∨ i = 2 ∨ i = 3 ∨ i = 4 ∨ i = 5 := by omega
theorem upI_set (f : Nat → Int) (i : Nat) (h : i < 6) : (upI f i).setIfInBounds i (.int .i64 (f i)) = upI f (i + 1) := by
  rcases lt6 h with rfl | rfl | rfl | rfl | rfl | rfl <;> rfl
theorem upB_set (f : Nat → Bool) (i : Nat) (h : i < 6) : (upB f i).setIfInBounds i (.bool (f i)) = upB f (i + 1) := by
  rcases lt6 h with rfl | rfl | rfl | rfl | rfl | rfl <;> rfl
theorem upI_at (f : Nat → Int) (i : Nat) (h : i < 6) : (upI f i)[i]? = some (.int .i64 0) := by
  rcases lt6 h with rfl | rfl | rfl | rfl | rfl | rfl <;> rfl
theorem upB_at (f : Nat → Bool) (i : Nat) (h : i < 6) : (upB f i)[i]? = some (.bool false) := by
  rcases lt6 h with rfl | rfl | rfl | rfl | rfl | rfl <;> rfl
/-- the six -/
def sixR (a b : Rx) : Nat → Rx
  | 0 => a
  | 1 => b
  | 2 => .alt a b
  | 3 => .star a
  | 4 => .plus a
  | _ => .opt a

theorem six_ok {a b : Rx} (ha : okR a) (hb : okR b) : ∀ i, okR (sixR a b i)
  | 0 => ha
  | 1 => hb
  | 2 => ⟨ha, hb⟩
  | 3 => ha
  | 4 => ha
  | _ + 5 => ha
theorem six_right {a b : Rx} (h : dpR a ≤ 3 ∧ dpR b ≤ 3 ∧ lvR a ≤ 4 ∧ lvR b ≤ 4) : ∀ i, rightT (rxT (sixR a b i)) = true
  | 0 => right_fit (by show dpR a ≤ 40; omega) (by show lvR a ≤ 400; omega)
  | 1 => right_fit (by show dpR b ≤ 40; omega) (by show lvR b ≤ 400; omega)
  | 2 => right_fit (by show max (dpR a + 1) (dpR b) ≤ 40; omega) (by show lvR a + lvR b ≤ 400; omega)
  | 3 => right_fit (by show dpR a + 1 ≤ 40; omega) (by show lvR a ≤ 400; omega)
  | 4 => right_fit (by show dpR a + 1 ≤ 40; omega) (by show lvR a ≤ 400; omega)
  | _ + 5 => right_fit (by show dpR a + 1 ≤ 40; omega) (by show lvR a ≤ 400; omega)

/-- the six answers' ends and whether they are there -/
def RulesV (EE : Nat → Int) (SS : Nat → Bool) (q : Int) : Prop :=
  ∃ (e0 e1 e2 e3 e4 e5 : Int) (s0 s1 : Bool), EE 0 = e0 ∧ EE 1 = e1 ∧ EE 2 = e2 ∧ EE 3 = e3 ∧ EE 4 = e4 ∧ EE 5 = e5 ∧ SS 0 = s0 ∧ SS 1 = s1 ∧ SS 2 = (s0 || s1) ∧ SS 3 = true ∧ SS 4 = s0 ∧ SS 5 = true ∧ 0 ≤ e0 ∧ 0 ≤ e1 ∧
    (s0 = true → s1 = true → e2 = max e0 e1) ∧ (s0 = true → s1 = false → e2 = e0) ∧ (s0 = false → s1 = true → e2 = e1) ∧ q ≤ e3 ∧ (s0 = true → e0 ≤ e3 ∧ e4 = e3 ∧ e5 = max q e0) ∧ (s0 = false → e3 = q ∧ e5 = q)
theorem rules_vals {RR : Nat → Option (Nat × Nat)} {EE : Nat → Int} {SS : Nat → Bool} {q : Nat} (he : (∀ i, (enN (RR i) : Int) = EE i) ∧ ∀ i, (RR i).isSome = SS i)
    (h : ∃ (A B L S P Q : Option (Nat × Nat)), RR 0 = A ∧ RR 1 = B ∧ RR 2 = L ∧ RR 3 = S ∧ RR 4 = P ∧ RR 5 = Q ∧
      L.isSome = (A.isSome || B.isSome) ∧ S.isSome = true ∧ Q.isSome = true ∧ P.isSome = A.isSome ∧
      (A.isSome = true → B.isSome = true → enN L = max (enN A) (enN B)) ∧ (A.isSome = true → B.isSome = false → enN L = enN A) ∧ (A.isSome = false → B.isSome = true → enN L = enN B) ∧
      q ≤ enN S ∧ (A.isSome = true → enN A ≤ enN S ∧ enN P = enN S ∧ enN Q = max q (enN A)) ∧ (A.isSome = false → enN S = q ∧ enN Q = q)) : RulesV EE SS (q : Int) := by
  obtain ⟨A, B, L, S, P, Q, h0, h1, h2, h3, h4, h5, a1, a2, a3, a4, b1, b2, b3, b4, b5, b6⟩ := h
  obtain ⟨he, hs⟩ := he
  subst h0 h1 h2 h3 h4 h5
  refine ⟨(enN (RR 0) : Int), (enN (RR 1) : Int), (enN (RR 2) : Int), (enN (RR 3) : Int), (enN (RR 4) : Int), (enN (RR 5) : Int), (RR 0).isSome, (RR 1).isSome, (he 0).symm, (he 1).symm, (he 2).symm, (he 3).symm, (he 4).symm, (he 5).symm, (hs 0).symm, (hs 1).symm, ?_, ?_, ?_, ?_, by omega, by omega, ?_, ?_, ?_, by omega, ?_, ?_⟩
  · rw [← hs, a1]
  · rw [← hs, a2]
  · rw [← hs, a4]
  · rw [← hs, a3]
  · intro x y; have := b1 x y; omega
  · intro x y; have := b2 x y; omega
  · intro x y; have := b3 x y; omega
  · intro x; have := b5 x; omega
  · intro x; have := b6 x; omega

set_option maxRecDepth 100000 in
set_option maxHeartbeats 16000000 in
theorem nfaRules_any (t u : HTree) (M1 M2 : Nat) (k n : Int) (A : Option Addr) (m cp : Nat) (k' n' : Int) (A' : Option Addr) (m' cp' : Nat) (AB : Option Addr) (nb cb : Nat) (l : List UInt8) (fr : Int) (w : World) (hC1 : HdC w M1 t ⟨k, n, A, m, cp⟩) (hC2 : HdC w M2 u ⟨k', n', A', m', cp'⟩) (hr : RdB w w.heap.size AB nb l) (hnb : nb ≤ 9223372036854775807) :
    Calls Try.prog 6 #[.agg #[.int .i64 k, .int .i64 n, .slice A m cp], .agg #[.int .i64 k', .int .i64 n', .slice A' m' cp'], .slice AB nb cb, .int .i64 fr] w fun e w' => e = .returned (.bool true) ∧ Later w w' := by
  obtain ⟨ra, ea, oka, da, la⟩ := good_re 2 t
  obtain ⟨rb, eb, okb, db, lb⟩ := good_re 2 u
  have HRA : Hid (∀ wx, Later w wx → Calls Try.prog 8 #[.agg #[.int .i64 k, .int .i64 n, .slice A m cp], .int .i64 2] wx (RetT wx (fun g => wx.heap.size ≤ g) (rxT ra))) := fun wx hwx => by rw [← ea]; exact hre_any 2 M1 (by omega) t k n A m cp wx (HdC.later hwx t hC1)
  have HRB : Hid (∀ wx, Later w wx → Calls Try.prog 8 #[.agg #[.int .i64 k', .int .i64 n', .slice A' m' cp'], .int .i64 2] wx (RetT wx (fun g => wx.heap.size ≤ g) (rxT rb))) := fun wx hwx => by rw [← eb]; exact hre_any 2 M2 (by omega) u k' n' A' m' cp' wx (HdC.later hwx u hC2)
  have HLE : Hid (∀ wx, Later w wx → Calls Try.prog 16 #[.slice AB nb cb, .int .i64 20] wx fun e w' => e = .returned (.string (bstr (lettersF l 20))) ∧ Later wx w') := fun wx hx => letters_any AB nb cb 20 l wx ((hr.later' (Nat.le_refl _) hx).more hx.size) (by omega) hnb
  have hXL := letters_len l 20
  obtain ⟨X, hX⟩ : ∃ X, X = lettersF l 20 := ⟨_, rfl⟩
  rw [← hX] at HLE hXL
  have hS20 : (bstr X).size ≤ 20 := hXL
  obtain ⟨q, hq, hq1⟩ := pick_nat fr (((bstr X).size : Int) + 1) (by omega)
  have HOK : Hid (okR ra ∧ okR rb) := ⟨oka, okb⟩
  have HDP : Hid (dpR ra ≤ 3 ∧ dpR rb ≤ 3 ∧ lvR ra ≤ 4 ∧ lvR rb ≤ 4) := ⟨da, db, la, lb⟩
  clear ea eb oka okb da db la lb hC1 hC2 hr hnb hX hXL
  go_enter Try.func6, Try.ntmps6
  go_wp2_with fail
  refine (HRA.out _ (((Later.refl w).alloc _).alloc _)).mono ?_
  rintro e w1 ⟨k0, a0, b0, c0, d0, A0, n0, cp0, rfl, hC0, hl0⟩
  go_upto_region 2 with fail
  obtain ⟨b9, hb9⟩ : ∃ b9, b9 = w1.heap.size := ⟨_, rfl⟩
  obtain ⟨W1, hW1⟩ : ∃ W1, W1 = w1.alloc (.cells #[.int .i64 k0, .int .u64 a0, .int .u64 b0, .int .u64 c0, .int .u64 d0, .slice A0 n0 cp0] 30) := ⟨_, rfl⟩
  have hl1 : Later w1 W1 := by rw [hW1]; exact (Later.refl w1).alloc _
  have B9 : Blk W1 b9 30 #[.int .i64 k0, .int .u64 a0, .int .u64 b0, .int .u64 c0, .int .u64 d0, .slice A0 n0 cp0] := by rw [hW1, hb9]; exact Blk.new w1 _ _
  have B5 : Blk W1 (w.heap.size + 1) 24 #[.int .i64 k', .int .i64 n', .slice A' m' cp'] := blkL hl1 (blkL hl0 (by have h := Blk.new (w.alloc (.cells #[.int .i64 k, .int .i64 n, .slice A m cp] 24)) 24 #[.int .i64 k', .int .i64 n', .slice A' m' cp']; rw [show (w.alloc (.cells #[.int .i64 k, .int .i64 n, .slice A m cp] 24)).heap.size = w.heap.size + 1 by simp] at h; exact h))
  have hT0 : ReC W1 loT (rxT ra) ⟨k0, a0, b0, c0, d0, A0, n0, cp0⟩ := (ReC.weaken (fun _ _ _ => trivial) _ hC0).later hl1
  have hlw1 : Later w W1 := (((Later.refl w).alloc _).alloc _).trans (hl0.trans hl1)
  rw [← hW1, ← hb9]
  clear hW1 hb9 hC0 hl0 hl1
  obtain ⟨d0', d1', d2'⟩ : W1.cell? ⟨w.heap.size + 1, 0, none⟩ = some (.int .i64 k') ∧ W1.cell? ⟨w.heap.size + 1, 1, none⟩ = some (.int .i64 n') ∧ W1.cell? ⟨w.heap.size + 1, 2, none⟩ = some (.slice A' m' cp') := ⟨B5.cell 0, B5.cell 1, B5.cell 2⟩
  go_wp2_with fail
  refine (HRB.out _ hlw1).mono ?_
  rintro e w2 ⟨k1, a1, b1, c1, d1, A1, n1, cp1, rfl, hC1, hl2⟩
  clear d0' d1' d2'
  go_upto_region 3 with fail
  obtain ⟨b10, hb10⟩ : ∃ b10, b10 = w2.heap.size := ⟨_, rfl⟩
  obtain ⟨W2, hW2⟩ : ∃ W2, W2 = w2.alloc (.cells #[.int .i64 k1, .int .u64 a1, .int .u64 b1, .int .u64 c1, .int .u64 d1, .slice A1 n1 cp1] 30) := ⟨_, rfl⟩
  have hl3 : Later w2 W2 := by rw [hW2]; exact (Later.refl w2).alloc _
  have B10 : Blk W2 b10 30 #[.int .i64 k1, .int .u64 a1, .int .u64 b1, .int .u64 c1, .int .u64 d1, .slice A1 n1 cp1] := by rw [hW2, hb10]; exact Blk.new w2 _ _
  have hT1 : ReC W2 loT (rxT rb) ⟨k1, a1, b1, c1, d1, A1, n1, cp1⟩ := (ReC.weaken (fun _ _ _ => trivial) _ hC1).later hl3
  have hl12 := hl2.trans hl3
  rw [← hW2, ← hb10]
  clear hW2 hb10 hC1 hl2 hl3 B5
  go_wp2_with fail
  refine (HLE.out _ (hlw1.trans hl12)).mono ?_
  rintro e w3 ⟨rfl, hl3⟩
  go_wp2_with fail
  refine (pick_at fr (((bstr X).size : Int) + 1) q _ (by omega) (by omega) hq).mono ?_
  rintro e w4 ⟨rfl, rfl⟩
  have B9 := blkL (hl12.trans hl3) B9
  have B10 := blkL hl3 B10
  have hT0 := hT0.later (hl12.trans hl3)
  have hT1 := hT1.later hl3
  have HLW : Hid (Later w w3) := hlw1.trans (hl12.trans hl3)
  clear hl12 hl3 hlw1 hq HRA HRB HLE
  obtain ⟨y0, y1, y2, y3, y4, y5, -⟩ := cells6 B9
  obtain ⟨z0, z1, z2, z3, z4, z5, -⟩ := cells6 B10
  have e00 : ∀ o1 : Obj, (w3.alloc o1).cell? ⟨b9, 0, none⟩ = some (.int .i64 k0) := fun o1 => al1 y0 o1
  have e01 : ∀ o1 : Obj, (w3.alloc o1).cell? ⟨b9, 1, none⟩ = some (.int .u64 a0) := fun o1 => al1 y1 o1
  have e02 : ∀ o1 : Obj, (w3.alloc o1).cell? ⟨b9, 2, none⟩ = some (.int .u64 b0) := fun o1 => al1 y2 o1
  have e03 : ∀ o1 : Obj, (w3.alloc o1).cell? ⟨b9, 3, none⟩ = some (.int .u64 c0) := fun o1 => al1 y3 o1
  have e04 : ∀ o1 : Obj, (w3.alloc o1).cell? ⟨b9, 4, none⟩ = some (.int .u64 d0) := fun o1 => al1 y4 o1
  have e05 : ∀ o1 : Obj, (w3.alloc o1).cell? ⟨b9, 5, none⟩ = some (.slice A0 n0 cp0) := fun o1 => al1 y5 o1
  have e10 : ∀ o1 o2 : Obj, ((w3.alloc o1).alloc o2).cell? ⟨b9, 0, none⟩ = some (.int .i64 k0) := fun o1 o2 => al1 (al1 y0 o1) o2
  have e11 : ∀ o1 o2 : Obj, ((w3.alloc o1).alloc o2).cell? ⟨b9, 1, none⟩ = some (.int .u64 a0) := fun o1 o2 => al1 (al1 y1 o1) o2
  have e12 : ∀ o1 o2 : Obj, ((w3.alloc o1).alloc o2).cell? ⟨b9, 2, none⟩ = some (.int .u64 b0) := fun o1 o2 => al1 (al1 y2 o1) o2
  have e13 : ∀ o1 o2 : Obj, ((w3.alloc o1).alloc o2).cell? ⟨b9, 3, none⟩ = some (.int .u64 c0) := fun o1 o2 => al1 (al1 y3 o1) o2
  have e14 : ∀ o1 o2 : Obj, ((w3.alloc o1).alloc o2).cell? ⟨b9, 4, none⟩ = some (.int .u64 d0) := fun o1 o2 => al1 (al1 y4 o1) o2
  have e15 : ∀ o1 o2 : Obj, ((w3.alloc o1).alloc o2).cell? ⟨b9, 5, none⟩ = some (.slice A0 n0 cp0) := fun o1 o2 => al1 (al1 y5 o1) o2
  have e20 : ∀ o1 o2 o3 : Obj, (((w3.alloc o1).alloc o2).alloc o3).cell? ⟨b9, 0, none⟩ = some (.int .i64 k0) := fun o1 o2 o3 => al1 (al1 (al1 y0 o1) o2) o3
  have e21 : ∀ o1 o2 o3 : Obj, (((w3.alloc o1).alloc o2).alloc o3).cell? ⟨b9, 1, none⟩ = some (.int .u64 a0) := fun o1 o2 o3 => al1 (al1 (al1 y1 o1) o2) o3
  have e22 : ∀ o1 o2 o3 : Obj, (((w3.alloc o1).alloc o2).alloc o3).cell? ⟨b9, 2, none⟩ = some (.int .u64 b0) := fun o1 o2 o3 => al1 (al1 (al1 y2 o1) o2) o3
  have e23 : ∀ o1 o2 o3 : Obj, (((w3.alloc o1).alloc o2).alloc o3).cell? ⟨b9, 3, none⟩ = some (.int .u64 c0) := fun o1 o2 o3 => al1 (al1 (al1 y3 o1) o2) o3
  have e24 : ∀ o1 o2 o3 : Obj, (((w3.alloc o1).alloc o2).alloc o3).cell? ⟨b9, 4, none⟩ = some (.int .u64 d0) := fun o1 o2 o3 => al1 (al1 (al1 y4 o1) o2) o3
  have e25 : ∀ o1 o2 o3 : Obj, (((w3.alloc o1).alloc o2).alloc o3).cell? ⟨b9, 5, none⟩ = some (.slice A0 n0 cp0) := fun o1 o2 o3 => al1 (al1 (al1 y5 o1) o2) o3
  go_upto_region 6 with fail
  obtain ⟨V1, hV1⟩ : ∃ V, V = w3.alloc (.cells #[.int .i64 k0, .int .u64 a0, .int .u64 b0, .int .u64 c0, .int .u64 d0, .slice A0 n0 cp0, .int .i64 k1, .int .u64 a1, .int .u64 b1, .int .u64 c1, .int .u64 d1, .slice A1 n1 cp1] 30) := ⟨_, rfl⟩
  have t2 : ReC V1 loT (rxT (.alt ra rb)) ⟨3, 0, 0, 0, 0, some ⟨w3.heap.size, 0, none⟩, 2, 2⟩ := by rw [hV1]; exact ReC.two 3 hT0 hT1 (fun _ _ => trivial)
  have s1 : V1.heap.size = w3.heap.size + 1 := by rw [hV1]; simp
  have l1 : Later w3 V1 := by rw [hV1]; exact (Later.refl w3).alloc _
  obtain ⟨V2, hV2⟩ : ∃ V, V = V1.alloc (.cells #[.int .i64 k0, .int .u64 a0, .int .u64 b0, .int .u64 c0, .int .u64 d0, .slice A0 n0 cp0] 30) := ⟨_, rfl⟩
  have t3 : ReC V2 loT (rxT (.star ra)) ⟨4, 0, 0, 0, 0, some ⟨w3.heap.size + 1, 0, none⟩, 1, 1⟩ := by rw [hV2, ← s1]; exact ReC.one 4 (hT0.later l1) (fun _ _ => trivial)
  have s2 : V2.heap.size = w3.heap.size + 1 + 1 := by rw [hV2, ← s1]; simp
  have l2 : Later V1 V2 := by rw [hV2]; exact (Later.refl V1).alloc _
  obtain ⟨V3, hV3⟩ : ∃ V, V = V2.alloc (.cells #[.int .i64 k0, .int .u64 a0, .int .u64 b0, .int .u64 c0, .int .u64 d0, .slice A0 n0 cp0] 30) := ⟨_, rfl⟩
  have t4 : ReC V3 loT (rxT (.plus ra)) ⟨5, 0, 0, 0, 0, some ⟨w3.heap.size + 1 + 1, 0, none⟩, 1, 1⟩ := by rw [hV3, ← s2]; exact ReC.one 5 (hT0.later (l1.trans l2)) (fun _ _ => trivial)
  have s3 : V3.heap.size = w3.heap.size + 1 + 1 + 1 := by rw [hV3, ← s2]; simp
  have l3 : Later V2 V3 := by rw [hV3]; exact (Later.refl V2).alloc _
  obtain ⟨V4, hV4⟩ : ∃ V, V = V3.alloc (.cells #[.int .i64 k0, .int .u64 a0, .int .u64 b0, .int .u64 c0, .int .u64 d0, .slice A0 n0 cp0] 30) := ⟨_, rfl⟩
  have t5 : ReC V4 loT (rxT (.opt ra)) ⟨6, 0, 0, 0, 0, some ⟨w3.heap.size + 1 + 1 + 1, 0, none⟩, 1, 1⟩ := by rw [hV4, ← s3]; exact ReC.one 6 (hT0.later (l1.trans (l2.trans l3))) (fun _ _ => trivial)
  have s4 : V4.heap.size = w3.heap.size + 1 + 1 + 1 + 1 := by rw [hV4, ← s3]; simp
  have l4 : Later V3 V4 := by rw [hV4]; exact (Later.refl V3).alloc _
  obtain ⟨V5, hV5⟩ : ∃ V, V = V4.alloc (.cells #[.int .i64 k0, .int .u64 a0, .int .u64 b0, .int .u64 c0, .int .u64 d0, .slice A0 n0 cp0, .int .i64 k1, .int .u64 a1, .int .u64 b1, .int .u64 c1, .int .u64 d1, .slice A1 n1 cp1, .int .i64 3, .int .u64 0, .int .u64 0, .int .u64 0, .int .u64 0, .slice (some ⟨w3.heap.size, 0, none⟩) 2 2, .int .i64 4, .int .u64 0, .int .u64 0, .int .u64 0, .int .u64 0, .slice (some ⟨w3.heap.size + 1, 0, none⟩) 1 1, .int .i64 5, .int .u64 0, .int .u64 0, .int .u64 0, .int .u64 0, .slice (some ⟨w3.heap.size + 1 + 1, 0, none⟩) 1 1, .int .i64 6, .int .u64 0, .int .u64 0, .int .u64 0, .int .u64 0, .slice (some ⟨w3.heap.size + 1 + 1 + 1, 0, none⟩) 1 1] 30) := ⟨_, rfl⟩
  have l5 : Later V4 V5 := by rw [hV5]; exact (Later.refl V4).alloc _
  obtain ⟨xs, hxs⟩ : ∃ xs : List ReX, xs = [⟨k0, a0, b0, c0, d0, A0, n0, cp0⟩, ⟨k1, a1, b1, c1, d1, A1, n1, cp1⟩, ⟨3, 0, 0, 0, 0, some ⟨w3.heap.size, 0, none⟩, 2, 2⟩, ⟨4, 0, 0, 0, 0, some ⟨w3.heap.size + 1, 0, none⟩, 1, 1⟩, ⟨5, 0, 0, 0, 0, some ⟨w3.heap.size + 1 + 1, 0, none⟩, 1, 1⟩, ⟨6, 0, 0, 0, 0, some ⟨w3.heap.size + 1 + 1 + 1, 0, none⟩, 1, 1⟩] := ⟨_, rfl⟩
  have hLo : LoR V5 loT 6 (some ⟨w3.heap.size + 1 + 1 + 1 + 1, 0, none⟩) 6 (xs.flatMap reL) := by rw [hV5, hxs, ← s4]; exact LoR.new _ _ (by simp [reL]) rfl (fun _ _ => trivial)
  have hR : ∀ i, i < 6 → ∃ x, xs[i]? = some x ∧ ReC V5 loT (rxT (sixR ra rb i)) x := by
    intro i hi
    rw [hxs]
    rcases lt6 hi with rfl | rfl | rfl | rfl | rfl | rfl
    · exact ⟨_, rfl, hT0.later (l1.trans (l2.trans (l3.trans (l4.trans l5))))⟩
    · exact ⟨_, rfl, hT1.later (l1.trans (l2.trans (l3.trans (l4.trans l5))))⟩
    · exact ⟨_, rfl, t2.later (l2.trans (l3.trans (l4.trans l5)))⟩
    · exact ⟨_, rfl, t3.later (l3.trans (l4.trans l5))⟩
    · exact ⟨_, rfl, t4.later (l4.trans l5)⟩
    · exact ⟨_, rfl, t5.later l5⟩
  have HLV : Hid (Later w V5) := HLW.out.trans (l1.trans (l2.trans (l3.trans (l4.trans l5))))
  rw [← hV1, ← hV2, ← hV3, ← hV4, ← hV5]
  obtain ⟨bl, hbl⟩ : ∃ bl, bl = w3.heap.size + 1 + 1 + 1 + 1 := ⟨_, rfl⟩
  rw [← hbl] at hLo ⊢
  have HLo := Lib.hid hLo
  have HR6 := Lib.hid hR
  clear hV1 hV2 hV3 hV4 hV5 t2 t3 t4 t5 s1 s2 s3 s4 l1 l2 l3 l4 l5 hxs hbl hLo hR hT0 hT1 B9 B10 HLW y0 z0 y1 z1 y2 z2 y3 z3 y4 z4 y5 z5 e00 e01 e02 e03 e04 e05 e10 e11 e12 e13 e14 e15 e20 e21 e22 e23 e24 e25
  go_upto_region 8 with fail
  obtain ⟨ge, hge⟩ : ∃ g, g = V5.heap.size := ⟨_, rfl⟩
  obtain ⟨W6, hW6⟩ : ∃ W6, W6 = (V5.alloc (.cells #[.int .i64 0, .int .i64 0, .int .i64 0, .int .i64 0, .int .i64 0, .int .i64 0] 50)).alloc (.cells #[.bool false, .bool false, .bool false, .bool false, .bool false, .bool false] 51) := ⟨_, rfl⟩
  obtain ⟨RR, hRR⟩ : ∃ RR : Nat → Option (Nat × Nat), ∀ i, findF (machF (sixR ra rb i)) (bstr X).data.toList q q = RR i := ⟨_, fun _ => rfl⟩
  obtain ⟨EE, hEE⟩ : ∃ EE : Nat → Int, ∀ i, (enN (RR i) : Int) = EE i := ⟨_, fun _ => rfl⟩
  obtain ⟨SS, hSS⟩ : ∃ SS : Nat → Bool, ∀ i, (RR i).isSome = SS i := ⟨_, fun _ => rfl⟩
  have Be : Blk W6 ge 50 (upI EE 0) := by rw [hW6, hge]; exact (Blk.new V5 _ _).alloc _
  have Bs : Blk W6 (ge + 1) 51 (upB SS 0) := by
    have h := Blk.new (V5.alloc (.cells #[.int .i64 0, .int .i64 0, .int .i64 0, .int .i64 0, .int .i64 0, .int .i64 0] 50)) 51 #[.bool false, .bool false, .bool false, .bool false, .bool false, .bool false]
    rw [show (V5.alloc (.cells #[.int .i64 0, .int .i64 0, .int .i64 0, .int .i64 0, .int .i64 0, .int .i64 0] 50)).heap.size = ge + 1 by rw [hge]; simp] at h
    rw [hW6]; exact h
  have hl6 : Later V5 W6 := by rw [hW6]; exact ((Later.refl V5).alloc _).alloc _
  have hgV : V5.heap.size ≤ ge := by omega
  have HMA : Hid (∀ (i : Nat) (wx : World) (mb g : Nat), RunsM wx mb g (machF (sixR ra rb i)).1 (machF (sixR ra rb i)).2 → Calls Try.prog 15 #[.pointer (some ⟨g, 0, none⟩), .string (bstr X), .int .i64 (q : Int)] wx fun e w' => e = .returned (.tuple #[.int .i64 (EE i), .bool (SS i)]) ∧ Later wx w') := fun i wx mb g h => by
    have h2 := at_at (bstr X) q wx mb g (sixR ra rb i) h (by omega) (by omega) (RR i) (hRR i)
    rw [hEE, hSS] at h2
    exact h2
  have HCO : Hid (∀ (i : Nat) (k a b c d : Int) (A : Option Addr) (n cp : Nat) (wx : World), ReC wx loT (rxT (sixR ra rb i)) ⟨k, a, b, c, d, A, n, cp⟩ → Calls Try.prog 10 #[.agg #[.int .i64 k, .int .u64 a, .int .u64 b, .int .u64 c, .int .u64 d, .slice A n cp]] wx fun e w' => ∃ g, e = .returned (.tuple #[.pointer (some ⟨g, 0, none⟩), .int .i64 0]) ∧ RunsM w' wx.heap.size g (machF (sixR ra rb i)).1 (machF (sixR ra rb i)).2 ∧ Later wx w') := fun i k a b c d A n cp wx h => comp_at (sixR ra rb i) loT k a b c d A n cp wx h (six_right HDP.out i) (six_ok HOK.out.1 HOK.out.2 i)
  have HLAW : Hid (∃ (A B L S P Q : Option (Nat × Nat)), RR 0 = A ∧ RR 1 = B ∧ RR 2 = L ∧ RR 3 = S ∧ RR 4 = P ∧ RR 5 = Q ∧
      L.isSome = (A.isSome || B.isSome) ∧ S.isSome = true ∧ Q.isSome = true ∧ P.isSome = A.isSome ∧
      (A.isSome = true → B.isSome = true → enN L = max (enN A) (enN B)) ∧ (A.isSome = true → B.isSome = false → enN L = enN A) ∧ (A.isSome = false → B.isSome = true → enN L = enN B) ∧
      q ≤ enN S ∧ (A.isSome = true → enN A ≤ enN S ∧ enN P = enN S ∧ enN Q = max q (enN A)) ∧ (A.isSome = false → enN S = q ∧ enN Q = q)) := by
    obtain ⟨A, B, L, S, P, Q, h0, h1, h2, h3, h4, h5, h⟩ := rules_six X ra rb q (by have : (bstr X).size = X.length := rfl; omega)
    exact ⟨A, B, L, S, P, Q, (hRR 0).symm.trans h0, (hRR 1).symm.trans h1, (hRR 2).symm.trans h2, (hRR 3).symm.trans h3, (hRR 4).symm.trans h4, (hRR 5).symm.trans h5, h⟩
  have HES : Hid ((∀ i, (enN (RR i) : Int) = EE i) ∧ ∀ i, (RR i).isSome = SS i) := ⟨hEE, hSS⟩
  rw [← hW6, ← hge]
  clear hW6 hge hRR hEE hSS HOK HDP
  go_wp2_with fail
  go_loopw [15] (fun s15 wr => ∃ i : Nat, i ≤ 6 ∧ s15 = .int .i64 (i : Int) ∧ Hid (Blk wr ge 50 (upI EE i) ∧ Blk wr (ge + 1) 51 (upB SS i) ∧ Later V5 wr)) (fun s15 _ => 6 - (intOf s15).toNat)
  case atStart => exact ⟨0, by omega, rfl, Be, Bs, hl6⟩
  case round =>
    clear Be Bs hl6
    obtain ⟨i, hi, rfl, hB⟩ := hrel
    by_cases h6 : i < 6
    · have h6i : (i : Int) < 6 := by omega
      obtain ⟨⟨kx, ax, bx, cx, dx, Ax, nx, cpx⟩, hx, hT⟩ := HR6.out i h6
      obtain ⟨p0, off, hA, u0, u1, u2, u3, u4, u5⟩ := (HLo.out.fr (Fr.laterF hB.out.2.2) (spares_false _ _)).six h6 hx
      injection hA with hA
      injection hA with hA1 hA2
      subst hA1 hA2
      simp only [Nat.zero_add] at u0 u1 u2 u3 u4 u5
      have HT := Lib.hid (hT.later hB.out.2.2)
      clear hT hx
      go_wp2_with fail
      refine (HCO.out i _ _ _ _ _ _ _ _ _ HT.out).mono ?_
      rintro e w5 ⟨g, rfl, hM, hl5⟩
      clear u0 u1 u2 u3 u4 u5
      have HM := Lib.hid hM
      have HL5 := Lib.hid hl5
      clear hM hl5
      go_wp2_with fail
      refine (HMA.out i _ _ g HM.out).mono ?_
      rintro e w6 ⟨rfl, hl6⟩
      have HL6 : Hid (Later wr w6) := HL5.out.trans hl6
      have De := blkL HL6.out hB.out.1
      have Ds := blkL HL6.out hB.out.2.1
      have ce : w6.cell? ⟨ge, i, none⟩ = some (.int .i64 0) := by rw [De.cell i]; exact upI_at EE i h6
      have cs : w6.cell? ⟨ge + 1, i, none⟩ = some (.bool false) := by rw [Ds.cell i]; exact upB_at SS i h6
      have fe : w6.frozen? ⟨ge, i, none⟩ = false := De.frozen i
      have fs : w6.frozen? ⟨ge + 1, i, none⟩ = false := Ds.frozen i
      have HDN : Hid (Blk ((w6.setCell ⟨ge, i, none⟩ (.int .i64 (EE i))).setCell ⟨ge + 1, i, none⟩ (.bool (SS i))) ge 50 (upI EE (i + 1)) ∧ Blk ((w6.setCell ⟨ge, i, none⟩ (.int .i64 (EE i))).setCell ⟨ge + 1, i, none⟩ (.bool (SS i))) (ge + 1) 51 (upB SS (i + 1)) ∧ Later V5 ((w6.setCell ⟨ge, i, none⟩ (.int .i64 (EE i))).setCell ⟨ge + 1, i, none⟩ (.bool (SS i)))) := by
        refine ⟨?_, ?_, ?_⟩
        · have h := De.set_ i (.int .i64 (EE i))
          rw [upI_set EE i h6] at h
          exact h.far (p := ⟨ge + 1, i, none⟩) (by show ge ≠ ge + 1; omega) _
        · have h := (Ds.far (p := ⟨ge, i, none⟩) (by show ge + 1 ≠ ge; omega) (.int .i64 (EE i))).set_ i (.bool (SS i))
          rw [upB_set SS i h6] at h
          exact h
        · exact Later.setCell (Later.setCell (hB.out.2.2.trans HL6.out) (p := ⟨ge, i, none⟩) hgV _) (p := ⟨ge + 1, i, none⟩) (by show V5.heap.size ≤ ge + 1; omega) _
      clear hB De Ds hl6
      go_wp2_with fail
      go_roundw
      case rel => exact ⟨i + 1, by omega, by go_num, HDN⟩
      case measure => simp [intOf]; omega
    · obtain rfl : i = 6 := by omega
      obtain ⟨hBe, hBs, hlv⟩ := hB.out
      obtain ⟨e0, e1, e2, e3, e4, e5, s0, s1, E0, E1, E2, E3, E4, E5, S0, S1, S2, S3, S4, S5, p0, p1, m1, m2, m3, m4, m5, m6⟩ := rules_vals HES.out HLAW.out
      have hBe : Blk wr ge 50 #[.int .i64 e0, .int .i64 e1, .int .i64 e2, .int .i64 e3, .int .i64 e4, .int .i64 e5] := by
        have h : Blk wr ge 50 #[.int .i64 (EE 0), .int .i64 (EE 1), .int .i64 (EE 2), .int .i64 (EE 3), .int .i64 (EE 4), .int .i64 (EE 5)] := hBe
        rw [E0, E1, E2, E3, E4, E5] at h
        exact h
      have hBs : Blk wr (ge + 1) 51 #[.bool s0, .bool s1, .bool (s0 || s1), .bool true, .bool s0, .bool true] := by
        have h : Blk wr (ge + 1) 51 #[.bool (SS 0), .bool (SS 1), .bool (SS 2), .bool (SS 3), .bool (SS 4), .bool (SS 5)] := hBs
        rw [S0, S1, S2, S3, S4, S5] at h
        exact h
      have HBE := Lib.hid hBe
      have HBS := Lib.hid hBs
      have HL : Hid (Later w wr) := HLV.out.trans hlv
      clear hB hBe hBs hlv HES HLAW E0 E1 E2 E3 E4 E5 S0 S1 S2 S3 S4 S5 HR6 HLo HMA HCO
      go_wp2_with fail
      refine (nfaKnown_any _).mono ?_
      rintro e w5 ⟨rfl, hl5⟩
      have De := blkL hl5 HBE.out
      have Ds := blkL hl5 HBS.out
      have HLZ : Hid (Later w w5) := HL.out.trans hl5
      obtain ⟨x0, x1, x2, x3, x4, x5⟩ : w5.cell? ⟨ge, 0, none⟩ = some (.int .i64 e0) ∧ w5.cell? ⟨ge, 1, none⟩ = some (.int .i64 e1) ∧ w5.cell? ⟨ge, 2, none⟩ = some (.int .i64 e2) ∧ w5.cell? ⟨ge, 3, none⟩ = some (.int .i64 e3) ∧ w5.cell? ⟨ge, 4, none⟩ = some (.int .i64 e4) ∧ w5.cell? ⟨ge, 5, none⟩ = some (.int .i64 e5) := ⟨De.cell 0, De.cell 1, De.cell 2, De.cell 3, De.cell 4, De.cell 5⟩
      obtain ⟨y0, y1, y2, y3, y4, y5⟩ : w5.cell? ⟨ge + 1, 0, none⟩ = some (.bool s0) ∧ w5.cell? ⟨ge + 1, 1, none⟩ = some (.bool s1) ∧ w5.cell? ⟨ge + 1, 2, none⟩ = some (.bool (s0 || s1)) ∧ w5.cell? ⟨ge + 1, 3, none⟩ = some (.bool true) ∧ w5.cell? ⟨ge + 1, 4, none⟩ = some (.bool s0) ∧ w5.cell? ⟨ge + 1, 5, none⟩ = some (.bool true) := ⟨Ds.cell 0, Ds.cell 1, Ds.cell 2, Ds.cell 3, Ds.cell 4, Ds.cell 5⟩
      clear De Ds HBE HBS HL hl5
      have c0 : (e0 == e0) = true := beq_self_eq_true _
      have c1 : (e1 == e1) = true := beq_self_eq_true _
      have c3 : (e3 == e3) = true := beq_self_eq_true _
      have cq : ((q : Int) == (q : Int)) = true := beq_self_eq_true _
      cases s0 with
      | true =>
        obtain ⟨m51, m52, m53⟩ := m5 rfl
        cases s1 with
        | true =>
          have m1 := m1 rfl rfl
          subst m52
          rcases Int.lt_or_le e1 e0 with h1 | h1
          · rcases Int.lt_or_le e0 (q : Int) with h2 | h2
            · rw [show e2 = e0 by omega] at x2
              rw [show e5 = (q : Int) by omega] at x5
              clear m1 m2 m3 m5 m6 m53
              simp only [Bool.or_true] at y2
              go_wp2_with fail
              all_goals (go_ret; exact ⟨rfl, HLZ.out⟩)
            · rw [show e2 = e0 by omega] at x2
              rw [show e5 = e0 by omega] at x5
              clear m1 m2 m3 m5 m6 m53
              simp only [Bool.or_true] at y2
              go_wp2_with fail
              all_goals (go_ret; exact ⟨rfl, HLZ.out⟩)
          · rcases Int.lt_or_le e0 (q : Int) with h2 | h2
            · rw [show e2 = e1 by omega] at x2
              rw [show e5 = (q : Int) by omega] at x5
              clear m1 m2 m3 m5 m6 m53
              simp only [Bool.or_true] at y2
              go_wp2_with fail
              all_goals (go_ret; exact ⟨rfl, HLZ.out⟩)
            · rw [show e2 = e1 by omega] at x2
              rw [show e5 = e0 by omega] at x5
              clear m1 m2 m3 m5 m6 m53
              simp only [Bool.or_true] at y2
              go_wp2_with fail
              all_goals (go_ret; exact ⟨rfl, HLZ.out⟩)
        | false =>
          have m2 := m2 rfl rfl
          subst m52
          rcases Int.lt_or_le e0 (q : Int) with h2 | h2
          · rw [show e2 = e0 by omega] at x2
            rw [show e5 = (q : Int) by omega] at x5
            clear m1 m2 m3 m5 m6 m53
            simp only [Bool.or_false] at y2
            go_wp2_with fail
            all_goals (go_ret; exact ⟨rfl, HLZ.out⟩)
          · rw [show e2 = e0 by omega] at x2
            rw [show e5 = e0 by omega] at x5
            clear m1 m2 m3 m5 m6 m53
            simp only [Bool.or_false] at y2
            go_wp2_with fail
            all_goals (go_ret; exact ⟨rfl, HLZ.out⟩)
      | false =>
        obtain ⟨m61, m62⟩ := m6 rfl
        subst m61 m62
        cases s1 with
        | true =>
          have m3 := m3 rfl rfl
          subst m3
          clear m1 m2 m5 m6
          simp only [Bool.or_true] at y2
          go_wp2_with fail
          go_ret
          exact ⟨rfl, HLZ.out⟩
        | false =>
          clear m1 m2 m3 m5 m6
          simp only [Bool.or_false] at y2
          go_wp2_with fail
          go_ret
          exact ⟨rfl, HLZ.out⟩

end Go.Proofs.Ytmkddhkpeiajhaa
