/-
  The walk of ClassRules.
-/
import Derived.Test.YthmjnelnnhidkaaClsKnown
import Derived.Test.YthmjnelnnhidkaaLaterQ
namespace Go.Proofs.Ythmjnelnnhidkaa
open Go.RowKit

theorem not_not (p : Mem) (w : World) : Calls Try.prog 18 #[.agg #[.int .u64 (word (mNot p) 0 : Nat), .int .u64 (word (mNot p) 1 : Nat), .int .u64 (word (mNot p) 2 : Nat), .int .u64 (word (mNot p) 3 : Nat)]] w fun e w' => e = .returned (.agg #[.int .u64 (word (p) 0 : Nat), .int .u64 (word (p) 1 : Nat), .int .u64 (word (p) 2 : Nat), .int .u64 (word (p) 3 : Nat)]) ∧ Later w w' := by
  have h : mNot (mNot p) = p := by funext b; exact Bool.not_not (p b)
  have := not_at (mNot p) w
  rwa [h] at this
theorem or_self_at (p : Mem) (w : World) : Calls Try.prog 24 #[.agg #[.int .u64 (word (p) 0 : Nat), .int .u64 (word (p) 1 : Nat), .int .u64 (word (p) 2 : Nat), .int .u64 (word (p) 3 : Nat)], .agg #[.int .u64 (word (p) 0 : Nat), .int .u64 (word (p) 1 : Nat), .int .u64 (word (p) 2 : Nat), .int .u64 (word (p) 3 : Nat)]] w fun e w' => e = .returned (.agg #[.int .u64 (word (p) 0 : Nat), .int .u64 (word (p) 1 : Nat), .int .u64 (word (p) 2 : Nat), .int .u64 (word (p) 3 : Nat)]) ∧ Later w w' := by
  have h : mOr p p = p := by funext b; exact Bool.or_self (p b)
  have := or_at p p w
  rwa [h] at this
theorem or_swap (p q : Mem) (w : World) : Calls Try.prog 24 #[.agg #[.int .u64 (word (q) 0 : Nat), .int .u64 (word (q) 1 : Nat), .int .u64 (word (q) 2 : Nat), .int .u64 (word (q) 3 : Nat)], .agg #[.int .u64 (word (p) 0 : Nat), .int .u64 (word (p) 1 : Nat), .int .u64 (word (p) 2 : Nat), .int .u64 (word (p) 3 : Nat)]] w fun e w' => e = .returned (.agg #[.int .u64 (word (mOr p q) 0 : Nat), .int .u64 (word (mOr p q) 1 : Nat), .int .u64 (word (mOr p q) 2 : Nat), .int .u64 (word (mOr p q) 3 : Nat)]) ∧ Later w w' := by
  have h : mOr q p = mOr p q := by funext b; exact Bool.or_comm (q b) (p b)
  have := or_at q p w
  rwa [h] at this
theorem has_is (p : Mem) (b : Nat) (v : Bool) (hb : b < 256) (h : p b = v) (w : World) :
    Calls Try.prog 20 #[.agg #[.int .u64 (word (p) 0 : Nat), .int .u64 (word (p) 1 : Nat), .int .u64 (word (p) 2 : Nat), .int .u64 (word (p) 3 : Nat)], .int .u8 (b : Int)] w fun e w' => e = .returned (.bool v) ∧ Later w w' := by
  subst h
  exact has_any p b hb w
theorem cnt_not (p : Mem) (k : Nat) : cntN p k + cntN (mNot p) k = k := by
  have h := sumN_add (fun j => (p j).toNat) (fun j => (mNot p j).toNat) k
  have h2 : sumN (fun j => (p j).toNat + (mNot p j).toNat) k = k := by
    rw [sumN_congr (e := fun _ => 1) k (fun j _ => by unfold mNot; cases p j <;> rfl)]
    induction k with
    | zero => rfl
    | succ n ih => rw [sumN, ih (sumN_add _ _ _)]
  unfold cntN
  omega
theorem cnt_all (p : Mem) : ((cntN (mOr p (mNot p)) 256 : Nat) : Int) = 256 := by
  have h : cntN (mOr p (mNot p)) 256 = sumN (fun _ => 1) 256 := sumN_congr 256 fun j _ => by unfold mOr mNot; cases p j <;> rfl
  rw [h]
  decide +kernel

theorem setL {w : World} {b : Nat} {t : TypeId} {x0 x1 x2 x3 : Value} (h : Blk w b t #[x0, x1, x2, x3]) : w.cell? ⟨b, 0, none⟩ = some x0 ∧ w.cell? ⟨b, 1, none⟩ = some x1 ∧ w.cell? ⟨b, 2, none⟩ = some x2 ∧ w.cell? ⟨b, 3, none⟩ = some x3 := ⟨h.cell 0, h.cell 1, h.cell 2, h.cell 3⟩
theorem setZ {w : World} {b : Nat} {t : TypeId} {x0 x1 x2 x3 : Value} (h : Blk w b t #[x0, x1, x2, x3]) : w.cell? ⟨b, 0, none⟩ = some x0 ∧ w.cell? ⟨b, 1, none⟩ = some x1 ∧ w.cell? ⟨b, 2, none⟩ = some x2 ∧ w.cell? ⟨b, 3, none⟩ = some x3 ∧ w.frozen? ⟨b, 0, none⟩ = false ∧ w.frozen? ⟨b, 1, none⟩ = false ∧ w.frozen? ⟨b, 2, none⟩ = false ∧ w.frozen? ⟨b, 3, none⟩ = false := ⟨h.cell 0, h.cell 1, h.cell 2, h.cell 3, h.frozen 0, h.frozen 1, h.frozen 2, h.frozen 3⟩
theorem blkNew {w w1 : World} {t : TypeId} {cs : Array Value} (hl : Later (w.alloc (.cells cs t)) w1) : Blk w1 w.heap.size t cs := blkLater hl (Blk.new w t cs)
theorem blkNewD {w w1 : World} {t : TypeId} {cs : Array Value} (hl : Later (w.alloc (.cells cs t)).drew w1) : Blk w1 w.heap.size t cs := blkLater hl (Blk.new w t cs)
theorem blkSet4 {w w1 : World} {g : Nat} {t : TypeId} {y0 y1 y2 y3 x0 x1 x2 x3 : Value} (h : Blk w g t #[y0, y1, y2, y3]) (hl : Later ((((w.setCell ⟨g, 0, none⟩ x0).setCell ⟨g, 1, none⟩ x1).setCell ⟨g, 2, none⟩ x2).setCell ⟨g, 3, none⟩ x3) w1) : Blk w1 g t #[x0, x1, x2, x3] :=
  blkLater hl ((((h.set_ 0 x0).set_ 1 x1).set_ 2 x2).set_ 3 x3)

set_option maxRecDepth 100000 in
set_option maxHeartbeats 16000000 in
theorem rules_true (p0 p1 p2 p3 q0 q1 q2 q3 n0 n1 n2 n3 a0 a1 a2 a3 r0 r1 r2 r3 : Int) (b c : Int) (pb qb : Bool) (hpb : pb = true) (hw : IntKind.i64.wrap (c + (256 - c)) = 256)
    (hNP : ∀ w, Calls Try.prog 18 #[.agg #[.int .u64 p0, .int .u64 p1, .int .u64 p2, .int .u64 p3]] w fun e w' => e = .returned (.agg #[.int .u64 n0, .int .u64 n1, .int .u64 n2, .int .u64 n3]) ∧ Later w w')
    (hNN : ∀ w, Calls Try.prog 18 #[.agg #[.int .u64 n0, .int .u64 n1, .int .u64 n2, .int .u64 n3]] w fun e w' => e = .returned (.agg #[.int .u64 p0, .int .u64 p1, .int .u64 p2, .int .u64 p3]) ∧ Later w w')
    (hOA : ∀ w, Calls Try.prog 24 #[.agg #[.int .u64 p0, .int .u64 p1, .int .u64 p2, .int .u64 p3], .agg #[.int .u64 n0, .int .u64 n1, .int .u64 n2, .int .u64 n3]] w fun e w' => e = .returned (.agg #[.int .u64 a0, .int .u64 a1, .int .u64 a2, .int .u64 a3]) ∧ Later w w')
    (hOPQ : ∀ w, Calls Try.prog 24 #[.agg #[.int .u64 p0, .int .u64 p1, .int .u64 p2, .int .u64 p3], .agg #[.int .u64 q0, .int .u64 q1, .int .u64 q2, .int .u64 q3]] w fun e w' => e = .returned (.agg #[.int .u64 r0, .int .u64 r1, .int .u64 r2, .int .u64 r3]) ∧ Later w w')
    (hOQP : ∀ w, Calls Try.prog 24 #[.agg #[.int .u64 q0, .int .u64 q1, .int .u64 q2, .int .u64 q3], .agg #[.int .u64 p0, .int .u64 p1, .int .u64 p2, .int .u64 p3]] w fun e w' => e = .returned (.agg #[.int .u64 r0, .int .u64 r1, .int .u64 r2, .int .u64 r3]) ∧ Later w w')
    (hOPP : ∀ w, Calls Try.prog 24 #[.agg #[.int .u64 p0, .int .u64 p1, .int .u64 p2, .int .u64 p3], .agg #[.int .u64 p0, .int .u64 p1, .int .u64 p2, .int .u64 p3]] w fun e w' => e = .returned (.agg #[.int .u64 p0, .int .u64 p1, .int .u64 p2, .int .u64 p3]) ∧ Later w w')
    (hCA : ∀ w, Calls Try.prog 19 #[.agg #[.int .u64 a0, .int .u64 a1, .int .u64 a2, .int .u64 a3]] w fun e w' => e = .returned (.int .i64 256) ∧ Later w w')
    (hCP : ∀ w, Calls Try.prog 19 #[.agg #[.int .u64 p0, .int .u64 p1, .int .u64 p2, .int .u64 p3]] w fun e w' => e = .returned (.int .i64 c) ∧ Later w w')
    (hCN : ∀ w, Calls Try.prog 19 #[.agg #[.int .u64 n0, .int .u64 n1, .int .u64 n2, .int .u64 n3]] w fun e w' => e = .returned (.int .i64 (256 - c)) ∧ Later w w')
    (hHP : ∀ w, Calls Try.prog 20 #[.agg #[.int .u64 p0, .int .u64 p1, .int .u64 p2, .int .u64 p3], .int .u8 b] w fun e w' => e = .returned (.bool pb) ∧ Later w w')
    (hHQ : ∀ w, Calls Try.prog 20 #[.agg #[.int .u64 q0, .int .u64 q1, .int .u64 q2, .int .u64 q3], .int .u8 b] w fun e w' => e = .returned (.bool qb) ∧ Later w w')
    (hHR : ∀ w, Calls Try.prog 20 #[.agg #[.int .u64 r0, .int .u64 r1, .int .u64 r2, .int .u64 r3], .int .u8 b] w fun e w' => e = .returned (.bool (pb || qb)) ∧ Later w w')
    (hHN : ∀ w, Calls Try.prog 20 #[.agg #[.int .u64 n0, .int .u64 n1, .int .u64 n2, .int .u64 n3], .int .u8 b] w fun e w' => e = .returned (.bool (!pb)) ∧ Later w w')
    (w : World) : Calls Try.prog 5 #[.agg #[.int .u64 p0, .int .u64 p1, .int .u64 p2, .int .u64 p3], .agg #[.int .u64 q0, .int .u64 q1, .int .u64 q2, .int .u64 q3], .int .u8 b] w fun e w' => e = .returned (.bool true) ∧ Later w w' := by
  have keq := run_eq_set
  have HNP := Lib.hid hNP
  have HNN := Lib.hid hNN
  have HOA := Lib.hid hOA
  have HOPQ := Lib.hid hOPQ
  have HOQP := Lib.hid hOQP
  have HOPP := Lib.hid hOPP
  have HCA := Lib.hid hCA
  have HCP := Lib.hid hCP
  have HCN := Lib.hid hCN
  have HHP := Lib.hid hHP
  have HHQ := Lib.hid hHQ
  have HHR := Lib.hid hHR
  have HHN := Lib.hid hHN
  clear hNP hNN hOA hOPQ hOQP hOPP hCA hCP hCN hHP hHQ hHR hHN
  subst hpb
  go_enter Try.func5, Try.ntmps5
  go_wp2_with fail
  obtain ⟨wz, hwz⟩ : ∃ wz, wz = (w.alloc (.cells #[.int .u64 p0, .int .u64 p1, .int .u64 p2, .int .u64 p3] 24)).alloc (.cells #[.int .u64 q0, .int .u64 q1, .int .u64 q2, .int .u64 q3] 24) := ⟨_, rfl⟩
  obtain ⟨g3, hg3⟩ : ∃ g3, g3 = w.heap.size := ⟨_, rfl⟩
  obtain ⟨g4, hg4⟩ : ∃ g4, g4 = w.heap.size + 1 := ⟨_, rfl⟩
  have B3 : Blk wz g3 24 #[.int .u64 p0, .int .u64 p1, .int .u64 p2, .int .u64 p3] := by rw [hwz, hg3]; exact (Blk.new w _ _).alloc _
  have B4 : Blk wz g4 24 #[.int .u64 q0, .int .u64 q1, .int .u64 q2, .int .u64 q3] := by rw [hwz, hg4]; exact blk_at (by simp)
  have hlz : Later w wz := by rw [hwz]; exact ((Later.refl w).alloc _).alloc _
  rw [← hwz, ← hg4, ← hg3]
  clear hwz hg3 hg4
  go_upto_region 1 with fail
  go_cut [7] (fun s7 wx => ∃ g7, s7 = .pointer (some ⟨g7, 0, none⟩) ∧ Blk wx g7 24 #[.int .u64 a0, .int .u64 a1, .int .u64 a2, .int .u64 a3] ∧ Blk wx g3 24 #[.int .u64 p0, .int .u64 p1, .int .u64 p2, .int .u64 p3] ∧ Blk wx g4 24 #[.int .u64 q0, .int .u64 q1, .int .u64 q2, .int .u64 q3] ∧ Later w wx)
  case first =>
    go_wp2_with fail
    go_region_held_law (fun w' => (w'.cell? ⟨g3, 0, none⟩ = some (.int .u64 p0) ∧ w'.cell? ⟨g3, 1, none⟩ = some (.int .u64 p1) ∧ w'.cell? ⟨g3, 2, none⟩ = some (.int .u64 p2) ∧ w'.cell? ⟨g3, 3, none⟩ = some (.int .u64 p3)) ∧ (w'.cell? ⟨g4, 0, none⟩ = some (.int .u64 q0) ∧ w'.cell? ⟨g4, 1, none⟩ = some (.int .u64 q1) ∧ w'.cell? ⟨g4, 2, none⟩ = some (.int .u64 q2) ∧ w'.cell? ⟨g4, 3, none⟩ = some (.int .u64 q3))) (exact ⟨setL (t := 24) (by repeat (first | (with_reducible exact B3) | (with_reducible apply Blk.drew) | (with_reducible apply Blk.alloc) | (with_reducible refine Blk.far ?_ hne3 _))), setL (t := 24) (by repeat (first | (with_reducible exact B4) | (with_reducible apply Blk.drew) | (with_reducible apply Blk.alloc) | (with_reducible refine Blk.far ?_ hne4 _)))⟩)
      (((first
          | ((go_at_call 18; (with_reducible refine (HNP.out _).mono ?_)); rintro e w1 ⟨rfl, hl1⟩)
          | ((go_at_call 24; (with_reducible refine (HOA.out _).mono ?_)); rintro e w1 ⟨rfl, hl1⟩));
        (first
          | (with_reducible have A7 : Blk w1 _ 24 #[.int .u64 0, .int .u64 0, .int .u64 0, .int .u64 0] := blkLater hl1 A7; obtain ⟨k0, k1, k2, k3, y0, y1, y2, y3⟩ := setZ A7)
          | (with_reducible have A7 : Blk w1 _ 24 #[.int .u64 0, .int .u64 0, .int .u64 0, .int .u64 0] := blkNewD hl1; have hne3 := Nat.ne_of_lt B3.lt; have hne4 := Nat.ne_of_lt B4.lt; have hne7 := hlz.size; obtain ⟨k0, k1, k2, k3, y0, y1, y2, y3⟩ := setZ A7)
          | (with_reducible have A7 : Blk w1 _ 24 #[.int .u64 0, .int .u64 0, .int .u64 0, .int .u64 0] := blkNew hl1; have hne3 := Nat.ne_of_lt B3.lt; have hne4 := Nat.ne_of_lt B4.lt; have hne7 := hlz.size; obtain ⟨k0, k1, k2, k3, y0, y1, y2, y3⟩ := setZ A7)
          | skip);
        have B3 := blkLater hl1 (by repeat (first | (with_reducible exact B3) | (with_reducible apply Blk.drew) | (with_reducible apply Blk.alloc) | (with_reducible refine Blk.far ?_ hne3 _)));
        have B4 := blkLater hl1 (by repeat (first | (with_reducible exact B4) | (with_reducible apply Blk.drew) | (with_reducible apply Blk.alloc) | (with_reducible refine Blk.far ?_ hne4 _)));
        have hlz : Later w w1 := Later.trans (by repeat (first | (with_reducible exact hlz) | (with_reducible apply Later.drew) | (with_reducible apply Later.alloc) | (with_reducible refine Later.setCell ?_ hne7 _))) hl1))
    all_goals
      go_wp2_with fail
      go_meet
      first
        | exact ⟨_, rfl, (((A7.set_ 0 _).set_ 1 _).set_ 2 _).set_ 3 _, (by repeat (first | (with_reducible exact B3) | (with_reducible apply Blk.drew) | (with_reducible apply Blk.alloc) | (with_reducible refine Blk.far ?_ hne3 _))), (by repeat (first | (with_reducible exact B4) | (with_reducible apply Blk.drew) | (with_reducible apply Blk.alloc) | (with_reducible refine Blk.far ?_ hne4 _))), (by repeat (first | (with_reducible exact hlz) | (with_reducible apply Later.drew) | (with_reducible apply Later.alloc) | (with_reducible refine Later.setCell ?_ hne7 _)))⟩
        | exact ⟨_, rfl, Blk.new _ _ _, B3.alloc _, B4.alloc _, hlz.alloc _⟩
  case rest =>
    obtain ⟨g7, rfl, B7, B3, B4, hlz⟩ := hcut
    obtain ⟨wy, rfl⟩ : ∃ wy, wy = wc := ⟨_, rfl⟩
    go_wp2_with fail
    simp only [List.append_eq, List.cons_append, List.nil_append]
    have hund : undef = Value.tuple #[] := rfl
    clear hund
    have k30 : ∀ x : LW wy, x.val.cell? ⟨g3, 0, none⟩ = some (.int .u64 p0) := LW.cell_ (B3.cell 0)
    have k31 : ∀ x : LW wy, x.val.cell? ⟨g3, 1, none⟩ = some (.int .u64 p1) := LW.cell_ (B3.cell 1)
    have k32 : ∀ x : LW wy, x.val.cell? ⟨g3, 2, none⟩ = some (.int .u64 p2) := LW.cell_ (B3.cell 2)
    have k33 : ∀ x : LW wy, x.val.cell? ⟨g3, 3, none⟩ = some (.int .u64 p3) := LW.cell_ (B3.cell 3)
    have k40 : ∀ x : LW wy, x.val.cell? ⟨g4, 0, none⟩ = some (.int .u64 q0) := LW.cell_ (B4.cell 0)
    have k41 : ∀ x : LW wy, x.val.cell? ⟨g4, 1, none⟩ = some (.int .u64 q1) := LW.cell_ (B4.cell 1)
    have k42 : ∀ x : LW wy, x.val.cell? ⟨g4, 2, none⟩ = some (.int .u64 q2) := LW.cell_ (B4.cell 2)
    have k43 : ∀ x : LW wy, x.val.cell? ⟨g4, 3, none⟩ = some (.int .u64 q3) := LW.cell_ (B4.cell 3)
    have k70 : ∀ x : LW wy, x.val.cell? ⟨g7, 0, none⟩ = some (.int .u64 a0) := LW.cell_ (B7.cell 0)
    have k71 : ∀ x : LW wy, x.val.cell? ⟨g7, 1, none⟩ = some (.int .u64 a1) := LW.cell_ (B7.cell 1)
    have k72 : ∀ x : LW wy, x.val.cell? ⟨g7, 2, none⟩ = some (.int .u64 a2) := LW.cell_ (B7.cell 2)
    have k73 : ∀ x : LW wy, x.val.cell? ⟨g7, 3, none⟩ = some (.int .u64 a3) := LW.cell_ (B7.cell 3)
    clear B3 B4 B7
    refine wp_region_laterq (by kernel_rfl) (by kernel_rfl) ?_
    repeat (go_big_quiet_step ((first
          | (go_at_call 16; (with_reducible refine Calls.laterq (clsKnown_any _)))
          | (go_at_call 19; (first | (with_reducible refine Calls.laterq (HCA.out _)) | (with_reducible refine Calls.laterq (HCP.out _)) | (with_reducible refine Calls.laterq (HCN.out _))))
          | (go_at_call 20; (first | (with_reducible refine Calls.laterq (HHR.out _)) | (with_reducible refine Calls.laterq (HHN.out _)) | (with_reducible refine Calls.laterq (HHP.out _)) | (with_reducible refine Calls.laterq (HHQ.out _))))
          | (go_at_call 18; (first | (with_reducible refine Calls.laterq (HNN.out _)) | (with_reducible refine Calls.laterq (HNP.out _))))
          | (go_at_call 24; (first | (with_reducible refine Calls.laterq (HOPP.out _)) | (with_reducible refine Calls.laterq (HOPQ.out _)) | (with_reducible refine Calls.laterq (HOQP.out _)))))))
    refine wpQuiet_nil ?_
    intro _ hwq
    obtain ⟨xz, rfl⟩ := hwq
    have hlz : Later w xz.val := hlz.trans xz.later
    go_wp2_with fail
    go_ret
    exact ⟨rfl, hlz⟩

set_option maxRecDepth 100000 in
set_option maxHeartbeats 16000000 in
theorem rules_false (p0 p1 p2 p3 q0 q1 q2 q3 n0 n1 n2 n3 a0 a1 a2 a3 r0 r1 r2 r3 : Int) (b c : Int) (pb qb : Bool) (hpb : pb = false) (hw : IntKind.i64.wrap (c + (256 - c)) = 256)
    (hNP : ∀ w, Calls Try.prog 18 #[.agg #[.int .u64 p0, .int .u64 p1, .int .u64 p2, .int .u64 p3]] w fun e w' => e = .returned (.agg #[.int .u64 n0, .int .u64 n1, .int .u64 n2, .int .u64 n3]) ∧ Later w w')
    (hNN : ∀ w, Calls Try.prog 18 #[.agg #[.int .u64 n0, .int .u64 n1, .int .u64 n2, .int .u64 n3]] w fun e w' => e = .returned (.agg #[.int .u64 p0, .int .u64 p1, .int .u64 p2, .int .u64 p3]) ∧ Later w w')
    (hOA : ∀ w, Calls Try.prog 24 #[.agg #[.int .u64 p0, .int .u64 p1, .int .u64 p2, .int .u64 p3], .agg #[.int .u64 n0, .int .u64 n1, .int .u64 n2, .int .u64 n3]] w fun e w' => e = .returned (.agg #[.int .u64 a0, .int .u64 a1, .int .u64 a2, .int .u64 a3]) ∧ Later w w')
    (hOPQ : ∀ w, Calls Try.prog 24 #[.agg #[.int .u64 p0, .int .u64 p1, .int .u64 p2, .int .u64 p3], .agg #[.int .u64 q0, .int .u64 q1, .int .u64 q2, .int .u64 q3]] w fun e w' => e = .returned (.agg #[.int .u64 r0, .int .u64 r1, .int .u64 r2, .int .u64 r3]) ∧ Later w w')
    (hOQP : ∀ w, Calls Try.prog 24 #[.agg #[.int .u64 q0, .int .u64 q1, .int .u64 q2, .int .u64 q3], .agg #[.int .u64 p0, .int .u64 p1, .int .u64 p2, .int .u64 p3]] w fun e w' => e = .returned (.agg #[.int .u64 r0, .int .u64 r1, .int .u64 r2, .int .u64 r3]) ∧ Later w w')
    (hOPP : ∀ w, Calls Try.prog 24 #[.agg #[.int .u64 p0, .int .u64 p1, .int .u64 p2, .int .u64 p3], .agg #[.int .u64 p0, .int .u64 p1, .int .u64 p2, .int .u64 p3]] w fun e w' => e = .returned (.agg #[.int .u64 p0, .int .u64 p1, .int .u64 p2, .int .u64 p3]) ∧ Later w w')
    (hCA : ∀ w, Calls Try.prog 19 #[.agg #[.int .u64 a0, .int .u64 a1, .int .u64 a2, .int .u64 a3]] w fun e w' => e = .returned (.int .i64 256) ∧ Later w w')
    (hCP : ∀ w, Calls Try.prog 19 #[.agg #[.int .u64 p0, .int .u64 p1, .int .u64 p2, .int .u64 p3]] w fun e w' => e = .returned (.int .i64 c) ∧ Later w w')
    (hCN : ∀ w, Calls Try.prog 19 #[.agg #[.int .u64 n0, .int .u64 n1, .int .u64 n2, .int .u64 n3]] w fun e w' => e = .returned (.int .i64 (256 - c)) ∧ Later w w')
    (hHP : ∀ w, Calls Try.prog 20 #[.agg #[.int .u64 p0, .int .u64 p1, .int .u64 p2, .int .u64 p3], .int .u8 b] w fun e w' => e = .returned (.bool pb) ∧ Later w w')
    (hHQ : ∀ w, Calls Try.prog 20 #[.agg #[.int .u64 q0, .int .u64 q1, .int .u64 q2, .int .u64 q3], .int .u8 b] w fun e w' => e = .returned (.bool qb) ∧ Later w w')
    (hHR : ∀ w, Calls Try.prog 20 #[.agg #[.int .u64 r0, .int .u64 r1, .int .u64 r2, .int .u64 r3], .int .u8 b] w fun e w' => e = .returned (.bool (pb || qb)) ∧ Later w w')
    (hHN : ∀ w, Calls Try.prog 20 #[.agg #[.int .u64 n0, .int .u64 n1, .int .u64 n2, .int .u64 n3], .int .u8 b] w fun e w' => e = .returned (.bool (!pb)) ∧ Later w w')
    (w : World) : Calls Try.prog 5 #[.agg #[.int .u64 p0, .int .u64 p1, .int .u64 p2, .int .u64 p3], .agg #[.int .u64 q0, .int .u64 q1, .int .u64 q2, .int .u64 q3], .int .u8 b] w fun e w' => e = .returned (.bool true) ∧ Later w w' := by
  have keq := run_eq_set
  have HNP := Lib.hid hNP
  have HNN := Lib.hid hNN
  have HOA := Lib.hid hOA
  have HOPQ := Lib.hid hOPQ
  have HOQP := Lib.hid hOQP
  have HOPP := Lib.hid hOPP
  have HCA := Lib.hid hCA
  have HCP := Lib.hid hCP
  have HCN := Lib.hid hCN
  have HHP := Lib.hid hHP
  have HHQ := Lib.hid hHQ
  have HHR := Lib.hid hHR
  have HHN := Lib.hid hHN
  clear hNP hNN hOA hOPQ hOQP hOPP hCA hCP hCN hHP hHQ hHR hHN
  subst hpb
  go_enter Try.func5, Try.ntmps5
  go_wp2_with fail
  obtain ⟨wz, hwz⟩ : ∃ wz, wz = (w.alloc (.cells #[.int .u64 p0, .int .u64 p1, .int .u64 p2, .int .u64 p3] 24)).alloc (.cells #[.int .u64 q0, .int .u64 q1, .int .u64 q2, .int .u64 q3] 24) := ⟨_, rfl⟩
  obtain ⟨g3, hg3⟩ : ∃ g3, g3 = w.heap.size := ⟨_, rfl⟩
  obtain ⟨g4, hg4⟩ : ∃ g4, g4 = w.heap.size + 1 := ⟨_, rfl⟩
  have B3 : Blk wz g3 24 #[.int .u64 p0, .int .u64 p1, .int .u64 p2, .int .u64 p3] := by rw [hwz, hg3]; exact (Blk.new w _ _).alloc _
  have B4 : Blk wz g4 24 #[.int .u64 q0, .int .u64 q1, .int .u64 q2, .int .u64 q3] := by rw [hwz, hg4]; exact blk_at (by simp)
  have hlz : Later w wz := by rw [hwz]; exact ((Later.refl w).alloc _).alloc _
  rw [← hwz, ← hg4, ← hg3]
  clear hwz hg3 hg4
  go_upto_region 1 with fail
  go_cut [7] (fun s7 wx => ∃ g7, s7 = .pointer (some ⟨g7, 0, none⟩) ∧ Blk wx g7 24 #[.int .u64 a0, .int .u64 a1, .int .u64 a2, .int .u64 a3] ∧ Blk wx g3 24 #[.int .u64 p0, .int .u64 p1, .int .u64 p2, .int .u64 p3] ∧ Blk wx g4 24 #[.int .u64 q0, .int .u64 q1, .int .u64 q2, .int .u64 q3] ∧ Later w wx)
  case first =>
    go_wp2_with fail
    go_region_held_law (fun w' => (w'.cell? ⟨g3, 0, none⟩ = some (.int .u64 p0) ∧ w'.cell? ⟨g3, 1, none⟩ = some (.int .u64 p1) ∧ w'.cell? ⟨g3, 2, none⟩ = some (.int .u64 p2) ∧ w'.cell? ⟨g3, 3, none⟩ = some (.int .u64 p3)) ∧ (w'.cell? ⟨g4, 0, none⟩ = some (.int .u64 q0) ∧ w'.cell? ⟨g4, 1, none⟩ = some (.int .u64 q1) ∧ w'.cell? ⟨g4, 2, none⟩ = some (.int .u64 q2) ∧ w'.cell? ⟨g4, 3, none⟩ = some (.int .u64 q3))) (exact ⟨setL (t := 24) (by repeat (first | (with_reducible exact B3) | (with_reducible apply Blk.drew) | (with_reducible apply Blk.alloc) | (with_reducible refine Blk.far ?_ hne3 _))), setL (t := 24) (by repeat (first | (with_reducible exact B4) | (with_reducible apply Blk.drew) | (with_reducible apply Blk.alloc) | (with_reducible refine Blk.far ?_ hne4 _)))⟩)
      (((first
          | ((go_at_call 18; (with_reducible refine (HNP.out _).mono ?_)); rintro e w1 ⟨rfl, hl1⟩)
          | ((go_at_call 24; (with_reducible refine (HOA.out _).mono ?_)); rintro e w1 ⟨rfl, hl1⟩));
        (first
          | (with_reducible have A7 : Blk w1 _ 24 #[.int .u64 0, .int .u64 0, .int .u64 0, .int .u64 0] := blkLater hl1 A7; obtain ⟨k0, k1, k2, k3, y0, y1, y2, y3⟩ := setZ A7)
          | (with_reducible have A7 : Blk w1 _ 24 #[.int .u64 0, .int .u64 0, .int .u64 0, .int .u64 0] := blkNewD hl1; have hne3 := Nat.ne_of_lt B3.lt; have hne4 := Nat.ne_of_lt B4.lt; have hne7 := hlz.size; obtain ⟨k0, k1, k2, k3, y0, y1, y2, y3⟩ := setZ A7)
          | (with_reducible have A7 : Blk w1 _ 24 #[.int .u64 0, .int .u64 0, .int .u64 0, .int .u64 0] := blkNew hl1; have hne3 := Nat.ne_of_lt B3.lt; have hne4 := Nat.ne_of_lt B4.lt; have hne7 := hlz.size; obtain ⟨k0, k1, k2, k3, y0, y1, y2, y3⟩ := setZ A7)
          | skip);
        have B3 := blkLater hl1 (by repeat (first | (with_reducible exact B3) | (with_reducible apply Blk.drew) | (with_reducible apply Blk.alloc) | (with_reducible refine Blk.far ?_ hne3 _)));
        have B4 := blkLater hl1 (by repeat (first | (with_reducible exact B4) | (with_reducible apply Blk.drew) | (with_reducible apply Blk.alloc) | (with_reducible refine Blk.far ?_ hne4 _)));
        have hlz : Later w w1 := Later.trans (by repeat (first | (with_reducible exact hlz) | (with_reducible apply Later.drew) | (with_reducible apply Later.alloc) | (with_reducible refine Later.setCell ?_ hne7 _))) hl1))
    all_goals
      go_wp2_with fail
      go_meet
      first
        | exact ⟨_, rfl, (((A7.set_ 0 _).set_ 1 _).set_ 2 _).set_ 3 _, (by repeat (first | (with_reducible exact B3) | (with_reducible apply Blk.drew) | (with_reducible apply Blk.alloc) | (with_reducible refine Blk.far ?_ hne3 _))), (by repeat (first | (with_reducible exact B4) | (with_reducible apply Blk.drew) | (with_reducible apply Blk.alloc) | (with_reducible refine Blk.far ?_ hne4 _))), (by repeat (first | (with_reducible exact hlz) | (with_reducible apply Later.drew) | (with_reducible apply Later.alloc) | (with_reducible refine Later.setCell ?_ hne7 _)))⟩
        | exact ⟨_, rfl, Blk.new _ _ _, B3.alloc _, B4.alloc _, hlz.alloc _⟩
  case rest =>
    obtain ⟨g7, rfl, B7, B3, B4, hlz⟩ := hcut
    obtain ⟨wy, rfl⟩ : ∃ wy, wy = wc := ⟨_, rfl⟩
    go_wp2_with fail
    simp only [List.append_eq, List.cons_append, List.nil_append]
    have hund : undef = Value.tuple #[] := rfl
    clear hund
    have k30 : ∀ x : LW wy, x.val.cell? ⟨g3, 0, none⟩ = some (.int .u64 p0) := LW.cell_ (B3.cell 0)
    have k31 : ∀ x : LW wy, x.val.cell? ⟨g3, 1, none⟩ = some (.int .u64 p1) := LW.cell_ (B3.cell 1)
    have k32 : ∀ x : LW wy, x.val.cell? ⟨g3, 2, none⟩ = some (.int .u64 p2) := LW.cell_ (B3.cell 2)
    have k33 : ∀ x : LW wy, x.val.cell? ⟨g3, 3, none⟩ = some (.int .u64 p3) := LW.cell_ (B3.cell 3)
    have k40 : ∀ x : LW wy, x.val.cell? ⟨g4, 0, none⟩ = some (.int .u64 q0) := LW.cell_ (B4.cell 0)
    have k41 : ∀ x : LW wy, x.val.cell? ⟨g4, 1, none⟩ = some (.int .u64 q1) := LW.cell_ (B4.cell 1)
    have k42 : ∀ x : LW wy, x.val.cell? ⟨g4, 2, none⟩ = some (.int .u64 q2) := LW.cell_ (B4.cell 2)
    have k43 : ∀ x : LW wy, x.val.cell? ⟨g4, 3, none⟩ = some (.int .u64 q3) := LW.cell_ (B4.cell 3)
    have k70 : ∀ x : LW wy, x.val.cell? ⟨g7, 0, none⟩ = some (.int .u64 a0) := LW.cell_ (B7.cell 0)
    have k71 : ∀ x : LW wy, x.val.cell? ⟨g7, 1, none⟩ = some (.int .u64 a1) := LW.cell_ (B7.cell 1)
    have k72 : ∀ x : LW wy, x.val.cell? ⟨g7, 2, none⟩ = some (.int .u64 a2) := LW.cell_ (B7.cell 2)
    have k73 : ∀ x : LW wy, x.val.cell? ⟨g7, 3, none⟩ = some (.int .u64 a3) := LW.cell_ (B7.cell 3)
    clear B3 B4 B7
    refine wp_region_laterq (by kernel_rfl) (by kernel_rfl) ?_
    repeat (go_big_quiet_step ((first
          | (go_at_call 16; (with_reducible refine Calls.laterq (clsKnown_any _)))
          | (go_at_call 19; (first | (with_reducible refine Calls.laterq (HCA.out _)) | (with_reducible refine Calls.laterq (HCP.out _)) | (with_reducible refine Calls.laterq (HCN.out _))))
          | (go_at_call 20; (first | (with_reducible refine Calls.laterq (HHR.out _)) | (with_reducible refine Calls.laterq (HHN.out _)) | (with_reducible refine Calls.laterq (HHP.out _)) | (with_reducible refine Calls.laterq (HHQ.out _))))
          | (go_at_call 18; (first | (with_reducible refine Calls.laterq (HNN.out _)) | (with_reducible refine Calls.laterq (HNP.out _))))
          | (go_at_call 24; (first | (with_reducible refine Calls.laterq (HOPP.out _)) | (with_reducible refine Calls.laterq (HOPQ.out _)) | (with_reducible refine Calls.laterq (HOQP.out _)))))))
    refine wpQuiet_nil ?_
    intro _ hwq
    obtain ⟨xz, rfl⟩ := hwq
    have hlz : Later w xz.val := hlz.trans xz.later
    go_wp2_with fail
    go_ret
    exact ⟨rfl, hlz⟩

theorem rules_any (p q : Mem) (b : Nat) (hb : b < 256) (w : World) :
    Calls Try.prog 5 #[setV p, setV q, .int .u8 (b : Int)] w fun e w' => e = .returned (.bool true) ∧ Later w w' := by
  have hn : ((cntN (mNot p) 256 : Nat) : Int) = 256 - (cntN p 256 : Nat) := by have := cnt_not p 256; omega
  have hw : IntKind.i64.wrap (((cntN p 256 : Nat) : Int) + (256 - (cntN p 256 : Nat))) = 256 := by rw [show ((cntN p 256 : Nat) : Int) + (256 - (cntN p 256 : Nat)) = 256 by omega]; rfl
  cases h : p b with
  | true => exact rules_true _ _ _ _ _ _ _ _ _ _ _ _ _ _ _ _ _ _ _ _ _ _ true (q b) rfl hw (not_at p) (not_not p) (or_at p (mNot p)) (or_at p q) (or_swap p q) (or_self_at p) (count_at _ 256 (cnt_all p)) (count_at p _ rfl) (count_at (mNot p) _ hn) (has_is p b _ hb h) (has_is q b _ hb rfl) (has_is (mOr p q) b _ hb (by show (p b || q b) = _; rw [h])) (has_is (mNot p) b _ hb (by show (!p b) = _; rw [h])) w
  | false => exact rules_false _ _ _ _ _ _ _ _ _ _ _ _ _ _ _ _ _ _ _ _ _ _ false (q b) rfl hw (not_at p) (not_not p) (or_at p (mNot p)) (or_at p q) (or_swap p q) (or_self_at p) (count_at _ 256 (cnt_all p)) (count_at p _ rfl) (count_at (mNot p) _ hn) (has_is p b _ hb h) (has_is q b _ hb rfl) (has_is (mOr p q) b _ hb (by show (p b || q b) = _; rw [h])) (has_is (mNot p) b _ hb (by show (!p b) = _; rw [h])) w

end Go.Proofs.Ythmjnelnnhidkaa
