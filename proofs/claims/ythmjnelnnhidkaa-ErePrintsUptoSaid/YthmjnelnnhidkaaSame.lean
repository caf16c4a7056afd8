/-
  The document's One and Same.
-/
import Derived.Test.YthmjnelnnhidkaaTwin
import Derived.Test.YthmjnelnnhidkaaBoolRow
namespace Go.Proofs.Ythmjnelnnhidkaa
open Go.RowKit

/-- a tree that a function leaves -/
def RetT (w : World) (lo : Nat → Prop) (t : Tree) (e : Ending) (w' : World) : Prop :=
  ∃ (k a b c d : Int) (A : Option Addr) (n cp : Nat), e = .returned (.agg #[.int .i64 k, .int .u64 a, .int .u64 b, .int .u64 c, .int .u64 d, .slice A n cp]) ∧ ReC w' lo t ⟨k, a, b, c, d, A, n, cp⟩ ∧ Later w w'
/-- the tree of one byte -/
def tOne (b : Nat) : Tree := .node 1 (w4 (mOf [UInt8.ofNat b])) []

theorem boolC_one (b : Nat) (hb : b < 256) : (boolC mNone).setIfInBounds b (.bool true) = boolC (mOf [UInt8.ofNat b]) := by
  apply Array.ext_getElem?
  intro i
  rw [Array.getElem?_setIfInBounds]
  by_cases hi : i < 256
  · rw [boolC_get _ hi, boolC_get _ hi]
    by_cases e : b = i
    · subst e
      rw [if_pos rfl, if_pos (by rw [boolC_size]; exact hb)]
      unfold mOf
      simp [UInt8.toNat_ofNat']
      omega
    · rw [if_neg e]
      unfold mOf mNone
      simp [UInt8.toNat_ofNat']
      omega
  · rw [Array.getElem?_eq_none (xs := boolC (mOf _)) (by rw [boolC_size]; omega), if_neg (by omega), Array.getElem?_eq_none (by rw [boolC_size]; omega)]

set_option maxHeartbeats 2000000 in
theorem refOne_any (lo : Nat → Prop) (b : Nat) (hb : b < 256) (w : World) :
    Calls Try.prog 38 #[.int .u8 (b : Int)] w (RetT w lo (tOne b)) := by
  obtain ⟨hz, hsz⟩ := zero_set
  obtain ⟨m, hm⟩ : ∃ m, m = mOf [UInt8.ofNat b] := ⟨_, rfl⟩
  have hone := boolC_one b hb
  have HT : Hid (tOne b = .node 1 (w4 m) []) := by show _ = _; rw [hm]; rfl
  rw [← hm] at hone
  have HO := Lib.hid hone
  have hpk : ∀ wx : World, Calls Try.prog 22 #[.agg (boolC m)] wx fun e w' => e = .returned (.agg #[.int .u64 (word m 0 : Nat), .int .u64 (word m 1 : Nat), .int .u64 (word m 2 : Nat), .int .u64 (word m 3 : Nat)]) ∧ Later wx w' := fun wx => packed_any m wx
  have HPK := Lib.hid hpk
  have hbi : (b : Int) < 256 := by omega
  clear hone hm hpk
  go_enter Try.func38, Try.ntmps38
  go_upto_region 2 with fail
  obtain ⟨W1, hW1⟩ : ∃ W1, W1 = (w.alloc (.cells #[.int .i64 0, .int .u64 0, .int .u64 0, .int .u64 0, .int .u64 0, .slice none 0 0] 49)).alloc (.cells (boolC mNone) 36) := ⟨_, rfl⟩
  have B0 : Blk W1 w.heap.size 49 #[.int .i64 0, .int .u64 0, .int .u64 0, .int .u64 0, .int .u64 0, .slice none 0 0] := by rw [hW1]; exact (Blk.new w _ _).alloc _
  have B1 : Blk W1 (w.heap.size + 1) 36 (boolC mNone) := by rw [hW1]; exact blk_at (by simp)
  have hl1 : Later w W1 := by rw [hW1]; exact ((Later.refl w).alloc _).alloc _
  rw [← hW1]
  clear hW1
  have c1 : W1.cell? ⟨w.heap.size + 1, b, none⟩ = some (.bool (mNone b)) := by rw [B1.cell, boolC_get _ hb]
  have f1 := B1.frozen b
  go_upto_region 3 with fail
  obtain ⟨W2, hW2⟩ : ∃ W2, W2 = W1.setCell ⟨w.heap.size + 1, b, none⟩ (.bool true) := ⟨_, rfl⟩
  have D1 : Blk W2 (w.heap.size + 1) 36 (boolC m) := by rw [hW2, ← HO.out]; exact B1.set_ b _
  have D0 : Blk W2 w.heap.size 49 #[.int .i64 0, .int .u64 0, .int .u64 0, .int .u64 0, .int .u64 0, .slice none 0 0] := by rw [hW2]; exact B0.far (by simp) _
  have hl2 : Later w W2 := by rw [hW2]; exact Later.setCell hl1 (Nat.le_succ _) _
  rw [← hW2]
  clear hW2 c1 f1 B0 B1 hl1
  have R1 : Hid (W2.rangeAt (w.heap.size + 1) 0 (boolC m).toList) := rangeB D1
  go_wp2_with (refine wpList_load_mid (P := Try.prog) rfl 36 (.tmp 3) rfl (w.heap.size + 1) 0 rfl (boolC m).toList _ R1.out Try.underlying36 rfl (sizeB m) ?_)
  refine (HPK.out _).mono ?_
  rintro e w3 ⟨rfl, hl3⟩
  have E0 := blkL hl3 D0
  obtain ⟨z0, z1, z2, z3, z4, z5, y0, y1, y2, y3, y4, y5⟩ := cells6 E0
  go_wp2_with fail
  refine bodyPost_ret (v := .agg #[.int .i64 1, .int .u64 (word m 0 : Nat), .int .u64 (word m 1 : Nat), .int .u64 (word m 2 : Nat), .int .u64 (word m 3 : Nat), .slice none 0 0]) (by simp [results, Try.results38, go_sem, z0, z1, z2, z3, z4, z5]) rfl ?_
  rw [HT.out]
  exact ⟨1, _, _, _, _, none, 0, 0, rfl, ReC.leaf _ lo 1 (w4 m) none 0, (hl2.trans hl3).set6 (Nat.le_refl _)⟩

set_option maxHeartbeats 8000000 in
theorem same_any : ∀ (fuel : Nat) (t : Tree) (lo lo2 : Nat → Prop) (k a b c d : Int) (A : Option Addr) (n cp : Nat) (k2 a2 b2 c2 d2 : Int) (A2 : Option Addr) (n2 cp2 : Nat) (w : World), SizeOf.sizeOf t ≤ fuel → thinT t → ReC w lo t ⟨k, a, b, c, d, A, n, cp⟩ → ReC w lo2 t ⟨k2, a2, b2, c2, d2, A2, n2, cp2⟩ →
    Calls Try.prog 31 #[.agg #[.int .i64 k, .int .u64 a, .int .u64 b, .int .u64 c, .int .u64 d, .slice A n cp], .agg #[.int .i64 k2, .int .u64 a2, .int .u64 b2, .int .u64 c2, .int .u64 d2, .slice A2 n2 cp2]] w fun e w' => e = .returned (.bool true) ∧ Later w w' := by
  intro fuel
  induction fuel with
  | zero => intro t lo lo2 k a b c d A n cp k2 a2 b2 c2 d2 A2 n2 cp2 w hf; cases t; simp at hf
  | succ fuel ih =>
    intro t lo lo2 k a b c d A n cp k2 a2 b2 c2 d2 A2 n2 cp2 w hf hth hC hC2
    obtain ⟨k', s, ks⟩ := t
    unfold ReC at hC hC2
    obtain ⟨hk, hset, hn, hcp, xs, hL, hKs⟩ := hC
    obtain ⟨hk2, hset2, hn2, hcp2, xs2, hL2, hKs2⟩ := hC2
    obtain rfl : k = k' := hk
    obtain rfl : k2 = k := hk2
    obtain ⟨s0, s1, s2, s3⟩ := s
    simp only at hset hn hcp hL hset2 hn2 hcp2 hL2
    obtain ⟨rfl, rfl, rfl, rfl⟩ := hset
    obtain ⟨rfl, rfl, rfl, rfl⟩ := hset2
    obtain rfl : n2 = n := by omega
    have hkl : ∀ t ∈ ks, SizeOf.sizeOf t ≤ fuel := fun t ht => by
      have := List.sizeOf_lt_of_mem ht
      simp at hf
      omega
    unfold thinT at hth
    obtain ⟨hth1, hth2⟩ := hth
    have hn3 : n2 ≤ 2 := by omega
    have HKL := Lib.hid hkl
    have HN := Lib.hid hn
    have HT := Lib.hid hth2
    have HL := Lib.hid hL
    have HL2 := Lib.hid hL2
    have HK := Lib.hid hKs
    have HK2 := Lib.hid hKs2
    clear hkl hf hn hn2 hth1 hth2 hL hL2 hKs hKs2 hcp hcp2
    have keq := run_eq_set
    go_enter Try.func31, Try.ntmps31
    go_wp2_with fail
    go_loopw [5] (fun v5 wr => ∃ j : Nat, j ≤ n2 ∧ v5 = .int .i64 (j : Int) ∧ Blk wr w.heap.size 49 #[.int .i64 k2, .int .u64 (s0 : Nat), .int .u64 (s1 : Nat), .int .u64 (s2 : Nat), .int .u64 (s3 : Nat), .slice A n2 cp] ∧ Blk wr (w.heap.size + 1) 49 #[.int .i64 k2, .int .u64 (s0 : Nat), .int .u64 (s1 : Nat), .int .u64 (s2 : Nat), .int .u64 (s3 : Nat), .slice A2 n2 cp2] ∧ Later w wr) (fun v5 _ => n2 - (intOf v5).toNat)
    case atStart => exact ⟨0, by omega, rfl, (Blk.new w _ _).alloc _, blk_at (by simp), ((Later.refl w).alloc _).alloc _⟩
    case round =>
      obtain ⟨j, hj, rfl, B1, B2, hl⟩ := hrel
      clear keq
      have c5 : wr.cell? ⟨w.heap.size, 5, none⟩ = some (.slice A n2 cp) := B1.cell 5
      by_cases hlt : j < n2
      · have hlti : (j : Int) < (n2 : Int) := by omega
        obtain ⟨tj, htj⟩ : ∃ tj, ks[j]? = some tj := ⟨_, List.getElem?_eq_getElem (by rw [HN.out]; exact hlt)⟩
        obtain ⟨x, hx, hCx⟩ := HK.out.get j tj htj
        obtain ⟨y, hy, hCy⟩ := HK2.out.get j tj htj
        obtain ⟨jk, ja, jb, jc, jd, jA, jn, jp⟩ := x
        obtain ⟨ik, ia, ib, ic, id, iA, im, ip⟩ := y
        obtain ⟨p0, off, hA, e0, e1, e2, e3, e4, e5⟩ := (HL.out.fr (Fr.laterF hl) (spares_false _ _)).six hlt hx
        obtain ⟨p2, off2, hA2, g0, g1, g2, g3, g4, g5⟩ := (HL2.out.fr (Fr.laterF hl) (spares_false _ _)).six hlt hy
        have hih : ∀ wx, Later wr wx → Calls Try.prog 31 #[.agg #[.int .i64 jk, .int .u64 ja, .int .u64 jb, .int .u64 jc, .int .u64 jd, .slice jA jn jp], .agg #[.int .i64 ik, .int .u64 ia, .int .u64 ib, .int .u64 ic, .int .u64 id, .slice iA im ip]] wx fun e w' => e = .returned (.bool true) ∧ Later wx w' :=
          fun wx hwx => ih tj lo lo2 jk ja jb jc jd jA jn jp ik ia ib ic id iA im ip wx (HKL.out tj (List.mem_of_getElem? htj)) (thinL_get HT.out (List.mem_of_getElem? htj)) (hCx.later (hl.trans hwx)) (hCy.later (hl.trans hwx))
        have HIH := Lib.hid hih
        subst hA hA2
        have d5 : wr.cell? ⟨w.heap.size + 1, 5, none⟩ = some (.slice (some ⟨p2, off2, none⟩) n2 cp2) := B2.cell 5
        have q5 : ∀ x : LW wr, x.val.cell? ⟨w.heap.size, 5, none⟩ = some (.slice (some ⟨p0, off, none⟩) n2 cp) := LW.cell_ c5
        have r5 : ∀ x : LW wr, x.val.cell? ⟨w.heap.size + 1, 5, none⟩ = some (.slice (some ⟨p2, off2, none⟩) n2 cp2) := LW.cell_ d5
        have k0 : ∀ x : LW wr, x.val.cell? ⟨p0, off + j * 6, none⟩ = some (.int .i64 jk) := LW.cell_ e0
        have k1 : ∀ x : LW wr, x.val.cell? ⟨p0, off + j * 6 + 1, none⟩ = some (.int .u64 ja) := LW.cell_ e1
        have k2_ : ∀ x : LW wr, x.val.cell? ⟨p0, off + j * 6 + 2, none⟩ = some (.int .u64 jb) := LW.cell_ e2
        have k3 : ∀ x : LW wr, x.val.cell? ⟨p0, off + j * 6 + 3, none⟩ = some (.int .u64 jc) := LW.cell_ e3
        have k4 : ∀ x : LW wr, x.val.cell? ⟨p0, off + j * 6 + 4, none⟩ = some (.int .u64 jd) := LW.cell_ e4
        have k5 : ∀ x : LW wr, x.val.cell? ⟨p0, off + j * 6 + 5, none⟩ = some (.slice jA jn jp) := LW.cell_ e5
        have l0 : ∀ x : LW wr, x.val.cell? ⟨p2, off2 + j * 6, none⟩ = some (.int .i64 ik) := LW.cell_ g0
        have l1 : ∀ x : LW wr, x.val.cell? ⟨p2, off2 + j * 6 + 1, none⟩ = some (.int .u64 ia) := LW.cell_ g1
        have l2 : ∀ x : LW wr, x.val.cell? ⟨p2, off2 + j * 6 + 2, none⟩ = some (.int .u64 ib) := LW.cell_ g2
        have l3 : ∀ x : LW wr, x.val.cell? ⟨p2, off2 + j * 6 + 3, none⟩ = some (.int .u64 ic) := LW.cell_ g3
        have l4 : ∀ x : LW wr, x.val.cell? ⟨p2, off2 + j * 6 + 4, none⟩ = some (.int .u64 id) := LW.cell_ g4
        have l5 : ∀ x : LW wr, x.val.cell? ⟨p2, off2 + j * 6 + 5, none⟩ = some (.slice iA im ip) := LW.cell_ g5
        clear hih hCx hCy htj hx hy e0 e1 e2 e3 e4 e5 g0 g1 g2 g3 g4 g5
        go_wp2_with fail
        refine wp_region_laterq (by kernel_rfl) (by kernel_rfl) ?_
        repeat (go_big_quiet_step (((go_at_call 31; (with_reducible refine Calls.laterq (HIH.out _ (LW.later _)))))))
        refine wpQuiet_nil ?_
        intro _ hwq
        obtain ⟨xz, rfl⟩ := hwq
        have D1 := blkL xz.later B1
        have D2 := blkL xz.later B2
        have hlz := hl.trans xz.later
        clear q5 r5 k0 k1 k2_ k3 k4 k5 l0 l1 l2 l3 l4 l5 c5 d5 B1 B2
        go_wp2_with fail
        go_roundw
        case rel => exact ⟨j + 1, by omega, by go_num, D1, D2, hlz⟩
        case measure => simp [intOf]; omega
      · obtain rfl : n2 = j := by omega
        go_wp2_with fail
        go_ret
        exact ⟨rfl, hl⟩

end Go.Proofs.Ythmjnelnnhidkaa
