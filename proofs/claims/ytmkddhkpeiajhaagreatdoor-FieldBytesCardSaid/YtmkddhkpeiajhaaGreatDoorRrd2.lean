import Derived.Test.YtmkddhkpeiajhaaGreatDoorTwisted
import Derived.Test.YtmkddhkpeiajhaaGreatDoorRefParse
namespace Go.Proofs.YtmkddhkpeiajhaaGreatDoor
open Go.RowKit
theorem tFold_step (k : Int) (ts : List Tree) (q t : Tree) {j : Nat} (hp : ts[j]? = some t) : tFold k (ts.take (j + 1)).reverse q = tFold k (ts.take j).reverse (.node k z4 [t, q]) := by
 obtain ⟨hl, e⟩ := List.getElem?_eq_some_iff.1 hp
 rw [List.take_succ_eq_append_getElem hl, e, List.reverse_append]
 rfl
theorem tRow_last (k : Int) (ts : List Tree) (t : Tree) {j : Nat} (hj : ts.length = j + 1) (hp : ts[j]? = some t) : tRow k ts = tFold k (ts.take j).reverse t := by
 have e : ts.reverse = t :: (ts.take j).reverse := by
  obtain ⟨hl, e⟩ := List.getElem?_eq_some_iff.1 hp
  have h2 : ts = ts.take j ++ [t] := by
   have := List.take_succ_eq_append_getElem hl
   rw [e, ← hj, List.take_length] at this
   exact this
  rw [h2, List.reverse_append, List.take_left' (by rw [List.length_take]; omega)]
  rfl
 unfold tRow
 rw [e]
def RowTAt (lo : Nat → Prop) (kind : Int) (ts : List Tree) (Q : Tree) (w : World) (s6 : Value) (wr : World) : Prop :=
 ∃ (j : Nat) (q : Tree) (k a b c d : Int) (A : Option Addr) (n cp : Nat), j ≤ ts.length ∧ s6 = .int .i64 ((j : Int) - 1) ∧ ReC wr (fun g => lo g ∧ g ≠ w.heap.size ∧ g ≠ w.heap.size + 1) q ⟨k, a, b, c, d, A, n, cp⟩ ∧
  Blk wr (w.heap.size + 1) 98 #[.int .i64 k, .int .u64 a, .int .u64 b, .int .u64 c, .int .u64 d, .slice A n cp] ∧ Blk wr w.heap.size 98 #[.int .i64 0, .int .u64 0, .int .u64 0, .int .u64 0, .int .u64 0, .slice none 0 0] ∧ Later w wr ∧ tFold kind (ts.take j).reverse q = Q
set_option maxHeartbeats 2000000 in
theorem rowT_any (lo : Nat → Prop) (kind : Int) (A : Option Addr) (n c : Nat) (ts : List Tree) (w : World) (hr : RdTs w lo A n ts) (hn : 0 < n) (hn2 : n ≤ 1000000000) (hlo : Up w lo) :
  Calls Tryz.prog 89 #[.int .i64 kind, .slice A n c] w (RetT w lo (tRow kind ts)) := by
 have hr2 : RdTs w (fun g => lo g ∧ g ≠ w.heap.size ∧ g ≠ w.heap.size + 1) A n ts := hr.weaken fun k hk h => ⟨h, by omega, by omega⟩
 obtain ⟨hlen, xs, hxs, hrd⟩ := hr2
 have hxl := hxs.len
 obtain ⟨m, hm⟩ : ∃ m, n = m + 1 := ⟨n - 1, by omega⟩
 subst hm
 obtain ⟨t, ht⟩ : ∃ t, ts[m]? = some t := ⟨_, List.getElem?_eq_getElem (by omega)⟩
 obtain ⟨x, hx, hCx⟩ := hxs.get m t ht
 obtain ⟨xk, xa, xb, xc, xd, xA, xn, xcp⟩ := x
 have hl1 : Later w (w.alloc (.cells #[.int .i64 0, .int .u64 0, .int .u64 0, .int .u64 0, .int .u64 0, .slice none 0 0] 98)) := (Later.refl w).alloc _
 obtain ⟨b, off, rfl, hbw, c0, c1, c2, c3, c4, c5⟩ := reads_six (reads_later hrd hl1) (Nat.lt_succ_self m) hx
 have hQ := tRow_last kind ts t hlen ht
 obtain ⟨Q, hQe⟩ : ∃ Q, Q = tRow kind ts := ⟨_, rfl⟩
 rw [← hQe] at hQ ⊢
 have HQ := Lib.hid hQ
 have HL := Lib.hid hlen
 have HX := Lib.hid hxs
 have HRD := Lib.hid hrd
 have e1 : IntKind.i64.wrap (((m + 1 : Nat) : Int) - 1) = (m : Int) := by rw [show ((m + 1 : Nat) : Int) - 1 = (m : Int) by omega]; exact IntWalk.i64_in _ (by omega)
 have hne0 : ((m + 1 : Nat) == 0) = false := by rw [beq_eq_false_iff_ne]; omega
 have hne1 : (((m : Int) + 1) == 0) = false := by rw [beq_eq_false_iff_ne]; omega
 clear hQ hQe hlen ht hx hxs hrd hxl hr
 go_enter Tryz.func89, Tryz.ntmps89
 go_wp2_with fail
 go_loopw [6] (fun s6 wr => RowTAt lo kind ts Q w s6 wr) (fun s6 _ => (intOf s6 + 1).toNat)
 case atStart => exact ⟨m, t, xk, xa, xb, xc, xd, xA, xn, xcp, by have := HL.out; omega, by go_num, hCx.later (((Later.refl w).alloc _).alloc _), blk_at (by simp), (Blk.new w _ _).alloc _, ((Later.refl w).alloc _).alloc _, HQ.out.symm⟩
 case round =>
  clear c0 c1 c2 c3 c4 c5 hCx HQ e1 hne0 hne1 hl1 hbw
  obtain ⟨j, q, k, a, b', c', d, A', n', cp, hj, rfl, hq, B5, B4, hl, hQ⟩ := hrel
  have HQ := Lib.hid hQ
  clear hQ
  cases j with
  | zero =>
   have e : ((0 : Nat) : Int) - 1 = -1 := rfl
   rw [e]
   have hqQ : q = Q := HQ.out
   subst hqQ
   obtain ⟨u0, u1, u2, u3, u4, u5, -⟩ := cells6 B5
   obtain ⟨z0, z1, z2, z3, z4, z5, y0, y1, y2, y3, y4, y5⟩ := cells6 B4
   clear e HQ
   go_wp2_with fail
   refine bodyPost_ret (v := .agg #[.int .i64 k, .int .u64 a, .int .u64 b', .int .u64 c', .int .u64 d, .slice A' n' cp]) (by simp [results, Tryz.results89, go_sem, z0, z1, z2, z3, z4, z5]) rfl ?_
   exact RetT.end6 hq hl rfl (fun h => h.2.1 rfl) (Nat.le_refl _) (fun k h => h.1)
  | succ i =>
   have e : ((i + 1 : Nat) : Int) - 1 = (i : Int) := by omega
   rw [e]
   clear e
   have hlen := HL.out
   obtain ⟨ti, hti⟩ : ∃ ti, ts[i]? = some ti := ⟨_, List.getElem?_eq_getElem (by omega)⟩
   have hst := tFold_step kind ts q ti hti
   have HST := Lib.hid hst
   obtain ⟨y, hy, hCy⟩ := (HX.out.later hl).get i ti hti
   obtain ⟨ik, i0, i1, i2, i3, iA, inn, ic⟩ := y
   obtain ⟨b2, off2, hA, -, v0, v1, v2, v3, v4, v5⟩ := reads_six (reads_later HRD.out hl) (by omega) hy
   injection hA with hA
   injection hA with hA1 hA2
   subst hA1 hA2
   obtain ⟨u0, u1, u2, u3, u4, u5, -⟩ := cells6 B5
   have hi1 : (i : Int) < ((m + 1 : Nat) : Int) := by omega
   have hi2 : (i : Int) < (m : Int) + 1 := by omega
   have hi3 : (i : Int) ≤ 1000000000 := by omega
   have hup : Up wr (fun g => lo g ∧ g ≠ w.heap.size ∧ g ≠ w.heap.size + 1) := fun g hg => ⟨hlo g (by have := hl.size; omega), by have := B5.lt; omega, by have := B5.lt; omega⟩
   clear hlen hti hst hy
   go_wp2_with fail
   go_region_law ((go_simp; go_at_call 104; refine (twoT_any (fun g => lo g ∧ g ≠ w.heap.size ∧ g ≠ w.heap.size + 1) kind ti q ik i0 i1 i2 i3 iA inn ic k a b' c' d A' n' cp _ (hCy.later (Later.drew (Later.refl _))) (hq.later (Later.drew (Later.refl _))) (hup.later (Later.drew (Later.refl _)))).mono ?_; rintro e w1 ⟨k1, a1, b1, c1, d1, A1, n1, cp1, rfl, h1, hl1⟩; have D5 := blkL hl1 B5.drew; have D4 := blkL hl1 B4.drew; have hl1 := hl.drew.trans hl1; obtain ⟨zz0, zz1, zz2, zz3, zz4, zz5, y0, y1, y2, y3, y4, y5⟩ := cells6 D5; go_simp))
   all_goals
    go_wp2_with fail
    go_roundw
    case rel => exact ⟨i, .node kind z4 [ti, q], k1, a1, b1, c1, d1, A1, n1, cp1, by omega, by go_num, ReC.fr (Fr.set6 (w.heap.size + 1) _ _ _ _ _ _) (spares_not _ (fun h => h.2.2 rfl)) _ h1, D5.set6, Blk.fr D4 (Fr.set6 (w.heap.size + 1) _ _ _ _ _ _) (by show ¬ w.heap.size = w.heap.size + 1; omega), hl1.set6 (Nat.le_succ _), HST.out ▸ HQ.out⟩
    case measure => simp [intOf]
def NumAt (g : Nat) (S : ByteArray) (st : St) (R : Nat × Nat) (w : World) (s4 s5 : Value) (wr : World) : Prop :=
 ∃ k n : Nat, k ≤ 2 ∧ (k = 0 → n = 0) ∧ (k = 1 → n ≤ 9) ∧ n ≤ 99 ∧ s4 = .int .i64 (n : Int) ∧ s5 = .int .i64 (k : Int) ∧ Hid (digF S.data.toList (2 - k) (st.at_ + k) n = R) ∧ RfC wr g S (stAt st (st.at_ + k)) ∧ Fr w wr (fun k => k = g)
def NumRet (g : Nat) (S : ByteArray) (st : St) (w : World) (e : Ending) (w' : World) : Prop :=
 e = .returned (.tuple #[.int .i64 ((digF S.data.toList 2 st.at_ 0).1 : Int), .bool (decide ((digF S.data.toList 2 st.at_ 0).2 ≠ st.at_))]) ∧ RfC w' g S (stAt st (digF S.data.toList 2 st.at_ 0).2) ∧ Fr w w' (fun k => k = g)
set_option maxRecDepth 100000 in
set_option maxHeartbeats 4000000 in
theorem number_any (g : Nat) (S : ByteArray) (st : St) (w : World) (h : RfC w g S st) (_hs : S.size ≤ 1000000000) (hat : st.at_ ≤ 1000000100) :
  Calls Tryz.prog 137 #[.pointer (some ⟨g, 0, none⟩)] w (NumRet g S st w) := by
 obtain ⟨R, hR⟩ : ∃ R, digF S.data.toList 2 st.at_ 0 = R := ⟨_, rfl⟩
 have HRR := Lib.hid hR
 have h0 : RfC w g S (stAt st (st.at_ + 0)) := h
 clear hR
 go_enter Tryz.func137, Tryz.ntmps137
 go_wp2_with fail
 go_loopw [4, 5] (fun s4 s5 wr => NumAt g S st R w s4 s5 wr) (fun _ s5 _ => 2 - (intOf s5).toNat)
 case atStart => exact ⟨0, 0, by omega, by omega, by omega, by omega, rfl, rfl, HRR, h0, Fr.refl w _⟩
 case round =>
  clear h0 h
  obtain ⟨k, n, hk, hn0, hn1, hn2, rfl, rfl, HO, hr, hF⟩ := hrel
  have hk3 : k = 0 ∨ k = 1 ∨ k = 2 := by omega
  have hnn : (n : Int) ≤ 99 := by omega
  rcases hk3 with rfl | rfl | rfl
  ·have ek : ((0 : Nat) : Int) = 0 := rfl
   rw [ek]
   clear ek
   have k0 : ∀ x : LW wr, x.val.cell? ⟨g, 0, none⟩ = some (.string S) := LW.cell_ hr.c0
   have k1 : ∀ x : LW wr, x.val.cell? ⟨g, 1, none⟩ = some (.int .i64 ((st.at_ + 0 : Nat) : Int)) := LW.cell_ hr.c1
   obtain ⟨q, hq⟩ : ∃ q, q = st.at_ + 0 := ⟨_, rfl⟩
   rw [← hq] at k1 hr HO
   have HQ := Lib.hid hq
   have hqa : (q : Int) ≤ 1000000200 := by omega
   cases hd : S.data.toList[q]? with
   | none =>
    have hle := str_none S _ hd
    have hlt : decide (q < S.size) = false := by simp; omega
    have hRe : R = (n, st.at_ + 0) := by
     have := HO.out
     rw [digF_none _ _ _ _ hd] at this
     rw [← hq]; exact this.symm
    rw [hq] at hr
    clear hd HO hk hn0 hn1 hq
    have HE := Lib.hid hRe
    clear hRe
    go_wp2_with fail
    refine wp_region_laterq (by kernel_rfl) (by kernel_rfl) ?_
    repeat (go_big_quiet_step (fail))
    refine wpQuiet_nil ?_
    intro _ hwq
    obtain ⟨xz, rfl⟩ := hwq
    go_wp2_with fail
    go_ret2
    have e1 : digF S.data.toList 2 st.at_ 0 = (n, st.at_ + 0) := by rw [HRR.out, HE.out]
    unfold NumRet
    rw [e1]
    exact ⟨by simp, (hr.later xz.later), hF.andLater xz.later⟩
   | some d =>
    obtain ⟨hi, he⟩ := str_get S _ d hd
    have hi1 : (q : Int) < (S.size : Int) := by omega
    have hd1 := d.toNat_lt
    by_cases ho : isDig d = true
    ·obtain ⟨o1, o2⟩ := (isDig_iff d).1 ho
     have o3 : (48 : Int) ≤ (S[q].toNat : Int) := by rw [he]; omega
     have o4 : (S[q].toNat : Int) ≤ 57 := by rw [he]; omega
     have HO2 : Hid (digF S.data.toList (2 - 1) (st.at_ + 1) (10 * n + (d.toNat - 48)) = R) := by
      show _ = _
      have := HO.out
      rw [digF_some _ _ _ _ d hd ho, hq] at this
      exact this
     have HE := Lib.hid he
     have hb1 : 10 * n + (d.toNat - 48) ≤ 99 := by omega
     have hb2 : 10 * n + (d.toNat - 48) ≤ 9 := by omega
     have HB := Lib.hid hb2
     clear hd ho he hq HO hn0 hn1 hb2
     go_wp2_with fail
     refine wp_region_laterq (by kernel_rfl) (by kernel_rfl) ?_
     repeat (go_big_quiet_step (fail))
     refine wpQuiet_nil ?_
     intro _ hwq
     obtain ⟨xz, rfl⟩ := hwq
     have hr1 := hr.later xz.later
     have hF1 := hF.andLater xz.later
     clear k0 k1
     have k0 : ∀ x : LW xz.val, x.val.cell? ⟨g, 0, none⟩ = some (.string S) := LW.cell_ hr1.c0
     have k1 : ∀ x : LW xz.val, x.val.cell? ⟨g, 1, none⟩ = some (.int .i64 (q : Int)) := LW.cell_ hr1.c1
     go_wp2_with fail
     refine wp_region_laterq (by kernel_rfl) (by kernel_rfl) ?_
     repeat (go_big_quiet_step (fail))
     refine wpQuiet_nil ?_
     intro _ hwq
     obtain ⟨yz, rfl⟩ := hwq
     have hr2 := hr1.later yz.later
     have hF2 := hF1.andLater yz.later
     have c1 : yz.val.cell? ⟨g, 1, none⟩ = some (.int .i64 (q : Int)) := hr2.c1
     have f1 := hr2.f 1
     clear k0 k1
     go_wp2_with fail
     have hv : (10 * (n : Int) + ((S[q].toNat : Int) - 48)) = ((10 * n + (d.toNat - 48) : Nat) : Int) := by rw [HE.out]; omega
     have hr3 : RfC (yz.val.setCell ⟨g, 1, none⟩ (.int .i64 ((q : Int) + 1))) g S (stAt st (st.at_ + 1)) := hr2.setAt (st.at_ + 1) _ (by have := HQ.out; omega)
     have hF3 : Fr w (yz.val.setCell ⟨g, 1, none⟩ (.int .i64 ((q : Int) + 1))) (fun k => k = g) := frG hF2 _
     clear c1 f1
     go_roundw
     case rel => exact ⟨1, 10 * n + (d.toNat - 48), by omega, by omega, fun _ => HB.out, hb1, by rw [hv], rfl, HO2, hr3, hF3⟩
     case measure => simp [intOf]
    ·have hRe : R = (n, st.at_ + 0) := by
      have := HO.out
      rw [digF_not _ _ _ _ d hd ho] at this
      rw [← hq]; exact this.symm
     have o1 : ¬ (48 ≤ d.toNat ∧ d.toNat ≤ 57) := fun h => ho ((isDig_iff d).2 h)
     by_cases o2 : d.toNat < 48
     ·have o3 : decide ((48 : Int) ≤ (S[q].toNat : Int)) = false := by rw [he]; exact decide_eq_false (by omega)
      rw [hq] at hr
      clear o1 he hd ho HO hk hn0 hn1 hq
      have HE := Lib.hid hRe
      clear hRe
      go_wp2_with fail
      refine wp_region_laterq (by kernel_rfl) (by kernel_rfl) ?_
      repeat (go_big_quiet_step (fail))
      refine wpQuiet_nil ?_
      intro _ hwq
      obtain ⟨xz, rfl⟩ := hwq
      go_wp2_with fail
      go_ret2
      have e1 : digF S.data.toList 2 st.at_ 0 = (n, st.at_ + 0) := by rw [HRR.out, HE.out]
      unfold NumRet
      rw [e1]
      exact ⟨by simp, (hr.later xz.later), hF.andLater xz.later⟩
     ·have o3 : (48 : Int) ≤ (S[q].toNat : Int) := by rw [he]; omega
      have o4 : decide ((S[q].toNat : Int) ≤ 57) = false := by rw [he]; exact decide_eq_false (by omega)
      rw [hq] at hr
      clear o1 he hd ho HO hk hn0 hn1 hq
      have HE := Lib.hid hRe
      clear hRe
      go_wp2_with fail
      refine wp_region_laterq (by kernel_rfl) (by kernel_rfl) ?_
      repeat (go_big_quiet_step (fail))
      refine wpQuiet_nil ?_
      intro _ hwq
      obtain ⟨xz, rfl⟩ := hwq
      go_wp2_with fail
      go_ret2
      have e1 : digF S.data.toList 2 st.at_ 0 = (n, st.at_ + 0) := by rw [HRR.out, HE.out]
      unfold NumRet
      rw [e1]
      exact ⟨by simp, (hr.later xz.later), hF.andLater xz.later⟩
  ·have ek : ((1 : Nat) : Int) = 1 := rfl
   rw [ek]
   clear ek
   have k0 : ∀ x : LW wr, x.val.cell? ⟨g, 0, none⟩ = some (.string S) := LW.cell_ hr.c0
   have k1 : ∀ x : LW wr, x.val.cell? ⟨g, 1, none⟩ = some (.int .i64 ((st.at_ + 1 : Nat) : Int)) := LW.cell_ hr.c1
   obtain ⟨q, hq⟩ : ∃ q, q = st.at_ + 1 := ⟨_, rfl⟩
   rw [← hq] at k1 hr HO
   have HQ := Lib.hid hq
   have hqa : (q : Int) ≤ 1000000200 := by omega
   cases hd : S.data.toList[q]? with
   | none =>
    have hle := str_none S _ hd
    have hlt : decide (q < S.size) = false := by simp; omega
    have hRe : R = (n, st.at_ + 1) := by
     have := HO.out
     rw [digF_none _ _ _ _ hd] at this
     rw [← hq]; exact this.symm
    rw [hq] at hr
    clear hd HO hk hn0 hn1 hq
    have HE := Lib.hid hRe
    clear hRe
    go_wp2_with fail
    refine wp_region_laterq (by kernel_rfl) (by kernel_rfl) ?_
    repeat (go_big_quiet_step (fail))
    refine wpQuiet_nil ?_
    intro _ hwq
    obtain ⟨xz, rfl⟩ := hwq
    go_wp2_with fail
    go_ret2
    have e1 : digF S.data.toList 2 st.at_ 0 = (n, st.at_ + 1) := by rw [HRR.out, HE.out]
    unfold NumRet
    rw [e1]
    exact ⟨by simp; try omega, (hr.later xz.later), hF.andLater xz.later⟩
   | some d =>
    obtain ⟨hi, he⟩ := str_get S _ d hd
    have hi1 : (q : Int) < (S.size : Int) := by omega
    have hd1 := d.toNat_lt
    by_cases ho : isDig d = true
    ·obtain ⟨o1, o2⟩ := (isDig_iff d).1 ho
     have o3 : (48 : Int) ≤ (S[q].toNat : Int) := by rw [he]; omega
     have o4 : (S[q].toNat : Int) ≤ 57 := by rw [he]; omega
     have HO2 : Hid (digF S.data.toList (2 - 2) (st.at_ + 2) (10 * n + (d.toNat - 48)) = R) := by
      show _ = _
      have := HO.out
      rw [digF_some _ _ _ _ d hd ho, hq] at this
      exact this
     have HE := Lib.hid he
     have hb1 : 10 * n + (d.toNat - 48) ≤ 99 := by omega
     have hb2 : True := by trivial
     have HB := Lib.hid hb2
     clear hd ho he hq HO hn0 hn1 hb2
     go_wp2_with fail
     refine wp_region_laterq (by kernel_rfl) (by kernel_rfl) ?_
     repeat (go_big_quiet_step (fail))
     refine wpQuiet_nil ?_
     intro _ hwq
     obtain ⟨xz, rfl⟩ := hwq
     have hr1 := hr.later xz.later
     have hF1 := hF.andLater xz.later
     clear k0 k1
     have k0 : ∀ x : LW xz.val, x.val.cell? ⟨g, 0, none⟩ = some (.string S) := LW.cell_ hr1.c0
     have k1 : ∀ x : LW xz.val, x.val.cell? ⟨g, 1, none⟩ = some (.int .i64 (q : Int)) := LW.cell_ hr1.c1
     go_wp2_with fail
     refine wp_region_laterq (by kernel_rfl) (by kernel_rfl) ?_
     repeat (go_big_quiet_step (fail))
     refine wpQuiet_nil ?_
     intro _ hwq
     obtain ⟨yz, rfl⟩ := hwq
     have hr2 := hr1.later yz.later
     have hF2 := hF1.andLater yz.later
     have c1 : yz.val.cell? ⟨g, 1, none⟩ = some (.int .i64 (q : Int)) := hr2.c1
     have f1 := hr2.f 1
     clear k0 k1
     go_wp2_with fail
     have hv : (10 * (n : Int) + ((S[q].toNat : Int) - 48)) = ((10 * n + (d.toNat - 48) : Nat) : Int) := by rw [HE.out]; omega
     have hr3 : RfC (yz.val.setCell ⟨g, 1, none⟩ (.int .i64 ((q : Int) + 1))) g S (stAt st (st.at_ + 2)) := hr2.setAt (st.at_ + 2) _ (by have := HQ.out; omega)
     have hF3 : Fr w (yz.val.setCell ⟨g, 1, none⟩ (.int .i64 ((q : Int) + 1))) (fun k => k = g) := frG hF2 _
     clear c1 f1
     go_roundw
     case rel => exact ⟨2, 10 * n + (d.toNat - 48), by omega, by omega, by omega, hb1, by rw [hv], rfl, HO2, hr3, hF3⟩
     case measure => simp [intOf]
    ·have hRe : R = (n, st.at_ + 1) := by
      have := HO.out
      rw [digF_not _ _ _ _ d hd ho] at this
      rw [← hq]; exact this.symm
     have o1 : ¬ (48 ≤ d.toNat ∧ d.toNat ≤ 57) := fun h => ho ((isDig_iff d).2 h)
     by_cases o2 : d.toNat < 48
     ·have o3 : decide ((48 : Int) ≤ (S[q].toNat : Int)) = false := by rw [he]; exact decide_eq_false (by omega)
      rw [hq] at hr
      clear o1 he hd ho HO hk hn0 hn1 hq
      have HE := Lib.hid hRe
      clear hRe
      go_wp2_with fail
      refine wp_region_laterq (by kernel_rfl) (by kernel_rfl) ?_
      repeat (go_big_quiet_step (fail))
      refine wpQuiet_nil ?_
      intro _ hwq
      obtain ⟨xz, rfl⟩ := hwq
      go_wp2_with fail
      go_ret2
      have e1 : digF S.data.toList 2 st.at_ 0 = (n, st.at_ + 1) := by rw [HRR.out, HE.out]
      unfold NumRet
      rw [e1]
      exact ⟨by simp; try omega, (hr.later xz.later), hF.andLater xz.later⟩
     ·have o3 : (48 : Int) ≤ (S[q].toNat : Int) := by rw [he]; omega
      have o4 : decide ((S[q].toNat : Int) ≤ 57) = false := by rw [he]; exact decide_eq_false (by omega)
      rw [hq] at hr
      clear o1 he hd ho HO hk hn0 hn1 hq
      have HE := Lib.hid hRe
      clear hRe
      go_wp2_with fail
      refine wp_region_laterq (by kernel_rfl) (by kernel_rfl) ?_
      repeat (go_big_quiet_step (fail))
      refine wpQuiet_nil ?_
      intro _ hwq
      obtain ⟨xz, rfl⟩ := hwq
      go_wp2_with fail
      go_ret2
      have e1 : digF S.data.toList 2 st.at_ 0 = (n, st.at_ + 1) := by rw [HRR.out, HE.out]
      unfold NumRet
      rw [e1]
      exact ⟨by simp; try omega, (hr.later xz.later), hF.andLater xz.later⟩
  ·have ek : ((2 : Nat) : Int) = 2 := rfl
   rw [ek]
   clear ek
   have k0 : ∀ x : LW wr, x.val.cell? ⟨g, 0, none⟩ = some (.string S) := LW.cell_ hr.c0
   have k1 : ∀ x : LW wr, x.val.cell? ⟨g, 1, none⟩ = some (.int .i64 ((st.at_ + 2 : Nat) : Int)) := LW.cell_ hr.c1
   have hRe : R = (n, st.at_ + 2) := HO.out.symm
   clear k0 k1 HO hk hn0 hn1
   have HE := Lib.hid hRe
   clear hRe
   go_wp2_with fail
   refine wp_region_laterq (by kernel_rfl) (by kernel_rfl) ?_
   repeat (go_big_quiet_step (fail))
   refine wpQuiet_nil ?_
   intro _ hwq
   obtain ⟨xz, rfl⟩ := hwq
   go_wp2_with fail
   go_ret2
   have e1 : digF S.data.toList 2 st.at_ 0 = (n, st.at_ + 2) := by rw [HRR.out, HE.out]
   unfold NumRet
   rw [e1]
   exact ⟨by simp; try omega, (hr.later xz.later), hF.andLater xz.later⟩
end Go.Proofs.YtmkddhkpeiajhaaGreatDoor
namespace Go.Proofs.YtmkddhkpeiajhaaGreatDoor
open Go.RowKit
set_option maxRecDepth 100000 in
set_option maxHeartbeats 8000000 in
theorem escapeT_end (lo : Nat → Prop) (g : Nat) (S : ByteArray) (st : St) (x : Int) (w : World) (h : RfC w g S st) (_hs : S.size ≤ 1000000000) (hat : st.at_ ≤ 1000000100) (hx : S.data.toList[st.at_]? = none) :
  Calls Tryz.prog 135 #[.pointer (some ⟨g, 0, none⟩), .int .i64 x] w (RetTS w g lo S (rEsc S.data.toList st)) := by
 obtain ⟨R, hR⟩ : ∃ R, R = rEsc S.data.toList st := ⟨_, rfl⟩
 rw [← hR]
 have hati : (st.at_ : Int) ≤ 1000000100 := by omega
 have hle := str_none S _ hx
 have HR : Hid (R = (tEmpty, stFault 24 st.at_ st)) := by
  show _ = _
  rw [hR]; unfold rEsc; rw [hx]
 have hlt : S.size ≤ st.at_ := hle
 clear hR hx
 go_enter Tryz.func135, Tryz.ntmps135
 go_upto_region 1 with fail
 obtain ⟨W0, hW0⟩ : ∃ W0, W0 = w.alloc (.cells #[.int .i64 0, .int .u64 0, .int .u64 0, .int .u64 0, .int .u64 0, .slice none 0 0] 98) := ⟨_, rfl⟩
 have B4 : Blk W0 w.heap.size 98 #[.int .i64 0, .int .u64 0, .int .u64 0, .int .u64 0, .int .u64 0, .slice none 0 0] := by rw [hW0]; exact Blk.new w _ _
 have hl0 : Later w W0 := by rw [hW0]; exact (Later.refl w).alloc _
 have h0 := h.later hl0
 have hF0 : Fr w W0 (fun k => k = g) := Fr.later hl0
 have ne4 : w.heap.size ≠ g := by have := h.lt; omega
 rw [← hW0]
 clear hW0 hl0 h
 have k0 : ∀ x : LW W0, x.val.cell? ⟨g, 0, none⟩ = some (.string S) := LW.cell_ h0.c0
 have k1 : ∀ x : LW W0, x.val.cell? ⟨g, 1, none⟩ = some (.int .i64 (st.at_ : Int)) := LW.cell_ h0.c1
 go_wp2_with fail
 refine wp_region_laterq (by kernel_rfl) (by kernel_rfl) ?_
 repeat (go_big_quiet_step (fail))
 refine wpQuiet_nil ?_
 intro _ hwq
 obtain ⟨xz, rfl⟩ := hwq
 have h1 := h0.later xz.later
 have B4 := blkL xz.later B4
 have hF1 := frL hF0 xz.later
 clear k0 k1
 obtain ⟨W1, hW1⟩ : ∃ W1, W1 = xz.val := ⟨_, rfl⟩
 rw [← hW1] at h1 B4 hF1 ⊢
 clear hW1 h0 hF0 xz
 have c1 := h1.c1
 go_wp2_with fail
 refine (fails_any g S st _ _ st.at_ 24 _ h1 rfl rfl).mono ?_
 rintro e w2 ⟨rfl, h2, hF2⟩
 have hF3 := frF hF1 hF2
 have D4 := blkF hF2 ne4 B4
 clear c1 h1 hF1 hF2 B4
 obtain ⟨z0, z1, z2, z3, z4, z5, y0, y1, y2, y3, y4, y5⟩ := cells6 D4
 go_wp2_with fail
 refine bodyPost_ret (v := .agg #[.int .i64 0, .int .u64 0, .int .u64 0, .int .u64 0, .int .u64 0, .slice none 0 0]) (by simp [results, Tryz.results135, go_sem, z0, z1, z2, z3, z4, z5]) rfl ?_
 exact RetTS.store6 HR.out (ReC.leaf _ (fun k => lo k ∧ k ≠ w.heap.size) 0 Proofs.YtmkddhkpeiajhaaGreatDoor.z4 none 0) h2 hF3 rfl D4 (fun h => h.2 rfl) (Nat.le_refl _) (fun k h => h.1)
end Go.Proofs.YtmkddhkpeiajhaaGreatDoor
