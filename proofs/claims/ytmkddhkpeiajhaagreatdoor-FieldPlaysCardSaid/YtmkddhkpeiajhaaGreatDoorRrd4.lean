import Derived.Test.YtmkddhkpeiajhaaGreatDoorRrd2
import Derived.Test.YtmkddhkpeiajhaaGreatDoorRefShaped
import Derived.Test.YtmkddhkpeiajhaaGreatDoorRefParse
namespace Go.Proofs.YtmkddhkpeiajhaaGreatDoor
open Go.RowKit
theorem digF_val (l : List UInt8) : ∀ (j q n : Nat), (digF l j q n).1 ≤ 10 ^ j * n + (10 ^ j - 1)
  | 0, q, n => by rw [digF]; simp
  | j + 1, q, n => by
    have hp : 1 ≤ 10 ^ j := Nat.pow_pos (by omega)
    rw [digF, Nat.pow_succ]
    have hself : n ≤ 10 ^ j * 10 * n := by
      have : 1 * n ≤ (10 ^ j * 10) * n := Nat.mul_le_mul_right n (by omega)
      omega
    cases h : l[q]? with
    | none => show n ≤ _; omega
    | some d =>
      simp only
      split
      · rename_i hd
        obtain ⟨o1, o2⟩ := (isDig_iff d).1 hd
        have := digF_val l j (q + 1) (10 * n + (d.toNat - 48))
        have h9 : 10 ^ j * (10 * n + (d.toNat - 48)) ≤ 10 ^ j * 10 * n + 10 ^ j * 9 := by
          rw [Nat.mul_add, ← Nat.mul_assoc]
          have := Nat.mul_le_mul_left (10 ^ j) (show d.toNat - 48 ≤ 9 by omega)
          omega
        omega
      · show n ≤ _; omega
theorem num_99 (l : List UInt8) (q m q1 : Nat) (h : digF l 2 q 0 = (m, q1)) : m ≤ 99 := by
  have := digF_val l 2 q 0
  rw [h] at this
  simpa using this
def RtM (w : World) (g : Nat) (S : ByteArray) (st : St) (k a b c d : Int) (A : Option Addr) (n cp : Nat) (wx : World) : Prop :=
  RfC wx g S st ∧ Blk wx w.heap.size 98 #[.int .i64 k, .int .u64 a, .int .u64 b, .int .u64 c, .int .u64 d, .slice A n cp] ∧ Blk wx (w.heap.size + 1) 98 #[.int .i64 0, .int .u64 0, .int .u64 0, .int .u64 0, .int .u64 0, .slice none 0 0] ∧ Fr w wx (fun k => k = g)
def RtL1 (w : World) (g : Nat) (lo : Nat → Prop) (S : ByteArray) (st : St) (r : Tree) (k a b c d : Int) (A : Option Addr) (n cp : Nat) (m : Nat) (s10 s11 : Value) (wx : World) : Prop :=
  ∃ (j : Nat) (Al : Option Addr) (cl : Nat), j ≤ m ∧ s11 = .int .i64 (j : Int) ∧ s10 = .slice Al j cl ∧ OwnT wx (fun k => lo k ∧ k ≠ w.heap.size + 1) (w.heap.size + 2) Al j cl (List.replicate j r) ∧ RtM w g S st k a b c d A n cp wx
def RtL2 (w : World) (g : Nat) (lo : Nat → Prop) (S : ByteArray) (st : St) (r : Tree) (k a b c d : Int) (A : Option Addr) (n cp : Nat) (m N : Nat) (ev : Bool) (s10 s12 : Value) (wx : World) : Prop :=
  ∃ (j : Nat) (Al : Option Addr) (cl : Nat), m ≤ j ∧ (ev = false → j ≤ N) ∧ (ev = true → j = m) ∧ s12 = .int .i64 (j : Int) ∧ s10 = .slice Al j cl ∧
    OwnT wx (fun k => lo k ∧ k ≠ w.heap.size + 1) (w.heap.size + 2) Al j cl (List.replicate m r ++ List.replicate (j - m) (.node 6 z4 [r])) ∧ RtM w g S st k a b c d A n cp wx
theorem old_tree {w wx : World} {lo : Nat → Prop} {t : Tree} {x : ReX} {p : Nat → Prop} (h : ReC w lo t x) (hF : Fr w wx p) (hs : Spares w lo p) : ReC wx (fun k => lo k ∧ k < w.heap.size) t x :=
  ReC.fr hF (fun k cs hk hB => hs k cs hk.1 hB) _ (ReC.weaken (fun _ hk h => ⟨h, hk⟩) _ h)
theorem rep_snoc {α : Type} (n : Nat) (x : α) : List.replicate (n + 1) x = List.replicate n x ++ [x] := List.replicate_succ'
theorem OwnT.frg {w wx : World} {lo : Nat → Prop} {base g : Nat} {A : Option Addr} {n c : Nat} {ts : List Tree} {S : ByteArray} {st : St} (h : OwnT w lo base A n c ts) (hR : RfC w g S st) (hF : Fr w wx (fun k => k = g)) : OwnT wx lo base A n c ts :=
  h.fr hF (hR.spares lo) (fun k hk e => by
    subst e
    obtain ⟨_, xs, _, h3⟩ := h
    obtain ⟨_, _, cs, hB⟩ := own_row_blk h3 hk
    exact Blk.ne_ hB hR (by decide) rfl)
set_option maxRecDepth 100000 in
set_option maxHeartbeats 16000000 in
theorem timesT_any (lo : Nat → Prop) (g : Nat) (S : ByteArray) (st : St) (r : Tree) (k a b c d : Int) (A : Option Addr) (n cp : Nat) (w : World) (h : RfC w g S st) (hs : S.size ≤ 1000000000) (hat : st.at_ ≤ 1000000000) (hlo : Up w lo) (hC : ReC w lo r ⟨k, a, b, c, d, A, n, cp⟩) (hth : thinT r) (hsets : setsR r ≤ 1000000000) :
    Calls Tryz.prog 119 #[.pointer (some ⟨g, 0, none⟩), .agg #[.int .i64 k, .int .u64 a, .int .u64 b, .int .u64 c, .int .u64 d, .slice A n cp]] w (RetTS w g lo S (rTimes S.data.toList r st)) := by
  obtain ⟨R, hR⟩ : ∃ R, R = rTimes S.data.toList r st := ⟨_, rfl⟩
  rw [← hR]
  have HLO : Hid (Up w lo) := hlo
  have HS := Lib.hid h
  have HOLD : Hid (∀ wx, Fr w wx (fun k => k = g) → ReC wx (fun k => lo k ∧ k < w.heap.size) r ⟨k, a, b, c, d, A, n, cp⟩) := fun wx hF => old_tree hC hF (h.spares lo)
  obtain ⟨m, q1, hmq⟩ : ∃ m q1, digF S.data.toList 2 (st.at_ + 1) 0 = (m, q1) := ⟨_, _, rfl⟩
  obtain ⟨ok, hok⟩ : ∃ ok, ok = decide (q1 ≠ st.at_ + 1) := ⟨_, rfl⟩
  have hq1 := digF_le S.data.toList 2 (st.at_ + 1) 0
  rw [hmq] at hq1
  simp only at hq1
  have hm99 : m ≤ 99 := num_99 S.data.toList (st.at_ + 1) m q1 hmq
  have hnum : ∀ wx, RfC wx g S (stAt st (st.at_ + 1)) → Calls Tryz.prog 137 #[.pointer (some ⟨g, 0, none⟩)] wx fun e w' => e = .returned (.tuple #[.int .i64 (m : Int), .bool ok]) ∧ RfC w' g S (stAt st q1) ∧ Fr wx w' (fun k => k = g) := fun wx hwx =>
    (number_any g S (stAt st (st.at_ + 1)) wx hwx hs (by show st.at_ + 1 ≤ _; omega)).mono fun e w' he => by
      obtain ⟨e1, e2, e3⟩ := he
      have hd : digF S.data.toList 2 (stAt st (st.at_ + 1)).at_ 0 = (m, q1) := hmq
      rw [hd] at e1 e2
      exact ⟨by rw [hok]; exact e1, e2, e3⟩
  have HNUM := Lib.hid hnum
  have HOK := Lib.hid hok
  have HMQ := Lib.hid hmq
  have HR := Lib.hid hR
  have hgw := h.lt
  have hati : (st.at_ : Int) ≤ 1000000000 := by omega
  clear hR hmq hok hnum hC
  go_enter Tryz.func119, Tryz.ntmps119
  go_upto_region 1 with fail
  obtain ⟨W0, hW0⟩ : ∃ W0, W0 = (w.alloc (.cells #[.int .i64 k, .int .u64 a, .int .u64 b, .int .u64 c, .int .u64 d, .slice A n cp] 98)).alloc (.cells #[.int .i64 0, .int .u64 0, .int .u64 0, .int .u64 0, .int .u64 0, .slice none 0 0] 98) := ⟨_, rfl⟩
  have B3 : Blk W0 w.heap.size 98 #[.int .i64 k, .int .u64 a, .int .u64 b, .int .u64 c, .int .u64 d, .slice A n cp] := by rw [hW0]; exact (Blk.new w _ _).alloc _
  have B4 : Blk W0 (w.heap.size + 1) 98 #[.int .i64 0, .int .u64 0, .int .u64 0, .int .u64 0, .int .u64 0, .slice none 0 0] := by
    rw [hW0]
    have h := Blk.new (w.alloc (.cells #[.int .i64 k, .int .u64 a, .int .u64 b, .int .u64 c, .int .u64 d, .slice A n cp] 98)) 98 #[.int .i64 0, .int .u64 0, .int .u64 0, .int .u64 0, .int .u64 0, .slice none 0 0]
    simp only [World.size_alloc] at h
    exact h
  have hl0 : Later w W0 := by rw [hW0]; exact ((Later.refl w).alloc _).alloc _
  have h0 := h.later hl0
  have hF0 : Fr w W0 (fun k => k = g) := Fr.later hl0
  have ne3 : w.heap.size ≠ g := by omega
  have ne4 : w.heap.size + 1 ≠ g := by omega
  rw [← hW0]
  clear hW0 hl0 h
  have c1 := h0.c1
  have f1 := h0.f 1
  go_upto_region 3 with fail
  have h1 := h0.setAt (st.at_ + 1) ((st.at_ : Int) + 1) (by omega)
  have hF1 : Fr w _ (fun k => k = g) := frG (i := 1) hF0 (.int .i64 ((st.at_ : Int) + 1))
  have D3 := B3.far (p := ⟨g, 1, none⟩) ne3 (.int .i64 ((st.at_ : Int) + 1))
  have D4 := B4.far (p := ⟨g, 1, none⟩) ne4 (.int .i64 ((st.at_ : Int) + 1))
  go_wp2_with fail
  refine (HNUM.out _ h1).mono ?_
  rintro e w2 ⟨rfl, h2, hF2⟩
  have hF3 := frF hF1 hF2
  have B3 := blkF hF2 ne3 D3
  have B4 := blkF hF2 ne4 D4
  clear c1 f1 h0 hF0 h1 hF1 D3 D4 hF2
  cases ok with
  | false =>
    have hq : q1 = st.at_ + 1 := by have := HOK.out; simpa using this
    have HR2 : Hid (R = (tEmpty, stFault 24 st.at_ (stAt st q1))) := by
      show _ = _
      rw [HR.out]; unfold rTimes; rw [HMQ.out]; simp only; rw [if_pos hq]
    clear hq HR HOK
    go_wp2_with fail
    refine (fails_any g S _ _ _ st.at_ 24 _ h2 rfl rfl).mono ?_
    rintro e w3 ⟨rfl, h3, hF4⟩
    have hF5 := frF hF3 hF4
    have D4 := blkF hF4 ne4 B4
    clear h2 hF3 B3 B4 hF4
    obtain ⟨z0, z1, z2, z3, z4, z5, y0, y1, y2, y3, y4, y5⟩ := cells6 D4
    go_wp2_with fail
    refine bodyPost_ret (v := .agg #[.int .i64 0, .int .u64 0, .int .u64 0, .int .u64 0, .int .u64 0, .slice none 0 0]) (by simp [results, Tryz.results119, go_sem, z0, z1, z2, z3, z4, z5]) rfl ?_
    exact RetTS.store6 HR2.out (ReC.leaf _ (fun k => lo k ∧ k ≠ w.heap.size + 1) 0 Proofs.YtmkddhkpeiajhaaGreatDoor.z4 none 0) h3 hF5 rfl D4 (fun h => h.2 rfl) (by omega) (fun k h => h.1)
  | true =>
  have hqn : q1 ≠ st.at_ + 1 := by have := HOK.out; simpa using this
  obtain ⟨ev, N, q2, hg⟩ : ∃ ev N q2, rRange S.data.toList m q1 = (ev, N, q2) := ⟨_, _, _, rfl⟩
  have hq2 := rRange_bd S.data.toList m q1
  rw [hg] at hq2
  simp only at hq2
  have HR2 : Hid (R = if rNo S.data.toList m (ev, N, q2) then (tEmpty, stFault 24 st.at_ (stAt st q2)) else
      (if N = 0 ∧ ev = false then tEmpty else if 40000 < setsR r * (max m N + 1) then .node (-1) z4 [] else tRow 2 (rCopies r m N ev), stAt st (q2 + 1))) := by
    show _ = _
    rw [HR.out]; unfold rTimes; rw [HMQ.out]; simp only; rw [if_neg hqn, hg]
  have hN99 : N ≤ 99 := by
    unfold rRange at hg
    split at hg
    · have e1 := congrArg (fun x => x.2.1) hg
      simp only at e1
      rw [← e1]
      exact num_99 S.data.toList (q1 + 1) _ _ rfl
    · have e1 := congrArg (fun x => x.2.1) hg
      simp only at e1
      omega
  have HG := Lib.hid hg
  clear hqn HR HOK hg HMQ HNUM
  obtain ⟨vc, hvc⟩ : ∃ vc, isAt S.data.toList (stAt st q1).at_ 44 = vc := ⟨_, rfl⟩
  have HVC := Lib.hid hvc
  have HIS : Hid (∀ wx, RfC wx g S (stAt st q1) → Calls Tryz.prog 88 #[.pointer (some ⟨g, 0, none⟩), .int .u8 44] wx fun e w' => e = .returned (.bool vc) ∧ Later wx w') := fun wx hwx => isF_any g S _ 44 44 vc wx hwx rfl hvc hs
  clear hvc
  go_upto_region 8 with fail
  go_wp2_with fail
  refine (HIS.out _ h2).mono ?_
  rintro e w3 ⟨rfl, hl3⟩
  have h3 := h2.later hl3
  have hF4 := frL hF3 hl3
  have D3 := blkL hl3 B3
  have D4 := blkL hl3 B4
  clear h2 hF3 B3 B4 hl3 HIS
  go_upto_if 36 with (fail)
  go_cut [8, 9] (fun s8 s9 wx => s8 = .int .i64 (N : Int) ∧ s9 = .bool ev ∧ RtM w g S (stAt st q2) k a b c d A n cp wx)
  case first =>
    cases vc with
    | false =>
      have hg := HG.out
      have hv : isAt S.data.toList q1 44 = false := HVC.out
      unfold rRange at hg
      rw [hv] at hg
      simp only [Bool.false_eq_true, if_false] at hg
      have e1 : false = ev := congrArg (fun x => x.1) hg
      have e2 : m = N := congrArg (fun x => x.2.1) hg
      have e3 : q1 = q2 := congrArg (fun x => x.2.2) hg
      subst e1 e2 e3
      clear hg hv
      go_wp2_with fail
      go_meet
      exact ⟨rfl, rfl, h3, D3, D4, hF4⟩
    | true =>
      have hg := HG.out
      have hv : isAt S.data.toList q1 44 = true := HVC.out
      unfold rRange at hg
      rw [hv] at hg
      simp only [if_true] at hg
      have e1 : decide ((digF S.data.toList 2 (q1 + 1) 0).2 = q1 + 1) = ev := congrArg (fun x => x.1) hg
      have e2 : (digF S.data.toList 2 (q1 + 1) 0).1 = N := congrArg (fun x => x.2.1) hg
      have e3 : (digF S.data.toList 2 (q1 + 1) 0).2 = q2 := congrArg (fun x => x.2.2) hg
      have hnum : ∀ wx, RfC wx g S (stAt st (q1 + 1)) → Calls Tryz.prog 137 #[.pointer (some ⟨g, 0, none⟩)] wx fun e w' => e = .returned (.tuple #[.int .i64 (N : Int), .bool (!ev)]) ∧ RfC w' g S (stAt st q2) ∧ Fr wx w' (fun k => k = g) := fun wx hwx =>
        (number_any g S (stAt st (q1 + 1)) wx hwx hs (by show q1 + 1 ≤ _; omega)).mono fun e w' he => by
          obtain ⟨f1, f2, f3⟩ := he
          have hd : digF S.data.toList 2 (stAt st (q1 + 1)).at_ 0 = (N, q2) := by rw [← e2, ← e3]; rfl
          rw [hd] at f1 f2
          refine ⟨?_, f2, f3⟩
          rw [f1, ← e1, e3]
          simp only [decide_not]
          rfl
      have HNUM := Lib.hid hnum
      have c1 : w3.cell? ⟨g, 1, none⟩ = some (.int .i64 (q1 : Int)) := h3.c1
      have f1 := h3.f 1
      have hq1i : (q1 : Int) ≤ 1000000100 := by omega
      have h4 := h3.setAt (q1 + 1) ((q1 : Int) + 1) (by omega)
      have hF5 : Fr w _ (fun k => k = g) := frG (i := 1) hF4 (.int .i64 ((q1 : Int) + 1))
      have E3 := D3.far (p := ⟨g, 1, none⟩) ne3 (.int .i64 ((q1 : Int) + 1))
      have E4 := D4.far (p := ⟨g, 1, none⟩) ne4 (.int .i64 ((q1 : Int) + 1))
      clear hg hv e1 e2 e3 hnum HVC HG
      go_wp2_with fail
      refine (HNUM.out _ h4).mono ?_
      rintro e w4 ⟨rfl, h5, hF6⟩
      have hF7 := frF hF5 hF6
      have G3 := blkF hF6 ne3 E3
      have G4 := blkF hF6 ne4 E4
      clear c1 f1 h3 hF4 h4 hF5 D3 D4 E3 E4 hF6
      cases ev
      all_goals
        go_wp2_with fail
        go_meet
        exact ⟨rfl, rfl, h5, G3, G4, hF7⟩
  case rest =>
  clear h3 hF4 D3 D4 HVC HG
  obtain ⟨rfl, rfl, h3, B3, B4, hF3⟩ := hcut
  obtain ⟨v, hv⟩ : ∃ v, v = rNo S.data.toList m (ev, N, q2) := ⟨_, rfl⟩
  obtain ⟨vb, hvb⟩ : ∃ vb, isAt S.data.toList (stAt st q2).at_ 125 = vb := ⟨_, rfl⟩
  have HIS : Hid (∀ wx, RfC wx g S (stAt st q2) → Calls Tryz.prog 88 #[.pointer (some ⟨g, 0, none⟩), .int .u8 125] wx fun e w' => e = .returned (.bool vb) ∧ Later wx w') := fun wx hwx => isF_any g S _ 125 125 vb wx hwx rfl hvb hs
  have hv2 : v = (!vb || decide (50 < m) || (!ev && (decide (50 < N) || decide (N < m)))) := by
    rw [hv, ← hvb]; rfl
  have HV := Lib.hid hv2
  have HVN := Lib.hid hv
  clear hv hvb hv2
  go_upto_region 12 with fail
  go_cut [70] (fun s70 wx => s70 = .bool v ∧ RtM w g S (stAt st q2) k a b c d A n cp wx)
  case first =>
    cases vb with
    | false =>
      have hvt : v = true := by rw [HV.out]; rfl
      subst hvt
      go_wp2_with fail
      refine (HIS.out _ h3).mono ?_
      rintro e w4 ⟨rfl, hl4⟩
      have h4 := h3.later hl4
      have hF4 := frL hF3 hl4
      have D3 := blkL hl4 B3
      have D4 := blkL hl4 B4
      clear h3 hF3 B3 B4 hl4
      go_wp2_with fail
      go_meet
      exact ⟨rfl, h4, D3, D4, hF4⟩
    | true =>
      by_cases hm : 50 < m
      · have hvt : v = true := by rw [HV.out, decide_eq_true hm]; rfl
        subst hvt
        have hmi : (50 : Int) < (m : Int) := by omega
        go_wp2_with fail
        refine (HIS.out _ h3).mono ?_
        rintro e w4 ⟨rfl, hl4⟩
        have h4 := h3.later hl4
        have hF4 := frL hF3 hl4
        have D3 := blkL hl4 B3
        have D4 := blkL hl4 B4
        clear h3 hF3 B3 B4 hl4
        go_wp2_with fail
        go_meet
        exact ⟨rfl, h4, D3, D4, hF4⟩
      · have hmi : ¬ (50 : Int) < (m : Int) := by omega
        have hmd : decide ((50 : Int) < (m : Int)) = false := decide_eq_false hmi
        cases ev with
        | true =>
          have hvt : v = false := by rw [HV.out, decide_eq_false hm]; rfl
          subst hvt
          go_wp2_with fail
          refine (HIS.out _ h3).mono ?_
          rintro e w4 ⟨rfl, hl4⟩
          have h4 := h3.later hl4
          have hF4 := frL hF3 hl4
          have D3 := blkL hl4 B3
          have D4 := blkL hl4 B4
          clear h3 hF3 B3 B4 hl4
          go_wp2_with fail
          go_meet
          exact ⟨rfl, h4, D3, D4, hF4⟩
        | false =>
          by_cases hn : 50 < N
          · have hvt : v = true := by rw [HV.out, decide_eq_false hm, decide_eq_true hn]; rfl
            subst hvt
            have hni : (50 : Int) < (N : Int) := by omega
            go_wp2_with fail
            refine (HIS.out _ h3).mono ?_
            rintro e w4 ⟨rfl, hl4⟩
            have h4 := h3.later hl4
            have hF4 := frL hF3 hl4
            have D3 := blkL hl4 B3
            have D4 := blkL hl4 B4
            clear h3 hF3 B3 B4 hl4
            go_wp2_with fail
            go_meet
            exact ⟨rfl, h4, D3, D4, hF4⟩
          · have hni : ¬ (50 : Int) < (N : Int) := by omega
            have hnd : decide ((50 : Int) < (N : Int)) = false := decide_eq_false hni
            by_cases hnm : N < m
            · have hvt : v = true := by rw [HV.out, decide_eq_false hm, decide_eq_false hn, decide_eq_true hnm]; rfl
              subst hvt
              have hnmi : (N : Int) < (m : Int) := by omega
              go_wp2_with fail
              refine (HIS.out _ h3).mono ?_
              rintro e w4 ⟨rfl, hl4⟩
              have h4 := h3.later hl4
              have hF4 := frL hF3 hl4
              have D3 := blkL hl4 B3
              have D4 := blkL hl4 B4
              clear h3 hF3 B3 B4 hl4
              go_wp2_with fail
              go_meet
              exact ⟨rfl, h4, D3, D4, hF4⟩
            · have hvt : v = false := by rw [HV.out, decide_eq_false hm, decide_eq_false hn, decide_eq_false hnm]; rfl
              subst hvt
              have hnmd : decide (N < m) = false := decide_eq_false hnm
              go_wp2_with fail
              refine (HIS.out _ h3).mono ?_
              rintro e w4 ⟨rfl, hl4⟩
              have h4 := h3.later hl4
              have hF4 := frL hF3 hl4
              have D3 := blkL hl4 B3
              have D4 := blkL hl4 B4
              clear h3 hF3 B3 B4 hl4
              go_wp2_with fail
              go_meet
              exact ⟨rfl, h4, D3, D4, hF4⟩
  case rest =>
  clear h3 B3 B4 hF3 HIS
  obtain ⟨rfl, h3, B3, B4, hF3⟩ := hcut
  cases v with
  | true =>
    have HR3 : Hid (R = (tEmpty, stFault 24 st.at_ (stAt st q2))) := by show _ = _; rw [HR2.out, ← HVN.out]; rfl
    clear HR2 HV HVN
    go_wp2_with fail
    refine (fails_any g S _ _ _ st.at_ 24 _ h3 rfl rfl).mono ?_
    rintro e w4 ⟨rfl, h4, hF4⟩
    have hF5 := frF hF3 hF4
    have D4 := blkF hF4 ne4 B4
    clear h3 hF3 B3 B4 hF4
    obtain ⟨z0, z1, z2, z3, z4, z5, y0, y1, y2, y3, y4, y5⟩ := cells6 D4
    go_wp2_with fail
    refine bodyPost_ret (v := .agg #[.int .i64 0, .int .u64 0, .int .u64 0, .int .u64 0, .int .u64 0, .slice none 0 0]) (by simp [results, Tryz.results119, go_sem, z0, z1, z2, z3, z4, z5]) rfl ?_
    exact RetTS.store6 HR3.out (ReC.leaf _ (fun k => lo k ∧ k ≠ w.heap.size + 1) 0 Proofs.YtmkddhkpeiajhaaGreatDoor.z4 none 0) h4 hF5 rfl D4 (fun h => h.2 rfl) (by omega) (fun k h => h.1)
  | false =>
  obtain ⟨rn1, rn2, rn3⟩ := rno_is S.data.toList m _ HVN.out.symm
  simp only at rn3
  have HR3 : Hid (R = (if N = 0 ∧ ev = false then tEmpty else if 40000 < setsR r * (max m N + 1) then .node (-1) z4 [] else tRow 2 (rCopies r m N ev), stAt st (q2 + 1))) := by show _ = _; rw [HR2.out, ← HVN.out]; rfl
  have HRN := Lib.hid rn3
  clear HR2 HV HVN rn1 rn3
  have c1 : wc.cell? ⟨g, 1, none⟩ = some (.int .i64 (q2 : Int)) := h3.c1
  have f1 := h3.f 1
  have hq2i : (q2 : Int) ≤ 1000000200 := by omega
  go_upto_region 15 with fail
  have h4 := h3.setAt (q2 + 1) ((q2 : Int) + 1) (by omega)
  have hF4 : Fr w _ (fun k => k = g) := frG (i := 1) hF3 (.int .i64 ((q2 : Int) + 1))
  have D3 := B3.far (p := ⟨g, 1, none⟩) ne3 (.int .i64 ((q2 : Int) + 1))
  have D4 := B4.far (p := ⟨g, 1, none⟩) ne4 (.int .i64 ((q2 : Int) + 1))
  obtain ⟨W5, hW5⟩ : ∃ W5, W5 = wc.setCell ⟨g, 1, none⟩ (.int .i64 ((q2 : Int) + 1)) := ⟨_, rfl⟩
  rw [← hW5] at h4 hF4 D3 D4 ⊢
  clear hW5 c1 f1 h3 hF3 B3 B4
  have hst : stAt (stAt st q2) (q2 + 1) = stAt st (q2 + 1) := rfl
  rw [hst] at h4
  clear hst
  obtain ⟨b0, b1, b2, b3, b4, b5, -⟩ := cells6 D3
  by_cases hz : N = 0 ∧ ev = false
  · have HR4 : Hid (R = (tEmpty, stAt st (q2 + 1))) := by show _ = _; rw [HR3.out, if_pos hz]
    obtain ⟨hz1, rfl⟩ := hz
    have hz2 : ((N : Int) == 0) = true := by rw [hz1]; rfl
    have hz3 : (N == 0) = true := by rw [hz1]; rfl
    clear HR3 HRN hz1
    obtain ⟨z0, z1, z2, z3, z4, z5, y0, y1, y2, y3, y4, y5⟩ := cells6 D4
    go_wp2_with fail
    refine bodyPost_ret (v := .agg #[.int .i64 0, .int .u64 0, .int .u64 0, .int .u64 0, .int .u64 0, .slice none 0 0]) (by simp [results, Tryz.results119, go_sem, z0, z1, z2, z3, z4, z5]) rfl ?_
    exact RetTS.store6 HR4.out (ReC.leaf _ (fun k => lo k ∧ k ≠ w.heap.size + 1) 0 Proofs.YtmkddhkpeiajhaaGreatDoor.z4 none 0) h4 hF4 rfl D4 (fun h => h.2 rfl) (by omega) (fun k h => h.1)
  · have hzc : N ≠ 0 ∨ (N = 0 ∧ ev = true) := by
      rcases Nat.eq_zero_or_pos N with h | h
      · right
        refine ⟨h, ?_⟩
        cases ev with
        | true => rfl
        | false => exact absurd ⟨h, rfl⟩ hz
      · left; omega
    obtain ⟨sr, hsr⟩ : ∃ sr, sr = setsR r := ⟨_, rfl⟩
    have hset : ∀ wx, Fr w wx (fun k => k = g) → Calls Tryz.prog 92 #[.agg #[.int .i64 k, .int .u64 a, .int .u64 b, .int .u64 c, .int .u64 d, .slice A n cp]] wx fun e w' => e = .returned (.int .i64 (sr : Int)) ∧ Later wx w' := fun wx hF => by
      rw [hsr]
      exact refSets_any _ r _ k a b c d A n cp wx (Nat.le_refl _) hth hsets (HOLD.out wx hF)
    have HSET := Lib.hid hset
    rw [← hsr] at hsets
    obtain ⟨mx, hmx⟩ : ∃ mx, mx = max m N := ⟨_, rfl⟩
    have hmx99 : mx ≤ 99 := by rw [hmx]; omega
    have HMX := Lib.hid hmx
    have HSR := Lib.hid hsr
    have hprod : sr * (mx + 1) ≤ 1000000000 * 100 := Nat.mul_le_mul hsets (by omega)
    obtain ⟨pr, hpr⟩ : ∃ pr, pr = sr * (mx + 1) := ⟨_, rfl⟩
    rw [← hpr] at hprod
    have hpri : (sr : Int) * ((mx : Int) + 1) = (pr : Int) := by rw [hpr]; simp
    have hprI : (pr : Int) ≤ 100000000000 := by omega
    have hprJ : (0 : Int) ≤ (pr : Int) := by omega
    have hw : -9223372036854775808 ≤ (pr : Int) ∧ (pr : Int) ≤ 9223372036854775807 := by omega
    have eN : m < N → mx = N := fun h => by rw [hmx]; omega
    have eM : ¬ m < N → mx = m := fun h => by rw [hmx]; omega
    have hpN : m < N → wrap64 ((sr : Int) * ((N : Int) + 1)) = (pr : Int) := fun h => by rw [← eN h, hpri]; exact IntWalk.wrap64_in _ hw
    have hpM : ¬ m < N → wrap64 ((sr : Int) * ((m : Int) + 1)) = (pr : Int) := fun h => by rw [← eM h, hpri]; exact IntWalk.wrap64_in _ hw
    clear hw eN eM
    have HPN := Lib.hid hpN
    have HPM := Lib.hid hpM
    have HPR := Lib.hid hpr
    clear hpN hpM hpri
    obtain ⟨vg, hvg⟩ : ∃ vg, vg = decide (40000 < pr) := ⟨_, rfl⟩
    have HVG := Lib.hid hvg
    clear hvg
    have HZ := Lib.hid hz
    clear hset hmx hsr hpr hz hmx99
    go_cut [86] (fun s86 wx => s86 = .bool false ∧ RtM w g S (stAt st (q2 + 1)) k a b c d A n cp wx)
    case first =>
      rcases hzc with hz | ⟨hz, rfl⟩
      · have hz2 : ((N : Int) == 0) = false := by rw [beq_eq_false_iff_ne]; omega
        have hz3 : (N == 0) = false := by rw [beq_eq_false_iff_ne]; exact hz
        clear hz
        go_wp2_with fail
        go_meet
        exact ⟨rfl, h4, D3, D4, hF4⟩
      · have hz2 : ((N : Int) == 0) = true := by rw [hz]; rfl
        have hz3 : (N == 0) = true := by rw [hz]; rfl
        clear hz
        go_wp2_with fail
        go_meet
        exact ⟨rfl, h4, D3, D4, hF4⟩
    case rest =>
    clear h4 hF4 D3 D4 b0 b1 b2 b3 b4 b5 hzc
    obtain ⟨rfl, h4, D3, D4, hF4⟩ := hcut
    obtain ⟨b0, b1, b2, b3, b4, b5, -⟩ := cells6 D3
    go_upto_if 86 with (fail)
    go_upto_region 17 with fail
    go_cut [95] (fun s95 wx => s95 = .bool vg ∧ RtM w g S (stAt st (q2 + 1)) k a b c d A n cp wx)
    case first =>
      by_cases hmn : m < N
      all_goals
        first
          | (have hmni : (m : Int) < (N : Int) := by omega
             have hmax : max (m : Int) (N : Int) = (N : Int) := by omega
             have hpw := Lib.hid (HPN.out hmn)
             clear hmn)
          | (have hmni : ¬ (m : Int) < (N : Int) := by omega
             have hmax : max (m : Int) (N : Int) = (m : Int) := by omega
             have hmnd : decide (m < N) = false := decide_eq_false hmn
             have hpw := Lib.hid (HPM.out hmn)
             clear hmn)
        cases vg
        all_goals
          first
            | (have hb : 40000 < pr := by have := HVG.out; simpa using this
               have hbi : (40000 : Int) < (pr : Int) := by omega
               clear hb)
            | (have hb : ¬ 40000 < pr := by have := HVG.out; simpa using this
               have hbi : ¬ (40000 : Int) < (pr : Int) := by omega
               have hbd : decide ((40000 : Int) < (pr : Int)) = false := decide_eq_false hbi
               have hbd2 : decide (40000 < pr) = false := decide_eq_false hb
               clear hb)
          have hpv := hpw.out
          go_wp2_with fail
          refine (HSET.out _ hF4).mono ?_
          rintro e w6 ⟨rfl, hl6⟩
          have h6 := h4.later hl6
          have hF6 := frL hF4 hl6
          have B3 := blkL hl6 D3
          have B4 := blkL hl6 D4
          clear h4 hF4 D3 D4 b0 b1 b2 b3 b4 b5 hl6
          go_wp2_with fail
          go_meet
          exact ⟨rfl, h6, B3, B4, hF6⟩
    case rest =>
    clear h4 hF4 D3 D4 b0 b1 b2 b3 b4 b5 HSET
    obtain ⟨rfl, h6, B3, B4, hF6⟩ := hcut
    cases vg with
    | true =>
      have hbig : 40000 < pr := by have := HVG.out; simpa using this
      have HR4 : Hid (R = (.node (-1) z4 [], stAt st (q2 + 1))) := by show _ = _; rw [HR3.out, if_neg HZ.out, if_pos (by rw [← HSR.out, ← HMX.out, ← HPR.out]; exact hbig)]
      clear HR3 HRN HZ
      obtain ⟨z0, z1, z2, z3, z4, z5, y0, y1, y2, y3, y4, y5⟩ := cells6 B4
      go_wp2_with fail
      refine bodyPost_ret (v := .agg #[.int .i64 (-1), .int .u64 0, .int .u64 0, .int .u64 0, .int .u64 0, .slice none 0 0]) (by simp [results, Tryz.results119, go_sem, z0, z1, z2, z3, z4, z5]) rfl ?_
      exact RetTS.store6 HR4.out (ReC.leaf _ (fun k => lo k ∧ k ≠ w.heap.size + 1) (-1) Proofs.YtmkddhkpeiajhaaGreatDoor.z4 none 0) h6 hF6 rfl B4 (fun h => h.2 rfl) (by omega) (fun k h => h.1)
    | false =>
      have hbig : ¬ 40000 < pr := by have := HVG.out; simpa using this
      have HR4 : Hid (R = (tRow 2 (rCopies r m N ev), stAt st (q2 + 1))) := by show _ = _; rw [HR3.out, if_neg HZ.out, if_neg (by rw [← HSR.out, ← HMX.out, ← HPR.out]; exact hbig)]
      have hmN : ev = false → m ≤ N ∧ 0 < N := fun e => ⟨(HRN.out e).1, by
        rcases Nat.eq_zero_or_pos N with h | h
        · exact absurd ⟨h, e⟩ HZ.out
        · exact h⟩
      have HMN := Lib.hid hmN
      clear HR3 HRN HZ hbig hmN
      go_wp2_with fail
      clear HPR HMX HSR hprod HPN HPM HVG hprI hprJ
      go_loopw [10, 11] (fun s10 s11 wr => RtL1 w g lo S (stAt st (q2 + 1)) r k a b c d A n cp m s10 s11 wr) (fun _ s11 _ => m - (intOf s11).toNat)
      case atStart => exact ⟨0, none, 0, Nat.zero_le _, rfl, rfl, OwnT.nil, h6, B3, B4, hF6⟩
      case round =>
        clear h6 B3 B4 hF6
        obtain ⟨j, Al, cl, hj, rfl, rfl, hO, h6, B3, B4, hF6⟩ := hrel
        obtain ⟨b0, b1, b2, b3, b4, b5, -⟩ := cells6 B3
        have hOl := hO.lt
        have hszw : w.heap.size + 2 ≤ wr.heap.size := by have := B4.lt; omega
        by_cases hlt : j < m
        · have hlti : (j : Int) < (m : Int) := by omega
          have hr1 : ReC wr (fun k => (lo k ∧ k ≠ w.heap.size + 1) ∧ ob Al ≠ some k) r ⟨k, a, b, c, d, A, n, cp⟩ := ReC.weaken (fun k _ h => ⟨⟨h.1, by have := h.2; omega⟩, fun e => by have := (hOl k e).1; have := h.2; omega⟩) _ (HOLD.out wr hF6)
          go_wp2_with (at_builtin; go_loud (refine wpList_append_t _ rfl (.tmp 102) (.tmp 104) rfl (fun k => lo k ∧ k ≠ w.heap.size + 1) (w.heap.size + 2) Al j cl (List.replicate j r) rfl (hO.later ((Later.refl _).alloc _)) r ⟨k, a, b, c, d, A, n, cp⟩ (hr1.later ((Later.refl _).alloc _)) _ _ rfl (reads_t wr ⟨k, a, b, c, d, A, n, cp⟩ _) (by omega) (by simp; omega) ?_); intro A9 n9 c9 w7 hn9 hown9 hg9)
          have K3 := (B3.alloc (.cells #[.int .i64 k, .int .u64 a, .int .u64 b, .int .u64 c, .int .u64 d, .slice A n cp] 98)).grown hg9 (fun e => by have := (hOl _ e.symm).1; omega)
          have K4 := (B4.alloc (.cells #[.int .i64 k, .int .u64 a, .int .u64 b, .int .u64 c, .int .u64 d, .slice A n cp] 98)).grown hg9 (fun e => by have := (hOl _ e.symm).1; omega)
          have K6 : RfC w7 g S (stAt st (q2 + 1)) := Blk.grown (Blk.alloc h6 _) hg9 (fun e => by have := (hOl _ e.symm).1; omega)
          have KF : Fr w w7 (fun k => k = g) := Fr.grown (hF6.alloc _) hg9 (fun k hk e => by have := (hOl _ e).1; omega)
          clear hg9 hOl hr1 b0 b1 b2 b3 b4 b5
          subst hn9
          go_roundw
          case rel => exact ⟨j + 1, A9, c9, by omega, by go_num, rfl, by rw [rep_snoc]; exact hown9, K6, K3, K4, KF⟩
          case measure => simp [intOf]; omega
        · obtain rfl : m = j := by omega
          clear hOl b0 b1 b2 b3 b4 b5 hj
          have hltd : decide (m < m) = false := by simp
          go_wp2_with fail
          go_loopw [10, 12] (fun s10 s12 wr => RtL2 w g lo S (stAt st (q2 + 1)) r k a b c d A n cp m N ev s10 s12 wr) (fun _ s12 _ => N - (intOf s12).toNat)
          case atStart => exact ⟨m, Al, cl, Nat.le_refl _, fun e => (HMN.out e).1, fun _ => rfl, rfl, rfl, by rw [Nat.sub_self]; simpa using hO, h6, B3, B4, hF6⟩
          case round =>
            clear hO h6 B3 B4 hF6 hszw hltd hlt
            obtain ⟨j, Al, cl, hmj, hjN, hjm, rfl, rfl, hO, h6, B3, B4, hF6⟩ := hrel
            obtain ⟨b0, b1, b2, b3, b4, b5, -⟩ := cells6 B3
            have hOl := hO.lt
            have hszw : w.heap.size + 2 ≤ wr.heap.size := by have := B4.lt; omega
            cases ev with
            | false =>
              have hjN := hjN rfl
              clear hjm
              by_cases hlt : j < N
              · have hlti : (j : Int) < (N : Int) := by omega
                have hr0 : ReC wr (fun k => (lo k ∧ k ≠ w.heap.size + 1) ∧ ob Al ≠ some k) r ⟨k, a, b, c, d, A, n, cp⟩ := ReC.weaken (fun k _ h => ⟨⟨h.1, by have := h.2; omega⟩, fun e => by have := (hOl k e).1; have := h.2; omega⟩) _ (HOLD.out wr hF6)
                have hup : Up wr (fun k => (lo k ∧ k ≠ w.heap.size + 1) ∧ ob Al ≠ some k) := fun k hk => ⟨⟨HLO.out k (by omega), by omega⟩, fun e => by have := (hOl k e).2; omega⟩
                have hr1 := ReC.one 6 hr0 hup
                have hsn : List.replicate m r ++ List.replicate (j + 1 - m) (.node 6 z4 [r]) = (List.replicate m r ++ List.replicate (j - m) (.node 6 z4 [r])) ++ [.node 6 z4 [r]] := by
                  rw [show j + 1 - m = (j - m) + 1 by omega, rep_snoc, List.append_assoc]
                have HSN := Lib.hid hsn
                clear hsn
                have hrd : Reads ((wr.alloc (.cells #[.int .i64 k, .int .u64 a, .int .u64 b, .int .u64 c, .int .u64 d, .slice A n cp] 98)).alloc (.cells #[.int .i64 6, .int .u64 0, .int .u64 0, .int .u64 0, .int .u64 0, .slice (some ⟨wr.heap.size, 0, none⟩) 1 1] 98)) (wr.heap.size + 2) 6 (some ⟨wr.heap.size + 1, 0, none⟩) 1 (reL ⟨6, 0, 0, 0, 0, some ⟨wr.heap.size, 0, none⟩, 1, 1⟩) := by
                  have hh := reads_t (wr.alloc (.cells #[.int .i64 k, .int .u64 a, .int .u64 b, .int .u64 c, .int .u64 d, .slice A n cp] 98)) ⟨6, 0, 0, 0, 0, some ⟨wr.heap.size, 0, none⟩, 1, 1⟩ 98
                  simp only [World.size_alloc] at hh
                  exact hh
                have hO2 := hO.later (((Later.refl wr).alloc (.cells #[.int .i64 k, .int .u64 a, .int .u64 b, .int .u64 c, .int .u64 d, .slice A n cp] 98)).alloc (.cells #[.int .i64 6, .int .u64 0, .int .u64 0, .int .u64 0, .int .u64 0, .slice (some ⟨wr.heap.size, 0, none⟩) 1 1] 98))
                have hr2 := hr1.later ((Later.refl (wr.alloc (.cells #[.int .i64 k, .int .u64 a, .int .u64 b, .int .u64 c, .int .u64 d, .slice A n cp] 98))).alloc (.cells #[.int .i64 6, .int .u64 0, .int .u64 0, .int .u64 0, .int .u64 0, .slice (some ⟨wr.heap.size, 0, none⟩) 1 1] 98))
                go_wp2_with (at_builtin; go_loud (refine wpList_append_t _ rfl (.tmp 116) (.tmp 120) rfl (fun k => lo k ∧ k ≠ w.heap.size + 1) (w.heap.size + 2) Al j cl (List.replicate m r ++ List.replicate (j - m) (.node 6 Proofs.YtmkddhkpeiajhaaGreatDoor.z4 [r])) rfl hO2 (.node 6 Proofs.YtmkddhkpeiajhaaGreatDoor.z4 [r]) ⟨6, 0, 0, 0, 0, some ⟨wr.heap.size, 0, none⟩, 1, 1⟩ hr2 _ _ rfl hrd (by omega) (by simp; omega) ?_); intro A9 n9 c9 w7 hn9 hown9 hg9)
                have K3 := ((B3.alloc (.cells #[.int .i64 k, .int .u64 a, .int .u64 b, .int .u64 c, .int .u64 d, .slice A n cp] 98)).alloc (.cells #[.int .i64 6, .int .u64 0, .int .u64 0, .int .u64 0, .int .u64 0, .slice (some ⟨wr.heap.size, 0, none⟩) 1 1] 98)).grown hg9 (fun e => by have := (hOl _ e.symm).1; omega)
                have K4 := ((B4.alloc (.cells #[.int .i64 k, .int .u64 a, .int .u64 b, .int .u64 c, .int .u64 d, .slice A n cp] 98)).alloc (.cells #[.int .i64 6, .int .u64 0, .int .u64 0, .int .u64 0, .int .u64 0, .slice (some ⟨wr.heap.size, 0, none⟩) 1 1] 98)).grown hg9 (fun e => by have := (hOl _ e.symm).1; omega)
                have K6 : RfC w7 g S (stAt st (q2 + 1)) := Blk.grown (Blk.alloc (Blk.alloc h6 _) _) hg9 (fun e => by have := (hOl _ e.symm).1; omega)
                have KF : Fr w w7 (fun k => k = g) := Fr.grown ((hF6.alloc _).alloc _) hg9 (fun k hk e => by have := (hOl _ e).1; omega)
                clear hg9 hOl hr1 hr0 hup b0 b1 b2 b3 b4 b5 hrd hO2 hr2
                subst hn9
                go_roundw
                case rel => exact ⟨j + 1, A9, c9, by omega, fun _ => by omega, fun e => (by cases e), by go_num, rfl, by rw [HSN.out]; exact hown9, K6, K3, K4, KF⟩
                case measure => simp [intOf]; omega
              · obtain rfl : N = j := by omega
                have hNd : decide (N < N) = false := by simp
                have hcp : rCopies r m N false = List.replicate m r ++ List.replicate (N - m) (.node 6 z4 [r]) := rfl
                have hrd := hO.rd
                have hNp := (HMN.out rfl).2
                have hup : Up wr (fun k => lo k ∧ k ≠ w.heap.size + 1) := fun k hk => ⟨HLO.out k (by omega), by omega⟩
                have hrow := rowT_any (fun k => lo k ∧ k ≠ w.heap.size + 1) 2 Al N cl _ wr hrd hNp (by omega) hup
                rw [← hcp] at hrow
                have HROW := Lib.hid hrow
                clear hrow hcp hO hrd hup hOl b0 b1 b2 b3 b4 b5
                go_wp2_with fail
                refine HROW.out.mono ?_
                rintro e w8 ⟨k8, a8, b8, c8, d8, A8, n8, cp8, rfl, hC8, hl8⟩
                have h8 := h6.later hl8
                have hF8 := frL hF6 hl8
                have D4 := blkL hl8 B4
                clear h6 hF6 B3 B4 hl8
                obtain ⟨z0, z1, z2, z3, z4, z5, y0, y1, y2, y3, y4, y5⟩ := cells6 D4
                go_wp2_with fail
                refine bodyPost_ret (v := .agg #[.int .i64 k8, .int .u64 a8, .int .u64 b8, .int .u64 c8, .int .u64 d8, .slice A8 n8 cp8]) (by simp [results, Tryz.results119, go_sem, z0, z1, z2, z3, z4, z5]) rfl ?_
                exact RetTS.store6 HR4.out (hC8) h8 hF8 rfl D4 (fun h => h.2 rfl) (by omega) (fun k h => h.1)
            | true =>
              have hjm := hjm rfl
              subst hjm
              have hr0 : ReC wr (fun k => (lo k ∧ k ≠ w.heap.size + 1) ∧ ob Al ≠ some k) r ⟨k, a, b, c, d, A, n, cp⟩ := ReC.weaken (fun k _ h => ⟨⟨h.1, by have := h.2; omega⟩, fun e => by have := (hOl k e).1; have := h.2; omega⟩) _ (HOLD.out wr hF6)
              have hup : Up wr (fun k => (lo k ∧ k ≠ w.heap.size + 1) ∧ ob Al ≠ some k) := fun k hk => ⟨⟨HLO.out k (by omega), by omega⟩, fun e => by have := (hOl k e).2; omega⟩
              have hr1 := ReC.one 4 hr0 hup
              have hsn : List.replicate j r ++ List.replicate (j - j) (.node 6 z4 [r]) = List.replicate j r := by rw [Nat.sub_self]; simp
              rw [hsn] at hO
              have hcp : rCopies r j N true = List.replicate j r ++ [.node 4 z4 [r]] := rfl
              have HCP := Lib.hid hcp
              clear hsn hcp hjN hmj
              by_cases hlt : j < N
              all_goals
                first
                  | (have hlti : (j : Int) < (N : Int) := by omega
                     clear hlt)
                  | (have hlti : ¬ (j : Int) < (N : Int) := by omega
                     have hltd : decide (j < N) = false := decide_eq_false hlt
                     clear hlt)
                have hrd : Reads ((wr.alloc (.cells #[.int .i64 k, .int .u64 a, .int .u64 b, .int .u64 c, .int .u64 d, .slice A n cp] 98)).alloc (.cells #[.int .i64 4, .int .u64 0, .int .u64 0, .int .u64 0, .int .u64 0, .slice (some ⟨wr.heap.size, 0, none⟩) 1 1] 98)) (wr.heap.size + 2) 6 (some ⟨wr.heap.size + 1, 0, none⟩) 1 (reL ⟨4, 0, 0, 0, 0, some ⟨wr.heap.size, 0, none⟩, 1, 1⟩) := by
                  have hh := reads_t (wr.alloc (.cells #[.int .i64 k, .int .u64 a, .int .u64 b, .int .u64 c, .int .u64 d, .slice A n cp] 98)) ⟨4, 0, 0, 0, 0, some ⟨wr.heap.size, 0, none⟩, 1, 1⟩ 98
                  simp only [World.size_alloc] at hh
                  exact hh
                have hO2 := hO.later (((Later.refl wr).alloc (.cells #[.int .i64 k, .int .u64 a, .int .u64 b, .int .u64 c, .int .u64 d, .slice A n cp] 98)).alloc (.cells #[.int .i64 4, .int .u64 0, .int .u64 0, .int .u64 0, .int .u64 0, .slice (some ⟨wr.heap.size, 0, none⟩) 1 1] 98))
                have hr2 := hr1.later ((Later.refl (wr.alloc (.cells #[.int .i64 k, .int .u64 a, .int .u64 b, .int .u64 c, .int .u64 d, .slice A n cp] 98))).alloc (.cells #[.int .i64 4, .int .u64 0, .int .u64 0, .int .u64 0, .int .u64 0, .slice (some ⟨wr.heap.size, 0, none⟩) 1 1] 98))
                go_wp2_with (at_builtin; go_loud (refine wpList_append_t _ rfl (.tmp 123) (.tmp 127) rfl (fun k => lo k ∧ k ≠ w.heap.size + 1) (w.heap.size + 2) Al j cl (List.replicate j r) rfl hO2 (.node 4 Proofs.YtmkddhkpeiajhaaGreatDoor.z4 [r]) ⟨4, 0, 0, 0, 0, some ⟨wr.heap.size, 0, none⟩, 1, 1⟩ hr2 _ _ rfl hrd (by omega) (by simp; omega) ?_); intro A9 n9 c9 w7 hn9 hown9 hg9)
                have K4 := ((B4.alloc (.cells #[.int .i64 k, .int .u64 a, .int .u64 b, .int .u64 c, .int .u64 d, .slice A n cp] 98)).alloc (.cells #[.int .i64 4, .int .u64 0, .int .u64 0, .int .u64 0, .int .u64 0, .slice (some ⟨wr.heap.size, 0, none⟩) 1 1] 98)).grown hg9 (fun e => by have := (hOl _ e.symm).1; omega)
                have K6 : RfC w7 g S (stAt st (q2 + 1)) := Blk.grown (Blk.alloc (Blk.alloc h6 _) _) hg9 (fun e => by have := (hOl _ e.symm).1; omega)
                have KF : Fr w w7 (fun k => k = g) := Fr.grown ((hF6.alloc _).alloc _) hg9 (fun k hk e => by have := (hOl _ e).1; omega)
                have hrow : Calls Tryz.prog 89 #[.int .i64 2, .slice A9 n9 c9] w7 (RetT w7 (fun k => lo k ∧ k ≠ w.heap.size + 1) (tRow 2 (rCopies r j N true))) := by
                  rw [HCP.out]
                  exact rowT_any (fun k => lo k ∧ k ≠ w.heap.size + 1) 2 A9 n9 c9 _ w7 hown9.rd (by omega) (by omega) (fun k hk => ⟨HLO.out k (by have := K4.lt; omega), by have := K4.lt; omega⟩)
                have HROW := Lib.hid hrow
                clear hg9 hOl hr1 hr0 hup b0 b1 b2 b3 b4 b5 hrow hown9 hO h6 hF6 B3 B4 hrd hO2 hr2
                subst hn9
                refine HROW.out.mono ?_
                rintro e w8 ⟨k8, a8, b8, c8, d8, A8, n8, cp8, rfl, hC8, hl8⟩
                have h8 := K6.later hl8
                have hF8 := frL KF hl8
                have D4 := blkL hl8 K4
                clear K6 KF K4 hl8
                obtain ⟨z0, z1, z2, z3, z4, z5, y0, y1, y2, y3, y4, y5⟩ := cells6 D4
                go_wp2_with fail
                refine bodyPost_ret (v := .agg #[.int .i64 k8, .int .u64 a8, .int .u64 b8, .int .u64 c8, .int .u64 d8, .slice A8 n8 cp8]) (by simp [results, Tryz.results119, go_sem, z0, z1, z2, z3, z4, z5]) rfl ?_
                exact RetTS.store6 HR4.out (hC8) h8 hF8 rfl D4 (fun h => h.2 rfl) (by omega) (fun k h => h.1)
end Go.Proofs.YtmkddhkpeiajhaaGreatDoor
namespace Go.Proofs.YtmkddhkpeiajhaaGreatDoor
open Go.RowKit
def RdfC (f : FuncId) (S : ByteArray) (d : Nat) (G : St → Tree × St) : Prop := ∀ (lo : Nat → Prop) (g : Nat) (st : St) (w : World), RfC w g S st → Dom S.data.toList d st → Up w lo →
  Calls Tryz.prog f #[.pointer (some ⟨g, 0, none⟩)] w (RetTS w g lo S (G st))
theorem rsigns_bad (s : List UInt8) (f : Nat) (p : Tree) (st : St) (h : st.bad ≠ 0) : rSigns s f p st = (p, st) := by
  cases f with
  | zero => rfl
  | succ f => rw [rSigns, if_neg h]
theorem rsigns_end (s : List UInt8) (f : Nat) (p : Tree) (st : St) (h : s[st.at_]? = none) : rSigns s f p st = (p, st) := by
  cases f with
  | zero => rfl
  | succ f =>
    rw [rSigns]
    have : ∀ c, isAt s st.at_ c = false := fun c => by unfold isAt; rw [h]
    simp only [this, Bool.false_eq_true, if_false, ite_self]
theorem rsigns_other (s : List UInt8) (f : Nat) (p : Tree) (st : St) (x : UInt8) (h : s[st.at_]? = some x) (h1 : x.toNat ≠ 42) (h2 : x.toNat ≠ 43) (h3 : x.toNat ≠ 63) (h4 : x.toNat ≠ 123) : rSigns s f p st = (p, st) := by
  cases f with
  | zero => rfl
  | succ f =>
    rw [rSigns]
    simp only [isAt_c h, beq_iff_eq, h1, h2, h3, h4, if_false, ite_self]
theorem rsigns_42 (s : List UInt8) (f : Nat) (p : Tree) (st : St) (x : UInt8) (h : s[st.at_]? = some x) (hx : x.toNat = 42) (hb : st.bad = 0) : rSigns s (f + 1) p st = rSigns s f (.node 4 z4 [p]) (stAt st (st.at_ + 1)) := by
  rw [rSigns]
  simp only [isAt_c h, hx, hb, beq_iff_eq, ↓reduceIte]
theorem rsigns_43 (s : List UInt8) (f : Nat) (p : Tree) (st : St) (x : UInt8) (h : s[st.at_]? = some x) (hx : x.toNat = 43) (hb : st.bad = 0) : rSigns s (f + 1) p st = rSigns s f (.node 5 z4 [p]) (stAt st (st.at_ + 1)) := by
  rw [rSigns]
  simp only [isAt_c h, hx, hb, beq_iff_eq, ↓reduceIte, show ¬ (43 : Nat) = 42 by decide]
theorem rsigns_63 (s : List UInt8) (f : Nat) (p : Tree) (st : St) (x : UInt8) (h : s[st.at_]? = some x) (hx : x.toNat = 63) (hb : st.bad = 0) : rSigns s (f + 1) p st = rSigns s f (.node 6 z4 [p]) (stAt st (st.at_ + 1)) := by
  rw [rSigns]
  simp only [isAt_c h, hx, hb, beq_iff_eq, ↓reduceIte, show ¬ (63 : Nat) = 42 by decide, show ¬ (63 : Nat) = 43 by decide]
theorem rsigns_123 (s : List UInt8) (f : Nat) (p : Tree) (st : St) (x : UInt8) (h : s[st.at_]? = some x) (hx : x.toNat = 123) (hb : st.bad = 0) : rSigns s (f + 1) p st = rSigns s f (rTimes s p st).1 (rTimes s p st).2 := by
  rw [rSigns]
  simp only [isAt_c h, hx, hb, beq_iff_eq, ↓reduceIte, show ¬ (123 : Nat) = 42 by decide, show ¬ (123 : Nat) = 43 by decide, show ¬ (123 : Nat) = 63 by decide]
def PieceTAt (w : World) (b3 g : Nat) (lo : Nat → Prop) (S : ByteArray) (Rv : Tree × St) (wr : World) : Prop :=
  ∃ (p : Tree) (st : St) (f : Nat) (k a b c d : Int) (A : Option Addr) (n cp : Nat), Hid (rSigns S.data.toList f p st = Rv) ∧ thinT p ∧ (st.bad = 0 → S.size + 1 ≤ f + st.at_ ∧ setsR p ≤ 40000 * st.at_) ∧ st.at_ ≤ S.size + 100 ∧ RfC wr g S st ∧
    ReC wr (fun k => lo k ∧ k ≠ w.heap.size ∧ k ≠ b3) p ⟨k, a, b, c, d, A, n, cp⟩ ∧ Blk wr b3 98 #[.int .i64 k, .int .u64 a, .int .u64 b, .int .u64 c, .int .u64 d, .slice A n cp] ∧ Blk wr w.heap.size 98 #[.int .i64 0, .int .u64 0, .int .u64 0, .int .u64 0, .int .u64 0, .slice none 0 0] ∧ Fr w wr (fun k => k = g)
theorem three_ways {lo : Nat → Prop} {w wr : World} {b3 : Nat} (h : Up w lo) (h1 : w.heap.size < wr.heap.size) (h3 : b3 < wr.heap.size) : Up wr (fun k => lo k ∧ k ≠ w.heap.size ∧ k ≠ b3) := fun k hk => ⟨h k (by omega), by omega, by omega⟩
theorem meas_lt {S : ByteArray} {x : Nat} {st1 st2 : St} (h : x = st2.at_) (h1 : st1.at_ < st2.at_) (h2 : st2.at_ ≤ S.size + 100) : S.size + 200 - x < S.size + 200 - st1.at_ := by omega
set_option maxRecDepth 100000 in
set_option maxHeartbeats 16000000 in
theorem pieceT_any (S : ByteArray) (d : Nat) (hd : d ≤ 11) (hs : S.size ≤ 20000) (hatom : RdfC 118 S (d + 1) (rAtom S.data.toList (rAlt S.data.toList d))) : RdfC 103 S (d + 1) (rPiece S.data.toList (rAlt S.data.toList d)) := by
  intro lo g st w h hD hlo
  obtain ⟨R, hR⟩ : ∃ R, R = rPiece S.data.toList (rAlt S.data.toList d) st := ⟨_, rfl⟩
  rw [← hR]
  have hres := ratom_res S.data.toList d (6 + d) (by omega) _ (ralt_res S.data.toList d) st hD
  have hth0 := thin_atom S.data.toList _ (thin_alt S.data.toList d) st
  obtain ⟨p0, st0, hat⟩ : ∃ p0 st0, rAtom S.data.toList (rAlt S.data.toList d) st = (p0, st0) := ⟨_, _, rfl⟩
  rw [hat] at hres hth0
  have hb0 : st0.at_ ≤ S.data.toList.length + (6 + d + 1) := hres.bd
  have hg0 : st0.bad = 0 → setsR p0 ≤ 40000 * st0.at_ := fun hb => by
    have h4 : setsR p0 ≤ 40000 * (st0.at_ - st.at_) := (hres.good hb).2.2.2
    omega
  rw [len_eq] at hb0
  have HR : Hid (rSigns S.data.toList (S.size + 2) p0 st0 = R) := by
    show _ = _
    rw [hR]
    unfold rPiece
    rw [hat, len_eq]
  have HD := Lib.hid hD
  have HAT := Lib.hid hat
  have HLO := Lib.hid hlo
  have hgw := h.lt
  clear hR hD hres hat
  go_enter Tryz.func103, Tryz.ntmps103
  go_upto_region 1 with fail
  obtain ⟨W0, hW0⟩ : ∃ W0, W0 = w.alloc (.cells #[.int .i64 0, .int .u64 0, .int .u64 0, .int .u64 0, .int .u64 0, .slice none 0 0] 98) := ⟨_, rfl⟩
  have B4 : Blk W0 w.heap.size 98 #[.int .i64 0, .int .u64 0, .int .u64 0, .int .u64 0, .int .u64 0, .slice none 0 0] := by rw [hW0]; exact Blk.new w _ _
  have hl0 : Later w W0 := by rw [hW0]; exact (Later.refl w).alloc _
  have h0 := h.later hl0
  have hF0 : Fr w W0 (fun k => k = g) := Fr.later hl0
  have ne4 : w.heap.size ≠ g := by have := h.lt; omega
  rw [← hW0]
  clear hW0 hl0 h
  go_wp2_with fail
  refine (hatom (fun k => lo k ∧ k ≠ w.heap.size) g st _ h0 HD.out (fun k hk => ⟨HLO.out k (by have := B4.lt; omega), by have := B4.lt; omega⟩)).mono ?_
  rw [HAT.out]
  rintro e w2 ⟨k, a, b, c, d', A, n, cp, rfl, hC, h2, hF2⟩
  have hF3 := frF hF0 hF2
  have D4 := blkF hF2 ne4 B4
  clear B4 hF0 h0 hF2
  go_wp2_with fail
  obtain ⟨W3, hW3⟩ : ∃ W3, W3 = w2.alloc (.cells #[.int .i64 k, .int .u64 a, .int .u64 b, .int .u64 c, .int .u64 d', .slice A n cp] 98) := ⟨_, rfl⟩
  have B5 : Blk W3 w2.heap.size 98 #[.int .i64 k, .int .u64 a, .int .u64 b, .int .u64 c, .int .u64 d', .slice A n cp] := by rw [hW3]; exact Blk.new w2 _ _
  have hl3 : Later w2 W3 := by rw [hW3]; exact (Later.refl w2).alloc _
  have ne5 : w2.heap.size ≠ g := by have := h2.lt; omega
  have ne45 : w.heap.size ≠ w2.heap.size := by have := D4.lt; omega
  have hle5 : w.heap.size ≤ w2.heap.size := by have := D4.lt; omega
  have h3 := h2.later hl3
  have B4 := blkL hl3 D4
  have hF4 := frL hF3 hl3
  have hC3 : ReC W3 (fun k => lo k ∧ k ≠ w.heap.size ∧ k ≠ w2.heap.size) p0 ⟨k, a, b, c, d', A, n, cp⟩ := (ReC.weaken (fun k hk h => ⟨h.1, h.2, by omega⟩) _ hC).later hl3
  rw [← hW3]
  clear hW3 hl3 h2 D4 hF3 hC
  obtain ⟨b3, hb3⟩ : ∃ b3, b3 = w2.heap.size := ⟨_, rfl⟩
  rw [← hb3] at B5 ne5 ne45 hle5 hC3 ⊢
  clear hb3
  go_loopw [] (fun wr => PieceTAt w b3 g lo S R wr) (fun wr => S.size + 200 - atF wr g)
  case atStart => exact ⟨p0, st0, S.size + 2, k, a, b, c, d', A, n, cp, HR, hth0, fun hb => ⟨by omega, hg0 hb⟩, by omega, h3, hC3, B5, B4, hF4⟩
  case round =>
    clear hg0 hb0 HR HAT HD hC3 B5 B4 hF4 h3 hth0
    obtain ⟨p, st1, f, k, a, b, c, d, A, n, cp, HO, hth, hfu, hat, h1, hC, B5, B4, hF⟩ := hrel
    have HM : Hid (atF wr g = st1.at_) := h1.atF
    have hati : (st1.at_ : Int) ≤ 100000 := by omega
    have k0 : ∀ x : LW wr, x.val.cell? ⟨g, 0, none⟩ = some (.string S) := LW.cell_ h1.c0
    have k1 : ∀ x : LW wr, x.val.cell? ⟨g, 1, none⟩ = some (.int .i64 (st1.at_ : Int)) := LW.cell_ h1.c1
    have k3 : ∀ x : LW wr, x.val.cell? ⟨g, 3, none⟩ = some (.int .i64 (st1.bad : Int)) := LW.cell_ h1.c3
    by_cases hb : st1.bad = 0
    · have hbi : ((st1.bad : Int) == 0) = true := by rw [hb]; rfl
      have hbn : (st1.bad == 0) = true := by rw [hb]; rfl
      obtain ⟨hfu, hst1⟩ := hfu hb
      have HB := Lib.hid hb
      clear hb
      cases hx : S.data.toList[st1.at_]? with
      | none =>
        have hle := str_none S _ hx
        have hled : decide (st1.at_ < S.size) = false := by simp; omega
        have HR2 : Hid (R = (p, st1)) := by show _ = _; rw [← HO.out, rsigns_end _ _ _ _ hx]
        clear hx HO
        go_wp2_with fail
        refine wp_region_laterq (by kernel_rfl) (by kernel_rfl) ?_
        repeat (go_big_quiet_step (fail))
        refine wpQuiet_nil ?_
        intro _ hwq
        obtain ⟨xz, rfl⟩ := hwq
        have h1 := h1.later xz.later
        have hC := hC.later xz.later
        have B5 := blkL xz.later B5
        have B4 := blkL xz.later B4
        have hF := frL hF xz.later
        clear k0 k1 k3
        obtain ⟨wq, hwq⟩ : ∃ wq, wq = xz.val := ⟨_, rfl⟩
        rw [← hwq] at h1 hC B5 B4 hF ⊢
        clear hwq xz
        obtain ⟨u0, u1, u2, u3, u4, u5, -⟩ := cells6 B5
        obtain ⟨z0, z1, z2, z3, z4, z5, y0, y1, y2, y3, y4, y5⟩ := cells6 B4
        go_wp2_with fail
        refine bodyPost_ret (v := .agg #[.int .i64 k, .int .u64 a, .int .u64 b, .int .u64 c, .int .u64 d, .slice A n cp]) (by simp [results, Tryz.results103, go_sem, z0, z1, z2, z3, z4, z5]) rfl ?_
        exact RetTS.store6 HR2.out hC h1 hF rfl B4 (fun h => h.2.1 rfl) (Nat.le_refl _) (fun k h => h.1)
      | some x =>
        obtain ⟨hi, he⟩ := str_get S _ x hx
        have hi1 : (st1.at_ : Int) < (S.size : Int) := by omega
        have hx1 := x.toNat_lt
        have HX := Lib.hid hx
        obtain ⟨xn, hxn⟩ : ∃ xn, xn = x.toNat := ⟨_, rfl⟩
        have hei : (S[st1.at_].toNat : Int) = (xn : Int) := by rw [he, hxn]
        rw [← hxn] at hx1
        have HXN := Lib.hid hxn
        clear hx he hxn
        go_wp2_with fail
        refine wp_region_laterq (by kernel_rfl) (by kernel_rfl) ?_
        repeat (go_big_quiet_step (fail))
        refine wpQuiet_nil ?_
        intro _ hwq
        obtain ⟨xz, rfl⟩ := hwq
        have h1 := h1.later xz.later
        have hC := hC.later xz.later
        have B5 := blkL xz.later B5
        have B4 := blkL xz.later B4
        have hF := frL hF xz.later
        clear k0 k1 k3
        obtain ⟨wq, hwq⟩ : ∃ wq, wq = xz.val := ⟨_, rfl⟩
        rw [← hwq] at h1 hC B5 B4 hF ⊢
        clear hwq xz
        have k0 : ∀ x : LW wq, x.val.cell? ⟨g, 0, none⟩ = some (.string S) := LW.cell_ h1.c0
        have k1 : ∀ x : LW wq, x.val.cell? ⟨g, 1, none⟩ = some (.int .i64 (st1.at_ : Int)) := LW.cell_ h1.c1
        have k3 : ∀ x : LW wq, x.val.cell? ⟨g, 3, none⟩ = some (.int .i64 (st1.bad : Int)) := LW.cell_ h1.c3
        go_wp2_with fail
        refine wp_region_laterq (by kernel_rfl) (by kernel_rfl) ?_
        repeat (go_big_quiet_step (fail))
        refine wpQuiet_nil ?_
        intro _ hwq
        obtain ⟨xz, rfl⟩ := hwq
        have h1 := h1.later xz.later
        have hC := hC.later xz.later
        have B5 := blkL xz.later B5
        have B4 := blkL xz.later B4
        have hF := frL hF xz.later
        clear k0 k1 k3
        obtain ⟨wq, hwq⟩ : ∃ wq, wq = xz.val := ⟨_, rfl⟩
        rw [← hwq] at h1 hC B5 B4 hF ⊢
        clear hwq xz
        have hcase : xn = 42 ∨ xn = 43 ∨ xn = 63 ∨ xn = 123 ∨ (xn ≠ 42 ∧ xn ≠ 43 ∧ xn ≠ 63 ∧ xn ≠ 123) := by omega
        rcases hcase with hx | hx | hx | hx | hx
        · have hx : x.toNat = 42 := by rw [← HXN.out]; exact hx
          have hxi : (xn : Int) = 42 := by have := HXN.out; omega
          obtain ⟨f, rfl⟩ : ∃ f', f = f' + 1 := ⟨f - 1, by omega⟩
          have HO2 : Hid (rSigns S.data.toList f (.node 4 Proofs.YtmkddhkpeiajhaaGreatDoor.z4 [p]) (stAt st1 (st1.at_ + 1)) = R) := by show _ = _; rw [← HO.out, rsigns_42 _ _ _ _ x HX.out hx HB.out]
          have hst : setsR (.node 4 Proofs.YtmkddhkpeiajhaaGreatDoor.z4 [p]) ≤ 40000 * (st1.at_ + 1) := by rw [setsR_one]; omega
          have HST := Lib.hid hst
          have HTH := Lib.hid (thin1 4 Proofs.YtmkddhkpeiajhaaGreatDoor.z4 hth)
          have hup := three_ways HLO.out (wr := wq) B4.lt B5.lt
          have hK := ReC.one 4 hC hup
          have D5 := B5.alloc (.cells #[.int .i64 k, .int .u64 a, .int .u64 b, .int .u64 c, .int .u64 d, .slice A n cp] 98)
          have D4 := B4.alloc (.cells #[.int .i64 k, .int .u64 a, .int .u64 b, .int .u64 c, .int .u64 d, .slice A n cp] 98)
          have e1 : RfC (wq.alloc (.cells #[.int .i64 k, .int .u64 a, .int .u64 b, .int .u64 c, .int .u64 d, .slice A n cp] 98)) g S st1 := Blk.alloc h1 _
          have eF : Fr w (wq.alloc (.cells #[.int .i64 k, .int .u64 a, .int .u64 b, .int .u64 c, .int .u64 d, .slice A n cp] 98)) (fun k => k = g) := hF.alloc _
          obtain ⟨u0, u1, u2, u3, u4, u5, -⟩ := cells6 B5
          obtain ⟨z0, z1, z2, z3, z4, z5, y0, y1, y2, y3, y4, y5⟩ := cells6 D5
          obtain ⟨gn, hgn⟩ : ∃ gn, gn = wq.heap.size := ⟨_, rfl⟩
          rw [← hgn] at hK
          have HGN := Lib.hid hgn
          obtain ⟨W7, hW7⟩ : ∃ W7, W7 = wq.alloc (.cells #[.int .i64 k, .int .u64 a, .int .u64 b, .int .u64 c, .int .u64 d, .slice A n cp] 98) := ⟨_, rfl⟩
          rw [← hW7] at hK D5 D4 e1 eF
          have HW7 := Lib.hid hW7
          have c1 := e1.c1
          have f1 := e1.f 1
          rw [hW7] at c1 f1
          clear HO HX hx hst hup hC B5 B4 h1 hF hgn hW7 hth
          go_wp2_with fail
          rw [← HW7.out, ← HGN.out]
          have hf6 := Fr.set6 (w := W7) b3 (.int .i64 4) (.int .u64 0) (.int .u64 0) (.int .u64 0) (.int .u64 0) (.slice (some ⟨gn, 0, none⟩) 1 1)
          have e2 : RfC (set6 W7 b3 (.int .i64 4) (.int .u64 0) (.int .u64 0) (.int .u64 0) (.int .u64 0) (.slice (some ⟨gn, 0, none⟩) 1 1)) g S st1 := Blk.fr e1 hf6 (fun e => ne5 e.symm)
          have e3 := e2.setAt (st1.at_ + 1) ((st1.at_ : Int) + 1) (by omega)
          have HM2 := e3.atF
          have hf7 := Fr.set6 (w := W7) b3 (.int .i64 4) (.int .u64 0) (.int .u64 0) (.int .u64 0) (.int .u64 0) (.slice (some ⟨gn, 0, none⟩) 1 1)
          have G5 : Blk _ b3 _ _ := (D5.set6 (x0 := .int .i64 4) (x1 := .int .u64 0) (x2 := .int .u64 0) (x3 := .int .u64 0) (x4 := .int .u64 0) (x5 := .slice (some ⟨gn, 0, none⟩) 1 1)).far (p := ⟨g, 1, none⟩) ne5 (.int .i64 ((st1.at_ : Int) + 1))
          have G4 : Blk _ w.heap.size _ _ := (Blk.fr D4 hf6 ne45).far (p := ⟨g, 1, none⟩) ne4 (.int .i64 ((st1.at_ : Int) + 1))
          have GF : Fr w _ (fun k => k = g) := frG (i := 1) (Fr.trans eF hf6 (fun k hk e => by omega)) (.int .i64 ((st1.at_ : Int) + 1))
          have GC := ReC.fr (frG (i := 1) (Fr.refl (set6 W7 b3 (.int .i64 4) (.int .u64 0) (.int .u64 0) (.int .u64 0) (.int .u64 0) (.slice (some ⟨gn, 0, none⟩) 1 1)) (fun k => k = g)) (.int .i64 ((st1.at_ : Int) + 1))) (e2.spares _) _ (ReC.fr hf6 (spares_not _ (fun h => h.2.2 rfl)) _ hK)
          go_roundw
          case rel => exact ⟨.node 4 Proofs.YtmkddhkpeiajhaaGreatDoor.z4 [p], stAt st1 (st1.at_ + 1), f, 4, 0, 0, 0, 0, some ⟨gn, 0, none⟩, 1, 1, HO2, HTH.out, fun _ => ⟨by show S.size + 1 ≤ f + (st1.at_ + 1); omega, HST.out⟩, by show st1.at_ + 1 ≤ _; omega, e3, GC, G5, G4, GF⟩
          case measure => rw [HM.out]; exact meas_lt HM2 (by show st1.at_ < st1.at_ + 1; omega) (by show st1.at_ + 1 ≤ _; omega)
        · have hx : x.toNat = 43 := by rw [← HXN.out]; exact hx
          have hxi : (xn : Int) = 43 := by have := HXN.out; omega
          obtain ⟨f, rfl⟩ : ∃ f', f = f' + 1 := ⟨f - 1, by omega⟩
          have HO2 : Hid (rSigns S.data.toList f (.node 5 Proofs.YtmkddhkpeiajhaaGreatDoor.z4 [p]) (stAt st1 (st1.at_ + 1)) = R) := by show _ = _; rw [← HO.out, rsigns_43 _ _ _ _ x HX.out hx HB.out]
          have hst : setsR (.node 5 Proofs.YtmkddhkpeiajhaaGreatDoor.z4 [p]) ≤ 40000 * (st1.at_ + 1) := by rw [setsR_one]; omega
          have HST := Lib.hid hst
          have HTH := Lib.hid (thin1 5 Proofs.YtmkddhkpeiajhaaGreatDoor.z4 hth)
          have hup := three_ways HLO.out (wr := wq) B4.lt B5.lt
          have hK := ReC.one 5 hC hup
          have D5 := B5.alloc (.cells #[.int .i64 k, .int .u64 a, .int .u64 b, .int .u64 c, .int .u64 d, .slice A n cp] 98)
          have D4 := B4.alloc (.cells #[.int .i64 k, .int .u64 a, .int .u64 b, .int .u64 c, .int .u64 d, .slice A n cp] 98)
          have e1 : RfC (wq.alloc (.cells #[.int .i64 k, .int .u64 a, .int .u64 b, .int .u64 c, .int .u64 d, .slice A n cp] 98)) g S st1 := Blk.alloc h1 _
          have eF : Fr w (wq.alloc (.cells #[.int .i64 k, .int .u64 a, .int .u64 b, .int .u64 c, .int .u64 d, .slice A n cp] 98)) (fun k => k = g) := hF.alloc _
          obtain ⟨u0, u1, u2, u3, u4, u5, -⟩ := cells6 B5
          obtain ⟨z0, z1, z2, z3, z4, z5, y0, y1, y2, y3, y4, y5⟩ := cells6 D5
          obtain ⟨gn, hgn⟩ : ∃ gn, gn = wq.heap.size := ⟨_, rfl⟩
          rw [← hgn] at hK
          have HGN := Lib.hid hgn
          obtain ⟨W7, hW7⟩ : ∃ W7, W7 = wq.alloc (.cells #[.int .i64 k, .int .u64 a, .int .u64 b, .int .u64 c, .int .u64 d, .slice A n cp] 98) := ⟨_, rfl⟩
          rw [← hW7] at hK D5 D4 e1 eF
          have HW7 := Lib.hid hW7
          have c1 := e1.c1
          have f1 := e1.f 1
          rw [hW7] at c1 f1
          clear HO HX hx hst hup hC B5 B4 h1 hF hgn hW7 hth
          go_wp2_with fail
          rw [← HW7.out, ← HGN.out]
          have hf6 := Fr.set6 (w := W7) b3 (.int .i64 5) (.int .u64 0) (.int .u64 0) (.int .u64 0) (.int .u64 0) (.slice (some ⟨gn, 0, none⟩) 1 1)
          have e2 : RfC (set6 W7 b3 (.int .i64 5) (.int .u64 0) (.int .u64 0) (.int .u64 0) (.int .u64 0) (.slice (some ⟨gn, 0, none⟩) 1 1)) g S st1 := Blk.fr e1 hf6 (fun e => ne5 e.symm)
          have e3 := e2.setAt (st1.at_ + 1) ((st1.at_ : Int) + 1) (by omega)
          have HM2 := e3.atF
          have hf7 := Fr.set6 (w := W7) b3 (.int .i64 5) (.int .u64 0) (.int .u64 0) (.int .u64 0) (.int .u64 0) (.slice (some ⟨gn, 0, none⟩) 1 1)
          have G5 : Blk _ b3 _ _ := (D5.set6 (x0 := .int .i64 5) (x1 := .int .u64 0) (x2 := .int .u64 0) (x3 := .int .u64 0) (x4 := .int .u64 0) (x5 := .slice (some ⟨gn, 0, none⟩) 1 1)).far (p := ⟨g, 1, none⟩) ne5 (.int .i64 ((st1.at_ : Int) + 1))
          have G4 : Blk _ w.heap.size _ _ := (Blk.fr D4 hf6 ne45).far (p := ⟨g, 1, none⟩) ne4 (.int .i64 ((st1.at_ : Int) + 1))
          have GF : Fr w _ (fun k => k = g) := frG (i := 1) (Fr.trans eF hf6 (fun k hk e => by omega)) (.int .i64 ((st1.at_ : Int) + 1))
          have GC := ReC.fr (frG (i := 1) (Fr.refl (set6 W7 b3 (.int .i64 5) (.int .u64 0) (.int .u64 0) (.int .u64 0) (.int .u64 0) (.slice (some ⟨gn, 0, none⟩) 1 1)) (fun k => k = g)) (.int .i64 ((st1.at_ : Int) + 1))) (e2.spares _) _ (ReC.fr hf6 (spares_not _ (fun h => h.2.2 rfl)) _ hK)
          go_roundw
          case rel => exact ⟨.node 5 Proofs.YtmkddhkpeiajhaaGreatDoor.z4 [p], stAt st1 (st1.at_ + 1), f, 5, 0, 0, 0, 0, some ⟨gn, 0, none⟩, 1, 1, HO2, HTH.out, fun _ => ⟨by show S.size + 1 ≤ f + (st1.at_ + 1); omega, HST.out⟩, by show st1.at_ + 1 ≤ _; omega, e3, GC, G5, G4, GF⟩
          case measure => rw [HM.out]; exact meas_lt HM2 (by show st1.at_ < st1.at_ + 1; omega) (by show st1.at_ + 1 ≤ _; omega)
        · have hx : x.toNat = 63 := by rw [← HXN.out]; exact hx
          have hxi : (xn : Int) = 63 := by have := HXN.out; omega
          obtain ⟨f, rfl⟩ : ∃ f', f = f' + 1 := ⟨f - 1, by omega⟩
          have HO2 : Hid (rSigns S.data.toList f (.node 6 Proofs.YtmkddhkpeiajhaaGreatDoor.z4 [p]) (stAt st1 (st1.at_ + 1)) = R) := by show _ = _; rw [← HO.out, rsigns_63 _ _ _ _ x HX.out hx HB.out]
          have hst : setsR (.node 6 Proofs.YtmkddhkpeiajhaaGreatDoor.z4 [p]) ≤ 40000 * (st1.at_ + 1) := by rw [setsR_one]; omega
          have HST := Lib.hid hst
          have HTH := Lib.hid (thin1 6 Proofs.YtmkddhkpeiajhaaGreatDoor.z4 hth)
          have hup := three_ways HLO.out (wr := wq) B4.lt B5.lt
          have hK := ReC.one 6 hC hup
          have D5 := B5.alloc (.cells #[.int .i64 k, .int .u64 a, .int .u64 b, .int .u64 c, .int .u64 d, .slice A n cp] 98)
          have D4 := B4.alloc (.cells #[.int .i64 k, .int .u64 a, .int .u64 b, .int .u64 c, .int .u64 d, .slice A n cp] 98)
          have e1 : RfC (wq.alloc (.cells #[.int .i64 k, .int .u64 a, .int .u64 b, .int .u64 c, .int .u64 d, .slice A n cp] 98)) g S st1 := Blk.alloc h1 _
          have eF : Fr w (wq.alloc (.cells #[.int .i64 k, .int .u64 a, .int .u64 b, .int .u64 c, .int .u64 d, .slice A n cp] 98)) (fun k => k = g) := hF.alloc _
          obtain ⟨u0, u1, u2, u3, u4, u5, -⟩ := cells6 B5
          obtain ⟨z0, z1, z2, z3, z4, z5, y0, y1, y2, y3, y4, y5⟩ := cells6 D5
          obtain ⟨gn, hgn⟩ : ∃ gn, gn = wq.heap.size := ⟨_, rfl⟩
          rw [← hgn] at hK
          have HGN := Lib.hid hgn
          obtain ⟨W7, hW7⟩ : ∃ W7, W7 = wq.alloc (.cells #[.int .i64 k, .int .u64 a, .int .u64 b, .int .u64 c, .int .u64 d, .slice A n cp] 98) := ⟨_, rfl⟩
          rw [← hW7] at hK D5 D4 e1 eF
          have HW7 := Lib.hid hW7
          have c1 := e1.c1
          have f1 := e1.f 1
          rw [hW7] at c1 f1
          clear HO HX hx hst hup hC B5 B4 h1 hF hgn hW7 hth
          go_wp2_with fail
          rw [← HW7.out, ← HGN.out]
          have hf6 := Fr.set6 (w := W7) b3 (.int .i64 6) (.int .u64 0) (.int .u64 0) (.int .u64 0) (.int .u64 0) (.slice (some ⟨gn, 0, none⟩) 1 1)
          have e2 : RfC (set6 W7 b3 (.int .i64 6) (.int .u64 0) (.int .u64 0) (.int .u64 0) (.int .u64 0) (.slice (some ⟨gn, 0, none⟩) 1 1)) g S st1 := Blk.fr e1 hf6 (fun e => ne5 e.symm)
          have e3 := e2.setAt (st1.at_ + 1) ((st1.at_ : Int) + 1) (by omega)
          have HM2 := e3.atF
          have hf7 := Fr.set6 (w := W7) b3 (.int .i64 6) (.int .u64 0) (.int .u64 0) (.int .u64 0) (.int .u64 0) (.slice (some ⟨gn, 0, none⟩) 1 1)
          have G5 : Blk _ b3 _ _ := (D5.set6 (x0 := .int .i64 6) (x1 := .int .u64 0) (x2 := .int .u64 0) (x3 := .int .u64 0) (x4 := .int .u64 0) (x5 := .slice (some ⟨gn, 0, none⟩) 1 1)).far (p := ⟨g, 1, none⟩) ne5 (.int .i64 ((st1.at_ : Int) + 1))
          have G4 : Blk _ w.heap.size _ _ := (Blk.fr D4 hf6 ne45).far (p := ⟨g, 1, none⟩) ne4 (.int .i64 ((st1.at_ : Int) + 1))
          have GF : Fr w _ (fun k => k = g) := frG (i := 1) (Fr.trans eF hf6 (fun k hk e => by omega)) (.int .i64 ((st1.at_ : Int) + 1))
          have GC := ReC.fr (frG (i := 1) (Fr.refl (set6 W7 b3 (.int .i64 6) (.int .u64 0) (.int .u64 0) (.int .u64 0) (.int .u64 0) (.slice (some ⟨gn, 0, none⟩) 1 1)) (fun k => k = g)) (.int .i64 ((st1.at_ : Int) + 1))) (e2.spares _) _ (ReC.fr hf6 (spares_not _ (fun h => h.2.2 rfl)) _ hK)
          go_roundw
          case rel => exact ⟨.node 6 Proofs.YtmkddhkpeiajhaaGreatDoor.z4 [p], stAt st1 (st1.at_ + 1), f, 6, 0, 0, 0, 0, some ⟨gn, 0, none⟩, 1, 1, HO2, HTH.out, fun _ => ⟨by show S.size + 1 ≤ f + (st1.at_ + 1); omega, HST.out⟩, by show st1.at_ + 1 ≤ _; omega, e3, GC, G5, G4, GF⟩
          case measure => rw [HM.out]; exact meas_lt HM2 (by show st1.at_ < st1.at_ + 1; omega) (by show st1.at_ + 1 ≤ _; omega)
        · have hx : x.toNat = 123 := by rw [← HXN.out]; exact hx
          have hxi : (xn : Int) = 123 := by have := HXN.out; omega
          obtain ⟨f, rfl⟩ : ∃ f', f = f' + 1 := ⟨f - 1, by omega⟩
          obtain ⟨t2, st2, hts⟩ : ∃ t2 st2, rTimes S.data.toList p st1 = (t2, st2) := ⟨_, _, rfl⟩
          have hres := rtimes_res S.data.toList p st1 (by rw [len_eq]; exact hi)
          have hth2 := thin_times S.data.toList p st1 hth
          rw [hts] at hres hth2
          simp only at hres hth2
          obtain ⟨r1, r2, r3, r4⟩ := hres
          rw [len_eq] at r2
          have HO2 : Hid (rSigns S.data.toList f t2 st2 = R) := by show _ = _; rw [← HO.out, rsigns_123 _ _ _ _ x HX.out hx HB.out, hts]
          have hfu2 : st2.bad = 0 → S.size + 1 ≤ f + st2.at_ ∧ setsR t2 ≤ 40000 * st2.at_ := fun hb => by have := r1 hb; exact ⟨by omega, by omega⟩
          have HFU := Lib.hid hfu2
          have htm := timesT_any (fun k => lo k ∧ k ≠ w.heap.size ∧ k ≠ b3) g S st1 p k a b c d A n cp wq h1 (by omega) (by omega) (three_ways HLO.out B4.lt B5.lt) hC hth (by omega)
          rw [hts] at htm
          have HTM := Lib.hid htm
          have HTH := Lib.hid hth2
          obtain ⟨u0, u1, u2, u3, u4, u5, -⟩ := cells6 B5
          obtain ⟨a2, ha2⟩ : ∃ a2, st2.at_ = a2 + 1 := ⟨st2.at_ - 1, by omega⟩
          have HA2 := Lib.hid ha2
          have ha2i : (a2 : Int) ≤ 100000 := by omega
          clear HO HX hx hC hts hfu2 htm hth2 r1 r3 hth ha2
          go_wp2_with fail
          refine HTM.out.mono ?_
          rintro e w7 ⟨k2, a2', b2, c2, d2, A2, n2, cp2, rfl, hK, e1, hF7⟩
          have e1 : RfC w7 g S (stAt st2 (a2 + 1)) := by rw [← HA2.out]; exact e1
          have eF := frF hF hF7
          have D5 := blkF hF7 ne5 B5
          have D4 := blkF hF7 ne4 B4
          clear h1 hF B5 B4 u0 u1 u2 u3 u4 u5 hF7
          obtain ⟨z0, z1, z2, z3, z4, z5, y0, y1, y2, y3, y4, y5⟩ := cells6 D5
          have c1 : w7.cell? ⟨g, 1, none⟩ = some (.int .i64 ((a2 : Int) + 1)) := by have := e1.c1; rw [this]; show some (Value.int .i64 ((a2 + 1 : Nat) : Int)) = _; rw [show ((a2 + 1 : Nat) : Int) = (a2 : Int) + 1 by omega]
          have f1 := e1.f 1
          have hf6 := Fr.set6 (w := w7) b3 (.int .i64 k2) (.int .u64 a2') (.int .u64 b2) (.int .u64 c2) (.int .u64 d2) (.slice A2 n2 cp2)
          have e2 : RfC (set6 w7 b3 (.int .i64 k2) (.int .u64 a2') (.int .u64 b2) (.int .u64 c2) (.int .u64 d2) (.slice A2 n2 cp2)) g S (stAt st2 (a2 + 1)) := Blk.fr e1 hf6 (fun e => ne5 e.symm)
          have e3 := e2.setAt a2 (a2 : Int) rfl
          have e4 := e3.setAt (a2 + 1) ((a2 : Int) + 1) (by omega)
          have hse : stAt (stAt (stAt st2 (a2 + 1)) a2) (a2 + 1) = st2 := by rw [← HA2.out]; rfl
          have HSE := Lib.hid hse
          rw [hse] at e4
          have HM2 := e4.atF
          have G5 : Blk _ b3 _ _ := ((D5.set6 (x0 := .int .i64 k2) (x1 := .int .u64 a2') (x2 := .int .u64 b2) (x3 := .int .u64 c2) (x4 := .int .u64 d2) (x5 := .slice A2 n2 cp2)).far (p := ⟨g, 1, none⟩) ne5 (.int .i64 (a2 : Int))).far (p := ⟨g, 1, none⟩) ne5 (.int .i64 ((a2 : Int) + 1))
          have G4 : Blk _ w.heap.size _ _ := ((Blk.fr D4 hf6 ne45).far (p := ⟨g, 1, none⟩) ne4 (.int .i64 (a2 : Int))).far (p := ⟨g, 1, none⟩) ne4 (.int .i64 ((a2 : Int) + 1))
          have GF : Fr w _ (fun k => k = g) := frG (i := 1) (frG (i := 1) (Fr.trans eF hf6 (fun k hk e => by omega)) (.int .i64 (a2 : Int))) (.int .i64 ((a2 : Int) + 1))
          have GC := ReC.fr (frG (i := 1) (frG (i := 1) (Fr.refl (set6 w7 b3 (.int .i64 k2) (.int .u64 a2') (.int .u64 b2) (.int .u64 c2) (.int .u64 d2) (.slice A2 n2 cp2)) (fun k => k = g)) (.int .i64 (a2 : Int))) (.int .i64 ((a2 : Int) + 1))) (e2.spares _) _ (ReC.fr hf6 (spares_not _ (fun h => h.2.2 rfl)) _ hK)
          clear hf6 hK e1 e2 e3 eF D5 D4 hse
          go_wp2_with fail
          go_roundw
          case rel => exact ⟨t2, st2, f, k2, a2', b2, c2, d2, A2, n2, cp2, HO2, HTH.out, HFU.out, by have := HA2.out; omega, e4, GC, G5, G4, GF⟩
          case measure => rw [HM.out]; exact meas_lt HM2 r4 (by have := HA2.out; omega)
        · obtain ⟨x1, x2, x3, x4⟩ := hx
          have HR2 : Hid (R = (p, st1)) := by show _ = _; rw [← HO.out, rsigns_other _ _ _ _ x HX.out (by rw [← HXN.out]; exact x1) (by rw [← HXN.out]; exact x2) (by rw [← HXN.out]; exact x3) (by rw [← HXN.out]; exact x4)]
          have y1 : ((xn : Int) == 42) = false := by rw [beq_eq_false_iff_ne]; omega
          have y2 : ((xn : Int) == 43) = false := by rw [beq_eq_false_iff_ne]; omega
          have y3 : ((xn : Int) == 63) = false := by rw [beq_eq_false_iff_ne]; omega
          have y4 : ((xn : Int) == 123) = false := by rw [beq_eq_false_iff_ne]; omega
          clear HO x1 x2 x3 x4
          obtain ⟨u0, u1, u2, u3, u4, u5, -⟩ := cells6 B5
          obtain ⟨z0, z1, z2, z3, z4, z5, v0, v1, v2, v3, v4, v5⟩ := cells6 B4
          go_wp2_with fail
          refine bodyPost_ret (v := .agg #[.int .i64 k, .int .u64 a, .int .u64 b, .int .u64 c, .int .u64 d, .slice A n cp]) (by simp [results, Tryz.results103, go_sem, z0, z1, z2, z3, z4, z5]) rfl ?_
          exact RetTS.store6 HR2.out hC h1 hF rfl B4 (fun h => h.2.1 rfl) (Nat.le_refl _) (fun k h => h.1)
    · have hbi : ((st1.bad : Int) == 0) = false := by rw [beq_eq_false_iff_ne]; omega
      have hbn : (st1.bad == 0) = false := by rw [beq_eq_false_iff_ne]; exact hb
      have HR2 : Hid (R = (p, st1)) := by show _ = _; rw [← HO.out, rsigns_bad _ _ _ _ hb]
      clear hb HO hfu
      go_wp2_with fail
      refine wp_region_laterq (by kernel_rfl) (by kernel_rfl) ?_
      repeat (go_big_quiet_step (fail))
      refine wpQuiet_nil ?_
      intro _ hwq
      obtain ⟨xz, rfl⟩ := hwq
      have h1 := h1.later xz.later
      have hC := hC.later xz.later
      have B5 := blkL xz.later B5
      have B4 := blkL xz.later B4
      have hF := frL hF xz.later
      clear k0 k1 k3
      obtain ⟨wq, hwq⟩ : ∃ wq, wq = xz.val := ⟨_, rfl⟩
      rw [← hwq] at h1 hC B5 B4 hF ⊢
      clear hwq xz
      obtain ⟨u0, u1, u2, u3, u4, u5, -⟩ := cells6 B5
      obtain ⟨z0, z1, z2, z3, z4, z5, y0, y1, y2, y3, y4, y5⟩ := cells6 B4
      go_wp2_with fail
      refine bodyPost_ret (v := .agg #[.int .i64 k, .int .u64 a, .int .u64 b, .int .u64 c, .int .u64 d, .slice A n cp]) (by simp [results, Tryz.results103, go_sem, z0, z1, z2, z3, z4, z5]) rfl ?_
      exact RetTS.store6 HR2.out hC h1 hF rfl B4 (fun h => h.2.1 rfl) (Nat.le_refl _) (fun k h => h.1)
end Go.Proofs.YtmkddhkpeiajhaaGreatDoor
