/-
  Contracts of tailracehand.Short (rows cut off, in new memory) and of the law's same (rows that read alike).
-/
import Derived.Test.YtkpckmdakiminaaRowsB
import Derived.Deep.RegionHeld3
import Derived.Deep.QuietTactic
import Derived.BigQuiet
namespace Go.Proofs.Ytkpckmdakiminaa
open Go.RowKit

theorem step_append_row (w : World) {ops : Array Oper} {o : Oper} {a : Act} {K : Act → World → Prop} {Q : Exit → Act → World → Prop} {E : Prop} (hgd : o.guard = none) (s x : Operand)
    (ho : o.op = .call { callee := .builtin .append, args := #[s, x], argTypes := #[25, 25] })
    (base : Nat) (A : Option Addr) (n c : Nat) (rs : List RowV) (hs : a.eval s = .slice A n c) (hown : OwnR w base A n c rs) (r : RowV) (hr0 : OwnB w base r.A r.n r.c r.l)
    (B : Nat) (A2 : Option Addr) (hx : a.eval x = .slice A2 1 1) (hr : Reads w B 1 A2 1 [rowCell r]) (hbd : n < 4398046511104) (hbase : base ≤ w.heap.size)
    (h : ∀ A' n' c' w', n' = n + 1 → OwnR w' base A' n' c' (rs ++ [r]) → w.grownBy w' (ob A) → K (a.put o.dst (.slice A' n' c')) w') :
    if Region.wanted o (yielded ops a.tmps) = true then Oper.wp Try.prog o a w K Q else E := by
  have hw : Region.wanted o (yielded ops a.tmps) = true := by simp [Region.wanted, hgd]
  rw [if_pos hw]
  obtain ⟨i0, hi, hz0, hz1, hz2⟩ := info_parts rows_info
  refine wp_append_any w s x 25 ho base 23 i0 _ 1 24 Try.underlying25 hi hz0 hz1 hz2 rfl (by decide) (.slice A n c) n _ hs hown.1 B A2 1 1 [rowCell r] hx hr (by intro u hu; rw [List.mem_singleton.1 hu]; rfl) (by unfold maxLen; omega) (by omega) hbase ?_
  intro v' w' h2 h3 h4
  have hv : ∃ A' c', v' = .slice A' (n + 1) c' := by
    rcases h2.2 with ⟨_, e⟩ | ⟨g, cap, cur, rfl, _⟩
    · omega
    · exact ⟨_, _, rfl⟩
  obtain ⟨A', c', rfl⟩ := hv
  rw [ob_own] at h3
  have hkeep : ∀ q : RowV, OwnB w base q.A q.n q.c q.l → OwnB w' base q.A q.n q.c q.l := fun q hq => hq.kept h3 (by
    have := own_ne hq hown.1 (by decide)
    rw [ob_own, ob_own] at this
    exact this)
  refine h A' _ c' w' rfl ⟨by rw [List.map_append]; exact h2, fun q hq => ?_⟩ h3
  rcases List.mem_append.1 hq with h1 | h1
  · exact hkeep q (hown.2 q h1)
  · rw [List.mem_singleton.1 h1]; exact hkeep r hr0

theorem short_step {rs rs9 : List RowV} {j k : Nat} {r : RowV} {L : List UInt8} (h : Hid (bytesOf rs9 = ((bytesOf rs).take j).map (·.take k))) (hr : rs[j]? = some r) (hL : L = r.l.take k) (A : Option Addr) (n c : Nat) :
    Hid (bytesOf (rs9 ++ [⟨A, n, c, L⟩]) = ((bytesOf rs).take (j + 1)).map (·.take k)) := by
  show bytesOf (rs9 ++ [⟨A, n, c, L⟩]) = _
  have h1 : bytesOf (rs9 ++ [⟨A, n, c, L⟩]) = bytesOf rs9 ++ [L] := by unfold bytesOf; rw [List.map_append]; rfl
  obtain ⟨hj, e⟩ := List.getElem?_eq_some_iff.1 hr
  have h2 : (bytesOf rs).take (j + 1) = (bytesOf rs).take j ++ [r.l] := by
    unfold bytesOf
    rw [← List.map_take, ← List.map_take, List.take_succ_eq_append_getElem hj, e, List.map_append]
    rfl
  rw [h1, h2, h.out, List.map_append, hL]
  rfl

/-- rows of the call's own behind an append onto a row of bytes that was made -/
theorem OwnR.grown_b {w w1 : World} {base n c g : Nat} {A : Option Addr} {rs : List RowV} {o : Obj} (h : OwnR w base A n c rs) (hg : ((w.alloc o).drew).grownBy w1 (some g)) (hgb : w.heap.size ≤ g) : OwnR w1 base A n c rs := by
  have hb : Below w.heap.size w w1 := (((Below.refl _ w).alloc (Nat.le_refl _) o).drew).grown hg (by simp) (by intro g' e; injection e with e; omega)
  exact h.below hb (Nat.le_refl _)

set_option maxRecDepth 100000 in
set_option maxHeartbeats 2000000 in
theorem short_any (A : Option Addr) (n c : Nat) (rs : List RowV) (m k : Nat) (w : World) (hr : RdR w w.heap.size A n rs) (hm : m ≤ 1000) (hk : k ≤ 10000) :
    Calls Try.prog 18 #[.slice A n c, .int .i64 (m : Int), .int .i64 (k : Int)] w fun e w' => ∃ A' n' c' rs', e = .returned (.slice A' n' c') ∧ OwnR w' w.heap.size A' n' c' rs' ∧
      bytesOf rs' = ((bytesOf rs).take m).map (·.take k) ∧ Below w.heap.size w w' := by
  have HL : Hid (rs.length = n) := hr.len
  go_enter Try.func18, Try.ntmps18
  go_wp2_with fail
  go_loopw [7, 8] (fun v i wr => ∃ (j : Nat) (A9 : Option Addr) (c9 : Nat) (rs9 : List RowV), j ≤ n ∧ j ≤ m ∧ i = .int .i64 (j : Int) ∧ v = .slice A9 j c9 ∧ OwnR wr w.heap.size A9 j c9 rs9 ∧ Hid (bytesOf rs9 = ((bytesOf rs).take j).map (·.take k)) ∧ Below w.heap.size w wr) (fun _ i _ => n - (intOf i).toNat)
  case atStart => exact ⟨0, none, 0, [], by omega, by omega, rfl, rfl, OwnR.nil, rfl, Below.refl _ _⟩
  case round =>
    obtain ⟨j, A9, c9, rs9, hjn, hjm, rfl, rfl, hown, hinv, hbw⟩ := hrel
    have hsz := hbw.size
    by_cases hlt : j < n
    · by_cases hlm : j < m
      · obtain ⟨b, off, r, rfl, hbB, hry, d0, d1, d2⟩ := (hr.below hbw).at_ hlt
        have hrl : Hid (r.l.length = r.n) := d1.len
        by_cases hrk : r.n ≤ k
        · have hkn : ¬ k < r.n := by omega
          have hnn : (0 : Int) ≤ ((r.n : Nat) : Int) := by omega
          have hnc : ((r.n : Nat) : Int) ≤ (r.c : Int) := by omega
          have hnb : r.n ≤ 10000 := by omega
          have hd1 := d1.upto (k := r.n) (Nat.le_refl _)
          go_wp2_with fail
          go_region_held3 (fun w' => w'.cell? ⟨b, off + j, none⟩ = some (.slice r.A r.n r.c)) (first | go_keep | (with_reducible assumption))
            (first
              | (refine step_append_b _ (by rfl) (.tmp 21) (.tmp 33) (by rfl) w.heap.size _ 0 0 [] (by rfl) (OwnB.drew (OwnB.made hsz)) w.heap.size r.A r.n r.c _ (by rfl) (RdB.drew (RdB.alloc hd1 hsz _)) (by omega) (by simp; omega) ?_; intro A1 n1 c1 w1 hown1 hg1 hob1; have hb1 : Below w.heap.size wr w1 := (((Below.refl _ wr).alloc hsz _).drew).grown hg1 (by simp; omega) (by intro g hg; injection hg with hg; simp at hg; omega); have hz1 := hb1.size; have k1 : w1.cell? ⟨b, off + j, none⟩ = some (.slice r.A r.n r.c) := (hb1.cell (p := ⟨b, off + j, none⟩) hbB).trans d0)
              | (refine step_append_row _ (by rfl) (.tmp 20) (.tmp 35) (by rfl) w.heap.size A9 j c9 rs9 (by rfl) ((OwnR.alloc (OwnR.grown_b hown hg1 (Nat.le_refl _)) _)) ⟨A1, n1, c1, _⟩ (OwnB.alloc hown1 _) _ (some ⟨w1.heap.size, 0, none⟩) (by rfl) (reads_row _ _ _ _ rfl) (by omega) (by simp; omega) ?_; intro A8 n8 c8 w2 hn8 hown2 hg2; have hn8 := Lib.hid hn8; have hb2 : Below w.heap.size w1 w2 := ((Below.refl _ w1).alloc (by omega) _).grown hg2 (by simp; omega) (fun g' e => (hown.lt g' e).1); have k2 : w2.cell? ⟨b, off + j, none⟩ = some (.slice r.A r.n r.c) := (hb2.cell (p := ⟨b, off + j, none⟩) hbB).trans k1))
          all_goals
            go_wp2_with fail
            go_roundw
            case rel => exact ⟨j + 1, A8, c8, _, by omega, by omega, by go_num, rfl, by rw [hn8.out] at hown2; exact hown2, short_step hinv hry (by rw [List.nil_append, List.take_of_length_le (by rw [hrl.out]; omega), List.take_of_length_le (by rw [hrl.out]; omega)]) A1 n1 c1, (hbw.trans hb1).trans hb2⟩
            case measure => simp [intOf]; omega
        · have hkn : k < r.n := by omega
          have hnn : (0 : Int) ≤ ((k : Nat) : Int) := by omega
          have hnc : ((k : Nat) : Int) ≤ (r.c : Int) := by omega
          have hnb : k ≤ 10000 := by omega
          have hd1 := d1.upto (k := k) (by omega)
          go_wp2_with fail
          go_region_held3 (fun w' => w'.cell? ⟨b, off + j, none⟩ = some (.slice r.A r.n r.c)) (first | go_keep | (with_reducible assumption))
            (first
              | (refine step_append_b _ (by rfl) (.tmp 21) (.tmp 33) (by rfl) w.heap.size _ 0 0 [] (by rfl) (OwnB.drew (OwnB.made hsz)) w.heap.size r.A k r.c _ (by rfl) (RdB.drew (RdB.alloc hd1 hsz _)) (by omega) (by simp; omega) ?_; intro A1 n1 c1 w1 hown1 hg1 hob1; have hb1 : Below w.heap.size wr w1 := (((Below.refl _ wr).alloc hsz _).drew).grown hg1 (by simp; omega) (by intro g hg; injection hg with hg; simp at hg; omega); have hz1 := hb1.size; have k1 : w1.cell? ⟨b, off + j, none⟩ = some (.slice r.A r.n r.c) := (hb1.cell (p := ⟨b, off + j, none⟩) hbB).trans d0)
              | (refine step_append_row _ (by rfl) (.tmp 20) (.tmp 35) (by rfl) w.heap.size A9 j c9 rs9 (by rfl) ((OwnR.alloc (OwnR.grown_b hown hg1 (Nat.le_refl _)) _)) ⟨A1, n1, c1, _⟩ (OwnB.alloc hown1 _) _ (some ⟨w1.heap.size, 0, none⟩) (by rfl) (reads_row _ _ _ _ rfl) (by omega) (by simp; omega) ?_; intro A8 n8 c8 w2 hn8 hown2 hg2; have hn8 := Lib.hid hn8; have hb2 : Below w.heap.size w1 w2 := ((Below.refl _ w1).alloc (by omega) _).grown hg2 (by simp; omega) (fun g' e => (hown.lt g' e).1); have k2 : w2.cell? ⟨b, off + j, none⟩ = some (.slice r.A r.n r.c) := (hb2.cell (p := ⟨b, off + j, none⟩) hbB).trans k1))
          all_goals
            go_wp2_with fail
            go_roundw
            case rel => exact ⟨j + 1, A8, c8, _, by omega, by omega, by go_num, rfl, by rw [hn8.out] at hown2; exact hown2, short_step hinv hry (by rw [List.nil_append]) A1 n1 c1, (hbw.trans hb1).trans hb2⟩
            case measure => simp [intOf]; omega
      · obtain rfl : j = m := by omega
        go_wp2_with fail
        go_ret
        exact ⟨_, _, _, rs9, rfl, hown, hinv.out, hbw⟩
    · obtain rfl : j = n := by omega
      go_wp2_with fail
      go_ret
      refine ⟨_, _, _, rs9, rfl, hown, ?_, hbw⟩
      have e1 : (bytesOf rs).length = j := by unfold bytesOf; rw [List.length_map]; exact HL.out
      rw [hinv.out, List.take_of_length_le (by omega), List.take_of_length_le (by omega)]

/-- rows that read alike are the same -/
theorem rows_len {rs rs2 : List RowV} (h : bytesOf rs = bytesOf rs2) : rs.length = rs2.length := by
  have := congrArg List.length h
  unfold bytesOf at this
  rwa [List.length_map, List.length_map] at this
theorem rows_at {rs rs2 : List RowV} (h : bytesOf rs = bytesOf rs2) {j : Nat} {r r2 : RowV} (h1 : rs[j]? = some r) (h2 : rs2[j]? = some r2) : r.l = r2.l := by
  have e := congrArg (·[j]?) h
  simp only [bytesOf, List.getElem?_map, h1, h2, Option.map_some] at e
  injection e

set_option maxRecDepth 100000 in
set_option maxHeartbeats 1000000 in
theorem same_true (A : Option Addr) (n c : Nat) (rs : List RowV) (A2 : Option Addr) (n2 c2 : Nat) (rs2 : List RowV) (B : Nat) (w : World) (hr : RdR w B A n rs) (hr2 : RdR w B A2 n2 rs2) (he : bytesOf rs = bytesOf rs2) (hn : n ≤ 140737488355328) :
    Calls Try.prog 17 #[.slice A n c, .slice A2 n2 c2] w fun e w' => e = .returned (.bool true) ∧ ∃ m, w' = w.drewN m := by
  have hnn : n2 = n := by rw [← hr.len, ← hr2.len, rows_len he]
  have he := Lib.hid he
  subst hnn
  go_enter Try.func17, Try.ntmps17
  go_wp2_with fail
  go_loopw [5] (fun i wr => ∃ (j q : Nat), j ≤ n2 ∧ i = .int .i64 (j : Int) ∧ wr = w.drewN q) (fun i _ => n2 - (intOf i).toNat)
  case atStart => exact ⟨0, 0, by omega, rfl, rfl⟩
  case round =>
    obtain ⟨j, q, hj, rfl, rfl⟩ := hrel
    by_cases hlt : j < n2
    · obtain ⟨b, off, r, rfl, hbB, hry, d0, d1, d2⟩ := hr.at_ hlt
      obtain ⟨b', off', r', rfl, hbB', hry', e0, e1, e2⟩ := hr2.at_ hlt
      have hrr : r.l = r'.l := rows_at he.out hry hry'
      have k1 : ∀ q, (convert 23 9 (.slice r.A r.n r.c)).run Try.prog (w.drewN q) = .ok (.string (bstr r'.l)) (w.drewN q) := fun q => by rw [← hrr]; exact run_str (d1.drewN q)
      have k2 : ∀ q, (convert 23 9 (.slice r'.A r'.n r'.c)).run Try.prog (w.drewN q) = .ok (.string (bstr r'.l)) (w.drewN q) := fun q => run_str (e1.drewN q)
      have hse : ((bstr r'.l).toList == (bstr r'.l).toList) = true := seq_true rfl
      have hsn : ((bstr r'.l).toList != (bstr r'.l).toList) = false := by rw [bne_eq_false_iff_eq]
      have hji : (0 : Int) ≤ (j : Int) := by omega
      have hjn : (j : Int) < (n2 : Int) := by omega
      clear hrr
      go_wp2_with fail
      go_quiet (fail)
      go_wp2_with fail
      go_roundw
      case rel => exact ⟨j + 1, _, by omega, by go_num, rfl⟩
      case measure => simp [intOf]; omega
    · obtain rfl : j = n2 := by omega
      go_wp2_with fail
      go_ret
      exact ⟨rfl, q, rfl⟩

end Go.Proofs.Ytkpckmdakiminaa
