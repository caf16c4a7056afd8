import Derived.Test.YtmkddhkpeiajhaaGreatDoorStep
namespace Go.Proofs.YtmkddhkpeiajhaaGreatDoor
open Go.RowKit
def offsM (v : Value) (w : World) : Nat :=
 match v with
 | .slice (some ⟨b, off, _⟩) n _ => (List.range n).countP fun k => match w.cell? ⟨b, off + k, none⟩ with | some (.bool false) => true | _ => false
 | _ => 0
theorem offs_range : ∀ (l : List Bool) (f : Nat → Bool), (∀ (k : Nat) (x : Bool), l[k]? = some x → f k = !x) → (List.range l.length).countP f = offs l
 | [], f, _ => rfl
 | a :: l, f, h => by
  have ih := offs_range l (fun k => f (k + 1)) (fun k x hx => h (k + 1) x hx)
  unfold offs at ih ⊢
  rw [List.length_cons, List.range_succ_eq_map, List.countP_cons, List.countP_cons, List.countP_map, h 0 a rfl]
  have : (fun k => f (k + 1)) = f ∘ Nat.succ := rfl
  rw [← this, ih]
theorem offsM_rd {w : World} {A : Option Addr} {n c : Nat} {l : List Bool} (h : RdO w A n l) : offsM (.slice A n c) w = offs l := by
 rcases Nat.eq_zero_or_pos n with hn | hn
 ·subst hn
  have : l = [] := List.eq_nil_of_length_eq_zero h.1
  subst this
  unfold offsM
  cases A with
  | none => rfl
  | some ad => obtain ⟨b, off, sp⟩ := ad; rfl
 ·obtain ⟨b, off, hA, _, _⟩ := h.at_ (k := 0) (List.getElem?_eq_getElem (by rw [h.1]; exact hn))
  subst hA
  unfold offsM
  simp only
  rw [← h.1]
  refine offs_range l _ (fun k x hx => ?_)
  obtain ⟨b', off', hA', _, hc⟩ := h.at_ hx
  injection hA' with hA'
  injection hA' with h1 h2
  subst h1 h2
  simp only [hc]
  cases x <;> rfl
theorem take_next {l m : List Bool} {i : Nat} {x y : Bool} (hx : l[i]? = some x) (hy : m[i]? = some y) : (decide (l.take (i + 1) = m.take (i + 1))) = (decide (l.take i = m.take i) && (x == y)) := by
 have hl := (List.getElem?_eq_some_iff.1 hx).1
 have hm := (List.getElem?_eq_some_iff.1 hy).1
 have hlen : (l.take i).length = (m.take i).length := by rw [List.length_take, List.length_take, Nat.min_eq_left (Nat.le_of_lt hl), Nat.min_eq_left (Nat.le_of_lt hm)]
 rw [List.take_add_one, List.take_add_one, hx, hy]
 by_cases h1 : l.take i = m.take i
 ·rw [h1, decide_eq_true (rfl : m.take i = m.take i), Bool.true_and]
  cases x <;> cases y <;> simp
 ·rw [decide_eq_false h1, Bool.false_and, decide_eq_false]
  intro h
  exact h1 (List.append_inj h hlen).1
set_option maxRecDepth 100000 in
set_option maxHeartbeats 8000000 in
theorem star_walk (S : ByteArray) (hS : S.size ≤ 1000000) (x : Rx) (hx : StepAt S x) : StarAt S x := by
 intro lo k a b c d A n cp An m c2 B w hC hR hm
 obtain ⟨W1, hW1⟩ : ∃ W1, W1 = w.alloc (.cells #[.int .i64 k, .int .u64 a, .int .u64 b, .int .u64 c, .int .u64 d, .slice A n cp] 98) := ⟨_, rfl⟩
 have hlw : Later w W1 := by rw [hW1]; exact (Later.refl w).alloc _
 have B3 : Blk W1 w.heap.size 98 #[.int .i64 k, .int .u64 a, .int .u64 b, .int .u64 c, .int .u64 d, .slice A n cp] := by rw [hW1]; exact Blk.new w _ _
 obtain ⟨b3, hb3⟩ : ∃ b3, b3 = w.heap.size := ⟨_, rfl⟩
 rw [← hb3] at B3
 have hst : ∀ wx all A' n' c', Later W1 wx → RdO wx A' n' all → n' = m → Calls Tryz.prog 106 #[.agg #[.int .i64 k, .int .u64 a, .int .u64 b, .int .u64 c, .int .u64 d, .slice A n cp], .string S, .slice A' n' c'] wx (Stepped S.data.toList x all wx) := fun wx all A' n' c' hl hr hn =>
  hx lo _ _ _ _ _ _ _ _ A' n' c' all wx (hC.later (hlw.trans hl)) hr (hn.trans hm)
 have hei : Calls Tryz.prog 121 #[.slice An m c2, .slice An m c2] W1 (RetO W1 (orL B B)) := either_any An m c2 B An c2 B W1 (hR.later hlw) (hR.later hlw) (by omega)
 have hBB : orL B B = B := by
  refine on_ext (orL_len rfl).symm fun j => ?_
  rw [orL_on rfl]
  exact ⟨fun h => h.elim id id, fun h => .inl h⟩
 rw [hBB] at hei
 have hmB : B.length = m := hR.1
 have HST := Lib.hid hst
 have HEI := Lib.hid hei
 have HLW := Lib.hid hlw
 have HMB := Lib.hid hmB
 have hm2 : m ≤ 1000001 := by omega
 clear hC hR hst hei hlw hBB hmB hx hm
 go_enter Tryz.func122, Tryz.ntmps122
 go_upto_region 1 with fail
 rw [← hW1, ← hb3]
 clear hW1 hb3
 go_wp2_with fail
 refine HEI.out.mono ?_
 rintro e w3 ⟨A3, n3, c3, rfl, ho3, hl3⟩
 have hn3 : n3 = m := by rw [← ho3.1]; exact HMB.out
 subst hn3
 go_wp2_with fail
 go_loopw [7] (fun s7 wr => ∃ (A' : Option Addr) (c' : Nat) (all : List Bool), s7 = .slice A' n3 c' ∧ OwnO wr W1.heap.size A' n3 c' all ∧ Stars S.data.toList x B all ∧ Later W1 wr) (fun s7 wr => offsM s7 wr)
 case atStart => exact ⟨A3, c3, B, rfl, ho3, stars_start, hl3⟩
 case round =>
  clear ho3 hl3 HEI
  obtain ⟨A', c', all, rfl, hown, hsta, hlr⟩ := hrel
  have hrd := hown.rd
  have hln : all.length = n3 := hown.1
  have B3r := blkL hlr B3
  obtain ⟨z0, z1, z2, z3, z4, z5⟩ : wr.cell? ⟨b3, 0, none⟩ = some (.int .i64 k) ∧ wr.cell? ⟨b3, 1, none⟩ = some (.int .u64 a) ∧ wr.cell? ⟨b3, 2, none⟩ = some (.int .u64 b) ∧ wr.cell? ⟨b3, 3, none⟩ = some (.int .u64 c) ∧ wr.cell? ⟨b3, 4, none⟩ = some (.int .u64 d) ∧ wr.cell? ⟨b3, 5, none⟩ = some (.slice A n cp) := ⟨B3r.cell 0, B3r.cell 1, B3r.cell 2, B3r.cell 3, B3r.cell 4, B3r.cell 5⟩
  go_wp2_with fail
  refine (HST.out wr all A' n3 c' hlr hrd rfl).mono ?_
  rintro e w4 ⟨C, hsC, A4, n4, c4, rfl, ho4, hl4⟩
  have hn4 : n4 = n3 := by rw [← ho4.1, hsC.1, hln]
  subst hn4
  clear z0 z1 z2 z3 z4 z5
  go_wp2_with fail
  refine (either_any A' n4 c' all A4 c4 C w4 (hrd.later hl4) ho4.rd (by omega)).mono ?_
  rintro e w5 ⟨A5, n5, c5, rfl, ho5, hl5⟩
  have hn5 : n5 = n4 := by rw [← ho5.1, orL_len hsC.1, hln]
  subst hn5
  obtain ⟨more, hmore⟩ : ∃ more, more = orL all C := ⟨_, rfl⟩
  rw [← hmore] at ho5
  have hlm : more.length = n5 := ho5.1
  have hrd5 := (hrd.later hl4).later hl5
  have hrm5 := ho5.rd
  have hlr5 := hlr.trans (hl4.trans hl5)
  have HMORE := Lib.hid hmore
  have HSC := Lib.hid hsC
  have HSTA := Lib.hid hsta
  have HO5 : Hid (OwnO w5 W1.heap.size A5 n5 c5 more) := ⟨ho5.1, ho5.2.1, ho5.2.2.imp id fun ⟨g, cap, cur, q1, q2, q3⟩ => ⟨g, cap, cur, q1, Nat.le_trans (hlr.trans hl4).size q2, q3⟩⟩
  have HOFF : Hid (more ≠ all → offsM (.slice A5 n5 c5) w5 < offsM (.slice A' n5 c') wr) := fun hne => by
   rw [offsM_rd hrm5, offsM_rd hrd, hmore]
   exact offs_or hsC.1 (by rw [← hmore]; exact hne)
  have HOWN : Hid (OwnO w5 W1.heap.size A' n5 c' all) := (hown.later hl4).later hl5
  clear hmore hsC hsta ho5 hown ho4 hl4 hl5 hlr hrd
  go_wp2_with fail
  go_loopw [9, 10] (fun s9 s10 wr => ∃ i : Nat, i ≤ n5 ∧ s10 = .int .i64 (i : Int) ∧ s9 = .bool (decide (all.take i = more.take i)) ∧ Later w5 wr) (fun _ s10 _ => n5 - (intOf s10).toNat)
  case atStart => exact ⟨0, Nat.zero_le _, rfl, by simp, Later.refl _⟩
  case round =>
   obtain ⟨i, hi, rfl, rfl, hlq⟩ := hrel
   by_cases hlt : i < n5
   ·have hlti : (i : Int) < (n5 : Int) := by omega
    obtain ⟨x1, hx1⟩ : ∃ x, all[i]? = some x := ⟨_, List.getElem?_eq_getElem (by rw [hln]; exact hlt)⟩
    obtain ⟨y1, hy1⟩ : ∃ x, more[i]? = some x := ⟨_, List.getElem?_eq_getElem (by rw [hlm]; exact hlt)⟩
    have hnext := take_next hx1 hy1
    obtain ⟨p1, o1, rfl, _, f1⟩ := (hrd5.later hlq).at_ hx1
    obtain ⟨p2, o2, rfl, _, f2⟩ := (hrm5.later hlq).at_ hy1
    obtain ⟨s, hs⟩ : ∃ s, s = decide (all.take i = more.take i) := ⟨_, rfl⟩
    rw [← hs] at hnext ⊢
    have k1 : ∀ x : LW wr, x.val.cell? ⟨p1, o1 + i, none⟩ = some (.bool x1) := LW.cell_ f1
    have k2 : ∀ x : LW wr, x.val.cell? ⟨p2, o2 + i, none⟩ = some (.bool y1) := LW.cell_ f2
    have HN := Lib.hid hnext
    clear hnext hs hx1 hy1 f1 f2
    cases s with
    | false =>
     go_wp2_with fail
     refine wp_region_laterq (by kernel_rfl) (by kernel_rfl) ?_
     repeat (go_big_quiet_step (fail))
     refine wpQuiet_nil ?_
     intro _ hwq
     obtain ⟨xz, rfl⟩ := hwq
     clear k1 k2
     go_wp2_with fail
     go_roundw
     case rel => exact ⟨i + 1, by omega, by go_num, by rw [HN.out]; rfl, hlq.trans xz.later⟩
     case measure => simp [intOf]; omega
    | true =>
     go_wp2_with fail
     refine wp_region_laterq (by kernel_rfl) (by kernel_rfl) ?_
     repeat (go_big_quiet_step (fail))
     refine wpQuiet_nil ?_
     intro _ hwq
     obtain ⟨xz, rfl⟩ := hwq
     clear k1 k2
     go_wp2_with fail
     go_roundw
     case rel => exact ⟨i + 1, by omega, by go_num, by rw [HN.out]; rfl, hlq.trans xz.later⟩
     case measure => simp [intOf]; omega
   ·obtain rfl : n5 = i := by omega
    have hte : decide (all.take n5 = more.take n5) = decide (all = more) := by rw [List.take_of_length_le (by omega), List.take_of_length_le (by omega)]
    rw [hte]
    by_cases he : all = more
    ·rw [decide_eq_true he]
     have HE := Lib.hid he
     clear hte he
     go_wp2_with fail
     go_ret
     refine ⟨all, stars_end HSTA.out HSC.out (by rw [← HMORE.out]; exact HE.out.symm), _, _, _, rfl, ?_, HLW.out.trans (hlr5.trans hlq)⟩
     have h9 := HOWN.out.later hlq
     exact ⟨h9.1, h9.2.1, h9.2.2.imp id fun ⟨g, cap, cur, q1, q2, q3⟩ => ⟨g, cap, cur, q1, Nat.le_trans HLW.out.size q2, q3⟩⟩
    ·rw [decide_eq_false he]
     have HE := Lib.hid he
     clear hte he
     go_wp2_with fail
     refine ⟨⟨A5, c5, more, rfl, HO5.out.later hlq, by rw [HMORE.out]; exact stars_next HSTA.out HSC.out, hlr5.trans hlq⟩, ?_⟩
     rw [offsM_rd (hrm5.later hlq), ← offsM_rd hrm5]
     exact HOFF.out (Ne.symm HE.out)
end Go.Proofs.YtmkddhkpeiajhaaGreatDoor
