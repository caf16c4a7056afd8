import Derived.Test.YtmkddhkpeiajhaaGreatDoorStep
import Derived.Test.YtmkddhkpeiajhaaGreatDoorSetLaw
import Derived.Test.YtmkddhkpeiajhaaGreatDoorTreeAll
namespace Go.Proofs.YtmkddhkpeiajhaaGreatDoor
open Go.RowKit
def offsM (v : Value) (w : World) : Nat :=
 match v with
 | .slice (some ⟨b, off, _⟩) n _ => (List.range n).countP fun k => match w.cell? ⟨b, off + k, none⟩ with | some (.bool false) => true | _ => false
 | _ => 0
theorem offs_range : ∀ (l : List Bool) (f : Nat → Bool), (∀ (k : Nat) (x : Bool), l[k]? = some x → f k = !x) → (List.range l.length).countP f = offs l
 | [], f, _ => rfl
 | a :: l, f, h => by
  have ih := offs_range l (fun k => f (k + 1)) (fun k x hx => h (k + 1) x hx)
  unfold offs at ih ⊢
  rw [List.length_cons, List.range_succ_eq_map, List.countP_cons, List.countP_cons, List.countP_map, h 0 a rfl]
  have : (fun k => f (k + 1)) = f ∘ Nat.succ := rfl
  rw [← this, ih]
theorem offsM_rd {w : World} {A : Option Addr} {n c : Nat} {l : List Bool} (h : RdO w A n l) : offsM (.slice A n c) w = offs l := by
 rcases Nat.eq_zero_or_pos n with hn | hn
 ·subst hn
  have : l = [] := List.eq_nil_of_length_eq_zero h.1
  subst this
  unfold offsM
  cases A with
  | none => rfl
  | some ad => obtain ⟨b, off, sp⟩ := ad; rfl
 ·obtain ⟨b, off, hA, _, _⟩ := h.at_ (k := 0) (List.getElem?_eq_getElem (by rw [h.1]; exact hn))
  subst hA
  unfold offsM
  simp only
  rw [← h.1]
  refine offs_range l _ (fun k x hx => ?_)
  obtain ⟨b', off', hA', _, hc⟩ := h.at_ hx
  injection hA' with hA'
  injection hA' with h1 h2
  subst h1 h2
  simp only [hc]
  cases x <;> rfl
theorem take_next {l m : List Bool} {i : Nat} {x y : Bool} (hx : l[i]? = some x) (hy : m[i]? = some y) : (decide (l.take (i + 1) = m.take (i + 1))) = (decide (l.take i = m.take i) && (x == y)) := by
 have hl := (List.getElem?_eq_some_iff.1 hx).1
 have hm := (List.getElem?_eq_some_iff.1 hy).1
 have hlen : (l.take i).length = (m.take i).length := by rw [List.length_take, List.length_take, Nat.min_eq_left (Nat.le_of_lt hl), Nat.min_eq_left (Nat.le_of_lt hm)]
 rw [List.take_add_one, List.take_add_one, hx, hy]
 by_cases h1 : l.take i = m.take i
 ·rw [h1, decide_eq_true (rfl : m.take i = m.take i), Bool.true_and]
  cases x <;> cases y <;> simp
 ·rw [decide_eq_false h1, Bool.false_and, decide_eq_false]
  intro h
  exact h1 (List.append_inj h hlen).1
set_option maxRecDepth 100000 in
set_option maxHeartbeats 8000000 in
theorem star_walk (S : ByteArray) (hS : S.size ≤ 1000000) (x : Rx) (hx : StepAt S x) : StarAt S x := by
 intro lo k a b c d A n cp An m c2 B w hC hR hm
 obtain ⟨W1, hW1⟩ : ∃ W1, W1 = w.alloc (.cells #[.int .i64 k, .int .u64 a, .int .u64 b, .int .u64 c, .int .u64 d, .slice A n cp] 98) := ⟨_, rfl⟩
 have hlw : Later w W1 := by rw [hW1]; exact (Later.refl w).alloc _
 have B3 : Blk W1 w.heap.size 98 #[.int .i64 k, .int .u64 a, .int .u64 b, .int .u64 c, .int .u64 d, .slice A n cp] := by rw [hW1]; exact Blk.new w _ _
 obtain ⟨b3, hb3⟩ : ∃ b3, b3 = w.heap.size := ⟨_, rfl⟩
 rw [← hb3] at B3
 have hst : ∀ wx all A' n' c', Later W1 wx → RdO wx A' n' all → n' = m → Calls Tryz.prog 106 #[.agg #[.int .i64 k, .int .u64 a, .int .u64 b, .int .u64 c, .int .u64 d, .slice A n cp], .string S, .slice A' n' c'] wx (Stepped S.data.toList x all wx) := fun wx all A' n' c' hl hr hn =>
  hx lo _ _ _ _ _ _ _ _ A' n' c' all wx (hC.later (hlw.trans hl)) hr (hn.trans hm)
 have hei : Calls Tryz.prog 121 #[.slice An m c2, .slice An m c2] W1 (RetO W1 (orL B B)) := either_any An m c2 B An c2 B W1 (hR.later hlw) (hR.later hlw) (by omega)
 have hBB : orL B B = B := by
  refine on_ext (orL_len rfl).symm fun j => ?_
  rw [orL_on rfl]
  exact ⟨fun h => h.elim id id, fun h => .inl h⟩
 rw [hBB] at hei
 have hmB : B.length = m := hR.1
 have HST := Lib.hid hst
 have HEI := Lib.hid hei
 have HLW := Lib.hid hlw
 have HMB := Lib.hid hmB
 have hm2 : m ≤ 1000001 := by omega
 clear hC hR hst hei hlw hBB hmB hx hm
 go_enter Tryz.func122, Tryz.ntmps122
 go_upto_region 1 with fail
 rw [← hW1, ← hb3]
 clear hW1 hb3
 go_wp2_with fail
 refine HEI.out.mono ?_
 rintro e w3 ⟨A3, n3, c3, rfl, ho3, hl3⟩
 have hn3 : n3 = m := by rw [← ho3.1]; exact HMB.out
 subst hn3
 go_wp2_with fail
 go_loopw [7] (fun s7 wr => ∃ (A' : Option Addr) (c' : Nat) (all : List Bool), s7 = .slice A' n3 c' ∧ OwnO wr W1.heap.size A' n3 c' all ∧ Stars S.data.toList x B all ∧ Later W1 wr) (fun s7 wr => offsM s7 wr)
 case atStart => exact ⟨A3, c3, B, rfl, ho3, stars_start, hl3⟩
 case round =>
  clear ho3 hl3 HEI
  obtain ⟨A', c', all, rfl, hown, hsta, hlr⟩ := hrel
  have hrd := hown.rd
  have hln : all.length = n3 := hown.1
  have B3r := blkL hlr B3
  obtain ⟨z0, z1, z2, z3, z4, z5⟩ : wr.cell? ⟨b3, 0, none⟩ = some (.int .i64 k) ∧ wr.cell? ⟨b3, 1, none⟩ = some (.int .u64 a) ∧ wr.cell? ⟨b3, 2, none⟩ = some (.int .u64 b) ∧ wr.cell? ⟨b3, 3, none⟩ = some (.int .u64 c) ∧ wr.cell? ⟨b3, 4, none⟩ = some (.int .u64 d) ∧ wr.cell? ⟨b3, 5, none⟩ = some (.slice A n cp) := ⟨B3r.cell 0, B3r.cell 1, B3r.cell 2, B3r.cell 3, B3r.cell 4, B3r.cell 5⟩
  go_wp2_with fail
  refine (HST.out wr all A' n3 c' hlr hrd rfl).mono ?_
  rintro e w4 ⟨C, hsC, A4, n4, c4, rfl, ho4, hl4⟩
  have hn4 : n4 = n3 := by rw [← ho4.1, hsC.1, hln]
  subst hn4
  clear z0 z1 z2 z3 z4 z5
  go_wp2_with fail
  refine (either_any A' n4 c' all A4 c4 C w4 (hrd.later hl4) ho4.rd (by omega)).mono ?_
  rintro e w5 ⟨A5, n5, c5, rfl, ho5, hl5⟩
  have hn5 : n5 = n4 := by rw [← ho5.1, orL_len hsC.1, hln]
  subst hn5
  obtain ⟨more, hmore⟩ : ∃ more, more = orL all C := ⟨_, rfl⟩
  rw [← hmore] at ho5
  have hlm : more.length = n5 := ho5.1
  have hrd5 := (hrd.later hl4).later hl5
  have hrm5 := ho5.rd
  have hlr5 := hlr.trans (hl4.trans hl5)
  have HMORE := Lib.hid hmore
  have HSC := Lib.hid hsC
  have HSTA := Lib.hid hsta
  have HO5 : Hid (OwnO w5 W1.heap.size A5 n5 c5 more) := ⟨ho5.1, ho5.2.1, ho5.2.2.imp id fun ⟨g, cap, cur, q1, q2, q3⟩ => ⟨g, cap, cur, q1, Nat.le_trans (hlr.trans hl4).size q2, q3⟩⟩
  have HOFF : Hid (more ≠ all → offsM (.slice A5 n5 c5) w5 < offsM (.slice A' n5 c') wr) := fun hne => by
   rw [offsM_rd hrm5, offsM_rd hrd, hmore]
   exact offs_or hsC.1 (by rw [← hmore]; exact hne)
  have HOWN : Hid (OwnO w5 W1.heap.size A' n5 c' all) := (hown.later hl4).later hl5
  clear hmore hsC hsta ho5 hown ho4 hl4 hl5 hlr hrd
  go_wp2_with fail
  go_loopw [9, 10] (fun s9 s10 wr => ∃ i : Nat, i ≤ n5 ∧ s10 = .int .i64 (i : Int) ∧ s9 = .bool (decide (all.take i = more.take i)) ∧ Later w5 wr) (fun _ s10 _ => n5 - (intOf s10).toNat)
  case atStart => exact ⟨0, Nat.zero_le _, rfl, by simp, Later.refl _⟩
  case round =>
   obtain ⟨i, hi, rfl, rfl, hlq⟩ := hrel
   by_cases hlt : i < n5
   ·have hlti : (i : Int) < (n5 : Int) := by omega
    obtain ⟨x1, hx1⟩ : ∃ x, all[i]? = some x := ⟨_, List.getElem?_eq_getElem (by rw [hln]; exact hlt)⟩
    obtain ⟨y1, hy1⟩ : ∃ x, more[i]? = some x := ⟨_, List.getElem?_eq_getElem (by rw [hlm]; exact hlt)⟩
    have hnext := take_next hx1 hy1
    obtain ⟨p1, o1, rfl, _, f1⟩ := (hrd5.later hlq).at_ hx1
    obtain ⟨p2, o2, rfl, _, f2⟩ := (hrm5.later hlq).at_ hy1
    obtain ⟨s, hs⟩ : ∃ s, s = decide (all.take i = more.take i) := ⟨_, rfl⟩
    rw [← hs] at hnext ⊢
    have k1 : ∀ x : LW wr, x.val.cell? ⟨p1, o1 + i, none⟩ = some (.bool x1) := LW.cell_ f1
    have k2 : ∀ x : LW wr, x.val.cell? ⟨p2, o2 + i, none⟩ = some (.bool y1) := LW.cell_ f2
    have HN := Lib.hid hnext
    clear hnext hs hx1 hy1 f1 f2
    cases s with
    | false =>
     go_wp2_with fail
     refine wp_region_laterq (by kernel_rfl) (by kernel_rfl) ?_
     repeat (go_big_quiet_step (fail))
     refine wpQuiet_nil ?_
     intro _ hwq
     obtain ⟨xz, rfl⟩ := hwq
     clear k1 k2
     go_wp2_with fail
     go_roundw
     case rel => exact ⟨i + 1, by omega, by go_num, by rw [HN.out]; rfl, hlq.trans xz.later⟩
     case measure => simp [intOf]; omega
    | true =>
     go_wp2_with fail
     refine wp_region_laterq (by kernel_rfl) (by kernel_rfl) ?_
     repeat (go_big_quiet_step (fail))
     refine wpQuiet_nil ?_
     intro _ hwq
     obtain ⟨xz, rfl⟩ := hwq
     clear k1 k2
     go_wp2_with fail
     go_roundw
     case rel => exact ⟨i + 1, by omega, by go_num, by rw [HN.out]; rfl, hlq.trans xz.later⟩
     case measure => simp [intOf]; omega
   ·obtain rfl : n5 = i := by omega
    have hte : decide (all.take n5 = more.take n5) = decide (all = more) := by rw [List.take_of_length_le (by omega), List.take_of_length_le (by omega)]
    rw [hte]
    by_cases he : all = more
    ·rw [decide_eq_true he]
     have HE := Lib.hid he
     clear hte he
     go_wp2_with fail
     go_ret
     refine ⟨all, stars_end HSTA.out HSC.out (by rw [← HMORE.out]; exact HE.out.symm), _, _, _, rfl, ?_, HLW.out.trans (hlr5.trans hlq)⟩
     have h9 := HOWN.out.later hlq
     exact ⟨h9.1, h9.2.1, h9.2.2.imp id fun ⟨g, cap, cur, q1, q2, q3⟩ => ⟨g, cap, cur, q1, Nat.le_trans HLW.out.size q2, q3⟩⟩
    ·rw [decide_eq_false he]
     have HE := Lib.hid he
     clear hte he
     go_wp2_with fail
     refine ⟨⟨A5, c5, more, rfl, HO5.out.later hlq, by rw [HMORE.out]; exact stars_next HSTA.out HSC.out, hlr5.trans hlq⟩, ?_⟩
     rw [offsM_rd (hrm5.later hlq), ← offsM_rd hrm5]
     exact HOFF.out (Ne.symm HE.out)
end Go.Proofs.YtmkddhkpeiajhaaGreatDoor
namespace Go.Proofs.YtmkddhkpeiajhaaGreatDoor
open Go.RowKit
class Txt (S : ByteArray) : Prop where
 n123 : ∀ (i : Nat) (x : UInt8), S.data.toList[i]? = some x → x.toNat ≠ 123
 n94 : ∀ (i : Nat) (x : UInt8), S.data.toList[i]? = some x → x.toNat ≠ 94
 opens : ∀ i : Nat, opensF S.data.toList i = false
 esc : ∀ (i : Nat) (x : UInt8), S.data.toList[i]? = some x → x.toNat = 92 → S.data.toList[i + 1]? = none
 span : ∀ p a a1 : Nat, endF S.data.toList p = some (a, a1) → S.data.toList[a1]? = some 45 → ∃ b bz, endF S.data.toList (a1 + 1) = some (b, bz) ∧ a ≤ b
end Go.Proofs.YtmkddhkpeiajhaaGreatDoor
namespace Go.Proofs.YtmkddhkpeiajhaaGreatDoor
open Go.RowKit
def RdC (w : World) (g : Nat) (S : ByteArray) (st : St) : Prop := Blk w g 115 #[.string S, .int .i64 (st.at_ : Int), .int .i64 (st.op : Int), .int .i64 (st.bad : Int), .int .i64 (st.fr : Int)]
section
variable {w w' : World} {g : Nat} {S : ByteArray} {st : St}
theorem RdC.later (h : RdC w g S st) (hl : Later w w') : RdC w' g S st := blkL hl h
theorem RdC.c0 (h : RdC w g S st) : w.cell? ⟨g, 0, none⟩ = some (.string S) := h.cell 0
theorem RdC.c1 (h : RdC w g S st) : w.cell? ⟨g, 1, none⟩ = some (.int .i64 (st.at_ : Int)) := h.cell 1
theorem RdC.c2 (h : RdC w g S st) : w.cell? ⟨g, 2, none⟩ = some (.int .i64 (st.op : Int)) := h.cell 2
theorem RdC.c3 (h : RdC w g S st) : w.cell? ⟨g, 3, none⟩ = some (.int .i64 (st.bad : Int)) := h.cell 3
theorem RdC.c4 (h : RdC w g S st) : w.cell? ⟨g, 4, none⟩ = some (.int .i64 (st.fr : Int)) := h.cell 4
theorem RdC.f (h : RdC w g S st) (i : Nat) : w.frozen? ⟨g, i, none⟩ = false := h.frozen i
theorem RdC.setAt (h : RdC w g S st) (a : Nat) (x : Int) (hx : x = (a : Int)) : RdC (w.setCell ⟨g, 1, none⟩ (.int .i64 x)) g S (stAt st a) := by subst hx; exact h.set_ 1 _
theorem RdC.setOp (h : RdC w g S st) (a : Nat) (x : Int) (hx : x = (a : Int)) : RdC (w.setCell ⟨g, 2, none⟩ (.int .i64 x)) g S (stOp st a) := by subst hx; exact h.set_ 2 _
theorem RdC.spares (h : RdC w g S st) (lo : Nat → Prop) : Spares w lo (fun k => k = g) := spares_blk lo h (by decide)
end
theorem more_yes (g : Nat) (S : ByteArray) (st : St) (w : World) (h : RdC w g S st) (hlt : st.at_ < S.size) (_hs : S.size ≤ 1000000000) :
  Calls Tryz.prog 65 #[.pointer (some ⟨g, 0, none⟩)] w fun e w' => e = .returned (.bool true) ∧ Later w w' := by
 have c0 := h.c0
 have c1 := h.c1
 have hi : (st.at_ : Int) < (S.size : Int) := by omega
 go_enter Tryz.func65, Tryz.ntmps65
 go_wp2_with fail
 go_quiet (fail)
 go_wp2_with fail
 go_ret
 exact ⟨rfl, (Later.refl w).drewN _⟩
theorem more_no (g : Nat) (S : ByteArray) (st : St) (w : World) (h : RdC w g S st) (hlt : S.size ≤ st.at_) (_hs : S.size ≤ 1000000000) :
  Calls Tryz.prog 65 #[.pointer (some ⟨g, 0, none⟩)] w fun e w' => e = .returned (.bool false) ∧ Later w w' := by
 have c0 := h.c0
 have c1 := h.c1
 have hi : decide (st.at_ < S.size) = false := by simp; omega
 go_enter Tryz.func65, Tryz.ntmps65
 go_wp2_with fail
 go_quiet (fail)
 go_wp2_with fail
 go_ret
 exact ⟨rfl, (Later.refl w).drewN _⟩
theorem isR_any (g : Nat) (S : ByteArray) (st : St) (c : Int) (cn : Nat) (v : Bool) (w : World) (h : RdC w g S st) (hc : c = (cn : Int)) (hv : isAt S.data.toList st.at_ cn = v) (hs : S.size ≤ 1000000000) :
  Calls Tryz.prog 82 #[.pointer (some ⟨g, 0, none⟩), .int .u8 c] w fun e w' => e = .returned (.bool v) ∧ Later w w' := by
 have k0 : ∀ x : LW w, x.val.cell? ⟨g, 0, none⟩ = some (.string S) := LW.cell_ h.c0
 have k1 : ∀ x : LW w, x.val.cell? ⟨g, 1, none⟩ = some (.int .i64 (st.at_ : Int)) := LW.cell_ h.c1
 have HV := Lib.hid hv
 clear hv
 cases hx : S.data.toList[st.at_]? with
 | none =>
  have hle := str_none S _ hx
  have hve : false = v := by have := HV.out; unfold isAt at this; rw [hx] at this; exact this
  subst hve
  clear hx
  go_enter Tryz.func82, Tryz.ntmps82
  go_wp2_with fail
  refine wp_region_laterq (by kernel_rfl) (by kernel_rfl) ?_
  repeat (go_big_quiet_step (((go_at_call 65; (with_reducible refine Calls.laterq (more_no g S st _ (h.later (LW.later _)) hle hs))))))
  refine wpQuiet_nil ?_
  intro _ hwq
  obtain ⟨xz, rfl⟩ := hwq
  go_wp2_with fail
  go_ret
  exact ⟨rfl, xz.later⟩
 | some x =>
  obtain ⟨hi, he⟩ := str_get S _ x hx
  have hi1 : (st.at_ : Int) < (S.size : Int) := by omega
  have hve : ((S[st.at_].toNat : Int) == c) = v := by
   have := HV.out
   unfold isAt at this
   rw [hx] at this
   rw [he, hc, ← this]
   rw [Bool.eq_iff_iff, beq_iff_eq, beq_iff_eq]
   omega
  have HVE := Lib.hid hve
  clear hx he hve hc
  go_enter Tryz.func82, Tryz.ntmps82
  go_wp2_with fail
  refine wp_region_laterq (by kernel_rfl) (by kernel_rfl) ?_
  repeat (go_big_quiet_step (((go_at_call 65; (with_reducible refine Calls.laterq (more_yes g S st _ (h.later (LW.later _)) hi hs))))))
  refine wpQuiet_nil ?_
  intro _ hwq
  obtain ⟨xz, rfl⟩ := hwq
  go_wp2_with fail
  go_ret
  exact ⟨by rw [HVE.out]; rfl, xz.later⟩
theorem faultR_any (g : Nat) (S : ByteArray) (st : St) (A E : Int) (a e : Nat) (w : World) (h : RdC w g S st) (hA : A = (a : Int)) (hE : E = (e : Int)) :
  Calls Tryz.prog 66 #[.pointer (some ⟨g, 0, none⟩), .int .i64 A, .int .i64 E] w fun r w' => r = .returned (.tuple #[]) ∧ RdC w' g S (stFault e a st) ∧ Fr w w' (fun k => k = g) := by
 have c3 := h.c3
 have f3 := h.f 3
 have f4 := h.f 4
 have c4 := h.c4
 by_cases hb : st.bad = 0
 ·have hq : stFault e a st = ⟨st.at_, st.op, e, a⟩ := if_pos hb
  have hbi : ((st.bad : Int) == 0) = true := by rw [hb]; rfl
  rw [hq]
  clear hq hb
  go_enter Tryz.func66, Tryz.ntmps66
  go_wp2_with fail
  go_end0
  refine ⟨rfl, ?_, Fr.set (p := fun k => k = g) (a := ⟨g, 4, none⟩) (Fr.set (p := fun k => k = g) (a := ⟨g, 3, none⟩) (Fr.refl w _) (fun _ => rfl) _) (fun _ => rfl) _⟩
  subst hA hE
  exact (h.set_ 3 _).set_ 4 _
 ·have hq : stFault e a st = st := if_neg hb
  have hbi : ((st.bad : Int) == 0) = false := by rw [beq_eq_false_iff_ne]; omega
  rw [hq]
  clear hq hb
  go_enter Tryz.func66, Tryz.ntmps66
  go_wp2_with fail
  go_end0
  exact ⟨rfl, h, Fr.refl w _⟩
theorem isDig_iff (d : UInt8) : isDig d = true ↔ 48 ≤ d.toNat ∧ d.toNat ≤ 57 := by
 unfold isDig
 rw [Bool.and_eq_true, decide_eq_true_eq, decide_eq_true_eq]
theorem digF_some (l : List UInt8) (j q n : Nat) (d : UInt8) (h : l[q]? = some d) (hd : isDig d = true) : digF l (j + 1) q n = digF l j (q + 1) (10 * n + (d.toNat - 48)) := by
 rw [digF, h]
 simp only
 rw [if_pos hd]
theorem digF_not (l : List UInt8) (j q n : Nat) (d : UInt8) (h : l[q]? = some d) (hd : ¬ isDig d = true) : digF l (j + 1) q n = (n, q) := by
 rw [digF, h]
 simp only
 rw [if_neg hd]
theorem digF_none (l : List UInt8) (j q n : Nat) (h : l[q]? = none) : digF l (j + 1) q n = (n, q) := by
 rw [digF, h]
def atR (w : World) (g : Nat) : Nat := match w.cell? ⟨g, 1, none⟩ with | some v => (intOf v).toNat | none => 0
theorem RdC.atR {w : World} {g : Nat} {S : ByteArray} {st : St} (h : RdC w g S st) : atR w g = st.at_ := by
 unfold Proofs.YtmkddhkpeiajhaaGreatDoor.atR
 rw [h.c1]
 rfl
end Go.Proofs.YtmkddhkpeiajhaaGreatDoor
