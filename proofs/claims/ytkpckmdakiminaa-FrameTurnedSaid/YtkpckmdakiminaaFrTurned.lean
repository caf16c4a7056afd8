/-
  The walk of FrameTurned: a frame of which a byte behind its length is another one is not whole; those ahead of it are told.
-/
import Derived.Test.YtkpckmdakiminaaFrCutW
import Derived.StillTailTactics
import Derived.Deep.DeepCutAuto
namespace Go.Proofs.Ytkpckmdakiminaa
open Go.RowKit

theorem xor_bd (x : UInt8) (v : Nat) (h0 : 0 < v) (hv : v < 256) : 0 ≤ bits .xor .u8 (x.toNat : Int) (v : Int) ∧ bits .xor .u8 (x.toNat : Int) (v : Int) < 256 ∧ byt (bits .xor .u8 (x.toNat : Int) (v : Int)) ≠ x := by
  have hx := x.toNat_lt
  have hb : x.toNat ^^^ v < 256 := Nat.xor_lt_two_pow (n := 8) hx hv
  rw [u8_xor_nat _ _ hx hv]
  refine ⟨by omega, by omega, fun h => ?_⟩
  have h3 := congrArg UInt8.toNat h
  unfold byt at h3
  rw [Int.toNat_natCast, UInt8.toNat_ofNat', Nat.mod_eq_of_lt hb] at h3
  have h4 : x.toNat ^^^ (x.toNat ^^^ v) = 0 := by rw [h3, Nat.xor_self]
  rw [← Nat.xor_assoc, Nat.xor_self, Nat.zero_xor] at h4
  omega

set_option maxRecDepth 100000 in
set_option maxHeartbeats 2000000 in
theorem frTurned_any (A : Option Addr) (n c : Nat) (rs : List RowV) (A2 : Option Addr) (n2 c2 : Nat) (l2 : List UInt8) (at_ by_ : Int) (w : World) (hr : RdR w w.heap.size A n rs) (hr2 : RdB w w.heap.size A2 n2 l2) (hc2 : n2 ≤ c2) :
    Calls Try.prog 7 #[.slice A n c, .slice A2 n2 c2, .int .i64 at_, .int .i64 by_] w fun e w' => e = .returned (.bool true) ∧ Below w.heap.size w w' := by
  go_enter Try.func7, Try.ntmps7
  go_wp2_with fail
  refine (short_any A n c rs 20 500 w hr (by omega) (by omega)).mono ?_
  rintro e w1 ⟨A1, n1, c1, rs1, rfl, hown1, hbs, hb1⟩
  have hsh := shorts_of hbs
  have hz1 := hb1.size
  have HL : Hid (rs1.length = n1) := hown1.len
  have hn1 : n1 ≤ 20 := by have := hsh.1; have := HL.out; omega
  clear hbs
  go_wp2_with fail
  go_loopw [9, 10] (fun v i wr => ∃ (j n9 c9 : Nat) (A9 : Option Addr), j ≤ n1 ∧ i = .int .i64 (j : Int) ∧ v = .slice A9 n9 c9 ∧ OwnB wr w1.heap.size A9 n9 c9 (((bytesOf rs1).take j).flatMap frameB) ∧ Below w1.heap.size w1 wr) (fun _ i _ => n1 - (intOf i).toNat)
  case atStart => exact ⟨0, 0, 0, none, by omega, rfl, rfl, OwnB.nil, Below.refl _ _⟩
  case round =>
    obtain ⟨j, n9, c9, A9, hj, rfl, rfl, hown, hbw⟩ := hrel
    have hsz := hbw.size
    have hn9 : n9 ≤ 10200 := by have h := shorts_take hsh j; have := hown.len; omega
    by_cases hlt : j < n1
    · obtain ⟨b, off, r, rfl, hbB, hry, d0, d1, d2⟩ := (hown1.rd.below hbw).at_ hlt
      have hrl : r.l.length ≤ 500 := hsh.2 r.l (List.mem_map.2 ⟨r, List.mem_of_getElem? hry, rfl⟩)
      have hrn : r.n ≤ 500 := by have := d1.len; omega
      have HN := Lib.hid (frames_snoc hry)
      go_wp2_with fail
      refine (frame_any r.A r.n r.c r.l wr (d1.more hsz) (by omega)).mono ?_
      rintro e w2 ⟨A3, n3, c3, rfl, hown2, hb2⟩
      have hn3 : n3 = r.n + 10 := by rw [← hown2.len, frameB_len (by omega), d1.len]
      subst hn3
      have hz2 := hb2.size
      have hown' := hown.below hb2 (fun k hk => (hown.lt k hk).2)
      go_wp2_with (at_builtin; go_loud (refine wpList_append_b _ rfl (.tmp 23) (.tmp 28) rfl w1.heap.size A9 n9 c9 _ rfl hown' _ A3 (r.n + 10) c3 _ rfl hown2.rd (by omega) (by omega) ?_); intro A4 n4 c4 w3 hown3 hg3 hob3)
      go_roundw
      case rel => exact ⟨j + 1, n4, c4, A4, by omega, by go_num, rfl, by rw [HN.out]; exact hown3, (hbw.trans (hb2.mono hsz)).grown hg3 (by omega) (fun k hk => (hown.lt k hk).1)⟩
      case measure => simp [intOf]; omega
    · obtain rfl : j = n1 := by omega
      have e1 : (bytesOf rs1).take j = bytesOf rs1 := List.take_of_length_le (by unfold bytesOf; rw [List.length_map, HL.out]; exact Nat.le_refl _)
      rw [e1] at hown
      clear e1
      obtain ⟨m, hm, hm2, hmin⟩ : ∃ m : Nat, m ≤ 500 ∧ m ≤ n2 ∧ (m = n2 ∧ ¬ 500 < n2 ∨ m = 500 ∧ 500 < n2) := by
        by_cases h : 500 < n2
        · exact ⟨500, by omega, by omega, .inr ⟨rfl, h⟩⟩
        · exact ⟨n2, by omega, by omega, .inl ⟨rfl, h⟩⟩
      have q2 := ((((hr2.below hb1).below (hbw.mono hz1)).upto hm2).more (B' := wr.heap.size) (by omega))
      have H6 := Lib.hid (frame_any A2 m c2 _ wr q2 (by omega))
      have hL : Hid ((l2.take m).length = m) := by show _ = _; exact q2.len
      obtain ⟨L, hLe⟩ : ∃ L, Hid (l2.take m = L) := ⟨_, rfl⟩
      rw [hLe.out] at q2 H6 hL
      clear hLe
      rcases hmin with ⟨rfl, hlt5⟩ | ⟨rfl, hlt5⟩
      all_goals
        go_wp2_with fail
        refine H6.out.mono ?_
        rintro e w3 ⟨A3, n3, c3, rfl, hown3, hb3⟩
        have hz3 := hb3.size
        obtain ⟨m, hmm⟩ : ∃ m, Hid (L.length = m) := ⟨_, rfl⟩
        have hm5 : m ≤ 500 := by have := hL.out; have := hmm.out; omega
        have hn3 : n3 = m + 10 := by rw [← hown3.len, frameB_len (by rw [hmm.out]; omega), hmm.out]
        subst hn3
        go_wp2_with fail
        refine (known_any _).mono ?_
        rintro e w4 ⟨rfl, hb4⟩
        have hz4 := hb4.size
        have hown4 := hown3.below hb4 (fun k hk => (hown3.lt k hk).2)
        obtain ⟨kk, hkk, hkl⟩ := pick_nat at_ ((m : Int) + 6) (by omega)
        obtain ⟨jj, hjj, hjl⟩ := pick_nat by_ 255 (by omega)
        have ht1 : ((m : Int) + 10) - 4 = (m : Int) + 6 := by omega
        go_wp2_with fail
        clear ht1
        refine (pick_at at_ ((m : Int) + 6) kk _ (by omega) (by omega) hkk).mono ?_
        rintro e w' ⟨rfl, rfl⟩
        obtain ⟨g, rfl, hbg, hgl, hcell, hfz, hst⟩ := hown4.store (k := 4 + kk) (by omega)
        have hk0 : (0 : Int) ≤ 4 + (kk : Int) := by omega
        have hkc : 4 + (kk : Int) < ((m : Int) + 10) := by omega
        have htn : (4 + (kk : Int)).toNat = 4 + kk := by omega
        go_wp2_with fail
        refine wp_region_still_tail 12 (by kernel_rfl) (by kernel_rfl) ?_
        simp only [List.take_succ_cons, List.take_zero, List.drop_succ_cons, List.drop_zero]
        repeat still_step
        still_call ((pick_at by_ 255 jj _ (by omega) (by omega) hjj).mono fun _ _ h => ⟨h.1, h.2.symm⟩)
        repeat still_step
        refine wpStill_nil ?_
        change wpList _ _ _ _ _ w4.drew
        have hx := xor_bd ((frameB L)[4 + kk]?.getD 0) (1 + jj) (by omega) (by omega)
        rw [show ((1 + jj : Nat) : Int) = 1 + (jj : Int) from by omega] at hx
        obtain ⟨hown5, hg5⟩ := hst _ hx.1 hx.2.1
        have hnt := frame_turned (p := L) (k := 4 + kk) (by rw [hmm.out]; omega) (by omega) (by rw [hmm.out]; omega) hx.2.2
        have hbw4 := ((hbw.trans (hb3.mono hsz)).trans (hb4.mono (by omega)))
        have hb5 : Below w1.heap.size w1 (w4.setCell ⟨g, 4 + kk, none⟩ (.int .u8 (bits BinOp.xor IntKind.u8 (((frameB L)[4 + kk]?.getD 0).toNat : Int) (1 + (jj : Int))))) := hbw4.grown hg5 (by omega) (by intro g' e; injection e with e; omega)
        have hownb := (hown.below (hb3.trans (hb4.mono hz3)) (fun k hk => (hown.lt k hk).2)).kept hg5 (.inr (by
          intro e
          have := (hown.lt g e).2
          omega))
        obtain ⟨y, hy⟩ : ∃ y, Hid (byt (bits BinOp.xor IntKind.u8 (((frameB L)[4 + kk]?.getD 0).toNat : Int) (1 + (jj : Int))) = y) := ⟨_, rfl⟩
        rw [hy.out] at hown5 hnt
        clear htn
        go_upto_region 12 with (fail)
        obtain ⟨W5, hW5⟩ : ∃ W5, Hid (w4.setCell ⟨g, 4 + kk, none⟩ (.int .u8 (bits BinOp.xor IntKind.u8 (((frameB L)[4 + kk]?.getD 0).toNat : Int) (1 + (jj : Int)))) = W5) := ⟨_, rfl⟩
        rw [hW5.out] at hown5 hb5 hownb ⊢
        have hz5 := hb5.size
        clear hW5 hy hx
        have hg5l := (hown5.lt g rfl).2
        have hn9 : n9 ≤ 10200 := by have h := shorts_take hsh j; have := hown.len; rw [List.take_of_length_le (by unfold bytesOf; rw [List.length_map, HL.out]; exact Nat.le_refl _)] at h; omega
        go_wp2_with (at_builtin; first
          | (refine wpList_append_b _ rfl (.tmp 62) (.tmp 63) rfl w1.heap.size _ 0 0 [] rfl (OwnB.drew (OwnB.made hz5)) _ A9 n9 c9 _ rfl ((hownb.alloc _).drew.rd) (by omega) (by simp; omega) ?_; intro A6 n6 c6 w6 hown6 hg6 hob6; have hz6 := hg6.size; simp only [World.size_alloc, World.size_drew] at hz6; have hown7 := ((hown5.alloc (.cells #[] 5)).drew).kept hg6 (.inr (by intro e; injection e with e; simp at e; omega)); have hn6 : n6 ≤ 10200 := by (rw [← hown6.len, List.nil_append, hown.len]; exact hn9))
          | (go_loud (refine wpList_append_b _ rfl (.tmp 64) (.tmp 65) rfl w1.heap.size A6 n6 c6 _ rfl hown6 _ (some ⟨g, 0, none⟩) (m + 10) c3 _ rfl (hown7.rd) (by omega) (by omega) ?_); intro A7 n7 c7 w7 hown8 hg7 hob7))
        have hb6 : Below w1.heap.size w1 w6 := ((hb5.alloc hz5 _).drew).grown hg6 (by simp; omega) (by intro g' e; injection e with e; simp at e; omega)
        have hz7 := hg7.size
        have hb7 : Below w1.heap.size w1 w7 := hb6.grown hg7 (by omega) (fun k hk => (hown6.lt k hk).1)
        rw [List.nil_append] at hown8
        have hlb := listB_frames _ hnt (bytesOf rs1) (fun p hp => by have := hsh.2 p hp; omega)
        rw [hown.len] at hlb
        have hn7 : n7 ≤ 30000 := by rw [← hown8.len, List.length_append, hown.len, List.length_set, frameB_len (by rw [hmm.out]; omega), hmm.out]; omega
        have H8 := Lib.hid (list_any A7 n7 c7 _ w7 hown8.rd (by omega) hown8.cap)
        rw [hlb] at H8
        unfold Listed at H8
        refine H8.out.mono ?_
        rintro e w8 ⟨A8, n8, c8, rs8, rfl, hown9, hbs8, hb8⟩
        have hbs8 := Lib.hid hbs8
        have hz8 := hb8.size
        have q8 := hown9.rd
        have q1 := (((hown1.rd.below hb7).below (hb8.mono (by omega))).more (B' := w8.heap.size) (by omega))
        have hn8 : n8 ≤ 140737488355328 := by have h := rows_len hbs8.out; rw [hown9.len, HL.out] at h; omega
        clear hlb
        go_wp2_with fail
        refine (same_true A8 n8 c8 rs8 A1 j c1 rs1 _ w8 q8 q1 hbs8.out hn8).mono ?_
        rintro e w9 ⟨rfl, q, rfl⟩
        go_wp2_with fail
        go_ret
        exact ⟨rfl, below_drewN ((hb1.trans (hb7.mono hz1)).trans (hb8.mono (by omega))) _⟩

end Go.Proofs.Ytkpckmdakiminaa
