/-
  The walk of FrameCut.
-/
import Derived.Test.YtkpckmdakiminaaFrCut
namespace Go.Proofs.Ytkpckmdakiminaa
open Go.RowKit

theorem own_b_i {w w1 : World} {b1 b2 n n' c c' : Nat} {A A' : Option Addr} {l : List UInt8} {ks : List Int} {o : Obj} (hb : OwnB w b1 A n c l) (hi : OwnI w b2 A' n' c' ks) (hg : w.grownBy w1 (ob A)) : OwnI w1 b2 A' n' c' ks :=
  World.ownsRow.kept hi hg (by have := own_ne hi hb (by decide); rw [ob_own, ob_own] at this; rw [ob_own]; exact this)
theorem own_i_b {w w1 : World} {b1 b2 n n' c c' : Nat} {A A' : Option Addr} {l : List UInt8} {ks : List Int} (hb : OwnB w b1 A n c l) (hi : OwnI w b2 A' n' c' ks) (hg : w.grownBy w1 (ob A')) : OwnB w1 b1 A n c l :=
  hb.kept hg (by have := own_ne hb hi (by decide); rw [ob_own, ob_own] at this; exact this)
theorem OwnI.alloc {w : World} {base n c : Nat} {A : Option Addr} {ks : List Int} (h : OwnI w base A n c ks) (o : Obj) : OwnI (w.alloc o) base A n c ks := World.ownsRow.alloc h o
theorem OwnI.lt {w : World} {base n c : Nat} {A : Option Addr} {ks : List Int} (h : OwnI w base A n c ks) : ∀ k, ob A = some k → base ≤ k ∧ k < w.heap.size := by
  have := World.ownsRow.lt h; rw [ob_own] at this; exact this

theorem bytesOf_take (rs : List RowV) (k : Nat) : bytesOf (rs.take k) = (bytesOf rs).take k := by unfold bytesOf; rw [List.map_take]
theorem bytesOf_get {rs : List RowV} {j : Nat} {r : RowV} (h : rs[j]? = some r) : (bytesOf rs)[j]? = some r.l := by unfold bytesOf; rw [List.getElem?_map, h]; rfl

set_option maxRecDepth 100000 in
set_option maxHeartbeats 2000000 in
theorem frCut_any (A : Option Addr) (n c : Nat) (rs : List RowV) (cut : Int) (w : World) (hr : RdR w w.heap.size A n rs) :
    Calls Try.prog 6 #[.slice A n c, .int .i64 cut] w fun e w' => e = .returned (.bool true) ∧ Below w.heap.size w w' := by
  go_enter Try.func6, Try.ntmps6
  go_wp2_with fail
  refine (short_any A n c rs 50 2000 w hr (by omega) (by omega)).mono ?_
  rintro e w1 ⟨A1, n1, c1, rs1, rfl, hown1, hbs, hb1⟩
  have hsh := shorts_of hbs
  have hz1 := hb1.size
  have HL : Hid (rs1.length = n1) := hown1.len
  have hn1 : n1 ≤ 50 := by have := hsh.1; have := HL.out; omega
  clear hbs
  go_wp2_with fail
  go_loopw [5, 6, 7] (fun v u i wr => ∃ (j n9 c9 c8 : Nat) (A9 A8 : Option Addr), j ≤ n1 ∧ i = .int .i64 (j : Int) ∧ v = .slice A9 n9 c9 ∧ u = .slice A8 j c8 ∧ OwnB wr w1.heap.size A9 n9 c9 (pre (bytesOf rs1) j) ∧ OwnI wr w1.heap.size A8 j c8 (endsOf (bytesOf rs1) j) ∧ Below w1.heap.size w1 wr) (fun _ _ i _ => n1 - (intOf i).toNat)
  case atStart => exact ⟨0, 0, 0, 0, none, none, by omega, rfl, rfl, rfl, OwnB.nil, World.ownsRow_nil _ _ _ _, Below.refl _ _⟩
  case round =>
    obtain ⟨j, n9, c9, c8, A9, A8, hj, rfl, rfl, rfl, hown, hends, hbw⟩ := hrel
    have hsz := hbw.size
    have hn9 : n9 ≤ 100500 := by have h := shorts_take hsh j; have := hown.len; unfold pre at this; omega
    by_cases hlt : j < n1
    · obtain ⟨b, off, r, rfl, hbB, hry, d0, d1, d2⟩ := (hown1.rd.below hbw).at_ hlt
      have hrl : r.l.length ≤ 2000 := hsh.2 r.l (List.mem_map.2 ⟨r, List.mem_of_getElem? hry, rfl⟩)
      have hrn : r.n ≤ 2000 := by have := d1.len; omega
      have HP := Lib.hid (pre_succ (bytesOf_get hry))
      go_wp2_with fail
      refine (frame_any r.A r.n r.c r.l wr (d1.more hsz) (by omega)).mono ?_
      rintro e w2 ⟨A2, n2, c2, rfl, hown2, hb2⟩
      have hn2 : n2 = r.n + 10 := by rw [← hown2.len, frameB_len (by omega), d1.len]
      subst hn2
      have hz2 := hb2.size
      have hown' := hown.below hb2 (fun k hk => (hown.lt k hk).2)
      have hends' := hends.below hb2 (Nat.le_refl _)
      go_wp2_with (at_builtin; first
        | (refine wpList_append_b _ rfl (.tmp 20) (.tmp 25) rfl w1.heap.size A9 n9 c9 _ rfl hown' _ A2 (r.n + 10) c2 _ rfl hown2.rd (by omega) (by omega) ?_; intro A3 n3 c3 w3 hown3 hg3 hob3; have hz3 := hg3.size; have hends3 := own_b_i (o := .cells #[] 0) hown' hends' hg3)
        | (refine wpList_append_i _ rfl (.tmp 27) (.tmp 30) rfl w1.heap.size A8 j c8 _ rfl (hends3.alloc _) (n3 : Int) _ (some ⟨w3.heap.size, 0, none⟩) rfl (reads_int _ _ _) (by omega) (by simp; omega) ?_; intro A4 n4 c4 w4 hn4 hends4 hg4; have hn4 := Lib.hid hn4))
      have hown4 := own_i_b (hown3.alloc _) (hends3.alloc _) hg4
      have hb3 := (hbw.trans (hb2.mono hsz)).grown hg3 (by omega) (fun k hk => (hown.lt k hk).1)
      have hb4 : Below w1.heap.size w1 w4 := (hb3.alloc (by omega) _).grown hg4 (by simp; omega) (fun k hk => (hends.lt k hk).1)
      have hl3 := hown3.len
      rw [← HP.out] at hown4 hl3
      rw [hn4.out, ← hl3, ← endsOf_succ] at hends4
      go_roundw
      case rel => exact ⟨j + 1, n3, c3, c4, A3, A4, by omega, by go_num, rfl, rfl, hown4, hends4, hb4⟩
      case measure => simp [intOf]; omega
    · obtain rfl : j = n1 := by omega
      have e1 : pre (bytesOf rs1) j = (bytesOf rs1).flatMap frameB := by
        have h := pre_all (bytesOf rs1)
        have h2 : (bytesOf rs1).length = j := by unfold bytesOf; rw [List.length_map]; exact HL.out
        rw [h2] at h
        exact h
      rw [e1] at hown
      obtain ⟨cc, hcc, hccl⟩ := pick_nat cut ((n9 : Int) + 1) (by omega)
      go_wp2_with fail
      refine (pick_at cut ((n9 : Int) + 1) cc _ (by omega) (by omega) hcc).mono ?_
      rintro e w' ⟨rfl, rfl⟩
      go_wp2_with fail
      go_loop [8, 9] (fun u v => ∃ (k e : Nat), k ≤ j ∧ u = .int .i64 (k : Int) ∧ v = .int .i64 (e : Int) ∧ Hid (e = (pre (bytesOf rs1) k).length) ∧ e ≤ cc) (fun u _ => j - (intOf u).toNat)
      case atStart => exact ⟨0, 0, by omega, rfl, rfl, rfl, by omega⟩
      case round =>
        obtain ⟨k, e, hkj, rfl, rfl, he, hec⟩ := hrel
        by_cases hcase : k < j ∧ (pre (bytesOf rs1) (k + 1)).length ≤ cc
        · obtain ⟨hkl, hle⟩ := hcase
          obtain ⟨g, x, rfl, hgl, hx, hcell⟩ := hends.at_ hkl
          rw [endsOf_get hkl] at hx
          injection hx with hx
          subst hx
          obtain ⟨e2, he2⟩ : ∃ e2, Hid (e2 = (pre (bytesOf rs1) (k + 1)).length) := ⟨_, rfl⟩
          rw [← he2.out] at hcell hle
          have hki : (k : Int) < (j : Int) := by omega
          have hlei : (e2 : Int) ≤ (cc : Int) := by omega
          go_wp2_with fail
          go_round
          case rel => exact ⟨k + 1, e2, by omega, by go_num, rfl, he2, hle⟩
          case measure => simp [intOf]; omega
        · have hlb := listB_cut (ps := bytesOf rs1) (fun p hp => by have := hsh.2 p hp; omega) (j := k) (cut := cc) (by unfold bytesOf; rw [List.length_map, HL.out]; exact hkj) (by rw [← he.out]; exact hec) (fun h => by
            have h' : k < j := by unfold bytesOf at h; rw [List.length_map, HL.out] at h; exact h
            by_cases hq : (pre (bytesOf rs1) (k + 1)).length ≤ cc
            · exact absurd ⟨h', hq⟩ hcase
            · omega)
          rw [← he.out, ← bytesOf_take] at hlb
          have hupto := hown.rd.upto (k := cc) (by omega)
          have hcap := hown.cap
          have H5 := Lib.hid (list_any A9 cc c9 _ wr hupto (by omega) (by omega))
          rw [hlb] at H5
          unfold Listed at H5
          have hci : (cc : Int) ≤ (c9 : Int) := by omega
          have hki : (k : Int) ≤ (c1 : Int) := by have := hown1.cap; omega
          clear hlb hupto e1
          have hend : (k < j → ∃ g x, A8 = some ⟨g, 0, none⟩ ∧ wr.cell? ⟨g, k, none⟩ = some (.int .i64 x) ∧ (cc : Int) < x) := fun h => by
            obtain ⟨g, x, e1, _, hx, hcell⟩ := hends.at_ h
            rw [endsOf_get h] at hx
            injection hx with hx
            refine ⟨g, x, e1, hcell, ?_⟩
            by_cases hq : (pre (bytesOf rs1) (k + 1)).length ≤ cc
            · exact absurd ⟨h, hq⟩ hcase
            · omega
          clear hcase
          by_cases hkl : k < j
          case' pos =>
            obtain ⟨g, x, rfl, hcell, hgt⟩ := hend hkl
            have hgt' : ¬ x ≤ (cc : Int) := by omega
          case' neg =>
            have hkk : ¬ (k : Int) < (j : Int) := by omega
          all_goals
            clear hend
            go_wp2_with fail
            refine H5.out.mono ?_
            rintro e w5 ⟨A5, n5, c5, rs5, rfl, hown5, hbs5, hb5⟩
            have hbs5 := Lib.hid hbs5
            have hz5 := hb5.size
            go_wp2_with fail
            refine (known_any _).mono ?_
            rintro e w6 ⟨rfl, hb6⟩
            have hz6 := hb6.size
            have q5 := (hown5.below hb6 (Nat.le_refl _)).rd
            have q1 := ((((hown1.rd.below hbw).below (hb5.mono hsz)).below (hb6.mono (by omega))).more (B' := w6.heap.size) (by omega)).upto (k := k) (by omega)
            have hn5 : n5 ≤ 140737488355328 := by have h := rows_len hbs5.out; rw [hown5.len, List.length_take, HL.out] at h; omega
            go_wp2_with fail
            refine (same_true A5 n5 c5 rs5 A1 k c1 _ _ w6 q5 q1 hbs5.out hn5).mono ?_
            rintro e w7 ⟨rfl, m, rfl⟩
            go_wp2_with fail
            go_ret
            exact ⟨rfl, below_drewN (((hb1.trans (hbw.mono hz1)).trans (hb5.mono (by omega))).trans (hb6.mono (by omega))) _⟩

end Go.Proofs.Ytkpckmdakiminaa
