/-
  The walk of FrameLists: of any bytes the frames that are whole are told as the document says; what comes out is its owner's.
-/
import Derived.Test.YtkpckmdakiminaaRefList
import Derived.Test.YtkpckmdakiminaaFrKnown
import Derived.Test.YtkpckmdakiminaaPick
import Derived.Deep.DeepCutAuto
namespace Go.Proofs.Ytkpckmdakiminaa
open Go.RowKit

/-- a row of bytes in memory of the call's own, whatever they are -/
def Shp (w : World) (base : Nat) (A : Option Addr) (n : Nat) : Prop := n = 0 ∨ ∃ g cur, A = some ⟨g, 0, none⟩ ∧ base ≤ g ∧ Blk w g 5 cur ∧ ∀ k, k < n → ∃ x, cur[k]? = some (.int .u8 x)
theorem OwnB.shp {w : World} {base base' n c : Nat} {A : Option Addr} {l : List UInt8} (h : OwnB w base A n c l) (hb : base' ≤ base) : Shp w base' A n := by
  rcases h.2 with ⟨_, h0⟩ | ⟨g, cap, cur, e, h1, h2, h3, h4, h5, h6⟩
  · exact .inl h0
  · injection e with e1 e2 e3
    refine .inr ⟨g, cur, e1, by omega, h2, fun k hk => ?_⟩
    have hl : k < l.length := by rw [h.len]; exact hk
    have e : (bv l)[k]? = cur.toList[k]? := by rw [← h6, List.getElem?_take, if_pos (by omega)]
    rw [bv_get l k hl] at e
    exact ⟨_, by rw [← Array.getElem?_toList, ← e]⟩
theorem Shp.at_ {w : World} {base n : Nat} {A : Option Addr} (h : Shp w base A n) {k : Nat} (hk : k < n) : ∃ g cur x, A = some ⟨g, 0, none⟩ ∧ base ≤ g ∧ Blk w g 5 cur ∧ w.cell? ⟨g, k, none⟩ = some (.int .u8 x) ∧ w.frozen? ⟨g, k, none⟩ = false := by
  rcases h with h0 | ⟨g, cur, rfl, hb, hblk, hall⟩
  · omega
  · obtain ⟨x, hx⟩ := hall k hk
    exact ⟨g, cur, x, rfl, hb, hblk, by rw [hblk.cell]; exact hx, hblk.frozen k⟩
theorem Shp.set_ {w : World} {base n g' k' : Nat} {A : Option Addr} (h : Shp w base A n) (y : Int) : Shp (w.setCell ⟨g', k', none⟩ (.int .u8 y)) base A n := by
  rcases h with h0 | ⟨g, cur, rfl, hb, hblk, hall⟩
  · exact .inl h0
  · by_cases hg : g = g'
    · subst hg
      refine .inr ⟨g, _, rfl, hb, hblk.set_ k' _, fun k hk => ?_⟩
      obtain ⟨x, hx⟩ := hall k hk
      by_cases hkk : k' = k
      · subst hkk
        exact ⟨y, by rw [Array.getElem?_setIfInBounds_self_of_lt (Array.getElem?_eq_some_iff.1 hx).1]⟩
      · exact ⟨x, by rw [Array.getElem?_setIfInBounds_ne hkk]; exact hx⟩
    · exact .inr ⟨g, cur, rfl, hb, hblk.far (p := ⟨g', k', none⟩) hg _, hall⟩

/-- rows that may be written -/
def RowsW (w : World) (base : Nat) (A : Option Addr) (n c : Nat) (rs : List RowV) : Prop := w.ownsRow base 23 1 (.slice A n c) n (rs.map rowCell) ∧ ∀ r ∈ rs, Shp w base r.A r.n
theorem OwnR.rw_ {w : World} {base n c : Nat} {A : Option Addr} {rs : List RowV} (h : OwnR w base A n c rs) : RowsW w base A n c rs := ⟨h.1, fun r hr => (h.2 r hr).shp (Nat.le_refl _)⟩
theorem RowsW.at_ {w : World} {base n c : Nat} {A : Option Addr} {rs : List RowV} (h : RowsW w base A n c rs) {k : Nat} (hk : k < n) : ∃ g r, A = some ⟨g, 0, none⟩ ∧ rs[k]? = some r ∧ w.cell? ⟨g, k, none⟩ = some (.slice r.A r.n r.c) ∧ Shp w base r.A r.n := by
  obtain ⟨g, cap, hv, _, hlt⟩ := World.ownsRow.form h.1 (by omega)
  injection hv with hA
  subst hA
  have hl : k < rs.length := by have := h.1.1; rw [List.length_map] at this; omega
  refine ⟨g, rs[k], rfl, List.getElem?_eq_getElem hl, ?_, h.2 _ (List.getElem_mem hl)⟩
  rw [World.ownsRow.cellAt h.1 k (by omega), List.getElem?_map, List.getElem?_eq_getElem hl]
  rfl
theorem RowsW.store {w : World} {base n c g k : Nat} {A : Option Addr} {rs : List RowV} {cur : Array Value} (h : RowsW w base A n c rs) (hb : Blk w g 5 cur) (y : Int) : RowsW (w.setCell ⟨g, k, none⟩ (.int .u8 y)) base A n c rs := by
  refine ⟨ownsRow_fr h.1 ((Fr.refl w (fun j => j = g)).set (a := ⟨g, k, none⟩) (fun _ => rfl) _) ?_, fun r hr => (h.2 r hr).set_ y⟩
  intro j hj e
  subst e
  exact own_blk_ne h.1 hb (by decide) hj

/-- the bytes that the law looks at -/
def Looked (w : World) (s : Value) (wx : World) : Prop := ∃ A n c l, s = .slice A n c ∧ RdB wx wx.heap.size A n l ∧ n ≤ c ∧ n ≤ 100000000 ∧ Below w.heap.size w wx

theorem listG_le : ∀ (f : Nat) (l : List UInt8) (p : Nat), (listG f l p).1.length ≤ f
  | 0, _, _ => Nat.le_refl _
  | f + 1, l, p => by
    cases h : wholeB (l.drop p) with
    | none => rw [listG_none h]; simp
    | some r =>
      rw [listG_some h]
      have := listG_le f l (p + 10 + r.length)
      simp only [List.length_cons]
      omega
theorem listB_le (l : List UInt8) : (listB l).1.length ≤ l.length := listG_le _ _ _
theorem listG_each : ∀ (f : Nat) (l : List UInt8) (p : Nat), ∀ q ∈ (listG f l p).1, q.length ≤ 4194304
  | 0, _, _ => fun q h => by cases h
  | f + 1, l, p => by
    cases h : wholeB (l.drop p) with
    | none => rw [listG_none h]; exact fun q h => by cases h
    | some r =>
      rw [listG_some h]
      intro q hq
      rcases List.mem_cons.1 hq with rfl | hq
      · exact (whole_len h).2.2
      · exact listG_each f l _ q hq
theorem listB_each (l : List UInt8) : ∀ q ∈ (listB l).1, q.length ≤ 4194304 := listG_each _ _ _
theorem frameB_len84 (l : List UInt8) : (frameB l).length ≤ 4194314 := by
  by_cases h : l.length ≤ 4194304
  · rw [frameB_len h]; omega
  · unfold frameB; rw [if_pos (by omega)]; simp

set_option maxRecDepth 100000 in
set_option maxHeartbeats 4000000 in
theorem frLists_any (A : Option Addr) (n c : Nat) (l : List UInt8) (A2 : Option Addr) (n2 c2 : Nat) (rs : List RowV) (is : Bool) (at_ to_ : Int) (w : World) (hr : RdB w w.heap.size A n l) (hc : n ≤ c) (hn : n ≤ 1048576) (hr2 : RdR w w.heap.size A2 n2 rs) (hn2 : n2 ≤ 1048576) (hl2 : ∀ r ∈ rs, r.n ≤ 9223372036854775807) :
    Calls Try.prog 4 #[.slice A n c, .slice A2 n2 c2, .bool is, .int .i64 at_, .int .i64 to_] w fun e w' => e = .returned (.bool true) ∧ Below w.heap.size w w' := by
  go_enter Try.func4, Try.ntmps4
  go_upto_if 20 with (fail)
  go_cut [0] (fun s0 wx => Looked w s0 wx)
  case first =>
    cases is with
    | false =>
      go_wp2_with fail
      go_meet
      exact ⟨A, n, c, l, rfl, hr, hc, by omega, Below.refl _ _⟩
    | true =>
      go_wp2_with fail
      go_loopw [11, 12] (fun v i wr => ∃ (j n9 c9 : Nat) (A9 : Option Addr) (L : List UInt8), j ≤ n2 ∧ j ≤ 20 ∧ i = .int .i64 (j : Int) ∧ v = .slice A9 n9 c9 ∧ OwnB wr w.heap.size A9 n9 c9 L ∧ n9 ≤ j * 4194314 ∧ Below w.heap.size w wr) (fun _ i _ => n2 - (intOf i).toNat)
      case atStart => exact ⟨0, 0, 0, none, [], by omega, by omega, rfl, rfl, OwnB.nil, by omega, Below.refl _ _⟩
      case round =>
        obtain ⟨j, n9, c9, A9, L, hj, hj20, rfl, rfl, hown, hn9, hbw⟩ := hrel
        have hsz := hbw.size
        have hcap := hown.cap
        by_cases hlt : j < n2 ∧ j < 20
        · obtain ⟨hlt, hlt20⟩ := hlt
          obtain ⟨b, off, r, rfl, hbB, hry, d0, d1, d2⟩ := (hr2.below hbw).at_ hlt
          have hrn := hl2 r (List.mem_of_getElem? hry)
          have h20 : (j : Int) < 20 := by omega
          go_wp2_with fail
          refine (refFrame_any r.A r.n r.c r.l wr (d1.more hsz) hrn).mono ?_
          rintro e w2 ⟨A3, n3, c3, rfl, hown2, hb2⟩
          have hn3 : n3 ≤ 4194314 := by rw [← hown2.len]; exact frameB_len84 r.l
          have hz2 := hb2.size
          have hown' := hown.below hb2 (fun k hk => (hown.lt k hk).2)
          go_wp2_with (at_builtin; go_loud (refine wpList_append_b _ rfl (.tmp 31) (.tmp 36) rfl w.heap.size A9 n9 c9 _ rfl hown' _ A3 n3 c3 _ rfl hown2.rd (by omega) (by omega) ?_); intro A4 n4 c4 w3 hown3 hg3 hob3)
          have hn4 : n4 ≤ (j + 1) * 4194314 := by
            have h1 := hown3.len
            rw [List.length_append, hown.len, hown2.len] at h1
            omega
          go_roundw
          case rel => exact ⟨j + 1, n4, c4, A4, _, by omega, by omega, by go_num, rfl, hown3, hn4, (hbw.trans (hb2.mono hsz)).grown hg3 (by omega) (fun k hk => (hown.lt k hk).1)⟩
          case measure => simp [intOf]; omega
        · have hn9b : n9 ≤ 100000000 := by omega
          have hx : 0 ≤ to_ % 256 ∧ to_ % 256 < 256 := by omega
          have hcase : ¬ (j : Int) < (n2 : Int) ∨ ((j : Int) < (n2 : Int) ∧ ¬ (j : Int) < 20) := by omega
          clear hlt
          by_cases hn0 : n9 = 0
          · subst hn0
            rcases hcase with h1 | ⟨h1, h2⟩
            all_goals
              go_wp2_with fail
              go_meet
              exact ⟨A9, 0, c9, L, rfl, hown.rd, hcap, by omega, hbw⟩
          · obtain ⟨cc, hcc, hccl⟩ := pick_nat at_ (n9 : Int) (by omega)
            have hn0p : 0 < (n9 : Int) := by omega
            obtain ⟨g, rfl, hbg, hgl, hcell, hfz, hst⟩ := hown.store (k := cc) (by omega)
            obtain ⟨hown5, hg5⟩ := hst (to_ % 256) hx.1 hx.2
            rcases hcase with h1 | ⟨h1, h2⟩
            all_goals
              go_wp2_with fail
              refine (pick_at at_ (n9 : Int) cc _ (by omega) (by omega) hcc).mono ?_
              rintro e w' ⟨rfl, rfl⟩
              go_wp2_with fail
              go_meet
              exact ⟨_, n9, c9, _, rfl, hown5.rd, hcap, hn9b, hbw.setCell hbg _⟩
  case rest =>
    obtain ⟨A, n, c, l, rfl, hr, hc, hn, hbc⟩ := hcut
    have HL : Hid (l.length = n) := hr.len
    have hzc := hbc.size
    go_wp2_with (at_builtin; refine wpList_append_b _ rfl (.tmp 50) (.tmp 51) rfl wc.heap.size _ 0 0 [] rfl (OwnB.made (Nat.le_refl _)) _ A n c l rfl (hr.alloc (Nat.le_refl _) _) (by omega) (by simp) ?_; intro A1 n1 c1 w1 hown1 hg1 hob1; have hb1 := below_grown (Below.refl wc.heap.size wc) hg1 (Nat.le_refl _) (by simp); have hs1 := hb1.size)
    rw [List.nil_append] at hown1
    have hn1 : n1 = n := by rw [← hown1.len]; exact HL.out
    subst hn1
    obtain ⟨x, pl, hx⟩ : ∃ x pl, Hid (listB l = (x, pl)) := ⟨_, _, rfl⟩
    have H2 := Lib.hid (list_any A1 n1 c1 l w1 hown1.rd (by omega) hown1.cap)
    have H3 := Lib.hid fun W h => refList_any A n1 c l W h (by omega) hc
    rw [hx.out] at H2
    simp only [hx.out] at H3
    unfold Listed at H2 H3
    refine H2.out.mono ?_
    rintro e w2 ⟨A3, n3, c3, rs3, rfl, hown3, hbs3, hb2⟩
    have hz2 := hb2.size
    have hbs3 := Lib.hid hbs3
    have hr2' := (hr.below hb1).below (hb2.mono hs1)
    go_wp2_with fail
    refine (H3.out w2 (hr2'.more (by omega))).mono ?_
    rintro e w3 ⟨A4, n4, c4, rs4, rfl, hown4, hbs4, hb3⟩
    have hz3 := hb3.size
    have hbs4 := Lib.hid hbs4
    go_wp2_with fail
    refine (known_any _).mono ?_
    rintro e w4 ⟨rfl, hb4⟩
    have hz4 := hb4.size
    have hown3' := (hown3.below hb3 (Nat.le_refl _)).below hb4 (by omega)
    have hown4' := hown4.below hb4 (Nat.le_refl _)
    have hn3 : n3 ≤ 140737488355328 := by
      have h1 := listB_le l
      rw [hx.out, HL.out] at h1
      have h2 := congrArg List.length hbs3.out
      unfold bytesOf at h2
      rw [List.length_map, hown3.len] at h2
      have h1 : x.length ≤ n1 := h1
      omega
    have q1 : RdB w4 w1.heap.size A1 n1 l := ((hown1.rd.below hb2).below (hb3.mono hz2)).below (hb4.mono (by omega))
    have q2 : RdB w4 wc.heap.size A n1 l := (hr2'.below (hb3.mono (by omega))).below (hb4.mono (by omega))
    have hpp : ((pl : Int) != (pl : Int)) = false := by rw [bne_eq_false_iff_eq]
    have hss : ((bstr l).toList != (bstr l).toList) = false := by rw [bne_eq_false_iff_eq]
    go_wp2_with fail
    refine (same_true A3 n3 c3 rs3 A4 n4 c4 rs4 _ w4 hown3'.rd hown4'.rd (by rw [hbs3.out, hbs4.out]) hn3).mono ?_
    rintro e w5 ⟨rfl, m, rfl⟩
    have k1 := run_str (c := c1) (q1.drewN m)
    have k2 := run_str (c := c) (q2.drewN m)
    go_wp2_with fail
    have hrw := (hown3'.drewN m).rw_
    have hrl : ∀ r ∈ rs3, r.n ≤ r.c := fun r hr => (hown3'.2 r hr).cap
    have hrc : ∀ r ∈ rs3, r.n ≤ 100000000 := fun r hr => by
      have h1 := (hown3'.2 r hr).len
      have h2 := listB_each l r.l (by rw [hx.out, ← hbs3.out]; exact List.mem_map.2 ⟨r, hr, rfl⟩)
      omega
    have hrc := Lib.hid hrc
    clear hrl
    have q1 := q1.drewN m
    have q2 := q2.drewN m
    have hbW : Below w.heap.size w (w4.drewN m) := below_drewN ((((hbc.trans (hb1.mono hzc)).trans (hb2.mono (by omega))).trans (hb3.mono (by omega))).trans (hb4.mono (by omega))) m
    have hW4 : w1.heap.size ≤ (w4.drewN m).heap.size := by simp; omega
    obtain ⟨W, hW⟩ : ∃ W, Hid (w4.drewN m = W) := ⟨_, rfl⟩
    rw [hW.out] at hrw q1 q2 hbW hW4 ⊢
    clear hW k1 k2
    have hseq : ((bstr l).toList == (bstr l).toList) = true := seq_true rfl
    go_loopw [18] (fun i wr => ∃ j : Nat, j ≤ n3 ∧ i = .int .i64 (j : Int) ∧ RowsW wr w1.heap.size A3 n3 c3 rs3 ∧ Below w1.heap.size W wr) (fun i _ => n3 - (intOf i).toNat)
    case atStart => exact ⟨0, by omega, rfl, hrw, Below.refl _ _⟩
    case round =>
      obtain ⟨j, hj, rfl, hrw, hbw⟩ := hrel
      by_cases hlt : j < n3
      · obtain ⟨g, r, rfl, hry, d0, _⟩ := hrw.at_ hlt
        have hrn := hrc.out r (List.mem_of_getElem? hry)
        have hji : (j : Int) < (n3 : Int) := by omega
        clear d0
        obtain ⟨wo, rfl⟩ : ∃ wo, wo = wr := ⟨wr, rfl⟩
        go_wp2_with fail
        go_loopw [19] (fun i wr => ∃ k : Nat, k ≤ r.n ∧ i = .int .i64 (k : Int) ∧ RowsW wr w1.heap.size (some ⟨g, 0, none⟩) n3 c3 rs3 ∧ Below w1.heap.size W wr) (fun i _ => r.n - (intOf i).toNat)
        case atStart => exact ⟨0, by omega, rfl, hrw, hbw⟩
        case round =>
          obtain ⟨k, hk, rfl, hrw2, hbw2⟩ := hrel
          obtain ⟨g', r', hg', hry', d0, hshp⟩ := hrw2.at_ hlt
          injection hg' with hg'
          injection hg' with hg'
          subst hg'
          rw [hry] at hry'
          injection hry' with hry'
          subst hry'
          by_cases hkl : k < r.n
          · obtain ⟨g2, cur, x2, hA, hb2', hblk, hc2, hf2⟩ := hshp.at_ hkl
            rw [hA] at d0
            have hki : (k : Int) < (r.n : Int) := by omega
            go_wp2_with fail
            go_roundw
            case rel => exact ⟨k + 1, by omega, by go_num, hrw2.store hblk 238, hbw2.setCell hb2' _⟩
            case measure => simp [intOf]; omega
          · obtain rfl : k = r.n := by omega
            go_wp2_with fail
            go_roundw
            case rel => exact ⟨j + 1, by omega, by go_num, hrw2, hbw2⟩
            case measure => simp [intOf]; omega
      · obtain rfl : j = n3 := by omega
        have k1 := run_str (c := c1) (q1.below hbw)
        have k2 := run_str (c := c) (q2.below (hbw.mono hs1))
        go_wp2_with fail
        go_ret
        exact ⟨rfl, hbW.trans (hbw.mono (by omega))⟩

end Go.Proofs.Ytkpckmdakiminaa
