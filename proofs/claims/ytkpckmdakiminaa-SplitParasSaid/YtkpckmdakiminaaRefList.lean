/-
  The contract of the document's List.
-/
import Derived.Test.YtkpckmdakiminaaList
import Derived.Deep.DeepCutAuto
namespace Go.Proofs.Ytkpckmdakiminaa
open Go.RowKit

/-- 's[l:h]' of bytes: one value under a name, and what it reads as -/
theorem slice_lh (A : Option Addr) (len cap l h : Nat) (hlh : l ≤ h) (hh : h ≤ len) (hc : len ≤ cap) :
    ∃ A', (∀ (x y : Int) (W : World), x = (l : Int) → y = (h : Int) → (Instr.slice 23 (.slice A len cap) (some (.int .i64 x)) (some (.int .i64 y)) none).run Try.prog W = .ok (.slice A' (h - l) (cap - l)) W) ∧
      (∀ (w : World) (B : Nat) (ls : List UInt8), RdB w B A len ls → RdB w B A' (h - l) ((ls.drop l).take (h - l))) := by
  refine ⟨if cap = l then A else A.map (·.add l), fun x y W hx hy => ?_, fun w B ls hr => ?_⟩
  · subst hx; subst hy
    have he : Try.prog.elem 23 = 5 := by kernel_rfl
    have hz : (Go.sizeOf 5).run Try.prog W = .ok 1 W := by kernel_rfl
    rw [run_slice_lh W 23 _ _ _ (by rw [he]; exact Try.underlying23) .i64 .i64 _ _ (by omega) (by omega) (by omega), he, hz]
    simp [Result.andThen, sliced]
  · exact (hr.from (k := l) (cap := cap) (by omega) hc).upto (by omega)

set_option maxRecDepth 100000 in
set_option maxHeartbeats 2000000 in
theorem refList_any (A : Option Addr) (n c : Nat) (l : List UInt8) (w : World) (hr : RdB w w.heap.size A n l) (hn : n ≤ 40000000000000) (hc : n ≤ c) :
    Calls Try.prog 16 #[.slice A n c] w (Listed w (listB l)) := by
  have HL : Hid (l.length = n) := hr.len
  go_enter Try.func16, Try.ntmps16
  go_wp2_with fail
  go_loopw [4, 5] (fun v u wr => ∃ (p k c9 : Nat) (A9 : Option Addr) (rs : List RowV), p ≤ n ∧ k * 10 ≤ p ∧ u = .int .i64 (p : Int) ∧ v = .slice A9 k c9 ∧ OwnR wr w.heap.size A9 k c9 rs ∧ Hid (ListInv l (bytesOf rs) p) ∧ Below w.heap.size w wr) (fun _ u _ => n - (intOf u).toNat)
  case atStart => exact ⟨0, 0, 0, none, [], by omega, by omega, rfl, rfl, OwnR.nil, ListInv.start l, Below.refl _ _⟩
  case round =>
    obtain ⟨p, k, c9, A9, rs, hp, hkp, rfl, rfl, hown, hinv, hbw⟩ := hrel
    have hsz := hbw.size
    have hdl : (l.drop p).length = n - p := by rw [List.length_drop, HL.out]
    have HD := Lib.hid hdl
    clear hdl
    by_cases h4 : n - p < 4
    · have HS := Lib.hid (hinv.out.stop (whole_short (by rw [HD.out]; omega)))
      have h4i : (n : Int) - (p : Int) < 4 := by omega
      go_wp2_with fail
      go_ret2
      exact listed_mk HS.out hown hbw
    · obtain ⟨b, off, rfl, hbB, x0c⟩ := (hr.below hbw).at_ (k := p) (by omega)
      have hrb := hr.below hbw
      have x1c := hrb.cell (k := p + 1) (by omega)
      have x2c := hrb.cell (k := p + 2) (by omega)
      have x3c := hrb.cell (k := p + 3) (by omega)
      have h4i : 4 ≤ (n : Int) - (p : Int) := by omega
      have hx0 := (l[p]?.getD 0).toNat_lt
      have hx1 := (l[p + 1]?.getD 0).toNat_lt
      have hx2 := (l[p + 2]?.getD 0).toNat_lt
      have hx3 := (l[p + 3]?.getD 0).toNat_lt
      obtain ⟨v, hv⟩ : ∃ v, Hid (v = v4 (l.drop p)) := ⟨_, rfl⟩
      have hv4 : v = (l[p]?.getD 0).toNat + 256 * (l[p + 1]?.getD 0).toNat + 65536 * (l[p + 2]?.getD 0).toNat + 16777216 * (l[p + 3]?.getD 0).toNat := by
        rw [hv.out]; unfold v4; simp only [List.getElem?_drop, Nat.add_zero]
      generalize (l[p]?.getD 0).toNat = x0 at *
      generalize (l[p + 1]?.getD 0).toNat = x1 at *
      generalize (l[p + 2]?.getD 0).toNat = x2 at *
      generalize (l[p + 3]?.getD 0).toNat = x3 at *
      have HV := Lib.hid hv4
      clear hv4
      have hp0 : (0 : Int) ≤ (p : Int) := by omega
      have hpn : (p : Int) < (n : Int) := by omega
      have hw1 : IntKind.i64.wrap ((p : Int) + 1) = (p : Int) + 1 := IntWalk.i64_in _ (by omega)
      have hw2 : IntKind.i64.wrap ((p : Int) + 2) = (p : Int) + 2 := IntWalk.i64_in _ (by omega)
      have hw3 : IntKind.i64.wrap ((p : Int) + 3) = (p : Int) + 3 := IntWalk.i64_in _ (by omega)
      have hi1 : (p : Int) + 1 < (n : Int) := by omega
      have hi2 : (p : Int) + 2 < (n : Int) := by omega
      have hi3 : (p : Int) + 3 < (n : Int) := by omega
      have hj1 : 0 ≤ (p : Int) + 1 := by omega
      have hj2 : 0 ≤ (p : Int) + 2 := by omega
      have hj3 : 0 ≤ (p : Int) + 3 := by omega
      have ht1 : ((p : Int) + 1).toNat = p + 1 := by omega
      have ht2 : ((p : Int) + 2).toNat = p + 2 := by omega
      have ht3 : ((p : Int) + 3).toNat = p + 3 := by omega
      by_cases hbad : 4194304 < v ∨ n - p < 10 + v
      · have HS : Hid (listB l = (bytesOf rs, p)) := hinv.out.stop (by
          unfold wholeB
          rw [HD.out, ← hv.out]
          by_cases h10 : n - p < 10
          · rw [if_pos h10]
          · rw [if_neg h10, if_pos (by omega)])
        by_cases hm : 4194304 < v
        · clear hbad
          go_wp2_with fail
          go_quiet (fail)
          go_upto_region 5 with (fail)
          rw [show (x0 : Int) + (x1 : Int) * 256 + (x2 : Int) * 65536 + (x3 : Int) * 16777216 = (v : Int) from by have := HV.out; omega]
          clear hw1 hw2 hw3 hj1 hj2 hj3 ht1 ht2 ht3
          go_wp2_with fail
          go_ret2
          exact listed_mk HS.out hown (below_drewN hbw _)
        · have hm2 : (n : Int) - (p : Int) - 10 < (v : Int) := by omega
          clear hbad
          go_wp2_with fail
          go_quiet (fail)
          go_upto_region 5 with (fail)
          rw [show (x0 : Int) + (x1 : Int) * 256 + (x2 : Int) * 65536 + (x3 : Int) * 16777216 = (v : Int) from by have := HV.out; omega]
          clear hw1 hw2 hw3 hj1 hj2 hj3 ht1 ht2 ht3
          go_wp2_with fail
          go_ret2
          exact listed_mk HS.out hown (below_drewN hbw _)
      · have hm : ¬ 4194304 < v := by omega
        have hm2 : (v : Int) ≤ (n : Int) - (p : Int) - 10 := by omega
        have hvp : p + 10 + v ≤ n := by omega
        clear hbad
        obtain ⟨A2, hsl, hrd⟩ := slice_lh (some ⟨b, off, none⟩) n c (p + 4) (p + 10 + v) (by omega) hvp hc
        have hsl2 := fun W => hsl ((p : Int) + 4) ((p : Int) + 10 + (v : Int)) W (by omega) (by omega)
        clear hsl
        have hsub : p + 10 + v - (p + 4) = 6 + v := by omega
        rw [hsub] at hrd hsl2
        have hrd2 := fun q => (hrd (wr.drewN q) _ _ (RdB.drewN hrb q))
        rw [← List.drop_drop] at hrd2
        have hw : wholeB (l.drop p) = if (unsealB (((l.drop p).drop 4).take (6 + v))).2 = 0 then some (unsealB (((l.drop p).drop 4).take (6 + v))).1 else none := by
          unfold wholeB; rw [HD.out, ← hv.out, if_neg (by omega), if_neg (by omega)]
        obtain ⟨L, hL⟩ : ∃ L, Hid (((l.drop p).drop 4).take (6 + v) = L) := ⟨_, rfl⟩
        rw [hL.out] at hw
        simp only [hL.out] at hrd2
        have H1 := Lib.hid fun q => refUnseal_any A2 (6 + v) (c - (p + 4)) L (wr.drewN q) ((hrd2 q).more hsz) (by omega) (by omega)
        unfold Unsealed at H1
        obtain ⟨r, er, hre⟩ : ∃ r er, Hid (unsealB L = (r, er)) := ⟨_, _, rfl⟩
        rw [hre.out] at hw
        simp only [hre.out] at H1
        clear hL hrd2 hrd hsub
        by_cases h0 : er = 0
        · subst h0
          rw [if_pos rfl] at hw
          have hnx := hinv.out.next hw
          have hrl := (whole_len hw).1
          rw [← hv.out] at hrl
          rw [hrl, HL.out] at hnx
          have HN := Lib.hid hnx.1
          have HRL := Lib.hid hrl
          clear hw hnx hrl
          go_wp2_with fail
          go_quiet (fail)
          go_upto_region 5 with (fail)
          rw [show (x0 : Int) + (x1 : Int) * 256 + (x2 : Int) * 65536 + (x3 : Int) * 16777216 = (v : Int) from by have := HV.out; omega]
          clear hw1 hw2 hw3 hj1 hj2 hj3 ht1 ht2 ht3
          go_wp2_with fail
          refine (H1.out _).mono ?_
          rintro e w1 ⟨A1, n1, c1, rfl, hown1, hb1⟩
          have hz1 := hb1.size
          simp only [World.heap_drewN] at hz1
          have hb1 : Below wr.heap.size wr w1 := below_of_drewN hb1
          have hown1' : OwnB w1 w.heap.size A1 n1 c1 r := hown1.base_le (fun k _ hk => Nat.le_trans hsz hk)
          go_wp2_with (at_builtin; go_loud (refine wpList_append_row _ rfl (.tmp 72) (.tmp 74) rfl w.heap.size A9 k c9 rs rfl ((hown.below hb1 (Nat.le_refl _)).alloc _) ⟨A1, n1, c1, r⟩ (hown1'.alloc _) _ (some ⟨w1.heap.size, 0, none⟩) rfl (reads_row _ _ _ _ rfl) (by omega) (by simp; omega) ?_); intro A8 n8 c8 w2 hn8 hown2 hg2 hob2; have hn8 := Lib.hid hn8)
          have hb2 : Below w.heap.size w w2 := ((hbw.trans (hb1.mono hsz)).alloc (by omega) _).grown hg2 (by simp; omega) (fun g' e => (hown.lt g' e).1)
          rw [hn8.out] at hown2
          go_roundw
          case rel => exact ⟨p + 10 + v, k + 1, c8, A8, rs ++ [⟨A1, n1, c1, r⟩], hvp, by omega, by go_num, rfl, hown2, by rw [bytesOf_snoc]; exact HN, hb2⟩
          case measure => simp [intOf]; omega
        · rw [if_neg h0] at hw
          have HS := Lib.hid (hinv.out.stop hw)
          have h0' : (er != 0) = true := bne_iff_ne.2 h0
          clear hw h0
          go_wp2_with fail
          go_quiet (fail)
          go_upto_region 5 with (fail)
          rw [show (x0 : Int) + (x1 : Int) * 256 + (x2 : Int) * 65536 + (x3 : Int) * 16777216 = (v : Int) from by have := HV.out; omega]
          clear hw1 hw2 hw3 hj1 hj2 hj3 ht1 ht2 ht3
          go_wp2_with fail
          refine (H1.out _).mono ?_
          rintro e w1 ⟨A1, n1, c1, rfl, hown1, hb1⟩
          have hb1 : Below wr.heap.size wr w1 := below_of_drewN hb1
          go_wp2_with fail
          go_ret2
          exact listed_mk HS.out (hown.below hb1 (Nat.le_refl _)) (hbw.trans (hb1.mono hsz))

end Go.Proofs.Ytkpckmdakiminaa
