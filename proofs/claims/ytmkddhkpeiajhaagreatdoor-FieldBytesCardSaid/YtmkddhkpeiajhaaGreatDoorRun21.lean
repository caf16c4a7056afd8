import Derived.Test.YtmkddhkpeiajhaaGreatDoorRw2
import Derived.Test.YtmkddhkpeiajhaaGreatDoorBytes
import Derived.Test.YtmkddhkpeiajhaaGreatDoorBrk
namespace Go.Proofs.YtmkddhkpeiajhaaGreatDoor
open Go.RowKit
variable {M : Nat}
def FineZ (T : List UInt8) (ss : List (List UInt8)) : Prop := T.length ≤ 256 ∧ ss.length ≤ 100 ∧ ∀ y ∈ ss, y.length ≤ 256
theorem join_mem (sep : List UInt8) (ss : List (List UInt8)) (y : List UInt8) (h : y ∈ ss) : y.length ≤ (Lib.join ss sep).length := by
 obtain ⟨i, hi⟩ := List.getElem?_of_mem h
 have hlt := (List.getElem?_eq_some_iff.1 hi).1
 have h1 := jle sep ss (ss.length - (i + 1)) (i + 1) (by omega)
 rw [jstep sep ss i y hi, List.length_append] at h1
 omega
def Two (M : Nat) (w : World) (g gr : Nat) (T : List UInt8) (ss : List (List UInt8)) : Prop :=
 RcOk M w g T ss ∧ RwOk M w gr T ss ∧ g < M ∧ gr < M ∧ g ≠ gr ∧ M ≤ w.heap.size ∧ FineZ T ss
theorem Two.later {w w' : World} {g gr : Nat} {T : List UInt8} {ss : List (List UInt8)} (h : Two M w g gr T ss) (hl : Later w w') : Two M w' g gr T ss :=
 ⟨h.1.later hl, h.2.1.later hl, h.2.2.1, h.2.2.2.1, h.2.2.2.2.1, Nat.le_trans h.2.2.2.2.2.1 hl.size, h.2.2.2.2.2.2⟩
set_option maxRecDepth 100000 in
set_option maxHeartbeats 4000000 in
theorem same_gen {M2 : Nat} (g gr : Nat) (T : List UInt8) (ss : List (List UInt8)) (w : World) (hc : RcOk M w g T ss) (hw : RwOk M2 w gr T ss) (hf100 : ss.length ≤ 100) :
  Calls Tryz.prog 8 #[.pointer (some ⟨g, 0, none⟩), .pointer (some ⟨gr, 0, none⟩)] w fun e w' => e = .returned (.bool true) ∧ Later w w' := by
 obtain ⟨A, n, c, hB, hr, hnc, hA⟩ := hw
 obtain rfl : ss.length = n := hr.len
 have k0 : ∀ x : LW w, x.val.cell? ⟨gr, 0, none⟩ = some (.string (bstr T)) := LW.cell_ (hB.cell 0)
 have k1 : ∀ x : LW w, x.val.cell? ⟨gr, 1, none⟩ = some (.slice A ss.length c) := LW.cell_ (hB.cell 1)
 have hT : ((bstr T).toList != (bstr T).toList) = false := by rw [bne_eq_false_iff_eq]
 have hN : ((ss.length : Int) != (ss.length : Int)) = false := by rw [bne_eq_false_iff_eq]
 have HC := Lib.hid hc
 have HB := Lib.hid hB
 have HR := Lib.hid hr
 clear hc hB hr hA
 go_enter Tryz.func8, Tryz.ntmps8
 go_wp2_with fail
 refine wp_region_laterq (by kernel_rfl) (by kernel_rfl) ?_
 repeat (go_big_quiet_step ((first
  | (go_at_call 31; (with_reducible refine Calls.laterq (recText_any g T ss _ (HC.out.later (LW.later _)))))
  | (go_at_call 32; (with_reducible refine Calls.laterq (recNF_any g T ss _ (HC.out.later (LW.later _))))))))
 refine wpQuiet_nil ?_
 intro _ hwq
 obtain ⟨xz, rfl⟩ := hwq
 have hz0 := xz.later
 clear k0 k1
 go_wp2_with fail
 go_loopw [5] (fun s5 wr => ∃ i : Nat, i ≤ ss.length ∧ s5 = .int .i64 (i : Int) ∧ Later w wr) (fun s5 _ => ss.length - (intOf s5).toNat)
 case atStart => exact ⟨0, Nat.zero_le _, rfl, hz0⟩
 case round =>
  obtain ⟨i, hi, rfl, hlr⟩ := hrel
  have hB1 := blkLz hlr HB.out
  have c1 : wr.cell? ⟨gr, 1, none⟩ = some (.slice A ss.length c) := hB1.cell 1
  have HL := Lib.hid hlr
  by_cases hlt : i < ss.length
  ·have hlti : (i : Int) < (ss.length : Int) := by omega
   obtain ⟨b0, off, x, rfl, _, hx, hcl⟩ := HR.out.at_ hlt
   have hbl : b0 < w.heap.size := by
    have := World.block_lt_of_cell? w _ hcl
    exact this
   have HG := Lib.hid (recGet_in g i T ss x wr (HC.out.later hlr) (by omega) hx)
   have hxx : ((bstr x).toList != (bstr x).toList) = false := by rw [bne_eq_false_iff_eq]
   have HCL := Lib.hid hcl
   clear hB1 hlr hx hcl hT hN
   go_wp2_with fail
   refine HG.out.mono ?_
   rintro e w1 ⟨rfl, hl1⟩
   have hl2 : Later w w1 := HL.out.trans hl1
   have c2 : w1.cell? ⟨gr, 1, none⟩ = some (.slice (some ⟨b0, off, none⟩) ss.length c) := (blkLz hl2 HB.out).cell 1
   have c3 : w1.cell? ⟨b0, off + i, none⟩ = some (.string (bstr x)) := (hl2.cell (p := ⟨b0, off + i, none⟩) hbl).trans HCL.out
   clear HG c1
   go_wp2_with fail
   go_roundw
   case rel => exact ⟨i + 1, by omega, by go_num, hl2⟩
   case measure => first | (simp [intOf]; done) | (simp [intOf]; omega)
  ·have hlti : ¬ (i : Int) < (ss.length : Int) := by omega
   clear hB1 hlr
   go_wp2_with fail
   go_ret
   exact ⟨rfl, HL.out⟩
def SepsAt (W : World) : Prop := ∀ (i : Nat) (s : List UInt8), seps10[i]? = some s → W.cell? ⟨0, i, none⟩ = some (.string (bstr s))
theorem SepsAt.fr {w w' : World} {p : Nat → Prop} (h : SepsAt w) (hf : Fr w w' p) (hp : ¬ p 0) : SepsAt w' := fun i s hs => (World.cell?_of_block (a := ⟨_, i, none⟩) (hf.block _ (World.block_lt_of_cell? w _ (h i s hs)) hp)).trans (h i s hs)
theorem MaxL.fr {w w' : World} {p : Nat → Prop} (h : MaxL w) (hf : Fr w w' p) (hp : ¬ p 1) : MaxL w' := by
 obtain ⟨m, hm⟩ := h
 exact ⟨m, (World.cell?_of_block (a := ⟨_, 0, none⟩) (hf.block _ (World.block_lt_of_cell? w _ hm) hp)).trans hm⟩
set_option maxRecDepth 100000 in
theorem sep_any (k : Int) : ∃ F, F ∈ seps10 ∧ ∀ wx, SepsAt wx → Calls Tryz.prog 23 #[.int .i64 k, .string ⟨#[32]⟩] wx fun e w' => e = .returned (.string (bstr F)) ∧ wx = w' := by
 by_cases h : k.tmod 11 = 10
 ·refine ⟨[32], by decide, fun wx _ => ?_⟩
  have he : (k.tmod 11 == 10) = true := by rw [h]; rfl
  clear h
  go_enter Tryz.func23, Tryz.ntmps23
  go_wp2_with fail
  go_ret
  exact ⟨rfl, rfl⟩
 ·have he : (k.tmod 11 == 10) = false := beq_eq_false_iff_ne.2 h
  obtain ⟨t, ht, ht10⟩ := pick_nat k 10 (by decide)
  have ht10 : t < 10 := by omega
  have hts : t < seps10.length := ht10
  refine ⟨seps10[t], List.getElem_mem hts, fun wx hS => ?_⟩
  have hcs : wx.cell? ⟨0, t, none⟩ = some (.string (bstr seps10[t])) := hS t _ (List.getElem?_eq_getElem hts)
  obtain ⟨F, hF⟩ : ∃ F, F = seps10[t] := ⟨_, rfl⟩
  rw [← hF] at hcs ⊢
  have hti : (t : Int) < 10 := by omega
  clear hF h hts hS
  go_enter Tryz.func23, Tryz.ntmps23
  go_wp2_with fail
  refine (pick_at k 10 t _ (by decide) (by decide) ht).mono ?_
  rintro e w' ⟨rfl, rfl⟩
  go_wp2_with fail
  go_ret
  exact ⟨rfl, rfl⟩
def YesC (M : Nat) (w : World) (g : Nat) (n : Int) (T : List UInt8) (ss : List (List UInt8)) (e : Ending) (w' : World) : Prop := e = .returned (.int .i64 n) ∧ RcOk M w' g T ss ∧ Fr w w' (fun k => k = g)
def YesW (M : Nat) (w : World) (g : Nat) (n : Int) (T : List UInt8) (ss : List (List UInt8)) (e : Ending) (w' : World) : Prop := e = .returned (.int .i64 n) ∧ RwOk M w' g T ss ∧ Fr w w' (fun k => k = g)
theorem YesC.no {w : World} {g : Nat} {n : Int} {T : List UInt8} {ss : List (List UInt8)} {e : Ending} {w' : World} (h : RecNo w n e w') (hr : RcOk M w g T ss) : YesC M w g n T ss e w' := ⟨h.1, hr.later h.2, frLz h.2⟩
theorem YesW.no {w : World} {g : Nat} {n : Int} {T : List UInt8} {ss : List (List UInt8)} {e : Ending} {w' : World} (h : RecNo w n e w') (hr : RwOk M w g T ss) : YesW M w g n T ss e w' := ⟨h.1, hr.later h.2, frLz h.2⟩
theorem set_pair (D : DocParses) (g gr : Nat) (T : List UInt8) (ss : List (List UInt8)) (hf : FineZ T ss) (L F : List UInt8) (hL : L.length ≤ 1100) (hF : F ∈ seps10) : ∃ n T' ss', FineZ T' ss' ∧
  (∀ w, MaxL w → M ≤ w.heap.size → RcOk M w g T ss → Calls Tryz.prog 22 #[.pointer (some ⟨g, 0, none⟩), .string (bstr L), .string (bstr F)] w (YesC M w g n T' ss')) ∧
  (∀ w, M ≤ w.heap.size → RwOk M w gr T ss → Calls Tryz.prog 24 #[.pointer (some ⟨gr, 0, none⟩), .string (bstr L), .string (bstr F)] w (YesW M w gr n T' ss')) := by
 by_cases h256 : 256 < L.length
 ·exact ⟨43, T, ss, hf, fun w _ _ hr => (recSet_long g (bstr L) (bstr F) w h256).mono fun _ _ h => YesC.no h hr, fun w _ hr => (rwSet_long gr (bstr L) (bstr F) w h256).mono fun _ _ h => YesW.no h hr⟩
 ·have h256 : L.length ≤ 256 := by omega
  rcases split_both D L F hL hF with ⟨s2, ⟨hp, hd⟩, hy⟩ | ⟨hp, hd⟩
  ·by_cases h100 : s2.length ≤ 100
   ·refine ⟨0, L, s2, ⟨h256, h100, fun y h => Nat.le_trans (hy y h) h256⟩, fun w hm hM hr => ?_, fun w hM hr => ?_⟩
    ·have h := recSet_gen g T ss s2 L F w hr hM h256 (hp w hm)
     simp only [if_pos h100] at h
     exact h
    ·have h := rwSet_gen gr T ss s2 L F w hr hM h256 (hd w)
     simp only [if_pos h100] at h
     exact h
   ·refine ⟨45, T, ss, hf, fun w hm hM hr => ?_, fun w hM hr => ?_⟩
    ·have h := recSet_gen g T ss s2 L F w hr hM h256 (hp w hm)
     simp only [if_neg h100] at h
     exact h.mono fun _ _ h => YesC.no h hr
    ·have h := rwSet_gen gr T ss s2 L F w hr hM h256 (hd w)
     simp only [if_neg h100] at h
     exact h.mono fun _ _ h => YesW.no h hr
  ·exact ⟨47, T, ss, hf, fun w _ _ hr => (recSet_err g (bstr L) (bstr F) w h256 (hp w)).mono fun _ _ h => YesC.no h hr, fun w _ hr => (rwSet_err gr (bstr L) (bstr F) w h256 (hd w)).mono fun _ _ h => YesW.no h hr⟩
theorem put_pair (g gr : Nat) (T : List UInt8) (ss : List (List UInt8)) (hf : FineZ T ss) (i : Int) (x F : List UInt8) (hF : F.length ≤ 1000000) (hg : g < M) : ∃ n T' ss', FineZ T' ss' ∧
  (∀ w, M ≤ w.heap.size → RcOk M w g T ss → Calls Tryz.prog 25 #[.pointer (some ⟨g, 0, none⟩), .int .i64 i, .string (bstr x), .string (bstr F)] w (YesC M w g n T' ss')) ∧
  (∀ w, M ≤ w.heap.size → RwOk M w gr T ss → Calls Tryz.prog 26 #[.pointer (some ⟨gr, 0, none⟩), .int .i64 i, .string (bstr x), .string (bstr F)] w (YesW M w gr n T' ss')) := by
 obtain ⟨hT, hn, hy⟩ := hf
 have hym : ∀ y ∈ ss, y.length ≤ 1000000 := fun y h => Nat.le_trans (hy y h) (by decide)
 by_cases h1 : i < 1 ∨ 100 < i
 ·exact ⟨45, T, ss, ⟨hT, hn, hy⟩, fun w _ hr => (recPut_out g i (bstr x) (bstr F) w h1).mono fun _ _ h => YesC.no h hr, fun w _ hr => (rwPut_out gr i (bstr x) (bstr F) w h1).mono fun _ _ h => YesW.no h hr⟩
 ·by_cases h2 : 256 < x.length
  ·exact ⟨43, T, ss, ⟨hT, hn, hy⟩, fun w _ hr => (recPut_long g i (bstr x) (bstr F) w (by omega) (by omega) h2).mono fun _ _ h => YesC.no h hr, fun w _ hr => (rwPut_long gr i (bstr x) (bstr F) w (by omega) (by omega) h2).mono fun _ _ h => YesW.no h hr⟩
  ·obtain ⟨j, rfl⟩ : ∃ j : Nat, i = (j : Int) + 1 := ⟨(i - 1).toNat, by omega⟩
   by_cases h3 : (Lib.join (putL ss j x) F).length ≤ 256
   ·refine ⟨0, Lib.join (putL ss j x) F, putL ss j x, ⟨h3, by rw [putL_len]; omega, fun y h => Nat.le_trans (join_mem F _ y h) h3⟩, fun w hM hr => ?_, fun w hM hr => ?_⟩
    ·have h := recPut_gen g j T x ss F w hr (by omega) hM (by omega) hn (by omega) hym hF
     simp only [if_pos h3] at h
     exact h
    ·have h := rwPut_gen gr j T x ss F w hr hM (by omega) hn (by omega) hym hF
     simp only [if_pos h3] at h
     exact h
   ·refine ⟨43, T, ss, ⟨hT, hn, hy⟩, fun w hM hr => ?_, fun w hM hr => ?_⟩
    ·have h := recPut_gen g j T x ss F w hr (by omega) hM (by omega) hn (by omega) hym hF
     simp only [if_neg h3] at h
     exact h.mono fun _ _ h => YesC.no h hr
    ·have h := rwPut_gen gr j T x ss F w hr hM (by omega) hn (by omega) hym hF
     simp only [if_neg h3] at h
     exact h.mono fun _ _ h => YesW.no h hr
theorem nf_pair (g gr : Nat) (T : List UInt8) (ss : List (List UInt8)) (hf : FineZ T ss) (i : Int) (F : List UInt8) (hF : F.length ≤ 1000000) (hg : g < M) : ∃ n T' ss', FineZ T' ss' ∧
  (∀ w, M ≤ w.heap.size → RcOk M w g T ss → Calls Tryz.prog 27 #[.pointer (some ⟨g, 0, none⟩), .int .i64 i, .string (bstr F)] w (YesC M w g n T' ss')) ∧
  (∀ w, M ≤ w.heap.size → RwOk M w gr T ss → Calls Tryz.prog 28 #[.pointer (some ⟨gr, 0, none⟩), .int .i64 i, .string (bstr F)] w (YesW M w gr n T' ss')) := by
 obtain ⟨hT, hn, hy⟩ := hf
 have hym : ∀ y ∈ ss, y.length ≤ 1000000 := fun y h => Nat.le_trans (hy y h) (by decide)
 by_cases h1 : i < 0 ∨ 100 < i
 ·exact ⟨45, T, ss, ⟨hT, hn, hy⟩, fun w _ hr => (recSetNF_out g i (bstr F) w h1).mono fun _ _ h => YesC.no h hr, fun w _ hr => (rwSetNF_out gr i (bstr F) w h1).mono fun _ _ h => YesW.no h hr⟩
 ·obtain ⟨N, rfl⟩ : ∃ N : Nat, i = (N : Int) := ⟨i.toNat, by omega⟩
  by_cases h3 : (Lib.join (padL ss N) F).length ≤ 256
  ·refine ⟨0, Lib.join (padL ss N) F, padL ss N, ⟨h3, by rw [padL_len]; omega, fun y hy2 => ?_⟩, fun w hM hr => ?_, fun w hM hr => ?_⟩
   ·unfold padL at hy2
    rcases List.mem_append.1 hy2 with h | h
    ·exact hy y (List.mem_of_mem_take h)
    ·rw [(List.mem_replicate.1 h).2]; exact Nat.zero_le _
   ·have h := recSetNF_gen g N T ss F w hr (by omega) hM (by omega) hym hF
    simp only [if_pos h3] at h
    exact h
   ·have h := rwSetNF_gen gr N T ss F w hr hM (by omega) hn hym hF
    simp only [if_pos h3] at h
    exact h
  ·refine ⟨43, T, ss, ⟨hT, hn, hy⟩, fun w hM hr => ?_, fun w hM hr => ?_⟩
   ·have h := recSetNF_gen g N T ss F w hr (by omega) hM (by omega) hym hF
    simp only [if_neg h3] at h
    exact h.mono fun _ _ h => YesC.no h hr
   ·have h := rwSetNF_gen gr N T ss F w hr hM (by omega) hn hym hF
    simp only [if_neg h3] at h
    exact h.mono fun _ _ h => YesW.no h hr
theorem Two.turn {w w1 w2 : World} {g gr : Nat} {T T' : List UInt8} {ss ss' : List (List UInt8)} {n m : Int} {e1 e2 : Ending} (h : Two M w g gr T ss) (hf : FineZ T' ss') (h1 : YesC M w g n T' ss' e1 w1) (h2 : YesW M w1 gr m T' ss' e2 w2) :
  Two M w2 g gr T' ss' ∧ Fr w w2 (fun k => k = g ∨ k = gr) := by
 obtain ⟨_, _, hg, hgr, hne, hM, _⟩ := h
 obtain ⟨_, c1, f1⟩ := h1
 obtain ⟨_, c2, f2⟩ := h2
 refine ⟨⟨c1.fr f2 hne (fun k hk e => by omega), c2, hg, hgr, hne, Nat.le_trans hM (Nat.le_trans f1.size f2.size), hf⟩, ?_⟩
 exact (f1.mono (fun k _ h => .inl h)).trans f2 (fun k _ h => .inr h)
theorem Two.mid {w w1 : World} {g gr : Nat} {T T' : List UInt8} {ss ss' : List (List UInt8)} {n : Int} {e1 : Ending} (h : Two M w g gr T ss) (h1 : YesC M w g n T' ss' e1 w1) : RwOk M w1 gr T ss ∧ M ≤ w1.heap.size := by
 obtain ⟨_, hw, hg, hgr, hne, hM, _⟩ := h
 exact ⟨hw.fr h1.2.2 (fun e => hne e.symm) (fun k hk e => by omega), Nat.le_trans hM h1.2.2.size⟩
end Go.Proofs.YtmkddhkpeiajhaaGreatDoor
namespace Go.Proofs.YtmkddhkpeiajhaaGreatDoor
open Go.RowKit
def letterOf (x : UInt8) : UInt8 := ([97, 97, 98, 98, 99, 49, 10, 65] : List UInt8).getD (x.toNat % 8) 0
def lettersF (l : List UInt8) (most : Nat) : List UInt8 := (l.take most).map letterOf
theorem letters_len (l : List UInt8) (most : Nat) : (lettersF l most).length ≤ most := by unfold lettersF; rw [List.length_map, List.length_take]; omega
theorem letters_succ (l : List UInt8) (j : Nat) (c : UInt8) (h : l[j]? = some c) : lettersF l (j + 1) = lettersF l j ++ [letterOf c] := by
 unfold lettersF
 rw [List.take_add_one, h]
 simp
theorem bstr_app1 (a : List UInt8) (c : UInt8) (S : ByteArray) (h : S = ⟨#[c]⟩) : bstr a ++ S = bstr (a ++ [c]) := by
 subst h
 apply ByteArray.ext
 simp [bstr]
set_option maxRecDepth 100000 in
set_option maxHeartbeats 8000000 in
theorem letters_any (A : Option Addr) (n c most : Nat) (l : List UInt8) (w : World) (hr : RdB w w.heap.size A n l) (hm : most ≤ 1000000) (_hn : n ≤ 9223372036854775807) :
  Calls Tryz.prog 21 #[.slice A n c, .int .i64 (most : Int)] w fun e w' => e = .returned (.string (bstr (lettersF l most))) ∧ Later w w' := by
 have hlen : l.length = n := hr.len
 have HL := Lib.hid hlen
 clear hlen
 go_enter Tryz.func21, Tryz.ntmps21
 go_wp2_with fail
 go_loopw [5, 6] (fun s5 s6 wr => ∃ j : Nat, j ≤ n ∧ j ≤ most ∧ s5 = .string (bstr (lettersF l j)) ∧ s6 = .int .i64 (j : Int) ∧ Later w wr) (fun _ s6 _ => n - (intOf s6).toNat)
 case atStart => exact ⟨0, Nat.zero_le _, Nat.zero_le _, rfl, rfl, Later.refl _⟩
 case round =>
  obtain ⟨j, hj, hjm, rfl, rfl, hlr⟩ := hrel
  by_cases hlt : j < n
  ·have hlti : (j : Int) < (n : Int) := by omega
   by_cases hlm : j < most
   ·have hlmi : (j : Int) < (most : Int) := by omega
    obtain ⟨x, hx⟩ : ∃ x, l[j]? = some x := ⟨_, List.getElem?_eq_getElem (by rw [HL.out]; exact hlt)⟩
    obtain ⟨b0, off, rfl, hb0, hc⟩ := (hr.later' (Nat.le_refl _) hlr).at_ hlt
    rw [hx] at hc
    simp only [Option.getD_some] at hc
    have hls := letters_succ l j x hx
    have hll := letters_len l j
    obtain ⟨T, hT⟩ : ∃ T, T = lettersF l j := ⟨_, rfl⟩
    rw [← hT] at hls hll ⊢
    have k0 : ∀ y : LW wr, y.val.cell? ⟨b0, off + j, none⟩ = some (.int .u8 (x.toNat : Int)) := LW.cell_ hc
    have hx8 := Nat.mod_lt x.toNat (show 0 < 8 by decide)
    have hsz : (bstr T).size = T.length := rfl
    have HT := Lib.hid hT
    clear hT hx hc
    rcases (show x.toNat % 8 = 0 ∨ x.toNat % 8 = 1 ∨ x.toNat % 8 = 2 ∨ x.toNat % 8 = 3 ∨ x.toNat % 8 = 4 ∨ x.toNat % 8 = 5 ∨ x.toNat % 8 = 6 ∨ x.toNat % 8 = 7 by omega) with h | h | h | h | h | h | h | h
    ·have hri : (x.toNat : Int) % 8 = 0 := by omega
     have hle : letterOf x = 97 := by unfold letterOf; rw [h]; rfl
     rw [hle] at hls
     have HLS := Lib.hid hls
     have hz : ¬ 9223372036854775807 < (bstr T).size + (⟨#[97]⟩ : ByteArray).size := by rw [hsz]; show ¬ _ < T.length + 1; omega
     clear h hle hls hx8
     go_wp2_with fail
     refine wp_region_laterq (by kernel_rfl) (by kernel_rfl) ?_
     repeat (go_big_quiet_step (fail))
     refine wpQuiet_nil ?_
     intro _ hwq
     obtain ⟨xz, rfl⟩ := hwq
     go_wp2_with fail
     go_roundw
     case rel => exact ⟨j + 1, by omega, by omega, by rw [HLS.out, ← bstr_app1 T 97 _ rfl]; try rfl, by go_num, hlr.trans xz.later⟩
     case measure => simp [intOf]; omega
    ·have hri : (x.toNat : Int) % 8 = 1 := by omega
     have hle : letterOf x = 97 := by unfold letterOf; rw [h]; rfl
     rw [hle] at hls
     have HLS := Lib.hid hls
     have hz : ¬ 9223372036854775807 < (bstr T).size + (⟨#[97]⟩ : ByteArray).size := by rw [hsz]; show ¬ _ < T.length + 1; omega
     clear h hle hls hx8
     go_wp2_with fail
     refine wp_region_laterq (by kernel_rfl) (by kernel_rfl) ?_
     repeat (go_big_quiet_step (fail))
     refine wpQuiet_nil ?_
     intro _ hwq
     obtain ⟨xz, rfl⟩ := hwq
     go_wp2_with fail
     go_roundw
     case rel => exact ⟨j + 1, by omega, by omega, by rw [HLS.out, ← bstr_app1 T 97 _ rfl]; try rfl, by go_num, hlr.trans xz.later⟩
     case measure => simp [intOf]; omega
    ·have hri : (x.toNat : Int) % 8 = 2 := by omega
     have hle : letterOf x = 98 := by unfold letterOf; rw [h]; rfl
     rw [hle] at hls
     have HLS := Lib.hid hls
     have hz : ¬ 9223372036854775807 < (bstr T).size + (⟨#[98]⟩ : ByteArray).size := by rw [hsz]; show ¬ _ < T.length + 1; omega
     clear h hle hls hx8
     go_wp2_with fail
     refine wp_region_laterq (by kernel_rfl) (by kernel_rfl) ?_
     repeat (go_big_quiet_step (fail))
     refine wpQuiet_nil ?_
     intro _ hwq
     obtain ⟨xz, rfl⟩ := hwq
     go_wp2_with fail
     go_roundw
     case rel => exact ⟨j + 1, by omega, by omega, by rw [HLS.out, ← bstr_app1 T 98 _ rfl]; try rfl, by go_num, hlr.trans xz.later⟩
     case measure => simp [intOf]; omega
    ·have hri : (x.toNat : Int) % 8 = 3 := by omega
     have hle : letterOf x = 98 := by unfold letterOf; rw [h]; rfl
     rw [hle] at hls
     have HLS := Lib.hid hls
     have hz : ¬ 9223372036854775807 < (bstr T).size + (⟨#[98]⟩ : ByteArray).size := by rw [hsz]; show ¬ _ < T.length + 1; omega
     clear h hle hls hx8
     go_wp2_with fail
     refine wp_region_laterq (by kernel_rfl) (by kernel_rfl) ?_
     repeat (go_big_quiet_step (fail))
     refine wpQuiet_nil ?_
     intro _ hwq
     obtain ⟨xz, rfl⟩ := hwq
     go_wp2_with fail
     go_roundw
     case rel => exact ⟨j + 1, by omega, by omega, by rw [HLS.out, ← bstr_app1 T 98 _ rfl]; try rfl, by go_num, hlr.trans xz.later⟩
     case measure => simp [intOf]; omega
    ·have hri : (x.toNat : Int) % 8 = 4 := by omega
     have hle : letterOf x = 99 := by unfold letterOf; rw [h]; rfl
     rw [hle] at hls
     have HLS := Lib.hid hls
     have hz : ¬ 9223372036854775807 < (bstr T).size + (⟨#[99]⟩ : ByteArray).size := by rw [hsz]; show ¬ _ < T.length + 1; omega
     clear h hle hls hx8
     go_wp2_with fail
     refine wp_region_laterq (by kernel_rfl) (by kernel_rfl) ?_
     repeat (go_big_quiet_step (fail))
     refine wpQuiet_nil ?_
     intro _ hwq
     obtain ⟨xz, rfl⟩ := hwq
     go_wp2_with fail
     go_roundw
     case rel => exact ⟨j + 1, by omega, by omega, by rw [HLS.out, ← bstr_app1 T 99 _ rfl]; try rfl, by go_num, hlr.trans xz.later⟩
     case measure => simp [intOf]; omega
    ·have hri : (x.toNat : Int) % 8 = 5 := by omega
     have hle : letterOf x = 49 := by unfold letterOf; rw [h]; rfl
     rw [hle] at hls
     have HLS := Lib.hid hls
     have hz : ¬ 9223372036854775807 < (bstr T).size + (⟨#[49]⟩ : ByteArray).size := by rw [hsz]; show ¬ _ < T.length + 1; omega
     clear h hle hls hx8
     go_wp2_with fail
     refine wp_region_laterq (by kernel_rfl) (by kernel_rfl) ?_
     repeat (go_big_quiet_step (fail))
     refine wpQuiet_nil ?_
     intro _ hwq
     obtain ⟨xz, rfl⟩ := hwq
     go_wp2_with fail
     go_roundw
     case rel => exact ⟨j + 1, by omega, by omega, by rw [HLS.out, ← bstr_app1 T 49 _ rfl]; try rfl, by go_num, hlr.trans xz.later⟩
     case measure => simp [intOf]; omega
    ·have hri : (x.toNat : Int) % 8 = 6 := by omega
     have hle : letterOf x = 10 := by unfold letterOf; rw [h]; rfl
     rw [hle] at hls
     have HLS := Lib.hid hls
     have hz : ¬ 9223372036854775807 < (bstr T).size + (⟨#[10]⟩ : ByteArray).size := by rw [hsz]; show ¬ _ < T.length + 1; omega
     clear h hle hls hx8
     go_wp2_with fail
     refine wp_region_laterq (by kernel_rfl) (by kernel_rfl) ?_
     repeat (go_big_quiet_step (fail))
     refine wpQuiet_nil ?_
     intro _ hwq
     obtain ⟨xz, rfl⟩ := hwq
     go_wp2_with fail
     go_roundw
     case rel => exact ⟨j + 1, by omega, by omega, by rw [HLS.out, ← bstr_app1 T 10 _ rfl]; try rfl, by go_num, hlr.trans xz.later⟩
     case measure => simp [intOf]; omega
    ·have hri : (x.toNat : Int) % 8 = 7 := by omega
     have hle : letterOf x = 65 := by unfold letterOf; rw [h]; rfl
     rw [hle] at hls
     have HLS := Lib.hid hls
     have hz : ¬ 9223372036854775807 < (bstr T).size + (⟨#[65]⟩ : ByteArray).size := by rw [hsz]; show ¬ _ < T.length + 1; omega
     clear h hle hls hx8
     go_wp2_with fail
     refine wp_region_laterq (by kernel_rfl) (by kernel_rfl) ?_
     repeat (go_big_quiet_step (fail))
     refine wpQuiet_nil ?_
     intro _ hwq
     obtain ⟨xz, rfl⟩ := hwq
     go_wp2_with fail
     go_roundw
     case rel => exact ⟨j + 1, by omega, by omega, by rw [HLS.out, ← bstr_app1 T 65 _ rfl]; try rfl, by go_num, hlr.trans xz.later⟩
     case measure => simp [intOf]; omega
   ·obtain rfl : j = most := by omega
    have hlmi : decide ((j : Int) < (j : Int)) = false := decide_eq_false (by omega)
    go_wp2_with fail
    go_ret
    exact ⟨rfl, hlr⟩
  ·obtain rfl : n = j := by omega
   have hT : lettersF l most = lettersF l n := by
    unfold lettersF
    rw [List.take_of_length_le (by rw [HL.out]; omega), List.take_of_length_le (by rw [HL.out]; exact Nat.le_refl _)]
   have HT := Lib.hid hT
   clear hT
   go_wp2_with fail
   go_ret
   exact ⟨by rw [HT.out]; rfl, hlr⟩
end Go.Proofs.YtmkddhkpeiajhaaGreatDoor
