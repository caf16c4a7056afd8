import Derived.Test.YtmkddhkpeiajhaaGreatDoorSetAll
import Derived.Deep.QuietTactic
import Derived.BigQuiet
namespace Go.Proofs.YtmkddhkpeiajhaaGreatDoor
open Go.RowKit
def BrOk (w : World) (g : Nat) (s : ByteArray) (p : Nat) : Prop := Blk w g 206 #[.string s, .int .i64 (p : Int)]
theorem str_get (s : ByteArray) (i : Nat) (c : UInt8) (h : s.data.toList[i]? = some c) : ∃ hi : i < s.size, s[i] = c := by
 rw [Array.getElem?_toList] at h
 obtain ⟨hi, e⟩ := Array.getElem?_eq_some_iff.1 h
 exact ⟨hi, e⟩
theorem str_none (s : ByteArray) (i : Nat) (h : s.data.toList[i]? = none) : s.size ≤ i := by
 rw [Array.getElem?_toList, Array.getElem?_eq_none_iff] at h
 exact h
theorem BrOk.later {w w' : World} {g : Nat} {s : ByteArray} {p : Nat} (h : BrOk w g s p) (hl : Later w w') : BrOk w' g s p := Blk.below h hl (Blk.lt h)
theorem peek_some (g p i : Nat) (k : Int) (s : ByteArray) (c : UInt8) (w : World) (hb : BrOk w g s p) (hk : (p : Int) + k = (i : Int)) (hc : s.data.toList[i]? = some c) (_hs : s.size ≤ 9223372036854775807) :
  Calls Tryz.prog 147 #[.pointer (some ⟨g, 0, none⟩), .int .i64 k] w fun e w' => e = .returned (.tuple #[.int .u8 (c.toNat : Int), .bool true]) ∧ Later w w' := by
 obtain ⟨hi, he⟩ := str_get s _ c hc
 have hc0 : w.cell? ⟨g, 0, none⟩ = some (.string s) := hb.cell 0
 have hc1 : w.cell? ⟨g, 1, none⟩ = some (.int .i64 (p : Int)) := hb.cell 1
 have hi1 : (i : Int) < (s.size : Int) := by omega
 have hi2 : ¬ ((s.size : Int) ≤ (i : Int)) := by omega
 have hw : IntKind.i64.wrap ((p : Int) + k) = (i : Int) := by rw [hk]; exact IntWalk.i64_in _ (by omega)
 have HE := Lib.hid he
 clear he hc hb hk
 go_enter Tryz.func147, Tryz.ntmps147
 go_wp2
 go_quiet (fail)
 go_wp2
 go_quiet (fail)
 go_wp2
 go_ret2
 exact ⟨by rw [← HE.out]; rfl, ((Later.refl w).drewN _).drewN _⟩
theorem peek_none (g p i : Nat) (k : Int) (s : ByteArray) (w : World) (hb : BrOk w g s p) (hk : (p : Int) + k = (i : Int)) (hc : s.data.toList[i]? = none) (_hs : s.size ≤ 9223372036854775807) (hi : i ≤ 9223372036854775807) :
  Calls Tryz.prog 147 #[.pointer (some ⟨g, 0, none⟩), .int .i64 k] w fun e w' => e = .returned (.tuple #[.int .u8 0, .bool false]) ∧ Later w w' := by
 have hle := str_none s i hc
 have hc0 : w.cell? ⟨g, 0, none⟩ = some (.string s) := hb.cell 0
 have hc1 : w.cell? ⟨g, 1, none⟩ = some (.int .i64 (p : Int)) := hb.cell 1
 have hi2 : ((s.size : Int) ≤ (i : Int)) := by omega
 have hw : IntKind.i64.wrap ((p : Int) + k) = (i : Int) := by rw [hk]; exact IntWalk.i64_in _ (by omega)
 clear hc hb hk
 go_enter Tryz.func147, Tryz.ntmps147
 go_wp2
 go_quiet (fail)
 go_wp2
 go_ret2
 exact ⟨rfl, (Later.refl w).drewN _⟩
def isB (s : ByteArray) (i : Nat) (c : Int) : Bool :=
 match s.data.toList[i]? with
 | some x => (x.toNat : Int) == c
 | none => false
theorem is_at (g p i : Nat) (k c : Int) (s : ByteArray) (w : World) (b : Bool) (hb : BrOk w g s p) (hk : (p : Int) + k = (i : Int)) (hv : isB s i c = b) (hs : s.size ≤ 9223372036854775807) (hi : i ≤ 9223372036854775807) :
  Calls Tryz.prog 138 #[.pointer (some ⟨g, 0, none⟩), .int .i64 k, .int .u8 c] w fun e w' => e = .returned (.bool b) ∧ Later w w' := by
 have HV := Lib.hid hv
 have HK := Lib.hid hk
 clear hv hk
 cases hc : s.data.toList[i]? with
 | some x =>
  have hve : ((x.toNat : Int) == c) = b := by have := HV.out; unfold isB at this; rw [hc] at this; exact this
  have HC := Lib.hid hc
  clear hc
  go_enter Tryz.func138, Tryz.ntmps138
  go_wp2_with ((with_reducible refine (peek_some g p i k s x _ hb HK.out HC.out hs).mono ?_); rintro e w1 ⟨rfl, hl1⟩)
  go_ret
  exact ⟨rfl, hl1⟩
 | none =>
  have hve : b = false := by have := HV.out; unfold isB at this; rw [hc] at this; exact this.symm
  subst hve
  have HC := Lib.hid hc
  clear hc
  go_enter Tryz.func138, Tryz.ntmps138
  go_wp2_with ((with_reducible refine (peek_none g p i k s _ hb HK.out HC.out hs hi).mono ?_); rintro e w1 ⟨rfl, hl1⟩)
  go_ret
  exact ⟨rfl, hl1⟩
def Ended (w : World) (g : Nat) (s : ByteArray) (r : Option (Nat × Nat)) (e : Ending) (w' : World) : Prop :=
 Fr w w' (fun k => k = g) ∧ match r with
 | some (b, p) => e = .returned (.tuple #[.int .u8 (b : Int), .bool true]) ∧ BrOk w' g s p
 | none => e = .returned (.tuple #[.int .u8 0, .bool false]) ∧ ∃ p, BrOk w' g s p
theorem BrOk.move {w : World} {g : Nat} {s : ByteArray} {p : Nat} (h : BrOk w g s p) (q : Nat) (x : Int) (hx : x = (q : Int)) : BrOk (w.setCell ⟨g, 1, none⟩ (.int .i64 x)) g s q := by
 subst hx
 exact h.set_ 1 _
theorem BrOk.c0 {w : World} {g : Nat} {s : ByteArray} {p : Nat} (h : BrOk w g s p) : w.cell? ⟨g, 0, none⟩ = some (.string s) := h.cell 0
theorem BrOk.c1 {w : World} {g : Nat} {s : ByteArray} {p : Nat} (h : BrOk w g s p) : w.cell? ⟨g, 1, none⟩ = some (.int .i64 (p : Int)) := h.cell 1
theorem BrOk.f1 {w : World} {g : Nat} {s : ByteArray} {p : Nat} (h : BrOk w g s p) : w.frozen? ⟨g, 1, none⟩ = false := h.frozen 1
theorem Fr.later {w w' : World} {p : Nat → Prop} (h : Later w w') : Fr w w' p := (Fr.of_below h).mono fun k hk h2 => absurd h2 (by omega)
theorem Fr.moved {w w1 : World} {g : Nat} (h : Fr w w1 (fun k => k = g)) (v : Value) : Fr w (w1.setCell ⟨g, 1, none⟩ v) (fun k => k = g) := Fr.set (p := fun k => k = g) (a := ⟨g, 1, none⟩) h (fun _ => rfl) v
theorem Fr.andLater {w w1 w2 : World} {p : Nat → Prop} (h : Fr w w1 p) (hl : Later w1 w2) : Fr w w2 p := h.trans (Fr.later hl) (fun _ _ h => h)
theorem ended_oct {w wr : World} {g : Nat} {s : ByteArray} {r : Option (Nat × Nat)} {n q : Nat} (hr : r = some (n % 256, q)) (hF : Fr w wr (fun k => k = g)) (hb : BrOk wr g s q) :
  Ended w g s r (.returned (.tuple #[.int .u8 ((n : Int) % 256), .bool true])) wr := by
 subst hr
 exact ⟨hF, by rw [Int.natCast_emod]; rfl, hb⟩
theorem ended_octw {w wr : World} {g : Nat} {s : ByteArray} {r : Option (Nat × Nat)} {n q : Nat} (hn : n < 256) (hr : r = some (n % 256, q)) (hF : Fr w wr (fun k => k = g)) (hb : BrOk wr g s q) :
  Ended w g s r (.returned (.tuple #[.int .u8 (n : Int), .bool true])) wr := by
 have h := ended_oct hr hF hb
 rwa [show (n : Int) % 256 = (n : Int) by omega] at h
theorem isOct_iff (d : UInt8) : isOct d = true ↔ 48 ≤ d.toNat ∧ d.toNat ≤ 55 := by
 unfold isOct
 rw [Bool.and_eq_true, decide_eq_true_eq, decide_eq_true_eq]
theorem octF_some (l : List UInt8) (j q n : Nat) (d : UInt8) (h : l[q]? = some d) (hd : isOct d = true) : octF l (j + 1) q n = octF l j (q + 1) (8 * n + (d.toNat - 48)) := by
 rw [octF, h]
 simp only
 rw [if_pos hd]
theorem octF_not (l : List UInt8) (j q n : Nat) (d : UInt8) (h : l[q]? = some d) (hd : ¬ isOct d = true) : octF l (j + 1) q n = (n, q) := by
 rw [octF, h]
 simp only
 rw [if_neg hd]
theorem octF_none (l : List UInt8) (j q n : Nat) (h : l[q]? = none) : octF l (j + 1) q n = (n, q) := by
 rw [octF, h]
theorem end_any (g p : Nat) (s : ByteArray) (w : World) (hb : BrOk w g s p) (hs : s.size ≤ 140737488355328) (hp : p ≤ s.size) :
  Calls Tryz.prog 149 #[.pointer (some ⟨g, 0, none⟩)] w (Ended w g s (endF s.data.toList p)) := by
 have hs2 : s.size ≤ 9223372036854775807 := by omega
 cases h0 : s.data.toList[p]? with
 | none =>
  have hE : endF s.data.toList p = none := by unfold endF; rw [h0]
  rw [hE]
  have H0 := Lib.hid h0
  clear h0 hE
  go_enter Tryz.func149, Tryz.ntmps149
  go_wp2_with ((with_reducible refine (peek_none g p p 0 s _ hb (by omega) H0.out hs2 (by omega)).mono ?_); rintro e w1 ⟨rfl, hl1⟩; have hb1 := hb.later hl1; have hc1 := hb1.c1; have hf1 := hb1.f1)
  go_ret2
  exact ⟨Fr.moved (Fr.later hl1) _, rfl, _, hb1.move (p + 1) _ (by omega)⟩
 | some c =>
  by_cases hc : c = 92
  ·subst hc
   have HE : Hid (endF s.data.toList p = match s.data.toList[p + 1]? with
     | none => none
     | some e =>
      if e = 110 then some (10, p + 2)
      else if e = 116 then some (9, p + 2)
      else if isOct e then some ((octF s.data.toList 2 (p + 2) (e.toNat - 48)).1 % 256, (octF s.data.toList 2 (p + 2) (e.toNat - 48)).2)
      else some (e.toNat, p + 2)) := by show _ = _; unfold endF; rw [h0]; rfl
   have H0 := Lib.hid h0
   have hpl : p < s.size := (str_get s p _ h0).1
   clear h0
   obtain ⟨r, hr⟩ : ∃ r, r = endF s.data.toList p := ⟨_, rfl⟩
   rw [← hr] at HE ⊢
   clear hr
   go_enter Tryz.func149, Tryz.ntmps149
   go_wp2_with fail
   refine (peek_some g p p 0 s 92 _ hb (by omega) H0.out hs2).mono ?_
   rintro e w1 ⟨rfl, hl1⟩
   have hb1 := hb.later hl1
   have hc1 := hb1.c1
   have hf1 := hb1.f1
   have hF1 := Fr.moved (g := g) (Fr.later hl1) (.int .i64 ((p : Int) + 1))
   have hb2 := hb1.move (p + 1) ((p : Int) + 1) (by omega)
   clear hl1 hb1
   go_wp2_with fail
   clear hc1 hf1
   obtain ⟨w2, hw2⟩ : ∃ w2, w2 = w1.setCell ⟨g, 1, none⟩ (.int .i64 ((p : Int) + 1)) := ⟨_, rfl⟩
   rw [← hw2] at hF1 hb2 ⊢
   clear hw2
   cases h1 : s.data.toList[p + 1]? with
   | none =>
    rw [h1] at HE
    have hE := HE.out
    simp only at hE
    subst hE
    have H1 := Lib.hid h1
    clear h1 HE
    refine (peek_none g (p + 1) (p + 1) 0 s _ hb2 (by omega) H1.out hs2 (by omega)).mono ?_
    rintro e w3 ⟨rfl, hl3⟩
    have hb3 := hb2.later hl3
    have hc3 := hb3.c1
    have hf3 := hb3.f1
    go_wp2_with fail
    go_ret2
    exact ⟨Fr.moved (hF1.andLater hl3) _, rfl, _, hb3.move (p + 2) _ (by omega)⟩
   | some e =>
    rw [h1] at HE
    have hE := HE.out
    simp only at hE
    have hpl2 : p + 1 < s.size := (str_get s _ _ h1).1
    have H1 := Lib.hid h1
    clear h1 HE
    refine (peek_some g (p + 1) (p + 1) 0 s e _ hb2 (by omega) H1.out hs2).mono ?_
    rintro e' w3 ⟨rfl, hl3⟩
    have hb3 := hb2.later hl3
    have hc3 := hb3.c1
    have hf3 := hb3.f1
    have hF3 := Fr.moved (g := g) (hF1.andLater hl3) (.int .i64 ((p : Int) + 1 + 1))
    have hb4 := hb3.move (p + 2) ((p : Int) + 1 + 1) (by omega)
    have hx1 := e.toNat_lt
    by_cases e1 : e = 110
    ·rw [if_pos e1] at hE
     subst hE
     have hq : ((e.toNat : Int) == 110) = true := by subst e1; rfl
     clear e1
     go_wp2_with fail
     go_ret2
     exact ⟨hF3, rfl, hb4⟩
    ·rw [if_neg e1] at hE
     have hq : ((e.toNat : Int) == 110) = false := by rw [beq_eq_false_iff_ne]; intro h; exact e1 (UInt8.toNat_inj.1 (by show e.toNat = 110; omega))
     by_cases e2 : e = 116
     ·rw [if_pos e2] at hE
      subst hE
      have hq2 : ((e.toNat : Int) == 116) = true := by subst e2; rfl
      clear e1 e2
      go_wp2_with fail
      go_ret2
      exact ⟨hF3, rfl, hb4⟩
     ·rw [if_neg e2] at hE
      have hq2 : ((e.toNat : Int) == 116) = false := by rw [beq_eq_false_iff_ne]; intro h; exact e2 (UInt8.toNat_inj.1 (by show e.toNat = 116; omega))
      clear e1 e2
      by_cases e3 : isOct e = true
      ·rw [if_pos e3] at hE
       have e4 : 48 ≤ e.toNat ∧ e.toNat ≤ 55 := by
        unfold isOct at e3
        rw [Bool.and_eq_true, decide_eq_true_eq, decide_eq_true_eq] at e3
        exact e3
       have e5 : ¬ (e.toNat : Int) < 48 := by omega
       have e6 : ¬ (55 : Int) < (e.toNat : Int) := by omega
       obtain ⟨R, hR⟩ : ∃ R, octF s.data.toList 2 (p + 2) (e.toNat - 48) = R := ⟨_, rfl⟩
       rw [hR] at hE
       have HR := Lib.hid hR
       have HE := Lib.hid hE
       have hb5 := hb4
       clear hR hE e3
       go_wp2_with fail
       obtain ⟨w4, hw4⟩ : ∃ w4, w4 = w3.setCell ⟨g, 1, none⟩ (.int .i64 ((p : Int) + 1 + 1)) := ⟨_, rfl⟩
       rw [← hw4] at hF3 hb4 ⊢
       clear hw4 hb5 hc3 hf3
       go_loopw [6, 7] (fun a b wr => ∃ k n : Nat, k ≤ 2 ∧ (k = 0 → n ≤ 7) ∧ (k = 1 → n ≤ 63) ∧ n ≤ 511 ∧ a = .int .i64 (n : Int) ∧ b = .int .i64 (k : Int) ∧ Hid (octF s.data.toList (2 - k) (p + 2 + k) n = R) ∧ BrOk wr g s (p + 2 + k) ∧ Fr w wr (fun k => k = g)) (fun _ b _ => 2 - (intOf b).toNat)
       case atStart => exact ⟨0, e.toNat - 48, by omega, by omega, by omega, by omega, by rw [show ((e.toNat - 48 : Nat) : Int) = (e.toNat : Int) - 48 by omega], rfl, HR, hb4, hF3⟩
       case round =>
        obtain ⟨k, n, hk, hn0, hn1, hn2, rfl, rfl, HO, hbr, hFr⟩ := hrel
        by_cases hk2 : k = 2
        ·subst hk2
         have hRe : R = (n, p + 2 + 2) := HO.out.symm
         subst hRe
         go_wp2_with fail
         go_ret2
         exact ended_oct HE.out hFr hbr
        ·have hk1 : 2 - k = (1 - k) + 1 := by omega
         have hk3 : (k : Int) < 2 := by omega
         cases hd : s.data.toList[p + 2 + k]? with
         | none =>
          have hRe : R = (n, p + 2 + k) := by have := HO.out; rw [hk1, octF_none _ _ _ _ hd] at this; exact this.symm
          subst hRe
          have HD := Lib.hid hd
          clear hd hk1
          go_wp2_with fail
          refine (peek_none g (p + 2 + k) (p + 2 + k) 0 s _ hbr (by omega) HD.out hs2 (by omega)).mono ?_
          rintro e' w5 ⟨rfl, hl5⟩
          go_wp2_with fail
          go_ret2
          exact ended_octw (by omega) HE.out (hFr.andLater hl5) (hbr.later hl5)
         | some d =>
          have hd1 := d.toNat_lt
          have hpl3 : p + 2 + k < s.size := (str_get s _ _ hd).1
          by_cases ho : isOct d = true
          ·have HO2 : Hid (octF s.data.toList (2 - (k + 1)) (p + 2 + (k + 1)) (8 * n + (d.toNat - 48)) = R) := by
            show _ = _
            have := HO.out
            rw [hk1, octF_some _ _ _ _ d hd ho] at this
            rw [show 2 - (k + 1) = 1 - k by omega, ← Nat.add_assoc]
            exact this
           have HD := Lib.hid hd
           obtain ⟨o1, o2⟩ := (isOct_iff d).1 ho
           have o3 : ¬ (d.toNat : Int) < 48 := by omega
           have o4 : ¬ (55 : Int) < (d.toNat : Int) := by omega
           clear hd hk1 ho
           go_wp2_with fail
           refine (peek_some g (p + 2 + k) (p + 2 + k) 0 s d _ hbr (by omega) HD.out hs2).mono ?_
           rintro e' w5 ⟨rfl, hl5⟩
           have hb6 := hbr.later hl5
           have hc6 := hb6.c1
           have hf6 := hb6.f1
           go_wp2_with fail
           go_roundw
           case rel => exact ⟨k + 1, 8 * n + (d.toNat - 48), by omega, by omega, by omega, by omega, by go_num, by go_num, HO2, hb6.move _ _ (by omega), Fr.moved (hFr.andLater hl5) _⟩
           case measure => simp [intOf]; omega
          ·have hRe : R = (n, p + 2 + k) := by have := HO.out; rw [hk1, octF_not _ _ _ _ d hd ho] at this; exact this.symm
           subst hRe
           have HD := Lib.hid hd
           have o1 : ¬ (48 ≤ d.toNat ∧ d.toNat ≤ 55) := fun h => ho ((isOct_iff d).2 h)
           clear hd hk1 ho
           by_cases o2 : (d.toNat : Int) < 48
           ·clear o1
            go_wp2_with fail
            refine (peek_some g (p + 2 + k) (p + 2 + k) 0 s d _ hbr (by omega) HD.out hs2).mono ?_
            rintro e' w5 ⟨rfl, hl5⟩
            go_wp2_with fail
            go_ret2
            exact ended_octw (by omega) HE.out (hFr.andLater hl5) (hbr.later hl5)
           ·have o3 : (55 : Int) < (d.toNat : Int) := by omega
            clear o1
            go_wp2_with fail
            refine (peek_some g (p + 2 + k) (p + 2 + k) 0 s d _ hbr (by omega) HD.out hs2).mono ?_
            rintro e' w5 ⟨rfl, hl5⟩
            go_wp2_with fail
            go_ret2
            exact ended_octw (by omega) HE.out (hFr.andLater hl5) (hbr.later hl5)
      ·rw [if_neg e3] at hE
       subst hE
       have e4 : ¬ (48 ≤ e.toNat ∧ e.toNat ≤ 55) := by
        intro h
        apply e3
        unfold isOct
        rw [Bool.and_eq_true]
        exact ⟨decide_eq_true h.1, decide_eq_true h.2⟩
       clear e3
       by_cases e5 : (e.toNat : Int) < 48
       ·clear e4
        go_wp2_with fail
        go_ret2
        exact ⟨hF3, rfl, hb4⟩
       ·have e6 : (55 : Int) < (e.toNat : Int) := by omega
        clear e4
        go_wp2_with fail
        go_ret2
        exact ⟨hF3, rfl, hb4⟩
  ·have hE : endF s.data.toList p = some (c.toNat, p + 1) := by unfold endF; rw [h0]; simp only; rw [if_pos hc]
   rw [hE]
   have hcn : ((c.toNat : Int) != 92) = true := by rw [bne_iff_ne]; intro h; exact hc (UInt8.toNat_inj.1 (by show c.toNat = 92; omega))
   have H0 := Lib.hid h0
   clear h0 hE hc
   go_enter Tryz.func149, Tryz.ntmps149
   go_wp2_with ((with_reducible refine (peek_some g p p 0 s c _ hb (by omega) H0.out hs2).mono ?_); rintro e w1 ⟨rfl, hl1⟩; have hb1 := hb.later hl1; have hc1 := hb1.c1; have hf1 := hb1.f1)
   go_ret2
   exact ⟨Fr.moved (Fr.later hl1) _, rfl, hb1.move (p + 1) _ (by omega)⟩
end Go.Proofs.YtmkddhkpeiajhaaGreatDoor
