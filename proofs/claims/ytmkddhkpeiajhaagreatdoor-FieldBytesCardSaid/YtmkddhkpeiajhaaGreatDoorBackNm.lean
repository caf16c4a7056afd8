import Derived.Test.YtmkddhkpeiajhaaGreatDoorWriter
import Derived.Test.YtmkddhkpeiajhaaGreatDoorReader2
import Derived.Test.YtmkddhkpeiajhaaGreatDoorRw2
import Derived.Test.YtmkddhkpeiajhaaGreatDoorAtW
import Derived.Deep.RegionHeldLaw
import Derived.Test.YtmkddhkpeiajhaaGreatDoorSetLaw
import Derived.Deep.RegionHeld
namespace Go.Proofs.YtmkddhkpeiajhaaGreatDoor
open Go.RowKit
theorem drop_head {l r : List UInt8} {k : Nat} {x : UInt8} (h : l.drop k = x :: r) : k < l.length ∧ l[k]?.getD 0 = x ∧ l.drop (k + 1) = r := by
 have hk : k < l.length := by
  rcases Nat.lt_or_ge k l.length with h1 | h1
  ·exact h1
  ·rw [List.drop_eq_nil_of_le h1] at h; cases h
 rw [List.drop_eq_getElem_cons hk] at h
 injection h with h1 h2
 exact ⟨hk, by rw [List.getElem?_eq_getElem hk]; exact h1, h2⟩
theorem byt_nat {m : Nat} (h : m < 256) : (byt (m : Int)).toNat = m := by
 have := byt_toNat (x := (m : Int)) (by omega) (by omega)
 omega
theorem numG_nm {l : List UInt8} {at_ : Nat} : ∀ (f i acc m : Nat) (post : List UInt8), i + f = 9 → acc < 128 ^ i → m < 128 ^ (f + 1) → (i = 0 ∨ m ≠ 0) → (i = 9 → m ≤ 1) → (i + f = 9 → m * 128 ^ i < 2 * 128 ^ 9) →
  l.drop (at_ + i) = nmF f m ++ post → numG l at_ (f + 1) i acc = (acc + m * 128 ^ i, 0, at_ + i + (nmF f m).length)
 | 0, i, acc, m, post, hi, _, hm, h0, h9, _, hd => by
  have hi9 : i = 9 := by omega
  have hm1 := h9 hi9
  have hd' : l.drop (at_ + i) = byt (m : Int) :: post := hd
  obtain ⟨hk, hx, _⟩ := drop_head hd'
  have hb := byt_nat (m := m) (by omega)
  rw [numG_some hk, hx, hb, if_neg (by omega), if_neg (by omega), if_neg (by omega)]
  rw [Nat.mod_eq_of_lt (by omega)]
  rfl
 | f + 1, i, acc, m, post, hi, ha, hm, h0, h9, hlt, hd => by
  by_cases hs : m < 128
  ·rw [nmF_small hs] at hd ⊢
   obtain ⟨hk, hx, _⟩ := drop_head hd
   have hb := byt_nat (m := m) (by omega)
   rw [numG_some hk, hx, hb, if_neg (by omega), if_neg (by omega), if_neg (by omega)]
   rw [Nat.mod_eq_of_lt hs]
   rfl
  ·rw [nmF_great hs] at hd ⊢
   obtain ⟨hk, hx, hd2⟩ := drop_head hd
   have hb := byt_nat (m := m % 128 + 128) (by omega)
   have hmm : m * 128 ^ i = m % 128 * 128 ^ i + m / 128 * 128 ^ (i + 1) := by
    have e : m = m % 128 + m / 128 * 128 := by omega
    have e2 : m / 128 * 128 ^ (i + 1) = m / 128 * 128 * 128 ^ i := by rw [Nat.pow_succ, Nat.mul_assoc, Nat.mul_comm 128]
    rw [e2, ← Nat.add_mul, ← e]
   have hmod : (m % 128 + 128) % 128 = m % 128 := by omega
   have hih := numG_nm (l := l) (at_ := at_) f (i + 1) (acc + m % 128 * 128 ^ i) (m / 128) post (by omega) (digit_pow ha).out
    (by rw [Nat.pow_succ] at hm; exact Nat.div_lt_of_lt_mul (by rw [Nat.mul_comm]; exact hm)) (.inr (by omega))
    (by
     intro e
     have h2 := hlt hi
     rw [hmm, e] at h2
     have : m / 128 * 128 ^ 9 < 2 * 128 ^ 9 := by omega
     have := Nat.lt_of_mul_lt_mul_right this
     omega)
    (by intro _; have h2 := hlt hi; omega) (by rw [← Nat.add_assoc]; exact hd2)
   rw [numG_some hk, hx, hb, if_neg (by omega), if_pos (by omega), hmod, hih]
   rw [hmm]
   simp only [List.length_cons, Prod.mk.injEq, true_and]
   omega
theorem numAt_nm {l post : List UInt8} {p n : Nat} (hn : n < 18446744073709551616) (hd : l.drop p = nm n ++ post) : numAt l p = (n, 0, p + (nm n).length) := by
 have e1 : (128 : Nat) ^ (9 + 1) = 1180591620717411303424 := by decide
 have e2 : (2 : Nat) * 128 ^ 9 = 18446744073709551616 := by decide
 have := numG_nm (l := l) (at_ := p) 9 0 0 n post rfl (by decide) (by rw [e1]; omega) (.inl rfl) (by omega) (by intro _; rw [e2]; simpa using hn) hd
 simpa [numAt, nm] using this
theorem len_of_drop {l a post : List UInt8} {p : Nat} (hd : l.drop p = a ++ post) (ha : a ≠ []) : l.length = p + a.length + post.length := by
 have hp : p < l.length := by
  rcases Nat.lt_or_ge p l.length with h | h
  ·exact h
  ·rw [List.drop_eq_nil_of_le h] at hd
   have := congrArg List.length hd
   simp only [List.length_nil, List.length_append] at this
   exact absurd (List.eq_nil_of_length_eq_zero (by omega)) ha
 have := congrArg List.length hd
 rw [List.length_drop, List.length_append] at this
 omega
theorem nm_ne (n : Nat) : nm n ≠ [] := by
 intro h
 unfold nm at h
 by_cases hs : n < 128
 ·rw [nmF_small hs] at h; cases h
 ·rw [nmF_great hs] at h; cases h
theorem back_num {l post : List UInt8} {p n most : Nat} (hn : n < 18446744073709551616) (hm : n ≤ most) (hd : l.drop p = nm n ++ post) : rNum l (p, 0) most = (n, p + (nm n).length, 0) := by
 unfold rNum
 simp only [numAt_nm hn hd]
 rw [if_neg (by simp), if_neg (by simp), if_neg (by omega)]
theorem data_len (t : ByteArray) : t.data.toList.length = t.size := rfl
theorem back_text {l post : List UInt8} {p : Nat} {t : ByteArray} (ht : t.size < 18446744073709551616) {most : Int} (hm : (t.size : Int) ≤ most) (hd : l.drop p = (nm t.size ++ t.data.toList) ++ post) :
  rText l (p, 0) most = (t.data.toList, p + (nm t.size ++ t.data.toList).length, 0) := by
 rw [List.append_assoc] at hd
 have h1 := back_num ht (most := most.toNat) (by omega) hd
 have hl := len_of_drop hd (nm_ne _)
 rw [List.length_append, data_len] at hl
 unfold rText
 simp only [h1]
 rw [if_neg (by simp), if_neg (by omega)]
 have hd2 : l.drop (p + (nm t.size).length) = t.data.toList ++ post := by rw [← List.drop_drop, hd, List.drop_left']; rfl
 rw [hd2, List.take_left' (data_len t), List.length_append, data_len]
 simp only [Prod.mk.injEq, true_and, and_true]
 omega
end Go.Proofs.YtmkddhkpeiajhaaGreatDoor
namespace Go.Proofs.YtmkddhkpeiajhaaGreatDoor
open Go.RowKit
def layS (ss : List (List UInt8)) : List UInt8 := ss.flatMap fun s => nm s.length ++ s
def layR (T : List UInt8) (ss : List (List UInt8)) : List UInt8 := nm T.length ++ T ++ nm ss.length ++ layS ss
theorem layS_step (ss : List (List UInt8)) (i : Nat) (x : List UInt8) (h : ss[i]? = some x) : layS (ss.take (i + 1)) = layS (ss.take i) ++ (nm x.length ++ x) := by
 unfold layS
 rw [List.take_add_one, h, List.flatMap_append]
 simp
theorem layS_len (ss : List (List UInt8)) (h : ∀ y ∈ ss, y.length ≤ 1000000) : (layS ss).length ≤ ss.length * 1000010 := by
 induction ss with
 | nil => exact Nat.le_refl _
 | cons x r ih =>
  have h1 := h x List.mem_cons_self
  have h2 := ih (fun y hy => h y (List.mem_cons_of_mem _ hy))
  have h3 := nm_len x.length
  have e : layS (x :: r) = (nm x.length ++ x) ++ layS r := rfl
  rw [e, List.length_append, List.length_append, List.length_cons]
  omega
theorem layR_pos (T : List UInt8) (ss : List (List UInt8)) : 0 < (layR T ss).length := by
 have h := List.length_pos_iff.2 (nm_ne T.length)
 unfold layR
 rw [List.length_append, List.length_append, List.length_append]
 omega
def fieldsF (l : List UInt8) : Nat → Nat × Int → List (List UInt8) × (Nat × Int)
 | 0, s => ([], s)
 | n + 1, s => if s.2 ≠ 0 then ([], s) else ((rText l s 256).1 :: (fieldsF l n (rText l s 256).2).1, (fieldsF l n (rText l s 256).2).2)
def recF (l : List UInt8) (s : Nat × Int) : (List UInt8 × List (List UInt8)) × (Nat × Int) :=
 if (fieldsF l (rNum l (rText l s 256).2 100).1 (rNum l (rText l s 256).2 100).2).2.2 ≠ 0 then (([], []), (fieldsF l (rNum l (rText l s 256).2 100).1 (rNum l (rText l s 256).2 100).2).2)
 else (((rText l s 256).1, (fieldsF l (rNum l (rText l s 256).2 100).1 (rNum l (rText l s 256).2 100).2).1), (fieldsF l (rNum l (rText l s 256).2 100).1 (rNum l (rText l s 256).2 100).2).2)
theorem rNum_most (l : List UInt8) (s : Nat × Int) (m : Nat) : (rNum l s m).1 ≤ m := by
 unfold rNum
 split
 ·exact Nat.zero_le _
 ·split
  ·exact Nat.zero_le _
  ·split
   ·exact Nat.zero_le _
   ·show _ ≤ _; omega
theorem rText_badz {l : List UInt8} {s : Nat × Int} {m : Int} (hbad : -100 < s.2 ∧ s.2 < 100) : -100 < (rText l s m).2.2 ∧ (rText l s m).2.2 < 100 := by
 have h := (rNum_bad (l := l) (m := m.toNat) hbad).1
 unfold rText
 split
 ·exact h
 ·split
  ·show (-100 : Int) < 10 ∧ (10 : Int) < 100; omega
  ·show (-100 : Int) < 0 ∧ (0 : Int) < 100; omega
theorem fieldsF_bad (l : List UInt8) : ∀ (n : Nat) (s : Nat × Int), (-100 < s.2 ∧ s.2 < 100) → -100 < (fieldsF l n s).2.2 ∧ (fieldsF l n s).2.2 < 100
 | 0, _, h => h
 | n + 1, s, h => by
  unfold fieldsF
  split
  ·exact h
  ·exact fieldsF_bad l n _ (rText_badz h)
theorem fieldsF_len (l : List UInt8) : ∀ (n : Nat) (s : Nat × Int), (fieldsF l n s).1.length ≤ n
 | 0, _ => Nat.le_refl _
 | n + 1, s => by
  unfold fieldsF
  split
  ·exact Nat.zero_le _
  ·have := fieldsF_len l n (rText l s 256).2
   show (_ :: _).length ≤ _
   rw [List.length_cons]; omega
theorem recF_bad {l : List UInt8} {s : Nat × Int} (h : -100 < s.2 ∧ s.2 < 100) : -100 < (recF l s).2.2 ∧ (recF l s).2.2 < 100 := by
 have h1 := fieldsF_bad l (rNum l (rText l s 256).2 100).1 (rNum l (rText l s 256).2 100).2 (rNum_bad (rText_badz h)).1
 unfold recF
 split <;> exact h1
theorem recF_len (l : List UInt8) (s : Nat × Int) : (recF l s).1.2.length ≤ 100 := by
 have h1 := fieldsF_len l (rNum l (rText l s 256).2 100).1 (rNum l (rText l s 256).2 100).2
 have h2 := rNum_most l (rText l s 256).2 100
 unfold recF
 split
 ·exact Nat.zero_le _
 ·show (fieldsF _ _ _).1.length ≤ _; omega
theorem back_textL {l post x : List UInt8} {p : Nat} (hx : x.length ≤ 256) (hd : l.drop p = (nm x.length ++ x) ++ post) : rText l (p, 0) 256 = (x, p + (nm x.length ++ x).length, 0) := by
 have e : (bstr x).size = x.length := rfl
 have h := back_text (l := l) (post := post) (p := p) (t := bstr x) (by rw [e]; omega) (most := 256) (by rw [e]; omega) hd
 exact h
theorem fields_back (l : List UInt8) : ∀ (ss : List (List UInt8)) (p : Nat), (∀ y ∈ ss, y.length ≤ 256) → l.drop p = layS ss → fieldsF l ss.length (p, 0) = (ss, p + (layS ss).length, 0)
 | [], p, _, _ => rfl
 | x :: r, p, hy, hd => by
  have e : layS (x :: r) = (nm x.length ++ x) ++ layS r := rfl
  rw [e] at hd
  have h1 := back_textL (hy x List.mem_cons_self) hd
  have hd2 : l.drop (p + (nm x.length ++ x).length) = layS r := by rw [← List.drop_drop, hd, List.drop_left']; rfl
  have h2 := fields_back l r _ (fun y h => hy y (List.mem_cons_of_mem _ h)) hd2
  show fieldsF l (r.length + 1) (p, 0) = _
  unfold fieldsF
  have hlen : p + (nm x.length ++ x).length + (layS r).length = p + (layS (x :: r)).length := by have h9 : ((nm x.length ++ x) ++ layS r).length = (nm x.length ++ x).length + (layS r).length := List.length_append; rw [e, h9, Nat.add_assoc]
  rw [if_neg (by simp), h1, h2, hlen]
theorem rec_back (T : List UInt8) (ss : List (List UInt8)) (hT : T.length ≤ 256) (hn : ss.length ≤ 100) (hy : ∀ y ∈ ss, y.length ≤ 256) : recF (layR T ss) (0, 0) = ((T, ss), (layR T ss).length, 0) := by
 have h0 : (layR T ss).drop 0 = (nm T.length ++ T) ++ (nm ss.length ++ layS ss) := by unfold layR; rw [List.drop_zero, List.append_assoc (nm T.length ++ T)]
 have h1 := back_textL hT h0
 rw [Nat.zero_add] at h1
 have h2 : (layR T ss).drop (nm T.length ++ T).length = nm ss.length ++ layS ss := by
  have := h0
  rw [List.drop_zero] at this
  rw [this, List.drop_left']; rfl
 have h3 := back_num (most := 100) (by omega) hn h2
 have h4 : (layR T ss).drop ((nm T.length ++ T).length + (nm ss.length).length) = layS ss := by rw [← List.drop_drop, h2, List.drop_left']; rfl
 have h5 := fields_back _ ss _ hy h4
 have e : (nm T.length ++ T).length + (nm ss.length).length + (layS ss).length = (layR T ss).length := by unfold layR; simp only [List.length_append]
 unfold recF
 simp only [h1, h3, h5]
 rw [if_neg (by simp), e]
theorem rEnd_back (l : List UInt8) : rEnd l (l.length, 0) = 0 := by
 unfold rEnd
 rw [if_neg (by show ¬ (_ ∧ l.length < l.length); omega)]
end Go.Proofs.YtmkddhkpeiajhaaGreatDoor
namespace Go.Proofs.YtmkddhkpeiajhaaGreatDoor
open Go.RowKit
theorem RdZ.frz {w w' : World} {p : Nat → Prop} {B n : Nat} {A : Option Addr} {ss : List (List UInt8)} (h : RdZ w B A n ss) (hf : Fr w w' p) (hB : B ≤ w.heap.size) (hp : ∀ k, k < B → ¬ p k) : RdZ w' B A n ss := Reads.fr h hf hB hp
set_option maxRecDepth 100000 in
set_option maxHeartbeats 4000000 in
theorem recLay_any (g B : Nat) (T : List UInt8) (ss : List (List UInt8)) (A : Option Addr) (c : Nat) (w : World) (hblk : Blk w g 52 #[.string (bstr T), .slice A ss.length c]) (hrd : RdZ w B A ss.length ss)
  (bw gw : Nat) (Rw : Option Nat) (l : List UInt8) (hw : WrOk w bw gw Rw l) (hbw : bw ≤ w.heap.size) (hBb : B ≤ bw) (hgb : g < bw) (hT : T.length ≤ 256) (hn : ss.length ≤ 100) (hss : ∀ y ∈ ss, y.length ≤ 1000000) (hl : l.length ≤ 1000000000) :
  Calls Tryz.prog 10 #[.pointer (some ⟨g, 0, none⟩), .pointer (some ⟨gw, 0, none⟩)] w fun e w' => e = .returned (.tuple #[]) ∧ Laid w bw gw Rw (l ++ layR T ss) w' := by
 have hwl := hw.lt
 have HB := Lib.hid hblk
 have HR := Lib.hid hrd
 have HSS := Lib.hid hss
 have HNI : Hid (∀ k, k < bw → ¬ WrIn gw Rw k) := fun k hk h => by have := (hwl k h).1; omega
 have c0 : w.cell? ⟨g, 0, none⟩ = some (.string (bstr T)) := hblk.cell 0
 have sT : (bstr T).size = T.length := rfl
 have hnT := nm_len T.length
 have hnN := nm_len ss.length
 obtain ⟨n, hnn⟩ : ∃ n, n = ss.length := ⟨_, rfl⟩
 have HN := Lib.hid hnn
 have hn100 : n ≤ 100 := by omega
 have hnNn := nm_len n
 clear hnn hnN
 have H1 := Lib.hid (writer_text (bstr T) w bw gw Rw l hw (by rw [sT]; omega) hbw)
 clear hblk hrd hss hw hwl
 go_enter Tryz.func10, Tryz.ntmps10
 go_wp2_with fail
 refine H1.out.mono ?_
 rintro e w1 ⟨rfl, Rw1, hw1, hf1, hR1⟩
 have hs1 := hf1.size
 have hB1 := HB.out.fr hf1 (HNI.out g hgb)
 rw [← HN.out] at hB1
 have c1 : w1.cell? ⟨g, 1, none⟩ = some (.slice A n c) := hB1.cell 1
 have H2 := Lib.hid (writer_num n (by omega) w1 bw gw Rw1 _ hw1 (by rw [List.length_append, List.length_append, sT]; show _ + T.length + 10 ≤ _; omega) (by omega))
 have HF1 := Lib.hid hf1
 have HR1 := Lib.hid hR1
 clear H1 hw1 hB1 c0 hf1 hR1
 go_wp2_with fail
 refine H2.out.mono ?_
 rintro e w2 ⟨rfl, hlaid⟩
 have HL2 : Hid (Laid w bw gw Rw (l ++ nm (bstr T).size ++ (bstr T).data.toList ++ nm n) w2) := Laid.then_ HF1.out HR1.out hlaid
 have hf2 : Fr w w2 (WrIn gw Rw) := by obtain ⟨_, _, h, _⟩ := HL2.out; exact h
 have hB2 := HB.out.fr hf2 (HNI.out g hgb)
 rw [← HN.out] at hB2
 have c1 : w2.cell? ⟨g, 1, none⟩ = some (.slice A n c) := hB2.cell 1
 have HB2L : Hid ((l ++ nm (bstr T).size ++ (bstr T).data.toList ++ nm n).length ≤ l.length + 276) := by
  show _ ≤ _
  rw [List.length_append, List.length_append, List.length_append]
  show l.length + (nm T.length).length + T.length + _ ≤ _
  omega
 obtain ⟨L2, hL2⟩ : ∃ L2, L2 = l ++ nm (bstr T).size ++ (bstr T).data.toList ++ nm n := ⟨_, rfl⟩
 rw [← hL2] at HL2 HB2L
 have HL2E := Lib.hid hL2
 clear hlaid hf2 hB2 H2 hL2 hs1
 go_wp2_with fail
 go_loopw [25] (fun s25 wr => ∃ i : Nat, i ≤ n ∧ s25 = .int .i64 (i : Int) ∧ Hid (Laid w bw gw Rw (L2 ++ layS (ss.take i)) wr)) (fun s25 _ => n - (intOf s25).toNat)
 case atStart => exact ⟨0, Nat.zero_le _, rfl, by show Laid _ _ _ _ _ _; rw [List.take_zero, show layS [] = [] from rfl, List.append_nil]; exact HL2.out⟩
 case round =>
  obtain ⟨i, hi, rfl, HLD⟩ := hrel
  by_cases hlt : i < n
  ·have hlti : (i : Int) < (n : Int) := by omega
   obtain ⟨R, hwr, hfr, hRr⟩ := HLD.out
   have hsr := hfr.size
   obtain ⟨b0, off, x, rfl, _, hx, hcl⟩ := (HR.out.frz hfr (by omega) (fun k hk => HNI.out k (by omega))).at_ (k := i) (by rw [← HN.out]; exact hlt)
   have hxl := HSS.out x (List.mem_of_getElem? hx)
   have hst := Lib.hid (layS_step ss i x hx)
   have hsl := layS_len (ss.take i) (fun y hy => HSS.out y (List.mem_of_mem_take hy))
   rw [List.length_take] at hsl
   have sx : (bstr x).size = x.length := rfl
   have HT := Lib.hid (writer_text (bstr x) wr bw gw R _ hwr (by rw [List.length_append, sx]; have := HB2L.out; have h3 : min i ss.length * 1000010 ≤ 100 * 1000010 := Nat.mul_le_mul_right _ (by omega); omega) (by omega))
   have HFR := Lib.hid hfr
   have HRR := Lib.hid hRr
   clear hwr hfr hRr hx hsl
   go_wp2_with fail
   refine HT.out.mono ?_
   rintro e w4 ⟨rfl, hl4⟩
   have HL4 : Hid (Laid w bw gw Rw (L2 ++ layS (ss.take i) ++ nm (bstr x).size ++ (bstr x).data.toList) w4) := Laid.then_ HFR.out HRR.out hl4
   clear hl4
   go_wp2_with fail
   go_roundw
   case rel => exact ⟨i + 1, by omega, by go_num, by
    show Laid _ _ _ _ _ _
    rw [hst.out]
    have h := HL4.out
    rw [List.append_assoc, List.append_assoc] at h
    exact h⟩
   case measure => first | (simp [intOf]; done) | (simp [intOf]; omega)
  ·obtain rfl : n = i := by omega
   have HE : Hid (Laid w bw gw Rw (l ++ layR T ss) wr) := by
    show Laid _ _ _ _ _ _
    have h := HLD.out
    rw [HN.out, List.take_length, HL2E.out] at h
    unfold layR
    rw [HN.out] at h
    simp only [List.append_assoc] at h ⊢
    exact h
   clear HLD
   go_wp2_with fail
   go_end0
   exact ⟨rfl, HE.out⟩
end Go.Proofs.YtmkddhkpeiajhaaGreatDoor
namespace Go.Proofs.YtmkddhkpeiajhaaGreatDoor
open Go.RowKit
section
variable {P : Program} {ops : Array Oper} {Q : Exit → Act → World → Prop} {md : Region.Mode} {S : World → Prop} {z : Nat}
def ClosedL (md : Region.Mode) (ops : Array Oper) (listed : Array Bool) : Prop := ∀ x o, ops[x]? = some o → listed.getD x false = true → ∀ e ∈ o.after, Region.binds md e = true → listed.getD e.on false = true
def closedB (md : Region.Mode) (ops : Array Oper) (listed : Array Bool) : Bool :=
 (List.range ops.size).all fun x => !(listed.getD x false) || ((ops[x]?).map (fun o => o.after.toList.all fun e => !Region.binds md e || listed.getD e.on false)).getD true
theorem ClosedL.of {listed : Array Bool} (h : closedB md ops listed = true) : ClosedL md ops listed := by
 intro x o ho hx e he hb
 have hlt : x < ops.size := (Array.getElem?_eq_some_iff.1 ho).1
 have h1 := List.all_eq_true.1 h x (List.mem_range.2 hlt)
 rw [hx, ho] at h1
 have h2 := List.all_eq_true.1 (by simpa using h1 : (o.after.toList.all fun e => !Region.binds md e || listed.getD e.on false) = true) e (Array.mem_toList_iff.2 he)
 rw [hb] at h2
 simpa using h2
theorem getD_lt_true {listed : Array Bool} {i : Nat} (h : listed.getD i true = false) : i < listed.size ∧ listed.getD i false = false := by
 rcases Nat.lt_or_ge i listed.size with h' | h'
 ·refine ⟨h', ?_⟩
  simp only [Array.getD_eq_getD_getElem?, Array.getElem?_eq_getElem h', Option.getD_some] at h ⊢
  exact h
 ·simp [Array.getElem?_eq_none h'] at h
theorem ClosedL.set {listed : Array Bool} {j : Nat} (h : ClosedL md ops listed) (hj : j ∈ Region.ready md ops listed) : ClosedL md ops (listed.setIfInBounds j true) := by
 intro x o ho hx e he hb
 obtain ⟨_, oj, hoj, hall⟩ := mem_ready.1 hj
 by_cases hjx : j = x
 ·subst hjx
  rw [hoj] at ho
  cases ho
  exact getD_set_true (hall e he hb)
 ·rw [getD_set_ne false hjx] at hx
  exact getD_set_true (h x o ho hx e he hb)
def pathB (md : Region.Mode) (ops : Array Oper) : List Nat → Bool
 | x :: y :: l => ((ops[x]?).map (fun o => o.after.toList.any fun e => Region.binds md e && e.on == y)).getD false && pathB md ops (y :: l)
 | _ => true
theorem path_edge {x y : Nat} {l : List Nat} (h : pathB md ops (x :: y :: l) = true) : (∃ o, ops[x]? = some o ∧ ∃ e ∈ o.after, Region.binds md e = true ∧ e.on = y) ∧ pathB md ops (y :: l) = true := by
 unfold pathB at h
 rw [Bool.and_eq_true] at h
 refine ⟨?_, h.2⟩
 cases ho : ops[x]? with
 | none => rw [ho] at h; simp at h
 | some o =>
  rw [ho] at h
  obtain ⟨e, he, h2⟩ := List.any_eq_true.1 (by simpa using h.1 : (o.after.toList.any fun e => Region.binds md e && e.on == y) = true)
  rw [Bool.and_eq_true] at h2
  exact ⟨o, rfl, e, Array.mem_toList_iff.1 he, h2.1, by simpa using h2.2⟩
theorem path_listed {listed : Array Bool} (hc : ClosedL md ops listed) {i : Nat} : ∀ (l : List Nat) (x : Nat), pathB md ops (x :: l) = true → (x :: l).getLast? = some i → listed.getD x false = true → listed.getD i false = true
 | [], x, _, hl, hx => by cases hl; exact hx
 | y :: l, x, hp, hl, hx => by
  obtain ⟨⟨o, ho, e, he, hb, rfl⟩, hp⟩ := path_edge hp
  exact path_listed hc l _ hp (by simpa [List.getLast?_cons_cons] using hl) (hc x o ho hx e he hb)
theorem path_waits {listed : Array Bool} (hc : ClosedL md ops listed) {i y : Nat} {l : List Nat} (hp : pathB md ops (z :: y :: l) = true) (hl : (y :: l).getLast? = some i) (hi : listed.getD i true = false) : z ∉ Region.ready md ops listed := by
 intro hz
 obtain ⟨⟨o, ho, e, he, hb, rfl⟩, hp⟩ := path_edge hp
 obtain ⟨_, o2, ho2, hall⟩ := mem_ready.1 hz
 rw [ho] at ho2
 cases ho2
 have h1 := path_listed hc l _ hp hl (hall e he hb)
 rw [(getD_lt_true hi).2] at h1
 cases h1
def wpAnyE (P : Program) (md : Region.Mode) (ops : Array Oper) (Q : Exit → Act → World → Prop) (S : World → Prop) (z : Nat) : Nat → Array Bool → Act → World → Prop
 | 0, listed, a, w => Region.ready md ops listed = [] ∧ Q .normal a w
 | fuel + 1, listed, a, w =>
  (Region.ready md ops listed = [] → Q .normal a w) ∧
  ∀ i ∈ Region.ready md ops listed, wpOp P ops Q i (fun a' w' => (i ≠ z → S w') ∧ wpAnyE P md ops Q S z fuel (listed.setIfInBounds i true) a' w') a w
theorem wpAny_of_early : ∀ (fuel : Nat) (listed : Array Bool) (a : Act) (w : World), wpAnyE P md ops Q S z fuel listed a w → wpAny P md ops Q fuel listed a w
 | 0, _, _, _, h => h
 | fuel + 1, _, _, _, h => ⟨h.1, fun i hi => wpOp_mono (fun a' w' h' => wpAny_of_early fuel _ a' w' h'.2) (h.2 i hi)⟩
theorem wpAnyE_first {i : Nat} {oi : Oper} {v : Value} (hi : ops[i]? = some oi) (hsel : ∀ (j : Nat) (o : Oper) cs b, ops[j]? = some o → o.op ≠ .select cs b)
  (hQ : ∀ c a w, Q (.panic c) (a.put oi.dst v) w → Q (.panic c) a w) (hwait : ∀ listed, ClosedL md ops listed → listed.getD i true = false → z ∉ Region.ready md ops listed) :
  ∀ (fuel : Nat) (listed : Array Bool) (a : Act) (w : World), ClosedL md ops listed →
   (∀ j oj, ops[j]? = some oj → j ≠ i → listed.getD j true = false → (∀ e ∈ oj.after, Region.binds md e = true → e.on ≠ i) → oi.apart ops oj = true) →
   i ∈ Region.ready md ops listed → YieldsIf P ops S oi v a → S w →
   wpAnyE P md ops Q S z fuel (listed.setIfInBounds i true) (a.put oi.dst v) w → wpAnyE P md ops Q S z (fuel + 1) listed a w := by
 intro fuel
 induction fuel with
 | zero =>
  intro listed a w _ _ hr hy hS H
  refine ⟨fun h => (by rw [h] at hr; cases hr), fun j hj => ?_⟩
  by_cases hji : j = i
  ·subst hji; exact hy.wpOp hi hS ⟨fun _ => hS, H⟩
  ·have := ready_mono hj hji
   rw [H.1] at this
   cases this
 | succ fuel ih =>
  intro listed a w hcl hfree hr hy hS H
  refine ⟨fun h => (by rw [h] at hr; cases hr), fun j hj => ?_⟩
  by_cases hji : j = i
  ·subst hji; exact hy.wpOp hi hS ⟨fun _ => hS, H⟩
  ·have h1 := H.2 j (ready_mono hj hji)
   obtain ⟨hjun, oj, hoj, hall⟩ := mem_ready.1 hj
   have hjz : j ≠ z := fun e => hwait listed hcl (mem_ready.1 hr).1 (e ▸ hj)
   have hnot : ∀ e ∈ oj.after, Region.binds md e = true → e.on ≠ i := fun e he hb heq => by
    have h1 := hall e he hb
    have h0 := (getD_lt_true (mem_ready.1 hr).1).2
    rw [heq, h0] at h1
    cases h1
   have h2 := wpOp_putIf hoj (hfree j oj hoj hji hjun hnot) (fun cs b => hsel i oi cs b hi) (fun cs b => hsel j oj cs b hoj) hQ hy h1
   have hfree' : ∀ k ok, ops[k]? = some ok → k ≠ i → (listed.setIfInBounds j true).getD k true = false →
     (∀ e ∈ ok.after, Region.binds md e = true → e.on ≠ i) → oi.apart ops ok = true := fun k ok hk hki hun hno => by
    refine hfree k ok hk hki ?_ hno
    by_cases hjk : j = k
    ·subst hjk; exact hjun
    ·rw [getD_set_ne true hjk] at hun; exact hun
   refine wpOp_mono (fun a' w' h3 => ⟨fun h => h3.2.1 h, ih (listed.setIfInBounds j true) a' w' (hcl.set hj) hfree' (ready_mono hr (Ne.symm hji)) h3.1 (h3.2.1 hjz) ?_⟩) h2
   rw [Array.setIfInBounds_comm _ _ hji]
   exact h3.2.2
theorem wpAnyE_take {i : Nat} {oi : Oper} {v : Value} {fuel : Nat} {listed : Array Bool} {a : Act} {w : World} (y : Nat) (l : List Nat) (hi : ops[i]? = some oi)
  (hs : Region.noSelect ops = true) (hf : Region.free md ops listed i = true) (hr : (Region.ready md ops listed).contains i = true)
  (hc : closedB md ops listed = true) (hp : pathB md ops (z :: y :: l) = true) (hl : (y :: l).getLast? = some i)
  (hQ : ∀ c a w, Q (.panic c) (a.put oi.dst v) w → Q (.panic c) a w) (hy : YieldsIf P ops S oi v a) (hS : S w)
  (h : wpAnyE P md ops Q S z fuel (listed.setIfInBounds i true) (a.put oi.dst v) w) : wpAnyE P md ops Q S z (fuel + 1) listed a w :=
 wpAnyE_first hi (Region.noSelect_spec hs) hQ (fun _ hcl hun => path_waits hcl hp hl hun) fuel listed a w (ClosedL.of hc) (Region.free_spec hi hf) (by simpa using hr) hy hS h
theorem wpAnyE_done {listed : Array Bool} {a : Act} {w : World} (hr : Region.ready md ops listed = []) (h : Q .normal a w) :
  ∀ fuel, wpAnyE P md ops Q S z fuel listed a w
 | 0 => ⟨hr, h⟩
 | _ + 1 => ⟨fun _ => h, by rw [hr]; simp⟩
theorem wpAnyE_one {i : Nat} {o : Oper} {fuel : Nat} {listed : Array Bool} {a : Act} {w : World} (hr : Region.ready md ops listed = [i]) (ho : ops[i]? = some o)
  (h : ∀ K' : Act → World → Prop, Shut (∀ a w, (i ≠ z → S w) → ((i ≠ z → S w) → wpAnyE P md ops Q S z fuel (listed.setIfInBounds i true) a w) → K' a w) → if Region.wanted o (yielded ops a.tmps) = true then Oper.wp P o a w K' Q else K' (a.put o.dst undef) w) :
  wpAnyE P md ops Q S z (fuel + 1) listed a w :=
 ⟨fun h0 => absurd (hr ▸ h0) (by simp), fun j hj => by
  rw [hr, List.mem_singleton] at hj
  subst hj
  exact wpOp_step ho (fun K' hK => h K' (fun a w hS hW => hK a w ⟨hS, hW hS⟩))⟩
theorem wp_region_early (z : Nat) {id : Nat} {a : Act} {w : World} (hm : P.follows .mixedOrders = true) (hS : S w.drew)
  (h : S w.drew → wpAnyE P .any ops Q S z ops.size (Array.replicate ops.size false) a w.drew) : (Code.region id ops true).wp P Q a w :=
 wp_region_any hm (wpAny_of_early _ _ _ _ (h hS))
end
end Go.Proofs.YtmkddhkpeiajhaaGreatDoor
