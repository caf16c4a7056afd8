import Derived.Test.YtmkddhkpeiajhaaGreatDoorProg
import Derived.Test.YtmkddhkpeiajhaaGreatDoorBytes
import Derived.Laws.BitsAllLaws
import Derived.Test.YtmkddhkpeiajhaaGreatDoorAtW
import Derived.Deep.QuietTactic
import Derived.BigQuiet
namespace Go.Proofs.YtmkddhkpeiajhaaGreatDoor
open Go.RowKit
def WrOk (w : World) (base g : Nat) (R : Option Nat) (l : List UInt8) : Prop :=
 base ≤ g ∧ ∃ A n c, ob A = R ∧ Blk w g 67 #[.slice A n c] ∧ OwnB w base A n c l
def WrIn (g : Nat) (R : Option Nat) (k : Nat) : Prop := k = g ∨ R = some k
theorem WrOk.fr {w w' : World} {p : Nat → Prop} {base g : Nat} {R : Option Nat} {l : List UInt8} (h : WrOk w base g R l) (hf : Fr w w' p) (hp : ∀ k, WrIn g R k → ¬ p k) : WrOk w' base g R l := by
 obtain ⟨hb, A, n, c, rfl, h1, h2⟩ := h
 exact ⟨hb, A, n, c, rfl, h1.fr hf (hp g (.inl rfl)), h2.fr hf fun k hk => hp k (.inr hk)⟩
theorem WrOk.lt {w : World} {base g : Nat} {R : Option Nat} {l : List UInt8} (h : WrOk w base g R l) : ∀ k, WrIn g R k → base ≤ k ∧ k < w.heap.size := by
 obtain ⟨hb, A, n, c, rfl, h1, h2⟩ := h
 rintro k (rfl | hk)
 ·exact ⟨hb, h1.lt⟩
 ·exact h2.lt k hk
set_option maxHeartbeats 400000 in
theorem newWriter_any (w : World) : Calls Tryz.prog 9 #[] w fun e w' => e = .returned (.pointer (some ⟨w.heap.size, 0, none⟩)) ∧ w' = w.alloc (.cells #[.slice none 0 0] 67) := by
 go_enter Tryz.func9, Tryz.ntmps9
 go_wp2
 go_ret
 exact ⟨rfl, rfl⟩
theorem WrOk.new (w : World) (base : Nat) (h : base ≤ w.heap.size) : WrOk (w.alloc (.cells #[.slice none 0 0] 67)) base w.heap.size none [] :=
 ⟨h, none, 0, 0, rfl, Blk.new _ _ _, OwnB.nil⟩
def Laid (w : World) (base g : Nat) (R : Option Nat) (l : List UInt8) (w' : World) : Prop :=
 ∃ R', WrOk w' base g R' l ∧ Fr w w' (WrIn g R) ∧ (R' = R ∨ ∃ k, R' = some k ∧ w.heap.size ≤ k)
theorem laid_step {w w1 : World} {base g : Nat} {A A' : Option Addr} {n c n' c' : Nat} {l l' : List UInt8} {o : Obj} (hb : base ≤ g) (hblk : Blk w g 67 #[.slice A n c]) (hown : OwnB w base A n c l)
  (hown1 : OwnB w1 base A' n' c' l') (hg1 : (w.alloc o).grownBy w1 (ob A)) (hob : ob A' = ob A ∨ ob A' = some (w.alloc o).heap.size) :
  Laid w base g (ob A) l' (w1.setCell ⟨g, 0, none⟩ (.slice A' n' c')) := by
 have hne : ob A ≠ some g := hown.ne_blk hblk (by decide)
 have hblk1 : Blk w1 g 67 #[.slice A n c] := (hblk.alloc o).grown hg1 (Ne.symm hne)
 have hne1 : ob A' ≠ some g := hown1.ne_blk hblk1 (by decide)
 have hf : Fr w w1 (WrIn g (ob A)) := ((Fr.refl w _).alloc o).grown hg1 (fun k _ hk => .inr hk)
 refine ⟨ob A', ⟨hb, A', n', c', rfl, by simpa using hblk1.set_ 0 (.slice A' n' c'), ?_⟩, hf.set (fun _ => .inl rfl) _, ?_⟩
 ·have hs : Fr w1 (w1.setCell ⟨g, 0, none⟩ (.slice A' n' c')) (fun k => k = g) := Fr.set (p := fun k => k = g) (a := ⟨g, 0, none⟩) (Fr.refl w1 _) (fun _ => rfl) _
  exact hown1.fr hs fun k hk e => hne1 (by rw [hk, e])
 ·rcases hob with e | e
  ·exact .inl e
  ·exact .inr ⟨_, e, by simp⟩
theorem laid_step0 {w w1 : World} {base g : Nat} {A A' : Option Addr} {n c n' c' : Nat} {l l' : List UInt8} (hb : base ≤ g) (hblk : Blk w g 67 #[.slice A n c]) (hown : OwnB w base A n c l)
  (hown1 : OwnB w1 base A' n' c' l') (hg1 : w.grownBy w1 (ob A)) (hob : ob A' = ob A ∨ ob A' = some w.heap.size) :
  Laid w base g (ob A) l' (w1.setCell ⟨g, 0, none⟩ (.slice A' n' c')) := by
 have hne : ob A ≠ some g := hown.ne_blk hblk (by decide)
 have hblk1 : Blk w1 g 67 #[.slice A n c] := hblk.grown hg1 (Ne.symm hne)
 have hne1 : ob A' ≠ some g := hown1.ne_blk hblk1 (by decide)
 have hf : Fr w w1 (WrIn g (ob A)) := (Fr.refl w _).grown hg1 (fun k _ hk => .inr hk)
 refine ⟨ob A', ⟨hb, A', n', c', rfl, by simpa using hblk1.set_ 0 (.slice A' n' c'), ?_⟩, hf.set (fun _ => .inl rfl) _, ?_⟩
 ·have hs : Fr w1 (w1.setCell ⟨g, 0, none⟩ (.slice A' n' c')) (fun k => k = g) := Fr.set (p := fun k => k = g) (a := ⟨g, 0, none⟩) (Fr.refl w1 _) (fun _ => rfl) _
  exact hown1.fr hs fun k hk e => hne1 (by rw [hk, e])
 ·rcases hob with e | e
  ·exact .inl e
  ·exact .inr ⟨_, e, Nat.le_refl _⟩
theorem Laid.then_ {w w1 w2 : World} {base g : Nat} {R R1 : Option Nat} {l2 : List UInt8} (hf : Fr w w1 (WrIn g R)) (hR : R1 = R ∨ ∃ k, R1 = some k ∧ w.heap.size ≤ k) (h2 : Laid w1 base g R1 l2 w2) : Laid w base g R l2 w2 := by
 obtain ⟨R2, hw2, hf2, hR2⟩ := h2
 refine ⟨R2, hw2, hf.trans hf2 ?_, ?_⟩
 ·rintro k hk (rfl | e)
  ·exact .inl rfl
  ·rcases hR with rfl | ⟨j, e', hj⟩
   ·exact .inr e
   ·rw [e] at e'; injection e' with e'; omega
 ·rcases hR2 with rfl | ⟨k, e, hk⟩
  ·exact hR
  ·exact .inr ⟨k, e, Nat.le_trans hf.size hk⟩
theorem Laid.refl {w : World} {base g : Nat} {R : Option Nat} {l : List UInt8} (h : WrOk w base g R l) : Laid w base g R l w := ⟨R, h, Fr.refl _ _, .inl rfl⟩
def nmF : Nat → Nat → List UInt8
 | 0, m => [byt m]
 | f + 1, m => if m < 128 then [byt m] else byt ((m % 128 + 128 : Nat)) :: nmF f (m / 128)
def nm (m : Nat) : List UInt8 := nmF 9 m
theorem lor128 : ∀ x : Nat, x < 256 → x ||| 128 = x % 128 + 128 := by decide +kernel
theorem or128 (m : Nat) : bits .or .u8 ((m : Int) % 256) 128 = ((m % 128 + 128 : Nat) : Int) := by
 have e := u8_or_nat (m % 256) 128 (by omega) (by omega)
 rw [lor128 _ (by omega)] at e
 rw [show ((m % 256 : Nat) : Int) = (m : Int) % 256 from by omega] at e
 rw [show ((128 : Nat) : Int) = 128 from rfl] at e
 rw [e]; omega
theorem or128_bd (m : Nat) : 0 ≤ bits .or .u8 ((m : Int) % 256) 128 ∧ bits .or .u8 ((m : Int) % 256) 128 < 256 := by rw [or128]; omega
theorem nmF_small {f m : Nat} (h : m < 128) : nmF f m = [byt m] := by
 cases f with
 | zero => rfl
 | succ f => show (if m < 128 then _ else _) = _; rw [if_pos h]
theorem nmF_great {f m : Nat} (h : ¬ m < 128) : nmF (f + 1) m = byt ((m % 128 + 128 : Nat)) :: nmF f (m / 128) := by
 show (if m < 128 then _ else _) = _; rw [if_neg h]
theorem num_round {N f m : Nat} {l cur : List UInt8} (hlt : ¬ m < 128) (hmf : Hid (m < 128 ^ (f + 1))) (hcur : Hid (l ++ nm N = cur ++ nmF f m)) :
  ∃ f', f = f' + 1 ∧ Hid (m / 128 < 128 ^ (f' + 1)) ∧ Hid (l ++ nm N = (cur ++ [byt (bits .or .u8 ((m : Int) % 256) 128)]) ++ nmF f' (m / 128)) := by
 have hmf := hmf.out
 cases f with
 | zero => simp at hmf; omega
 | succ f =>
  refine ⟨f, rfl, ?_, ?_⟩
  ·show _ < _
   rw [Nat.pow_succ] at hmf
   exact Nat.div_lt_of_lt_mul (by rw [Nat.mul_comm]; exact hmf)
  ·show _ = _
   rw [hcur.out, nmF_great hlt, or128]; simp
set_option maxRecDepth 100000 in
set_option maxHeartbeats 400000 in
theorem writer_num (N : Nat) (hN : N < 18446744073709551616) (w : World) (base g : Nat) (R : Option Nat) (l : List UInt8) (hw : WrOk w base g R l) (hl : l.length + 10 ≤ 140737488355328) (hbase : base ≤ w.heap.size) :
  Calls Tryz.prog 34 #[.pointer (some ⟨g, 0, none⟩), .int .u64 N] w fun e w' => e = .returned (.tuple #[]) ∧ Laid w base g R (l ++ nm N) w' := by
 go_enter Tryz.func34, Tryz.ntmps34
 go_wp2
 go_loopw [1] (fun v wr => ∃ (f m : Nat) (cur : List UInt8), v = .int .u64 (m : Int) ∧ m < 18446744073709551616 ∧ Hid (m < 128 ^ (f + 1)) ∧ cur.length + f ≤ l.length + 9 ∧ Hid (l ++ nm N = cur ++ nmF f m) ∧ Laid w base g R cur wr)
  (fun v _ => (intOf v).toNat)
 case atStart => exact ⟨9, N, l, rfl, hN, (by show N < 128 ^ 10; omega), Nat.le_refl _, rfl, Laid.refl hw⟩
 case round =>
  obtain ⟨f, m, cur, rfl, hm, hmf, hcf, hcur, R1, ⟨hb, A, n, c, rfl, hblk, hown⟩, hf1, hR1⟩ := hrel
  have hcell := hblk.cell 0
  simp only [List.getElem?_toArray, List.getElem?_cons_zero] at hcell
  have hne : ob A ≠ some g := hown.ne_blk hblk (by decide)
  have hn : n ≤ l.length + 9 := by have := hown.len; omega
  have hsz := hf1.size
  by_cases hlt : m < 128
  ·go_wp2_with (at_builtin; refine wpList_append_b _ rfl (.tmp 24) (.tmp 27) rfl base A n c cur rfl (hown.alloc _) _ _ 1 1 [_] rfl (rd_byt wr (by omega) (by omega)) (by omega) (by simp; omega) ?_; intro A' n' c' w1 hown1 hg1 hob; have hblk1 := (hblk.alloc _).grown hg1 (Ne.symm hne); have hcell1 := hblk1.cell 0; simp only [List.getElem?_toArray, List.getElem?_cons_zero] at hcell1; have hfz1 := hblk1.frozen 0)
   go_end0
   refine ⟨rfl, ?_⟩
   have hL := laid_step hb hblk hown hown1 hg1 hob
   have e : l ++ nm N = cur ++ [byt m] := by rw [hcur, nmF_small hlt]
   rw [e]
   exact Laid.then_ hf1 hR1 hL
  ·go_wp2_with (at_builtin; refine wpList_append_b _ rfl (.tmp 10) (.tmp 14) rfl base A n c cur rfl (hown.alloc _) _ _ 1 1 [_] rfl (rd_byt wr (or128_bd m).1 (or128_bd m).2) (by omega) (by simp; omega) ?_; intro A' n' c' w1 hown1 hg1 hob; have hblk1 := (hblk.alloc _).grown hg1 (Ne.symm hne); have hcell1 := hblk1.cell 0; simp only [List.getElem?_toArray, List.getElem?_cons_zero] at hcell1; have hfz1 := hblk1.frozen 0)
   go_roundw
   case rel =>
    obtain ⟨f', hf', hmf', hcat⟩ := num_round (l := l) hlt hmf hcur
    have hL := laid_step hb hblk hown hown1 hg1 hob
    exact ⟨f', m / 128, _, by go_num, by omega, hmf', by simp only [List.length_append, List.length_singleton]; omega, hcat, Laid.then_ hf1 hR1 hL⟩
   case measure => simp [intOf]; omega
theorem nmF_len (f m : Nat) : (nmF f m).length ≤ f + 1 := by
 induction f generalizing m with
 | zero => simp [nmF]
 | succ f ih =>
  by_cases h : m < 128
  ·rw [nmF_small h]; simp
  ·rw [nmF_great h]; have := ih (m / 128); simp only [List.length_cons]; omega
theorem nm_len (m : Nat) : (nm m).length ≤ 10 := nmF_len 9 m
set_option maxRecDepth 100000 in
set_option maxHeartbeats 400000 in
theorem writer_text (str : ByteArray) (w : World) (base g : Nat) (R : Option Nat) (l : List UInt8) (hw : WrOk w base g R l) (hl : l.length + str.size + 10 ≤ 140737488355328) (hbase : base ≤ w.heap.size) :
  Calls Tryz.prog 33 #[.pointer (some ⟨g, 0, none⟩), .string str] w fun e w' => e = .returned (.tuple #[]) ∧ Laid w base g R (l ++ nm str.size ++ str.data.toList) w' := by
 have hnl := nm_len str.size
 go_enter Tryz.func33, Tryz.ntmps33
 go_wp2_with fail
 refine (writer_num str.size (by omega) w base g R l hw (by omega) hbase).mono ?_
 rintro e w1 ⟨rfl, R1, ⟨hb, A, n, c, rfl, hblk, hown⟩, hf1, hR1⟩
 have hcell := hblk.cell 0
 simp only [List.getElem?_toArray, List.getElem?_cons_zero] at hcell
 have hne : ob A ≠ some g := hown.ne_blk hblk (by decide)
 have hn : n ≤ l.length + 10 := by have := hown.len; rw [List.length_append] at this; omega
 have hsz := hf1.size
 go_wp2_with (refine wpList_append_str _ rfl (.tmp 13) (.tmp 14) rfl base A n c (l ++ nm str.size) rfl hown str rfl (by omega) (by omega) ?_; intro A' n' c' w2 hown1 hg1 hob; have hblk1 := hblk.grown hg1 (Ne.symm hne); have hcell1 := hblk1.cell 0; simp only [List.getElem?_toArray, List.getElem?_cons_zero] at hcell1; have hfz1 := hblk1.frozen 0)
 go_end0
 exact ⟨rfl, Laid.then_ hf1 hR1 (laid_step0 hb hblk hown hown1 hg1 hob)⟩
set_option maxRecDepth 100000 in
set_option maxHeartbeats 400000 in
theorem writer_bytes (w : World) (base g : Nat) (R : Option Nat) (l : List UInt8) (hw : WrOk w base g R l) (hl : l.length ≤ 140737488355328) :
  Calls Tryz.prog 11 #[.pointer (some ⟨g, 0, none⟩)] w fun e w' => ∃ A n c, e = .returned (.slice A n c) ∧ OwnB w' w.heap.size A n c l ∧ Below w.heap.size w w' := by
 obtain ⟨hb, A, n, c, rfl, hblk, hown⟩ := hw
 have hcell := (hblk.alloc (.cells #[] 5)).cell 0
 simp only [List.getElem?_toArray, List.getElem?_cons_zero] at hcell
 have hn : n ≤ 140737488355328 := by have := hown.len; omega
 have hrd := hown.rd.alloc (Nat.le_refl _) (.cells #[] 5)
 go_enter Tryz.func11, Tryz.ntmps11
 go_wp2_with (at_builtin; refine wpList_append_b _ rfl (.tmp 3) (.tmp 7) rfl w.heap.size _ 0 0 [] rfl (OwnB.made (Nat.le_refl _)) _ A n c l rfl hrd (by omega) (by simp) ?_; intro A' n' c' w2 hown1 hg1 hob)
 go_ret
 exact ⟨_, _, _, rfl, hown1, ((Below.refl _ _).alloc (Nat.le_refl _) _).grown hg1 (by simp) (by simp)⟩
end Go.Proofs.YtmkddhkpeiajhaaGreatDoor
namespace Go.Proofs.YtmkddhkpeiajhaaGreatDoor
open Go.RowKit
theorem num_round' {N f m : Nat} {cur : List UInt8} (hlt : ¬ m < 128) (hmf : Hid (m < 128 ^ (f + 1))) (hcur : Hid (nm N = cur ++ nmF f m)) :
  ∃ f', f = f' + 1 ∧ Hid (m / 128 < 128 ^ (f' + 1)) ∧ Hid (nm N = (cur ++ [byt ((m : Int) % 128 + 128)]) ++ nmF f' (m / 128)) := by
 obtain ⟨f', h1, h2, h3⟩ := num_round (l := []) hlt hmf (by show _ = _; rw [List.nil_append]; exact hcur.out)
 refine ⟨f', h1, h2, ?_⟩
 have h3 := h3.out
 rw [List.nil_append, or128] at h3
 rw [show ((m % 128 + 128 : Nat) : Int) = (m : Int) % 128 + 128 from by omega] at h3
 exact h3
set_option maxRecDepth 100000 in
set_option maxHeartbeats 400000 in
theorem refNum_any (N : Nat) (hN : N < 18446744073709551616) (w : World) : Calls Tryz.prog 39 #[.int .u64 (N : Int)] w (Made w (nm N)) := by
 go_enter Tryz.func39, Tryz.ntmps39
 go_wp2
 go_loopw [0, 3] (fun v s wr => ∃ (f m : Nat) (cur : List UInt8) (A : Option Addr) (n c : Nat), v = .int .u64 (m : Int) ∧ s = .slice A n c ∧ m < 18446744073709551616 ∧ Hid (m < 128 ^ (f + 1)) ∧ n + f ≤ 9 ∧ Hid (nm N = cur ++ nmF f m) ∧ OwnB wr w.heap.size A n c cur ∧ Below w.heap.size w wr)
  (fun v _ _ => (intOf v).toNat)
 case atStart => exact ⟨9, N, [], none, 0, 0, rfl, rfl, hN, (by show N < 128 ^ 10; omega), by omega, rfl, OwnB.nil, Below.refl _ _⟩
 case round =>
  obtain ⟨f, m, cur, A, n, c, rfl, rfl, hm, hmf, hnf, hcur, hown, hbw⟩ := hrel
  have hsz := hbw.size
  have HL : Hid (cur.length = n) := hown.len
  by_cases hlt : m < 128
  ·go_wp2_with (at_builtin; refine wpList_append_b _ rfl (.tmp 15) (.tmp 18) rfl w.heap.size A n c cur rfl (hown.alloc _) _ _ 1 1 [_] rfl (rd_byt wr (by omega) (by omega)) (by omega) (by simp; omega) ?_; intro A' n' c' w1 hown1 hg1 hob)
   go_ret
   have e : nm N = cur ++ [byt m] := by rw [hcur.out, nmF_small hlt]
   exact ⟨_, _, _, rfl, by rw [e]; exact hown1, below_grown hbw hg1 hsz (fun k hk => (hown.lt k hk).1)⟩
  ·go_wp2_with (at_builtin; refine wpList_append_b _ rfl (.tmp 6) (.tmp 11) rfl w.heap.size A n c cur rfl (hown.alloc _) _ _ 1 1 [_] rfl (rd_byt wr (by omega) (by omega)) (by omega) (by simp; omega) ?_; intro A' n' c' w1 hown1 hg1 hob)
   go_roundw
   case rel =>
    obtain ⟨f', hf', hmf', hcat⟩ := num_round' hlt hmf hcur
    have hl1 : n' + f' ≤ 9 := by have := hown1.len; rw [List.length_append, HL.out] at this; simp only [List.length_singleton] at this; omega
    exact ⟨f', m / 128, _, A', n', c', by go_num, rfl, by omega, hmf', hl1, hcat, hown1, below_grown hbw hg1 hsz (fun k hk => (hown.lt k hk).1)⟩
   case measure => simp [intOf]; omega
set_option maxRecDepth 100000 in
set_option maxHeartbeats 400000 in
theorem refText_any (str : ByteArray) (hs : str.size ≤ 140737488355318) (w : World) : Calls Tryz.prog 38 #[.string str] w (Made w (nm str.size ++ str.data.toList)) := by
 have hnl := nm_len str.size
 go_enter Tryz.func38, Tryz.ntmps38
 go_wp2_with fail
 refine (refNum_any str.size (by omega) w).mono ?_
 rintro e w1 ⟨A, n, c, rfl, hown, hbw⟩
 have hn : n ≤ 10 := by have := hown.len; omega
 have hsz := hbw.size
 go_wp2_with (refine wpList_append_str _ rfl (.tmp 6) (.tmp 7) rfl w.heap.size A n c (nm str.size) rfl hown str rfl (by omega) (by omega) ?_; intro A' n' c' w2 hown1 hg1 hob)
 go_ret
 exact ⟨_, _, _, rfl, hown1, hbw.grown hg1 hsz (fun k hk => (hown.lt k hk).1)⟩
end Go.Proofs.YtmkddhkpeiajhaaGreatDoor
namespace Go.Proofs.YtmkddhkpeiajhaaGreatDoor
open Go.RowKit
def numG (l : List UInt8) (at_ : Nat) : Nat → Nat → Nat → Nat × Int × Nat
 | 0, _, _ => (0, 11, 0)
 | f + 1, i, acc => match l[at_ + i]? with
  | none => (0, 10, 0)
  | some x =>
   if i = 9 ∧ 1 < x.toNat then (0, 11, 0)
   else if 128 ≤ x.toNat then numG l at_ f (i + 1) (acc + x.toNat % 128 * 128 ^ i)
   else if x.toNat = 0 ∧ 0 < i then (0, 11, 0)
   else (acc + x.toNat % 128 * 128 ^ i, 0, at_ + i + 1)
def numAt (l : List UInt8) (at_ : Nat) : Nat × Int × Nat := numG l at_ 10 0 0
theorem digit_fits {acc i x : Nat} (ha : acc < 128 ^ i) (hi : i ≤ 9) (h9 : i = 9 → x ≤ 1) : acc + x % 128 * 128 ^ i < 18446744073709551616 := by
 have hx : x % 128 < 128 := Nat.mod_lt _ (by decide)
 by_cases e : i = 9
 ·subst e
  have := h9 rfl
  have h1 : x % 128 * 128 ^ 9 ≤ 1 * 128 ^ 9 := Nat.mul_le_mul_right _ (by omega)
  omega
 ·have h8 : 128 ^ i ≤ 128 ^ 8 := Nat.pow_le_pow_right (by decide) (by omega)
  have h1 : x % 128 * 128 ^ i ≤ 127 * 128 ^ 8 := Nat.mul_le_mul (by omega) h8
  omega
theorem or_digit {acc i x : Nat} (ha : acc < 128 ^ i) (hi : i ≤ 9) (h9 : i = 9 → x ≤ 1) :
  bits .or .u64 (acc : Int) (IntKind.u64.wrap ((x : Int) % 128 * 2 ^ (7 * i))) = ((acc + x % 128 * 128 ^ i : Nat) : Int) := by
 have hf := digit_fits ha hi h9
 rw [show (x : Int) % 128 = ((x % 128 : Nat) : Int) from by omega]
 have e2 : ((x % 128 : Nat) : Int) * 2 ^ (7 * i) = ((x % 128 * 128 ^ i : Nat) : Int) := by
  rw [Int.natCast_mul, Int.natCast_pow, show (7 * i) = i * 7 from Nat.mul_comm _ _]
  congr 1
  rw [show ((128 : Nat) : Int) = 2 ^ 7 from rfl, ← Int.pow_mul, Nat.mul_comm]
 rw [e2]
 have hw : IntKind.u64.wrap ((x % 128 * 128 ^ i : Nat) : Int) = ((x % 128 * 128 ^ i : Nat) : Int) := by
  simp only [IntKind.wrap, IntKind.bits, IntKind.signed]
  have : ((x % 128 * 128 ^ i : Nat) : Int) < 18446744073709551616 := by omega
  have h0 : (0 : Int) ≤ ((x % 128 * 128 ^ i : Nat) : Int) := by omega
  generalize ((x % 128 * 128 ^ i : Nat) : Int) = z at *
  simp
  omega
 rw [hw, u64_or_nat _ _ (by omega) (by omega)]
 congr 1
 have hp : (128 : Nat) ^ i = 2 ^ (7 * i) := by rw [show 128 = 2 ^ 7 from rfl, ← Nat.pow_mul]
 rw [Nat.or_comm, nat_join (7 * i) (x % 128 * 128 ^ i) acc (by rw [hp]; exact Nat.mul_mod_left _ _) (by rw [← hp]; exact ha), Nat.add_comm]
theorem or_digit9 {acc i x : Nat} (ha : acc < 128 ^ i) (hi : i = 9) (hx : x ≤ 1) : bits .or .u64 (acc : Int) ((x : Int) % 128 * 9223372036854775808) = ((acc + x % 128 * 128 ^ i : Nat) : Int) := by
 subst hi
 rw [← or_digit ha (by omega) (fun _ => hx)]
 congr 1
 have e : (x : Int) % 128 = (x : Int) := by omega
 rw [e]
 have h : (x : Int) * 2 ^ (7 * 9) = (x : Int) * 9223372036854775808 := rfl
 rw [h]
 simp only [IntKind.wrap, IntKind.bits, IntKind.signed]
 simp
 omega
theorem or_digit0 {acc i x : Nat} (ha : acc < 128 ^ i) (hi : i = 0) (hx : x = 0) : bits .or .u64 (acc : Int) (IntKind.u64.wrap 0) = ((acc + x % 128 * 128 ^ i : Nat) : Int) := by
 subst hi; subst hx
 obtain rfl : acc = 0 := by simpa using ha
 decide +kernel
theorem numG_none {l : List UInt8} {at_ f i acc : Nat} (h : l.length ≤ at_ + i) : numG l at_ (f + 1) i acc = (0, 10, 0) := by
 unfold numG; rw [List.getElem?_eq_none h]
theorem numG_some {l : List UInt8} {at_ f i acc : Nat} (h : at_ + i < l.length) : numG l at_ (f + 1) i acc =
  (if i = 9 ∧ 1 < (l[at_ + i]?.getD 0).toNat then (0, 11, 0)
   else if 128 ≤ (l[at_ + i]?.getD 0).toNat then numG l at_ f (i + 1) (acc + (l[at_ + i]?.getD 0).toNat % 128 * 128 ^ i)
   else if (l[at_ + i]?.getD 0).toNat = 0 ∧ 0 < i then (0, 11, 0)
   else (acc + (l[at_ + i]?.getD 0).toNat % 128 * 128 ^ i, 0, at_ + i + 1)) := by
 conv => lhs; unfold numG
 rw [List.getElem?_eq_getElem h]; rfl
def Num3 (r : Nat × Int × Nat) : Value := .tuple #[.int .u64 (r.1 : Int), .int .i64 r.2.1, .int .i64 (r.2.2 : Int)]
theorem and127 {x : Nat} (h : x < 256) : bits .and .u8 (x : Int) 127 = (x : Int) % 128 := by
 have e1 := u8_and_nat x 127 h (by omega)
 rw [nat_mask7] at e1
 rw [show (127 : Int) = ((127 : Nat) : Int) from rfl, e1]
 omega
theorem num_step {l : List UInt8} {n at_ i acc : Nat} (hl : l.length = n) (hlt : at_ + i < n) (hi : i ≤ 9) (h : Hid (numAt l at_ = numG l at_ (10 - i) i acc)) :
  Hid (numAt l at_ = (if i = 9 ∧ 1 < (l[at_ + i]?.getD 0).toNat then (0, 11, 0)
   else if 128 ≤ (l[at_ + i]?.getD 0).toNat then numG l at_ (9 - i) (i + 1) (acc + (l[at_ + i]?.getD 0).toNat % 128 * 128 ^ i)
   else if (l[at_ + i]?.getD 0).toNat = 0 ∧ 0 < i then (0, 11, 0)
   else (acc + (l[at_ + i]?.getD 0).toNat % 128 * 128 ^ i, 0, at_ + i + 1))) := by
 show _ = _
 rw [h.out, show 10 - i = (9 - i) + 1 from by omega, numG_some (by omega)]
theorem num_ret {l : List UInt8} {at_ : Nat} {r : Nat × Int × Nat} {a b c : Int} (h : numAt l at_ = r) (ha : a = (r.1 : Int)) (hb : b = r.2.1) (hc : c = (r.2.2 : Int)) :
  Ending.returned (.tuple #[.int .u64 a, .int .i64 b, .int .i64 c]) = .returned (Num3 (numAt l at_)) := by
 rw [h, ha, hb, hc]; rfl
theorem num_val {a : Int} {b : Nat} (h : a = (b : Int)) : Value.int .u64 a = .int .u64 (b : Int) := by rw [h]
theorem num_next {l : List UInt8} {at_ i acc : Nat} (h : numAt l at_ = numG l at_ (9 - i) (i + 1) acc) (hi : i < 9) : Hid (numAt l at_ = numG l at_ (10 - (i + 1)) (i + 1) acc) := by
 show _ = _
 rw [h, show 9 - i = 10 - (i + 1) from by omega]
theorem digit_pow {acc i x : Nat} (h : Hid (acc < 128 ^ i)) : Hid (acc + x % 128 * 128 ^ i < 128 ^ (i + 1)) := by
 have h := h.out
 show _ < _
 have hx : x % 128 < 128 := Nat.mod_lt _ (by decide)
 have h1 : x % 128 * 128 ^ i ≤ 127 * 128 ^ i := Nat.mul_le_mul_right _ (by omega)
 rw [Nat.pow_succ]
 omega
set_option maxRecDepth 100000 in
set_option maxHeartbeats 2000000 in
theorem numAt_any (A : Option Addr) (n c : Nat) (l : List UInt8) (at_ : Nat) (B : Nat) (w : World) (hr : RdB w B A n l) (hn : n ≤ 140737488355328) (ha : at_ ≤ n) :
  Calls Tryz.prog 51 #[.slice A n c, .int .i64 (at_ : Int)] w fun e w' => e = .returned (Num3 (numAt l at_)) ∧ w = w' := by
 have HL : Hid (l.length = n) := hr.len
 go_enter Tryz.func51, Tryz.ntmps51
 go_wp2
 go_loop [7, 8] (fun v s => ∃ (i acc : Nat), i ≤ 9 ∧ s = .int .i64 (i : Int) ∧ v = .int .u64 (acc : Int) ∧ acc < 18446744073709551616 ∧ Hid (acc < 128 ^ i) ∧ Hid (numAt l at_ = numG l at_ (10 - i) i acc)) (fun _ s => 10 - (intOf s).toNat)
 case atStart => exact ⟨0, 0, by omega, rfl, rfl, by omega, (by show (0 : Nat) < 128 ^ 0; decide), rfl⟩
 case round =>
  obtain ⟨i, acc, hi, rfl, rfl, hacc, hap, hnum⟩ := hrel
  by_cases hlt : at_ + i < n
  ·obtain ⟨g, off, rfl, _, hc⟩ := hr.at_ hlt
   have hx1 : ((l[at_ + i]?.getD 0).toNat : Int) < 256 := by have := (l[at_ + i]?.getD 0).toNat_lt; omega
   have hand := and127 ((l[at_ + i]?.getD 0).toNat_lt)
   have hN := num_step HL.out hlt hi hnum
   have hO := or_digit (x := (l[at_ + i]?.getD 0).toNat) hap.out hi
   have HO := Lib.hid hO
   clear hO
   go_wp2
   ·have h1 : (i : Int) = 9 := by assumption
    have h2 : (1 : Int) < ((l[at_ + i]?.getD 0).toNat : Int) := by assumption
    go_ret3
    exact ⟨num_ret (hN.out.trans (if_pos ⟨by omega, by omega⟩)) rfl rfl rfl, rfl⟩
   ·have h1 : (i : Int) = 9 := by assumption
    have h2 : (l[at_ + i]?.getD 0).toNat = 0 := by assumption
    go_ret3
    exact ⟨num_ret (hN.out.trans ((if_neg (by omega)).trans ((if_neg (by omega)).trans (if_pos ⟨h2, by omega⟩)))) rfl rfl rfl, rfl⟩
   ·have h1 : (i : Int) = 9 := by assumption
    have h2 : ¬ (l[at_ + i]?.getD 0).toNat = 0 := by assumption
    have h3 : ((l[at_ + i]?.getD 0).toNat : Int) ≤ 1 := by assumption
    go_ret3
    exact ⟨num_ret (hN.out.trans ((if_neg (by omega)).trans ((if_neg (by omega)).trans (if_neg (by omega))))) (or_digit9 hap.out (by omega) (by omega)) rfl (by show _ = ((at_ + i + 1 : Nat) : Int); omega), rfl⟩
   ·have h1 : ¬ (i : Int) = 9 := by assumption
    have h2 : (128 : Int) ≤ ((l[at_ + i]?.getD 0).toNat : Int) := by assumption
    go_round
    case rel => exact ⟨i + 1, _, by omega, by go_num, num_val (HO.out (by omega)), digit_fits hap.out hi (by omega), digit_pow hap, num_next (hN.out.trans ((if_neg (by omega)).trans (if_pos (by omega)))) (by omega)⟩
    case measure => simp [intOf]; omega
   ·have h1 : ¬ (i : Int) = 9 := by assumption
    have h2 : (l[at_ + i]?.getD 0).toNat = 0 := by assumption
    have h3 : 0 < i := by assumption
    go_ret3
    exact ⟨num_ret (hN.out.trans ((if_neg (by omega)).trans ((if_neg (by omega)).trans (if_pos ⟨h2, h3⟩)))) rfl rfl rfl, rfl⟩
   ·have h1 : ¬ (i : Int) = 9 := by assumption
    have h2 : (l[at_ + i]?.getD 0).toNat = 0 := by assumption
    have h3 : ¬ 0 < i := by assumption
    go_ret3
    exact ⟨num_ret (hN.out.trans ((if_neg (by omega)).trans ((if_neg (by omega)).trans (if_neg (by omega))))) (or_digit0 hap.out (by omega) h2) rfl (by show _ = ((at_ + i + 1 : Nat) : Int); omega), rfl⟩
   ·have h1 : ¬ (i : Int) = 9 := by assumption
    have h2 : ¬ (l[at_ + i]?.getD 0).toNat = 0 := by assumption
    have h3 : ((l[at_ + i]?.getD 0).toNat : Int) < 128 := by assumption
    go_ret3
    exact ⟨num_ret (hN.out.trans ((if_neg (by omega)).trans ((if_neg (by omega)).trans (if_neg (by omega))))) (HO.out (by omega)) rfl (by show _ = ((at_ + i + 1 : Nat) : Int); omega), rfl⟩
  ·go_wp2
   go_ret3
   have e : numAt l at_ = (0, 10, 0) := by
    rw [hnum.out, show 10 - i = (9 - i) + 1 from by omega]
    exact numG_none (by rw [HL.out]; omega)
   exact ⟨num_ret e rfl rfl rfl, rfl⟩
end Go.Proofs.YtmkddhkpeiajhaaGreatDoor
namespace Go.Proofs.YtmkddhkpeiajhaaGreatDoor
open Go.RowKit
def RrOk (w : World) (base g : Nat) (l : List UInt8) (s : Nat × Int) : Prop :=
 base ≤ g ∧ s.1 ≤ l.length ∧ l.length ≤ 140737488355320 ∧ ∃ A n c, Blk w g 72 #[.slice A n c, .int .i64 (s.1 : Int), .int .i64 s.2] ∧ OwnB w base A n c l
section
variable {w w' : World} {base g : Nat} {l : List UInt8} {s : Nat × Int}
theorem RrOk.drewN (h : RrOk w base g l s) (k : Nat) : RrOk (w.drewN k) base g l s := h
theorem RrOk.fr {p : Nat → Prop} (h : RrOk w base g l s) (hf : Fr w w' p) (hg : ¬ p g) (hp : ∀ A n c, OwnB w base A n c l → ∀ k, ob A = some k → ¬ p k) : RrOk w' base g l s := by
 obtain ⟨hb, h1, h2, A, n, c, h3, h4⟩ := h
 exact ⟨hb, h1, h2, A, n, c, h3.fr hf hg, h4.fr hf (hp A n c h4)⟩
theorem RrOk.keepB (h : RrOk w base g l s) (hb : Below w.heap.size w w') : RrOk w' base g l s := by
 obtain ⟨h0, h1, h2, A, n, c, h3, h4⟩ := h
 exact ⟨h0, h1, h2, A, n, c, h3.below hb h3.lt, h4.below hb (fun k hk => (h4.lt k hk).2)⟩
theorem RrOk.lt (h : RrOk w base g l s) : g < w.heap.size := by obtain ⟨_, _, _, A, n, c, h3, _⟩ := h; exact h3.lt
theorem RrOk.set_ (h : RrOk w base g l s) (s' : Nat × Int) (hs : s'.1 ≤ l.length) (i : Nat) (u : Value)
  (hi : ∀ v : Value, (#[v, .int .i64 (s.1 : Int), .int .i64 s.2] : Array Value).setIfInBounds i u = #[v, .int .i64 (s'.1 : Int), .int .i64 s'.2]) :
  RrOk (w.setCell ⟨g, i, none⟩ u) base g l s' ∧ Fr w (w.setCell ⟨g, i, none⟩ u) (fun k => k = g) := by
 obtain ⟨hb, h1, h2, A, n, c, h3, h4⟩ := h
 have hf : Fr w (w.setCell ⟨g, i, none⟩ u) (fun k => k = g) := Fr.set (p := fun k => k = g) (a := ⟨g, i, none⟩) (Fr.refl w _) (fun _ => rfl) _
 refine ⟨⟨hb, hs, h2, A, n, c, ?_, h4.fr hf fun k hk e => ?_⟩, hf⟩
 ·have := h3.set_ i u
  rw [hi] at this
  exact this
 ·subst e
  exact h4.ne_blk h3 (by decide) hk
end
set_option maxRecDepth 100000 in
set_option maxHeartbeats 400000 in
theorem newReader_any (A : Option Addr) (n c : Nat) (l : List UInt8) (w : World) (hr : RdB w w.heap.size A n l) (hn : n ≤ 140737488355320) :
  Calls Tryz.prog 12 #[.slice A n c] w fun e w' => ∃ g, e = .returned (.pointer (some ⟨g, 0, none⟩)) ∧ w.heap.size < g ∧ RrOk w' w.heap.size g l (0, 0) ∧ Below w.heap.size w w' := by
 have HL : Hid (l.length = n) := hr.len
 go_enter Tryz.func12, Tryz.ntmps12
 go_wp2_with (at_builtin; refine wpList_append_b _ rfl (.tmp 3) (.tmp 4) rfl w.heap.size _ 0 0 [] rfl (OwnB.made (Nat.le_refl _)) _ A n c l rfl (hr.alloc (Nat.le_refl _) _) (by omega) (by simp) ?_; intro A1 n1 c1 w1 hown1 hg1 hob1; have hb1 := below_grown (Below.refl w.heap.size w) hg1 (Nat.le_refl _) (by simp); have hs1 := hb1.size; have hs2 := hg1.size)
 go_ret
 rw [List.nil_append] at hown1
 simp only [World.size_alloc] at hs2
 exact ⟨_, rfl, by omega, ⟨by omega, Nat.zero_le _, by rw [HL.out]; omega, A1, n1, c1, Blk.new _ _ _, hown1.alloc _⟩, hb1.alloc (by omega) _⟩
set_option maxRecDepth 100000 in
set_option maxHeartbeats 400000 in
theorem fault_any (x : Int) (w : World) (base g : Nat) (l : List UInt8) (p : Nat) (hr : RrOk w base g l (p, 0)) :
  Calls Tryz.prog 50 #[.pointer (some ⟨g, 0, none⟩), .int .i64 x] w fun e w' => e = .returned (.tuple #[]) ∧ RrOk w' base g l (p, x) ∧ Fr w w' (fun k => k = g) := by
 have hres := hr.set_ (p, x) hr.2.1 2 (.int .i64 x) (fun v => rfl)
 obtain ⟨hb, h1, h2, A, n, c, h3, h4⟩ := hr
 have hcell := h3.cell 2
 simp only [List.getElem?_toArray, List.getElem?_cons_succ, List.getElem?_cons_zero] at hcell
 have hfz := h3.frozen 2
 go_enter Tryz.func50, Tryz.ntmps50
 go_wp2
 go_end0
 exact ⟨rfl, hres⟩
def Red (base g : Nat) (l : List UInt8) (w : World) (v : Value) (s : Nat × Int) (e : Ending) (w' : World) : Prop := e = .returned v ∧ RrOk w' base g l s ∧ Fr w w' (fun k => k = g)
theorem Red.mk {base g : Nat} {l : List UInt8} {w w1 w' : World} {v v' : Value} {s s' : Nat × Int} (hf : Fr w w1 (fun k => k = g)) (hv : v' = v) (hs : s' = s) (h : RrOk w' base g l s' ∧ Fr w1 w' (fun k => k = g)) : Red base g l w v s (.returned v') w' :=
 ⟨by rw [hv], by rw [← hs]; exact h.1, hf.trans h.2 (fun _ _ h => h)⟩
theorem red_drewN {base g : Nat} {l : List UInt8} {w w1 : World} {s : Nat × Int} (h : RrOk w1 base g l s ∧ Fr w w1 (fun k => k = g)) (n : Nat) : RrOk (w1.drewN n) base g l s ∧ Fr w (w1.drewN n) (fun k => k = g) := ⟨h.1.drewN n, h.2.drewN n⟩
end Go.Proofs.YtmkddhkpeiajhaaGreatDoor
