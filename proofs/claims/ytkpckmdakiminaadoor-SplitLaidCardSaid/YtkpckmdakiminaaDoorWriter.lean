/-
  Contracts of pack's Writer: what was laid is a list of bytes.
-/
import Derived.Test.YtkpckmdakiminaaDoorProg
import Derived.Test.YtkpckmdakiminaaDoorBytes
import Derived.Laws.BitsAllLaws
namespace Go.Proofs.YtkpckmdakiminaaDoor
open Go.RowKit

/-- a Writer in block g that has laid l, in the row R -/
def WrOk (w : World) (base g : Nat) (R : Option Nat) (l : List UInt8) : Prop :=
  base ≤ g ∧ ∃ A n c, ob A = R ∧ Blk w g 67 #[.slice A n c] ∧ OwnB w base A n c l
/-- the blocks of a Writer -/
def WrIn (g : Nat) (R : Option Nat) (k : Nat) : Prop := k = g ∨ R = some k

theorem WrOk.fr {w w' : World} {p : Nat → Prop} {base g : Nat} {R : Option Nat} {l : List UInt8} (h : WrOk w base g R l) (hf : Fr w w' p) (hp : ∀ k, WrIn g R k → ¬ p k) : WrOk w' base g R l := by
  obtain ⟨hb, A, n, c, rfl, h1, h2⟩ := h
  exact ⟨hb, A, n, c, rfl, h1.fr hf (hp g (.inl rfl)), h2.fr hf fun k hk => hp k (.inr hk)⟩
theorem WrOk.lt {w : World} {base g : Nat} {R : Option Nat} {l : List UInt8} (h : WrOk w base g R l) : ∀ k, WrIn g R k → base ≤ k ∧ k < w.heap.size := by
  obtain ⟨hb, A, n, c, rfl, h1, h2⟩ := h
  rintro k (rfl | hk)
  · exact ⟨hb, h1.lt⟩
  · exact h2.lt k hk

set_option maxHeartbeats 400000 in
theorem newWriter_any (w : World) : Calls Tryd.prog 18 #[] w fun e w' => e = .returned (.pointer (some ⟨w.heap.size, 0, none⟩)) ∧ w' = w.alloc (.cells #[.slice none 0 0] 67) := by
  go_enter Tryd.func18, Tryd.ntmps18
  go_wp2
  go_ret
  exact ⟨rfl, rfl⟩

theorem WrOk.new (w : World) (base : Nat) (h : base ≤ w.heap.size) : WrOk (w.alloc (.cells #[.slice none 0 0] 67)) base w.heap.size none [] :=
  ⟨h, none, 0, 0, rfl, Blk.new _ _ _, OwnB.nil⟩

/-- what a call that lays bytes leaves -/
def Laid (w : World) (base g : Nat) (R : Option Nat) (l : List UInt8) (w' : World) : Prop :=
  ∃ R', WrOk w' base g R' l ∧ Fr w w' (WrIn g R) ∧ (R' = R ∨ ∃ k, R' = some k ∧ w.heap.size ≤ k)

/-- the step of an append that is stored back -/
theorem laid_step {w w1 : World} {base g : Nat} {A A' : Option Addr} {n c n' c' : Nat} {l l' : List UInt8} {o : Obj} (hb : base ≤ g) (hblk : Blk w g 67 #[.slice A n c]) (hown : OwnB w base A n c l)
    (hown1 : OwnB w1 base A' n' c' l') (hg1 : (w.alloc o).grownBy w1 (ob A)) (hob : ob A' = ob A ∨ ob A' = some (w.alloc o).heap.size) :
    Laid w base g (ob A) l' (w1.setCell ⟨g, 0, none⟩ (.slice A' n' c')) := by
  have hne : ob A ≠ some g := hown.ne_blk hblk (by decide)
  have hblk1 : Blk w1 g 67 #[.slice A n c] := (hblk.alloc o).grown hg1 (Ne.symm hne)
  have hne1 : ob A' ≠ some g := hown1.ne_blk hblk1 (by decide)
  have hf : Fr w w1 (WrIn g (ob A)) := ((Fr.refl w _).alloc o).grown hg1 (fun k _ hk => .inr hk)
  refine ⟨ob A', ⟨hb, A', n', c', rfl, by simpa using hblk1.set_ 0 (.slice A' n' c'), ?_⟩, hf.set (fun _ => .inl rfl) _, ?_⟩
  · have hs : Fr w1 (w1.setCell ⟨g, 0, none⟩ (.slice A' n' c')) (fun k => k = g) := Fr.set (p := fun k => k = g) (a := ⟨g, 0, none⟩) (Fr.refl w1 _) (fun _ => rfl) _
    exact hown1.fr hs fun k hk e => hne1 (by rw [hk, e])
  · rcases hob with e | e
    · exact .inl e
    · exact .inr ⟨_, e, by simp⟩

theorem laid_step0 {w w1 : World} {base g : Nat} {A A' : Option Addr} {n c n' c' : Nat} {l l' : List UInt8} (hb : base ≤ g) (hblk : Blk w g 67 #[.slice A n c]) (hown : OwnB w base A n c l)
    (hown1 : OwnB w1 base A' n' c' l') (hg1 : w.grownBy w1 (ob A)) (hob : ob A' = ob A ∨ ob A' = some w.heap.size) :
    Laid w base g (ob A) l' (w1.setCell ⟨g, 0, none⟩ (.slice A' n' c')) := by
  have hne : ob A ≠ some g := hown.ne_blk hblk (by decide)
  have hblk1 : Blk w1 g 67 #[.slice A n c] := hblk.grown hg1 (Ne.symm hne)
  have hne1 : ob A' ≠ some g := hown1.ne_blk hblk1 (by decide)
  have hf : Fr w w1 (WrIn g (ob A)) := (Fr.refl w _).grown hg1 (fun k _ hk => .inr hk)
  refine ⟨ob A', ⟨hb, A', n', c', rfl, by simpa using hblk1.set_ 0 (.slice A' n' c'), ?_⟩, hf.set (fun _ => .inl rfl) _, ?_⟩
  · have hs : Fr w1 (w1.setCell ⟨g, 0, none⟩ (.slice A' n' c')) (fun k => k = g) := Fr.set (p := fun k => k = g) (a := ⟨g, 0, none⟩) (Fr.refl w1 _) (fun _ => rfl) _
    exact hown1.fr hs fun k hk e => hne1 (by rw [hk, e])
  · rcases hob with e | e
    · exact .inl e
    · exact .inr ⟨_, e, Nat.le_refl _⟩

set_option maxHeartbeats 400000 in
theorem writer_byte (x : Int) (h0 : 0 ≤ x) (h1 : x < 256) (w : World) (base g : Nat) (R : Option Nat) (l : List UInt8) (hw : WrOk w base g R l) (hl : l.length < 140737488355328) (hbase : base ≤ w.heap.size) :
    Calls Tryd.prog 34 #[.pointer (some ⟨g, 0, none⟩), .int .u8 x] w fun e w' => e = .returned (.tuple #[]) ∧ Laid w base g R (l ++ [byt x]) w' := by
  obtain ⟨hb, A, n, c, rfl, hblk, hown⟩ := hw
  have hcell := hblk.cell 0
  simp only [List.getElem?_toArray, List.getElem?_cons_zero] at hcell
  have hne : ob A ≠ some g := hown.ne_blk hblk (by decide)
  have hn := hown.len
  go_enter Tryd.func34, Tryd.ntmps34
  go_wp2_with (at_builtin; refine wpList_append_b _ rfl (.tmp 8) (.tmp 10) rfl base A n c l rfl (hown.alloc _) _ _ 1 1 [byt x] rfl (rd_byt w h0 h1) (by omega) (by simp; omega) ?_; intro A' n' c' w1 hown1 hg1 hob; have hblk1 := (hblk.alloc (.cells #[.int .u8 x] 5)).grown hg1 (Ne.symm hne); have hcell1 := hblk1.cell 0; simp only [List.getElem?_toArray, List.getElem?_cons_zero] at hcell1; have hfz1 := hblk1.frozen 0)
  go_end0
  exact ⟨rfl, laid_step hb hblk hown hown1 hg1 hob⟩

theorem Laid.then_ {w w1 w2 : World} {base g : Nat} {R R1 : Option Nat} {l2 : List UInt8} (hf : Fr w w1 (WrIn g R)) (hR : R1 = R ∨ ∃ k, R1 = some k ∧ w.heap.size ≤ k) (h2 : Laid w1 base g R1 l2 w2) : Laid w base g R l2 w2 := by
  obtain ⟨R2, hw2, hf2, hR2⟩ := h2
  refine ⟨R2, hw2, hf.trans hf2 ?_, ?_⟩
  · rintro k hk (rfl | e)
    · exact .inl rfl
    · rcases hR with rfl | ⟨j, e', hj⟩
      · exact .inr e
      · rw [e] at e'; injection e' with e'; omega
  · rcases hR2 with rfl | ⟨k, e, hk⟩
    · exact hR
    · exact .inr ⟨k, e, Nat.le_trans hf.size hk⟩
theorem Laid.refl {w : World} {base g : Nat} {R : Option Nat} {l : List UInt8} (h : WrOk w base g R l) : Laid w base g R l w := ⟨R, h, Fr.refl _ _, .inl rfl⟩

/-- a number's bytes -/
def nmF : Nat → Nat → List UInt8
  | 0, m => [byt m]
  | f + 1, m => if m < 128 then [byt m] else byt ((m % 128 + 128 : Nat)) :: nmF f (m / 128)
def nm (m : Nat) : List UInt8 := nmF 9 m

theorem lor128 : ∀ x : Nat, x < 256 → x ||| 128 = x % 128 + 128 := by decide +kernel
theorem or128 (m : Nat) : bits .or .u8 ((m : Int) % 256) 128 = ((m % 128 + 128 : Nat) : Int) := by
  have e := u8_or_nat (m % 256) 128 (by omega) (by omega)
  rw [lor128 _ (by omega)] at e
  rw [show ((m % 256 : Nat) : Int) = (m : Int) % 256 from by omega] at e
  rw [show ((128 : Nat) : Int) = 128 from rfl] at e
  rw [e]; omega
theorem or128_bd (m : Nat) : 0 ≤ bits .or .u8 ((m : Int) % 256) 128 ∧ bits .or .u8 ((m : Int) % 256) 128 < 256 := by rw [or128]; omega
theorem nmF_small {f m : Nat} (h : m < 128) : nmF f m = [byt m] := by
  cases f with
  | zero => rfl
  | succ f => show (if m < 128 then _ else _) = _; rw [if_pos h]
theorem nmF_great {f m : Nat} (h : ¬ m < 128) : nmF (f + 1) m = byt ((m % 128 + 128 : Nat)) :: nmF f (m / 128) := by
  show (if m < 128 then _ else _) = _; rw [if_neg h]

theorem num_round {N f m : Nat} {l cur : List UInt8} (hlt : ¬ m < 128) (hmf : Hid (m < 128 ^ (f + 1))) (hcur : Hid (l ++ nm N = cur ++ nmF f m)) :
    ∃ f', f = f' + 1 ∧ Hid (m / 128 < 128 ^ (f' + 1)) ∧ Hid (l ++ nm N = (cur ++ [byt (bits .or .u8 ((m : Int) % 256) 128)]) ++ nmF f' (m / 128)) := by
  have hmf := hmf.out
  cases f with
  | zero => simp at hmf; omega
  | succ f =>
    refine ⟨f, rfl, ?_, ?_⟩
    · show _ < _
      rw [Nat.pow_succ] at hmf
      exact Nat.div_lt_of_lt_mul (by rw [Nat.mul_comm]; exact hmf)
    · show _ = _
      rw [hcur.out, nmF_great hlt, or128]; simp

set_option maxRecDepth 100000 in
set_option maxHeartbeats 400000 in
theorem writer_num (N : Nat) (hN : N < 18446744073709551616) (w : World) (base g : Nat) (R : Option Nat) (l : List UInt8) (hw : WrOk w base g R l) (hl : l.length + 10 ≤ 140737488355328) (hbase : base ≤ w.heap.size) :
    Calls Tryd.prog 41 #[.pointer (some ⟨g, 0, none⟩), .int .u64 N] w fun e w' => e = .returned (.tuple #[]) ∧ Laid w base g R (l ++ nm N) w' := by
  go_enter Tryd.func41, Tryd.ntmps41
  go_wp2
  go_loopw [1] (fun v wr => ∃ (f m : Nat) (cur : List UInt8), v = .int .u64 (m : Int) ∧ m < 18446744073709551616 ∧ Hid (m < 128 ^ (f + 1)) ∧ cur.length + f ≤ l.length + 9 ∧ Hid (l ++ nm N = cur ++ nmF f m) ∧ Laid w base g R cur wr)
    (fun v _ => (intOf v).toNat)
  case atStart => exact ⟨9, N, l, rfl, hN, (by show N < 128 ^ 10; omega), Nat.le_refl _, rfl, Laid.refl hw⟩
  case round =>
    obtain ⟨f, m, cur, rfl, hm, hmf, hcf, hcur, R1, ⟨hb, A, n, c, rfl, hblk, hown⟩, hf1, hR1⟩ := hrel
    have hcell := hblk.cell 0
    simp only [List.getElem?_toArray, List.getElem?_cons_zero] at hcell
    have hne : ob A ≠ some g := hown.ne_blk hblk (by decide)
    have hn : n ≤ l.length + 9 := by have := hown.len; omega
    have hsz := hf1.size
    by_cases hlt : m < 128
    · go_wp2_with (at_builtin; refine wpList_append_b _ rfl (.tmp 24) (.tmp 27) rfl base A n c cur rfl (hown.alloc _) _ _ 1 1 [_] rfl (rd_byt wr (by omega) (by omega)) (by omega) (by simp; omega) ?_; intro A' n' c' w1 hown1 hg1 hob; have hblk1 := (hblk.alloc _).grown hg1 (Ne.symm hne); have hcell1 := hblk1.cell 0; simp only [List.getElem?_toArray, List.getElem?_cons_zero] at hcell1; have hfz1 := hblk1.frozen 0)
      go_end0
      refine ⟨rfl, ?_⟩
      have hL := laid_step hb hblk hown hown1 hg1 hob
      have e : l ++ nm N = cur ++ [byt m] := by rw [hcur, nmF_small hlt]
      rw [e]
      exact Laid.then_ hf1 hR1 hL
    · go_wp2_with (at_builtin; refine wpList_append_b _ rfl (.tmp 10) (.tmp 14) rfl base A n c cur rfl (hown.alloc _) _ _ 1 1 [_] rfl (rd_byt wr (or128_bd m).1 (or128_bd m).2) (by omega) (by simp; omega) ?_; intro A' n' c' w1 hown1 hg1 hob; have hblk1 := (hblk.alloc _).grown hg1 (Ne.symm hne); have hcell1 := hblk1.cell 0; simp only [List.getElem?_toArray, List.getElem?_cons_zero] at hcell1; have hfz1 := hblk1.frozen 0)
      go_roundw
      case rel =>
        obtain ⟨f', hf', hmf', hcat⟩ := num_round (l := l) hlt hmf hcur
        have hL := laid_step hb hblk hown hown1 hg1 hob
        exact ⟨f', m / 128, _, by go_num, by omega, hmf', by simp only [List.length_append, List.length_singleton]; omega, hcat, Laid.then_ hf1 hR1 hL⟩
      case measure => simp [intOf]; omega

theorem nmF_len (f m : Nat) : (nmF f m).length ≤ f + 1 := by
  induction f generalizing m with
  | zero => simp [nmF]
  | succ f ih =>
    by_cases h : m < 128
    · rw [nmF_small h]; simp
    · rw [nmF_great h]; have := ih (m / 128); simp only [List.length_cons]; omega
theorem nm_len (m : Nat) : (nm m).length ≤ 10 := nmF_len 9 m

set_option maxRecDepth 100000 in
set_option maxHeartbeats 400000 in
theorem writer_text (str : ByteArray) (w : World) (base g : Nat) (R : Option Nat) (l : List UInt8) (hw : WrOk w base g R l) (hl : l.length + str.size + 10 ≤ 140737488355328) (hbase : base ≤ w.heap.size) :
    Calls Tryd.prog 33 #[.pointer (some ⟨g, 0, none⟩), .string str] w fun e w' => e = .returned (.tuple #[]) ∧ Laid w base g R (l ++ nm str.size ++ str.data.toList) w' := by
  have hnl := nm_len str.size
  go_enter Tryd.func33, Tryd.ntmps33
  go_wp2_with fail
  refine (writer_num str.size (by omega) w base g R l hw (by omega) hbase).mono ?_
  rintro e w1 ⟨rfl, R1, ⟨hb, A, n, c, rfl, hblk, hown⟩, hf1, hR1⟩
  have hcell := hblk.cell 0
  simp only [List.getElem?_toArray, List.getElem?_cons_zero] at hcell
  have hne : ob A ≠ some g := hown.ne_blk hblk (by decide)
  have hn : n ≤ l.length + 10 := by have := hown.len; rw [List.length_append] at this; omega
  have hsz := hf1.size
  go_wp2_with (refine wpList_append_str _ rfl (.tmp 13) (.tmp 14) rfl base A n c (l ++ nm str.size) rfl hown str rfl (by omega) (by omega) ?_; intro A' n' c' w2 hown1 hg1 hob; have hblk1 := hblk.grown hg1 (Ne.symm hne); have hcell1 := hblk1.cell 0; simp only [List.getElem?_toArray, List.getElem?_cons_zero] at hcell1; have hfz1 := hblk1.frozen 0)
  go_end0
  exact ⟨rfl, Laid.then_ hf1 hR1 (laid_step0 hb hblk hown hown1 hg1 hob)⟩

set_option maxRecDepth 100000 in
set_option maxHeartbeats 400000 in
theorem writer_bytes (w : World) (base g : Nat) (R : Option Nat) (l : List UInt8) (hw : WrOk w base g R l) (hl : l.length ≤ 140737488355328) :
    Calls Tryd.prog 20 #[.pointer (some ⟨g, 0, none⟩)] w fun e w' => ∃ A n c, e = .returned (.slice A n c) ∧ OwnB w' w.heap.size A n c l ∧ Below w.heap.size w w' := by
  obtain ⟨hb, A, n, c, rfl, hblk, hown⟩ := hw
  have hcell := (hblk.alloc (.cells #[] 5)).cell 0
  simp only [List.getElem?_toArray, List.getElem?_cons_zero] at hcell
  have hn : n ≤ 140737488355328 := by have := hown.len; omega
  have hrd := hown.rd.alloc (Nat.le_refl _) (.cells #[] 5)
  go_enter Tryd.func20, Tryd.ntmps20
  go_wp2_with (at_builtin; refine wpList_append_b _ rfl (.tmp 3) (.tmp 7) rfl w.heap.size _ 0 0 [] rfl (OwnB.made (Nat.le_refl _)) _ A n c l rfl hrd (by omega) (by simp) ?_; intro A' n' c' w2 hown1 hg1 hob)
  go_ret
  exact ⟨_, _, _, rfl, hown1, ((Below.refl _ _).alloc (Nat.le_refl _) _).grown hg1 (by simp) (by simp)⟩

end Go.Proofs.YtkpckmdakiminaaDoor
