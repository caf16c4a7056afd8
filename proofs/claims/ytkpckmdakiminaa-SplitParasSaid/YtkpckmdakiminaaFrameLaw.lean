/-
  The plain laws of frames: what was framed is told again; cut off, or with a byte turned, it is not whole. No program in sight.
-/
import Derived.Test.YtkpckmdakiminaaTurnedLaw
namespace Go.Proofs.Ytkpckmdakiminaa
open Go.RowKit

/-- a length's four bytes -/
def le4 (n : Nat) : List UInt8 := [byt ((n : Int) % 256), byt ((n : Int) / 256 % 256), byt ((n : Int) / 65536), byt ((n : Int) / 16777216)]
/-- the number of the first four bytes -/
def v4 (l : List UInt8) : Nat := (l[0]?.getD 0).toNat + 256 * (l[1]?.getD 0).toNat + 65536 * (l[2]?.getD 0).toNat + 16777216 * (l[3]?.getD 0).toNat
/-- a frame -/
def frameB (l : List UInt8) : List UInt8 := if 4194304 < l.length then [] else le4 l.length ++ sealB l
/-- the record of the frame at the beginning, if one is whole -/
def wholeB (l : List UInt8) : Option (List UInt8) :=
  if l.length < 10 then none
  else if 4194304 < v4 l ∨ l.length - 10 < v4 l then none
  else if (unsealB ((l.drop 4).take (6 + v4 l))).2 = 0 then some (unsealB ((l.drop 4).take (6 + v4 l))).1 else none
/-- the records from a place on, and where they end -/
def listG : Nat → List UInt8 → Nat → List (List UInt8) × Nat
  | 0, _, p => ([], p)
  | f + 1, l, p => match wholeB (l.drop p) with
    | none => ([], p)
    | some r => (r :: (listG f l (p + 10 + r.length)).1, (listG f l (p + 10 + r.length)).2)
def listB (l : List UInt8) : List (List UInt8) × Nat := listG l.length l 0

theorem le4_len (n : Nat) : (le4 n).length = 4 := rfl
theorem v4_le4 (n : Nat) (h : n ≤ 4194304) (r : List UInt8) : v4 (le4 n ++ r) = n := by
  unfold v4 le4
  simp only [List.cons_append, List.getElem?_cons_zero, List.getElem?_cons_succ, Option.getD_some]
  have h0 := byt_toNat (x := (n : Int) % 256) (by omega) (by omega)
  have h1 := byt_toNat (x := (n : Int) / 256 % 256) (by omega) (by omega)
  have h2 := byt_toNat (x := (n : Int) / 65536) (by omega) (by omega)
  have h3 := byt_toNat (x := (n : Int) / 16777216) (by omega) (by omega)
  omega
theorem unseal_len {l : List UInt8} (h : (unsealB l).2 = 0) : (unsealB l).1.length + 6 = l.length := by
  unfold unsealB at h ⊢
  split
  · rename_i c; rw [if_pos c] at h; cases h
  · rename_i c
    rw [if_neg c] at h
    split
    · rw [List.length_take]; omega
    · rename_i c2; rw [if_neg c2] at h; cases h
theorem whole_len {l r : List UInt8} (h : wholeB l = some r) : r.length = v4 l ∧ r.length + 10 ≤ l.length ∧ r.length ≤ 4194304 := by
  unfold wholeB at h
  by_cases c1 : l.length < 10
  · rw [if_pos c1] at h; cases h
  · rw [if_neg c1] at h
    by_cases c2 : 4194304 < v4 l ∨ l.length - 10 < v4 l
    · rw [if_pos c2] at h; cases h
    · rw [if_neg c2] at h
      by_cases c3 : (unsealB ((l.drop 4).take (6 + v4 l))).2 = 0
      · rw [if_pos c3] at h
        injection h with h
        have := unseal_len c3
        rw [h, List.length_take, List.length_drop] at this
        omega
      · rw [if_neg c3] at h; cases h

theorem unseal_seal (l : List UInt8) : unsealB (sealB l) = (l, 0) := by
  have e : (sealB l).take ((sealB l).length - 6) = l := by
    rw [sealB_len, Nat.add_sub_cancel]
    unfold sealB
    exact List.take_left' rfl
  have := unseal_good (l := sealB l) (by rw [sealB_len]; omega) (by rw [e])
  rw [e] at this
  exact this

theorem frameB_eq {p : List UInt8} (h : p.length ≤ 4194304) : frameB p = le4 p.length ++ sealB p := by unfold frameB; rw [if_neg (by omega)]
theorem frameB_len {p : List UInt8} (h : p.length ≤ 4194304) : (frameB p).length = p.length + 10 := by rw [frameB_eq h, List.length_append, le4_len, sealB_len]; omega
theorem frameB_le (p : List UInt8) : (frameB p).length ≤ p.length + 10 := by
  by_cases h : p.length ≤ 4194304
  · rw [frameB_len h]; omega
  · unfold frameB; rw [if_pos (by omega)]; simp

/-- a frame is whole -/
theorem frame_whole {p : List UInt8} (h : p.length ≤ 4194304) (rest : List UInt8) : wholeB (frameB p ++ rest) = some p := by
  have hv : v4 (frameB p ++ rest) = p.length := by rw [frameB_eq h, List.append_assoc]; exact v4_le4 _ (by omega) _
  have hl : (frameB p ++ rest).length = p.length + 10 + rest.length := by rw [List.length_append, frameB_len h]
  have hd : ((frameB p ++ rest).drop 4).take (6 + p.length) = sealB p := by
    rw [frameB_eq h, List.append_assoc, List.drop_left' (le4_len _), List.take_left' (by rw [sealB_len]; omega)]
  unfold wholeB
  rw [hv, if_neg (by omega), if_neg (by omega), hd, unseal_seal, if_pos rfl]
/-- a frame that is cut off is not whole -/
theorem frame_cut {p : List UInt8} (h : p.length ≤ 4194304) {c : Nat} (hc : c < p.length + 10) : wholeB ((frameB p).take c) = none := by
  have hl : ((frameB p).take c).length = c := by rw [List.length_take, frameB_len h]; omega
  unfold wholeB
  by_cases c1 : c < 10
  · rw [if_pos (by omega)]
  · have hv : v4 ((frameB p).take c) = p.length := by
      rw [frameB_eq h, List.take_append, List.take_of_length_le (by rw [le4_len]; omega)]
      exact v4_le4 _ (by omega) _
    rw [if_neg (by omega), hv, if_pos (by omega)]
/-- a frame of which a byte behind its length is another one is not whole -/
theorem frame_turned {p : List UInt8} (h : p.length ≤ 4194304) {k : Nat} (hk4 : 4 ≤ k) (hk : k < p.length + 10) {y : UInt8} (hy : y ≠ (frameB p)[k]?.getD 0) : wholeB ((frameB p).set k y) = none := by
  have e : (frameB p).set k y = le4 p.length ++ (sealB p).set (k - 4) y := by
    rw [frameB_eq h, List.set_append_right _ _ (by rw [le4_len]; omega), le4_len]
  have hg : (frameB p)[k]?.getD 0 = (sealB p)[k - 4]?.getD 0 := by rw [frameB_eq h, List.getElem?_append_right (by rw [le4_len]; omega), le4_len]
  rw [hg] at hy
  have hu := unseal_turned (l := p) (k := k - 4) (y := y) (by omega) hy
  have hv : v4 ((frameB p).set k y) = p.length := by rw [e]; exact v4_le4 _ (by omega) _
  have hl : ((frameB p).set k y).length = p.length + 10 := by rw [List.length_set, frameB_len h]
  have hd : (((frameB p).set k y).drop 4).take (6 + p.length) = (sealB p).set (k - 4) y := by
    rw [e, List.drop_left' (le4_len _), List.take_of_length_le (by rw [List.length_set, sealB_len]; omega)]
  unfold wholeB
  rw [hv, if_neg (by omega), if_neg (by omega), hd, hu, if_neg (by decide)]

theorem whole_short {l : List UInt8} (h : l.length < 10) : wholeB l = none := by unfold wholeB; rw [if_pos h]

theorem listG_none {l : List UInt8} {p : Nat} (h : wholeB (l.drop p) = none) (f : Nat) : listG f l p = ([], p) := by
  cases f with
  | zero => rfl
  | succ f => unfold listG; rw [h]
theorem listG_some {l r : List UInt8} {p : Nat} (h : wholeB (l.drop p) = some r) (f : Nat) :
    listG (f + 1) l p = (r :: (listG f l (p + 10 + r.length)).1, (listG f l (p + 10 + r.length)).2) := by
  conv => lhs; unfold listG
  rw [h]

/-- frames, one behind the other, and something that is none -/
theorem listG_frames (tail : List UInt8) (ht : wholeB tail = none) : ∀ (ps : List (List UInt8)) (pre : List UInt8) (f : Nat), (∀ p ∈ ps, p.length ≤ 4194304) → (ps.flatMap frameB).length ≤ f →
    listG f (pre ++ (ps.flatMap frameB ++ tail)) pre.length = (ps, pre.length + (ps.flatMap frameB).length)
  | [], pre, f, _, _ => by
    rw [listG_none (by rw [List.drop_left' rfl]; exact ht)]
    simp
  | p :: ps, pre, f, hp, hf => by
    have h1 := hp p (List.mem_cons_self ..)
    rw [List.flatMap_cons, List.length_append, frameB_len h1] at hf
    obtain ⟨f, rfl⟩ : ∃ g, f = g + 1 := ⟨f - 1, by omega⟩
    have hw : wholeB ((pre ++ (List.flatMap frameB (p :: ps) ++ tail)).drop pre.length) = some p := by
      rw [List.drop_left' rfl, List.flatMap_cons, List.append_assoc]
      exact frame_whole h1 _
    have ih := listG_frames tail ht ps (pre ++ frameB p) f (fun q hq => hp q (List.mem_cons_of_mem _ hq)) (by omega)
    rw [List.length_append, frameB_len h1, List.append_assoc, ← Nat.add_assoc, Nat.add_right_comm] at ih
    rw [listG_some hw f]
    rw [List.flatMap_cons, List.append_assoc, List.length_append, frameB_len h1]
    rw [ih]
    simp only [Prod.mk.injEq, true_and]
    omega
theorem listB_frames (tail : List UInt8) (ht : wholeB tail = none) (ps : List (List UInt8)) (hp : ∀ p ∈ ps, p.length ≤ 4194304) : listB (ps.flatMap frameB ++ tail) = (ps, (ps.flatMap frameB).length) := by
  have := listG_frames tail ht ps [] (ps.flatMap frameB ++ tail).length hp (by rw [List.length_append]; omega)
  simpa [listB] using this

/-- where a walk over frames stands: what it has told, and the place -/
def ListInv (l : List UInt8) (acc : List (List UInt8)) (p : Nat) : Prop := ∃ f, l.length - p ≤ f ∧ listB l = (acc ++ (listG f l p).1, (listG f l p).2)
theorem ListInv.start (l : List UInt8) : ListInv l [] 0 := ⟨l.length, by omega, rfl⟩
theorem ListInv.stop {l : List UInt8} {acc : List (List UInt8)} {p : Nat} (h : ListInv l acc p) (hw : wholeB (l.drop p) = none) : listB l = (acc, p) := by
  obtain ⟨f, _, e⟩ := h
  rw [listG_none hw] at e
  simpa using e
theorem ListInv.next {l r : List UInt8} {acc : List (List UInt8)} {p : Nat} (h : ListInv l acc p) (hw : wholeB (l.drop p) = some r) : ListInv l (acc ++ [r]) (p + 10 + r.length) ∧ p + 10 + r.length ≤ l.length := by
  obtain ⟨f, hf, e⟩ := h
  have hl := whole_len hw
  rw [List.length_drop] at hl
  obtain ⟨f, rfl⟩ : ∃ g, f = g + 1 := ⟨f - 1, by omega⟩
  rw [listG_some hw] at e
  exact ⟨⟨f, by omega, by rw [e, List.append_assoc]; rfl⟩, by omega⟩

end Go.Proofs.Ytkpckmdakiminaa
