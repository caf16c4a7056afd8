import Derived.Test.YtmkddhkpeiajhaaGreatDoorBrk2
import Derived.Test.YtmkddhkpeiajhaaGreatDoorStarW
namespace Go.Proofs.YtmkddhkpeiajhaaGreatDoor
open Go.RowKit
def It (w0 w : World) (g : Nat) (s : ByteArray) (p : Nat) : Prop := BrOk w g s p ∧ Blk w w0.heap.size 95 #[.int .u64 0, .int .u64 0, .int .u64 0, .int .u64 0] ∧ Fr w0 w (fun k => k = g) ∧ g < w0.heap.size
section
variable {w0 w w' : World} {g p : Nat} {s : ByteArray}
theorem It.start (hb : BrOk w g s p) : It w (w.alloc (.cells #[.int .u64 0, .int .u64 0, .int .u64 0, .int .u64 0] 95)) g s p := ⟨Blk.alloc hb _, Blk.new _ _ _, Fr.later ((Later.refl w).alloc _), Blk.lt hb⟩
theorem It.later (h : It w0 w g s p) (hl : Later w w') : It w0 w' g s p := ⟨h.1.later hl, blkLater hl h.2.1, h.2.2.1.andLater hl, h.2.2.2⟩
theorem It.fr {q : Nat} (h : It w0 w g s p) (hf : Fr w w' (fun k => k = g)) (hb : BrOk w' g s q) : It w0 w' g s q := ⟨hb, h.2.1.fr hf (fun e => Nat.lt_irrefl _ (e ▸ h.2.2.2)), h.2.2.1.trans hf (fun _ _ e => e), h.2.2.2⟩
theorem It.move (h : It w0 w g s p) (q : Nat) (x : Int) (hx : x = (q : Int)) : It w0 (w.setCell ⟨g, 1, none⟩ (.int .i64 x)) g s q :=
 ⟨h.1.move q x hx, h.2.1.far (fun e => Nat.lt_irrefl _ (e ▸ h.2.2.2)) _, Fr.moved h.2.2.1 _, h.2.2.2⟩
theorem It.cells (h : It w0 w g s p) : w.cell? ⟨g, 0, none⟩ = some (.string s) ∧ w.cell? ⟨g, 1, none⟩ = some (.int .i64 (p : Int)) ∧ w.frozen? ⟨g, 1, none⟩ = false ∧ w.cell? ⟨w0.heap.size, 0, none⟩ = some (.int .u64 0) ∧ w.cell? ⟨w0.heap.size, 1, none⟩ = some (.int .u64 0) ∧ w.cell? ⟨w0.heap.size, 2, none⟩ = some (.int .u64 0) ∧ w.cell? ⟨w0.heap.size, 3, none⟩ = some (.int .u64 0) ∧ w.frozen? ⟨w0.heap.size, 0, none⟩ = false ∧ w.frozen? ⟨w0.heap.size, 1, none⟩ = false ∧ w.frozen? ⟨w0.heap.size, 2, none⟩ = false ∧ w.frozen? ⟨w0.heap.size, 3, none⟩ = false :=
 ⟨h.1.c0, h.1.c1, h.1.f1, h.2.1.cell 0, h.2.1.cell 1, h.2.1.cell 2, h.2.1.cell 3, h.2.1.frozen 0, h.2.1.frozen 1, h.2.1.frozen 2, h.2.1.frozen 3⟩
theorem It.fin (h : It w0 w g s p) (x0 x1 x2 x3 : Value) : BrOk ((((w.setCell ⟨w0.heap.size, 0, none⟩ x0).setCell ⟨w0.heap.size, 1, none⟩ x1).setCell ⟨w0.heap.size, 2, none⟩ x2).setCell ⟨w0.heap.size, 3, none⟩ x3) g s p ∧ Fr w0 ((((w.setCell ⟨w0.heap.size, 0, none⟩ x0).setCell ⟨w0.heap.size, 1, none⟩ x1).setCell ⟨w0.heap.size, 2, none⟩ x2).setCell ⟨w0.heap.size, 3, none⟩ x3) (fun k => k = g) := by
 have hne : g ≠ w0.heap.size := Nat.ne_of_lt h.2.2.2
 exact ⟨brFar (brFar (brFar (brFar h.1 hne _ _) hne _ _) hne _ _) hne _ _, frNew (frNew (frNew (frNew h.2.2.1 _ _) _ _) _ _) _ _⟩
theorem It.yes (h : It w0 w g s p) (m : Mem) (x0 x1 x2 x3 : Value) : Setted w0 g s (some (m, p)) (.returned (.tuple #[.agg #[.int .u64 (word (m) 0 : Nat), .int .u64 (word (m) 1 : Nat), .int .u64 (word (m) 2 : Nat), .int .u64 (word (m) 3 : Nat)], .bool true])) ((((w.setCell ⟨w0.heap.size, 0, none⟩ x0).setCell ⟨w0.heap.size, 1, none⟩ x1).setCell ⟨w0.heap.size, 2, none⟩ x2).setCell ⟨w0.heap.size, 3, none⟩ x3) :=
 ⟨(h.fin x0 x1 x2 x3).2, rfl, (h.fin x0 x1 x2 x3).1⟩
theorem It.empty (h : It w0 w g s p) (x0 x1 x2 x3 : Value) : Setted w0 g s none (.returned (.tuple #[.agg #[.int .u64 0, .int .u64 0, .int .u64 0, .int .u64 0], .bool false])) ((((w.setCell ⟨w0.heap.size, 0, none⟩ x0).setCell ⟨w0.heap.size, 1, none⟩ x1).setCell ⟨w0.heap.size, 2, none⟩ x2).setCell ⟨w0.heap.size, 3, none⟩ x3) :=
 ⟨(h.fin x0 x1 x2 x3).2, ⟨mNone, by rw [setV, setC_none]⟩, p, (h.fin x0 x1 x2 x3).1⟩
end
theorem isB_eq (s : ByteArray) (i : Nat) (c : UInt8) (x : Int) (hx : x = (c.toNat : Int)) : isB s i x = (s.data.toList[i]? == some c) := by
 subst hx
 unfold isB
 cases h : s.data.toList[i]? with
 | none => rfl
 | some y =>
  simp only
  rw [Bool.eq_iff_iff, beq_iff_eq, beq_iff_eq]
  constructor
  ·intro e
   exact congrArg some (UInt8.toNat_inj.1 (by omega))
  ·intro e
   injection e with e
   rw [e]
theorem octF_bd (l : List UInt8) : ∀ (j q n : Nat), q ≤ l.length → q ≤ (octF l j q n).2 ∧ (octF l j q n).2 ≤ l.length
 | 0, q, n, h => ⟨Nat.le_refl _, h⟩
 | j + 1, q, n, h => by
  cases hd : l[q]? with
  | none => rw [octF_none _ _ _ _ hd]; exact ⟨Nat.le_refl _, h⟩
  | some d =>
   have hq : q < l.length := (List.getElem?_eq_some_iff.1 hd).1
   by_cases ho : isOct d = true
   ·rw [octF_some _ _ _ _ d hd ho]
    have := octF_bd l j (q + 1) (8 * n + (d.toNat - 48)) (by omega)
    exact ⟨by omega, this.2⟩
   ·rw [octF_not _ _ _ _ d hd ho]; exact ⟨Nat.le_refl _, h⟩
theorem endF_bd (l : List UInt8) (p b q : Nat) (h : endF l p = some (b, q)) : b < 256 ∧ p < q ∧ q ≤ l.length := by
 unfold endF at h
 cases h0 : l[p]? with
 | none => rw [h0] at h; cases h
 | some c =>
  have hp : p < l.length := (List.getElem?_eq_some_iff.1 h0).1
  rw [h0] at h
  simp only at h
  by_cases hc : c ≠ 92
  ·rw [if_pos hc] at h
   injection h with h
   injection h with h1 h2
   have := c.toNat_lt
   omega
  ·rw [if_neg hc] at h
   cases h1 : l[p + 1]? with
   | none => rw [h1] at h; cases h
   | some e =>
    have hp1 : p + 1 < l.length := (List.getElem?_eq_some_iff.1 h1).1
    rw [h1] at h
    simp only at h
    by_cases e1 : e = 110
    ·rw [if_pos e1] at h; injection h with h; injection h with h1 h2; omega
    ·rw [if_neg e1] at h
     by_cases e2 : e = 116
     ·rw [if_pos e2] at h; injection h with h; injection h with h1 h2; omega
     ·rw [if_neg e2] at h
      by_cases e3 : isOct e = true
      ·rw [if_pos e3] at h
       have hb := octF_bd l 2 (p + 2) (e.toNat - 48) (by omega)
       injection h with h
       injection h with h1 h2
       have := Nat.mod_lt (octF l 2 (p + 2) (e.toNat - 48)).1 (show 0 < 256 by omega)
       omega
      ·rw [if_neg e3] at h; injection h with h; injection h with h1 h2; have := e.toNat_lt; omega
theorem end_none (g p : Nat) (s : ByteArray) (w : World) (hb : BrOk w g s p) (hs : s.size ≤ 140737488355328) (hp : p ≤ s.size) (h : endF s.data.toList p = none) :
  Calls Tryz.prog 149 #[.pointer (some ⟨g, 0, none⟩)] w fun e w' => e = .returned (.tuple #[.int .u8 0, .bool false]) ∧ Fr w w' (fun k => k = g) ∧ ∃ p, BrOk w' g s p :=
 (end_any g p s w hb hs hp).mono fun e w' he => by
  rw [h] at he
  exact ⟨he.2.1, he.1, he.2.2⟩
theorem end_some (g p b q : Nat) (s : ByteArray) (w : World) (hb : BrOk w g s p) (hs : s.size ≤ 140737488355328) (hp : p ≤ s.size) (h : endF s.data.toList p = some (b, q)) :
  Calls Tryz.prog 149 #[.pointer (some ⟨g, 0, none⟩)] w fun e w' => e = .returned (.tuple #[.int .u8 (b : Int), .bool true]) ∧ Fr w w' (fun k => k = g) ∧ BrOk w' g s q :=
 (end_any g p s w hb hs hp).mono fun e w' he => by
  rw [h] at he
  exact ⟨he.2.1, he.1, he.2.2⟩
theorem of_one (a : Nat) (ha : a < 256) (w : World) :
  Calls Tryz.prog 129 #[.slice (some ⟨w.heap.size, 0, none⟩) 1 1] (w.alloc (.cells #[.int .u8 (a : Int)] 5)) fun e w' => e = .returned (.agg #[.int .u64 (word (mOf [UInt8.ofNat a]) 0 : Nat), .int .u64 (word (mOf [UInt8.ofNat a]) 1 : Nat), .int .u64 (word (mOf [UInt8.ofNat a]) 2 : Nat), .int .u64 (word (mOf [UInt8.ofNat a]) 3 : Nat)]) ∧ Later w w' :=
 (of_at _ 1 1 [UInt8.ofNat a] _ (RdB.lit (by simp) rfl (by show #[Value.int .u8 ((UInt8.ofNat a).toNat : Int)] = _; rw [UInt8.toNat_ofNat', Nat.mod_eq_of_lt ha])) (by omega)).mono fun e w' h => ⟨h.1, ((Later.refl w).alloc _).trans h.2⟩
theorem notOpens (s : ByteArray) (p : Nat) (ho : opensF s.data.toList p = false) : isB s p 91 = false ∨ (isB s p 91 = true ∧ isB s (p + 1) 58 = false) := by
 rw [isB_eq s p 91 91 rfl, isB_eq s (p + 1) 58 58 rfl]
 unfold opensF at ho
 rw [Bool.and_eq_false_iff] at ho
 cases h : (s.data.toList[p]? == some 91)
 ·exact .inl rfl
 ·rcases ho with ho | ho
  ·rw [h] at ho; cases ho
  ·exact .inr ⟨rfl, ho⟩
theorem item_none (g p : Nat) (s : ByteArray) (w : World) (hb : BrOk w g s p) (hs : s.size ≤ 140737488355328) (hp : p ≤ s.size) (ho : opensF s.data.toList p = false) (he : endF s.data.toList p = none) :
  Calls Tryz.prog 139 #[.pointer (some ⟨g, 0, none⟩)] w (Setted w g s (itemF s.data.toList p)) := by
 have hs2 : s.size ≤ 9223372036854775807 := by omega
 have hlen : s.data.toList.length = s.size := Array.length_toList
 have hi : Hid (itemF s.data.toList p = none) := by
  show _ = _
  unfold itemF
  rw [if_neg (by rw [ho]; decide)]
  rw [he]
 have hor := notOpens s p ho
 obtain ⟨r, hr⟩ : ∃ r, r = itemF s.data.toList p := ⟨_, rfl⟩
 rw [← hr] at hi ⊢
 clear hr ho
 have hI := It.start hb
 clear hb
 have HE := Lib.hid he
 clear he hlen
 rcases hor with h1 | ⟨h1, h2⟩
 case' inl =>
  have b1 := Lib.hid h1
  clear h1
  go_enter Tryz.func139, Tryz.ntmps139
  go_wp2_with fail
  refine (is_at g p p 0 91 s _ false hI.1 (by omega) b1.out hs2 (by omega)).mono ?_
  rintro e w1 ⟨rfl, hl1⟩
  have hI := hI.later hl1
  clear hl1
  go_wp2_with fail
 case' inr =>
  have b1 := Lib.hid h1
  have b2 := Lib.hid h2
  clear h1 h2
  go_enter Tryz.func139, Tryz.ntmps139
  go_wp2_with fail
  refine (is_at g p p 0 91 s _ true hI.1 (by omega) b1.out hs2 (by omega)).mono ?_
  rintro e w1 ⟨rfl, hl1⟩
  have hI := hI.later hl1
  clear hl1
  go_wp2_with fail
  refine (is_at g p (p + 1) 1 58 s _ false hI.1 (by omega) b2.out hs2 (by omega)).mono ?_
  rintro e w1 ⟨rfl, hl1⟩
  have hI := hI.later hl1
  clear hl1
  go_wp2_with fail
 all_goals
  refine (end_none g p s _ hI.1 hs (by omega) HE.out).mono ?_
  rintro e w2 ⟨rfl, hF, qz, hq⟩
  have hI := hI.fr hF hq
  clear hF hq
  obtain ⟨c0, c1, f1, z0, z1, z2, z3, y0, y1, y2, y3⟩ := hI.cells
  go_wp2_with fail
  exact bodyPost_ret (v := .tuple #[.agg #[.int .u64 0, .int .u64 0, .int .u64 0, .int .u64 0], .bool false]) (by simp [results, Tryz.results139, go_sem, z0, z1, z2, z3]) rfl (by rw [hi.out]; exact hI.empty _ _ _ _)
theorem item_byte (g p : Nat) (s : ByteArray) (w : World) (hb : BrOk w g s p) (hs : s.size ≤ 140737488355328) (hp : p ≤ s.size) (ho : opensF s.data.toList p = false) (a a1 : Nat) (he : endF s.data.toList p = some (a, a1)) (hc : ¬ (s.data.toList[a1]? = some 45 ∧ a1 + 1 < s.data.toList.length ∧ s.data.toList[a1 + 1]? ≠ some 93)) :
  Calls Tryz.prog 139 #[.pointer (some ⟨g, 0, none⟩)] w (Setted w g s (itemF s.data.toList p)) := by
 have hs2 : s.size ≤ 9223372036854775807 := by omega
 have hlen : s.data.toList.length = s.size := Array.length_toList
 have hi : Hid (itemF s.data.toList p = some (mOf [UInt8.ofNat a], a1)) := by
  show _ = _
  unfold itemF
  rw [if_neg (by rw [ho]; decide)]
  rw [he]
  simp only
  rw [if_neg hc]
 have hor := notOpens s p ho
 obtain ⟨r, hr⟩ : ∃ r, r = itemF s.data.toList p := ⟨_, rfl⟩
 rw [← hr] at hi ⊢
 clear hr ho
 have hI := It.start hb
 clear hb
 obtain ⟨ba, bp, bq⟩ := endF_bd _ _ _ _ he
 rw [hlen] at hc bq
 have HE := Lib.hid he
 clear he hlen
 cases hx : s.data.toList[a1 + 1]? with
 | none =>
  have HX := Lib.hid hx
  clear hx hc
  cases h3 : isB s a1 45 with
  | false =>
   have B3 := Lib.hid h3
   clear h3
   rcases hor with h1 | ⟨h1, h2⟩
   case' inl =>
    have b1 := Lib.hid h1
    clear h1
    go_enter Tryz.func139, Tryz.ntmps139
    go_wp2_with fail
    refine (is_at g p p 0 91 s _ false hI.1 (by omega) b1.out hs2 (by omega)).mono ?_
    rintro e w1 ⟨rfl, hl1⟩
    have hI := hI.later hl1
    clear hl1
    go_wp2_with fail
   case' inr =>
    have b1 := Lib.hid h1
    have b2 := Lib.hid h2
    clear h1 h2
    go_enter Tryz.func139, Tryz.ntmps139
    go_wp2_with fail
    refine (is_at g p p 0 91 s _ true hI.1 (by omega) b1.out hs2 (by omega)).mono ?_
    rintro e w1 ⟨rfl, hl1⟩
    have hI := hI.later hl1
    clear hl1
    go_wp2_with fail
    refine (is_at g p (p + 1) 1 58 s _ false hI.1 (by omega) b2.out hs2 (by omega)).mono ?_
    rintro e w1 ⟨rfl, hl1⟩
    have hI := hI.later hl1
    clear hl1
    go_wp2_with fail
   all_goals
    refine (end_some g p a a1 s _ hI.1 hs (by omega) HE.out).mono ?_
    rintro e w2 ⟨rfl, hF, hq⟩
    have hI := hI.fr hF hq
    clear hF hq
    go_wp2_with fail
    refine (peek_none g a1 (a1 + 1) 1 s _ hI.1 (by omega) HX.out hs2 (by omega)).mono ?_
    rintro e w3 ⟨rfl, hl3⟩
    have hI := hI.later hl3
    clear hl3
    go_wp2_with fail
    refine (is_at g a1 a1 0 45 s _ false hI.1 (by omega) B3.out hs2 (by omega)).mono ?_
    rintro e w1 ⟨rfl, hl1⟩
    have hI := hI.later hl1
    clear hl1
    go_wp2_with fail
    refine (of_one a (by omega) _).mono ?_
    rintro e w4 ⟨rfl, hl4⟩
    have hI := hI.later hl4
    clear hl4
    obtain ⟨c0, c1, f1, z0, z1, z2, z3, y0, y1, y2, y3⟩ := hI.cells
    go_wp2_with fail
    exact bodyPost_ret (v := .tuple #[.agg #[.int .u64 (word (mOf [UInt8.ofNat a]) 0 : Nat), .int .u64 (word (mOf [UInt8.ofNat a]) 1 : Nat), .int .u64 (word (mOf [UInt8.ofNat a]) 2 : Nat), .int .u64 (word (mOf [UInt8.ofNat a]) 3 : Nat)], .bool true]) (by simp [results, Tryz.results139, go_sem, z0, z1, z2, z3]) rfl (by rw [hi.out]; exact hI.yes _ _ _ _ _)
  | true =>
   have B3 := Lib.hid h3
   clear h3
   rcases hor with h1 | ⟨h1, h2⟩
   case' inl =>
    have b1 := Lib.hid h1
    clear h1
    go_enter Tryz.func139, Tryz.ntmps139
    go_wp2_with fail
    refine (is_at g p p 0 91 s _ false hI.1 (by omega) b1.out hs2 (by omega)).mono ?_
    rintro e w1 ⟨rfl, hl1⟩
    have hI := hI.later hl1
    clear hl1
    go_wp2_with fail
   case' inr =>
    have b1 := Lib.hid h1
    have b2 := Lib.hid h2
    clear h1 h2
    go_enter Tryz.func139, Tryz.ntmps139
    go_wp2_with fail
    refine (is_at g p p 0 91 s _ true hI.1 (by omega) b1.out hs2 (by omega)).mono ?_
    rintro e w1 ⟨rfl, hl1⟩
    have hI := hI.later hl1
    clear hl1
    go_wp2_with fail
    refine (is_at g p (p + 1) 1 58 s _ false hI.1 (by omega) b2.out hs2 (by omega)).mono ?_
    rintro e w1 ⟨rfl, hl1⟩
    have hI := hI.later hl1
    clear hl1
    go_wp2_with fail
   all_goals
    refine (end_some g p a a1 s _ hI.1 hs (by omega) HE.out).mono ?_
    rintro e w2 ⟨rfl, hF, hq⟩
    have hI := hI.fr hF hq
    clear hF hq
    go_wp2_with fail
    refine (peek_none g a1 (a1 + 1) 1 s _ hI.1 (by omega) HX.out hs2 (by omega)).mono ?_
    rintro e w3 ⟨rfl, hl3⟩
    have hI := hI.later hl3
    clear hl3
    go_wp2_with fail
    refine (is_at g a1 a1 0 45 s _ true hI.1 (by omega) B3.out hs2 (by omega)).mono ?_
    rintro e w1 ⟨rfl, hl1⟩
    have hI := hI.later hl1
    clear hl1
    go_wp2_with fail
    refine (of_one a (by omega) _).mono ?_
    rintro e w4 ⟨rfl, hl4⟩
    have hI := hI.later hl4
    clear hl4
    obtain ⟨c0, c1, f1, z0, z1, z2, z3, y0, y1, y2, y3⟩ := hI.cells
    go_wp2_with fail
    exact bodyPost_ret (v := .tuple #[.agg #[.int .u64 (word (mOf [UInt8.ofNat a]) 0 : Nat), .int .u64 (word (mOf [UInt8.ofNat a]) 1 : Nat), .int .u64 (word (mOf [UInt8.ofNat a]) 2 : Nat), .int .u64 (word (mOf [UInt8.ofNat a]) 3 : Nat)], .bool true]) (by simp [results, Tryz.results139, go_sem, z0, z1, z2, z3]) rfl (by rw [hi.out]; exact hI.yes _ _ _ _ _)
 | some cx =>
  have hlt : a1 + 1 < s.size := (str_get s _ _ hx).1
  have HX := Lib.hid hx
  cases h3 : isB s a1 45 with
  | false =>
   have B3 := Lib.hid h3
   clear h3 hx hc
   rcases hor with h1 | ⟨h1, h2⟩
   case' inl =>
    have b1 := Lib.hid h1
    clear h1
    go_enter Tryz.func139, Tryz.ntmps139
    go_wp2_with fail
    refine (is_at g p p 0 91 s _ false hI.1 (by omega) b1.out hs2 (by omega)).mono ?_
    rintro e w1 ⟨rfl, hl1⟩
    have hI := hI.later hl1
    clear hl1
    go_wp2_with fail
   case' inr =>
    have b1 := Lib.hid h1
    have b2 := Lib.hid h2
    clear h1 h2
    go_enter Tryz.func139, Tryz.ntmps139
    go_wp2_with fail
    refine (is_at g p p 0 91 s _ true hI.1 (by omega) b1.out hs2 (by omega)).mono ?_
    rintro e w1 ⟨rfl, hl1⟩
    have hI := hI.later hl1
    clear hl1
    go_wp2_with fail
    refine (is_at g p (p + 1) 1 58 s _ false hI.1 (by omega) b2.out hs2 (by omega)).mono ?_
    rintro e w1 ⟨rfl, hl1⟩
    have hI := hI.later hl1
    clear hl1
    go_wp2_with fail
   all_goals
    refine (end_some g p a a1 s _ hI.1 hs (by omega) HE.out).mono ?_
    rintro e w2 ⟨rfl, hF, hq⟩
    have hI := hI.fr hF hq
    clear hF hq
    go_wp2_with fail
    refine (peek_some g a1 (a1 + 1) 1 s cx _ hI.1 (by omega) HX.out hs2).mono ?_
    rintro e w3 ⟨rfl, hl3⟩
    have hI := hI.later hl3
    clear hl3
    go_wp2_with fail
    refine (is_at g a1 a1 0 45 s _ false hI.1 (by omega) B3.out hs2 (by omega)).mono ?_
    rintro e w1 ⟨rfl, hl1⟩
    have hI := hI.later hl1
    clear hl1
    go_wp2_with fail
    refine (of_one a (by omega) _).mono ?_
    rintro e w4 ⟨rfl, hl4⟩
    have hI := hI.later hl4
    clear hl4
    obtain ⟨c0, c1, f1, z0, z1, z2, z3, y0, y1, y2, y3⟩ := hI.cells
    go_wp2_with fail
    exact bodyPost_ret (v := .tuple #[.agg #[.int .u64 (word (mOf [UInt8.ofNat a]) 0 : Nat), .int .u64 (word (mOf [UInt8.ofNat a]) 1 : Nat), .int .u64 (word (mOf [UInt8.ofNat a]) 2 : Nat), .int .u64 (word (mOf [UInt8.ofNat a]) 3 : Nat)], .bool true]) (by simp [results, Tryz.results139, go_sem, z0, z1, z2, z3]) rfl (by rw [hi.out]; exact hI.yes _ _ _ _ _)
  | true =>
   have h5 : isB s (a1 + 1) 93 = true := by
    rw [isB_eq s a1 45 45 rfl, beq_iff_eq] at h3
    rw [isB_eq s (a1 + 1) 93 93 rfl, beq_iff_eq]
    exact Decidable.byContradiction fun h => hc ⟨h3, hlt, h⟩
   have B3 := Lib.hid h3
   have B5 := Lib.hid h5
   clear h3 hx hc h5
   rcases hor with h1 | ⟨h1, h2⟩
   case' inl =>
    have b1 := Lib.hid h1
    clear h1
    go_enter Tryz.func139, Tryz.ntmps139
    go_wp2_with fail
    refine (is_at g p p 0 91 s _ false hI.1 (by omega) b1.out hs2 (by omega)).mono ?_
    rintro e w1 ⟨rfl, hl1⟩
    have hI := hI.later hl1
    clear hl1
    go_wp2_with fail
   case' inr =>
    have b1 := Lib.hid h1
    have b2 := Lib.hid h2
    clear h1 h2
    go_enter Tryz.func139, Tryz.ntmps139
    go_wp2_with fail
    refine (is_at g p p 0 91 s _ true hI.1 (by omega) b1.out hs2 (by omega)).mono ?_
    rintro e w1 ⟨rfl, hl1⟩
    have hI := hI.later hl1
    clear hl1
    go_wp2_with fail
    refine (is_at g p (p + 1) 1 58 s _ false hI.1 (by omega) b2.out hs2 (by omega)).mono ?_
    rintro e w1 ⟨rfl, hl1⟩
    have hI := hI.later hl1
    clear hl1
    go_wp2_with fail
   all_goals
    refine (end_some g p a a1 s _ hI.1 hs (by omega) HE.out).mono ?_
    rintro e w2 ⟨rfl, hF, hq⟩
    have hI := hI.fr hF hq
    clear hF hq
    go_wp2_with fail
    refine (peek_some g a1 (a1 + 1) 1 s cx _ hI.1 (by omega) HX.out hs2).mono ?_
    rintro e w3 ⟨rfl, hl3⟩
    have hI := hI.later hl3
    clear hl3
    go_wp2_with fail
    refine (is_at g a1 a1 0 45 s _ true hI.1 (by omega) B3.out hs2 (by omega)).mono ?_
    rintro e w1 ⟨rfl, hl1⟩
    have hI := hI.later hl1
    clear hl1
    go_wp2_with fail
    refine (is_at g a1 (a1 + 1) 1 93 s _ true hI.1 (by omega) B5.out hs2 (by omega)).mono ?_
    rintro e w1 ⟨rfl, hl1⟩
    have hI := hI.later hl1
    clear hl1
    go_wp2_with fail
    refine (of_one a (by omega) _).mono ?_
    rintro e w4 ⟨rfl, hl4⟩
    have hI := hI.later hl4
    clear hl4
    obtain ⟨c0, c1, f1, z0, z1, z2, z3, y0, y1, y2, y3⟩ := hI.cells
    go_wp2_with fail
    exact bodyPost_ret (v := .tuple #[.agg #[.int .u64 (word (mOf [UInt8.ofNat a]) 0 : Nat), .int .u64 (word (mOf [UInt8.ofNat a]) 1 : Nat), .int .u64 (word (mOf [UInt8.ofNat a]) 2 : Nat), .int .u64 (word (mOf [UInt8.ofNat a]) 3 : Nat)], .bool true]) (by simp [results, Tryz.results139, go_sem, z0, z1, z2, z3]) rfl (by rw [hi.out]; exact hI.yes _ _ _ _ _)
end Go.Proofs.YtmkddhkpeiajhaaGreatDoor
namespace Go.Proofs.YtmkddhkpeiajhaaGreatDoor
open Go.RowKit
theorem span_at (a z : Nat) (zi : Int) (hz : zi = (z : Int)) (ha : a < 256) (hz2 : z < 256) (w : World) :
  Calls Tryz.prog 150 #[.int .u8 (a : Int), .int .u8 zi] w fun e w' => e = .returned (.agg #[.int .u64 (word (mSpan a z) 0 : Nat), .int .u64 (word (mSpan a z) 1 : Nat), .int .u64 (word (mSpan a z) 2 : Nat), .int .u64 (word (mSpan a z) 3 : Nat)]) ∧ Later w w' := by
 subst hz
 exact span_any a z ha hz2 w
theorem item_span (g p : Nat) (s : ByteArray) (w : World) (hb : BrOk w g s p) (hs : s.size ≤ 140737488355328) (hp : p ≤ s.size) (ho : opensF s.data.toList p = false) (a a1 b bz : Nat) (he : endF s.data.toList p = some (a, a1)) (hc : (s.data.toList[a1]? = some 45 ∧ a1 + 1 < s.data.toList.length ∧ s.data.toList[a1 + 1]? ≠ some 93)) (hop : opensF s.data.toList (a1 + 1) = false) (he2 : endF s.data.toList (a1 + 1) = some (b, bz)) (hle : a ≤ b) :
  Calls Tryz.prog 139 #[.pointer (some ⟨g, 0, none⟩)] w (Setted w g s (itemF s.data.toList p)) := by
 have hs2 : s.size ≤ 9223372036854775807 := by omega
 have hlen : s.data.toList.length = s.size := Array.length_toList
 have hi : Hid (itemF s.data.toList p = some (mSpan a b, bz)) := by
  show _ = _
  unfold itemF
  rw [if_neg (by rw [ho]; decide)]
  rw [he]
  simp only
  rw [if_pos hc, if_neg (by rw [hop]; decide), he2]
  simp only
  rw [if_pos hle]
 have hor := notOpens s p ho
 obtain ⟨r, hr⟩ : ∃ r, r = itemF s.data.toList p := ⟨_, rfl⟩
 rw [← hr] at hi ⊢
 clear hr ho
 have hI := It.start hb
 clear hb
 obtain ⟨ba, bp, bq⟩ := endF_bd _ _ _ _ he
 have hor2 := notOpens s (a1 + 1) hop
 obtain ⟨bb, bbp, bbq⟩ := endF_bd _ _ _ _ he2
 rw [hlen] at bbq
 have HE2 := Lib.hid he2
 have hlei : (a : Int) ≤ (b : Int) := by omega
 clear hop he2 hle
 obtain ⟨k1, k2, k3⟩ := hc
 rw [hlen] at bq k2
 have HE := Lib.hid he
 obtain ⟨cx, hx⟩ : ∃ cx, Hid (s.data.toList[a1 + 1]? = some cx) := ⟨_, List.getElem?_eq_getElem (by rw [hlen]; exact k2)⟩
 have HX := hx
 have B3 : Hid (isB s a1 45 = true) := by show _ = _; rw [isB_eq s a1 45 45 rfl, beq_iff_eq]; exact k1
 have B5 : Hid (isB s (a1 + 1) 93 = false) := by show _ = _; rw [isB_eq s (a1 + 1) 93 93 rfl, beq_eq_false_iff_ne]; exact k3
 clear he hlen k1 k3 hx
 rcases hor with h1 | ⟨h1, h2⟩
 case' inl =>
  have b1 := Lib.hid h1
  clear h1
  go_enter Tryz.func139, Tryz.ntmps139
  go_wp2_with fail
  refine (is_at g p p 0 91 s _ false hI.1 (by omega) b1.out hs2 (by omega)).mono ?_
  rintro e w1 ⟨rfl, hl1⟩
  have hI := hI.later hl1
  clear hl1
  go_wp2_with fail
 case' inr =>
  have b1 := Lib.hid h1
  have b2 := Lib.hid h2
  clear h1 h2
  go_enter Tryz.func139, Tryz.ntmps139
  go_wp2_with fail
  refine (is_at g p p 0 91 s _ true hI.1 (by omega) b1.out hs2 (by omega)).mono ?_
  rintro e w1 ⟨rfl, hl1⟩
  have hI := hI.later hl1
  clear hl1
  go_wp2_with fail
  refine (is_at g p (p + 1) 1 58 s _ false hI.1 (by omega) b2.out hs2 (by omega)).mono ?_
  rintro e w1 ⟨rfl, hl1⟩
  have hI := hI.later hl1
  clear hl1
  go_wp2_with fail
 all_goals
  refine (end_some g p a a1 s _ hI.1 hs (by omega) HE.out).mono ?_
  rintro e w2 ⟨rfl, hF, hq⟩
  have hI := hI.fr hF hq
  clear hF hq
  go_wp2_with fail
  refine (peek_some g a1 (a1 + 1) 1 s cx _ hI.1 (by omega) HX.out hs2).mono ?_
  rintro e w3 ⟨rfl, hl3⟩
  have hI := hI.later hl3
  clear hl3
  go_wp2_with fail
  refine (is_at g a1 a1 0 45 s _ true hI.1 (by omega) B3.out hs2 (by omega)).mono ?_
  rintro e w1 ⟨rfl, hl1⟩
  have hI := hI.later hl1
  clear hl1
  go_wp2_with fail
  refine (is_at g a1 (a1 + 1) 1 93 s _ false hI.1 (by omega) B5.out hs2 (by omega)).mono ?_
  rintro e w1 ⟨rfl, hl1⟩
  have hI := hI.later hl1
  clear hl1
  obtain ⟨c0, c1, f1, z0, z1, z2, z3, y0, y1, y2, y3⟩ := hI.cells
  go_wp2_with fail
  clear c0 c1 f1 z0 z1 z2 z3 y0 y1 y2 y3
  have hI := hI.move (a1 + 1) ((a1 : Int) + 1) (by omega)
  rcases hor2 with h6 | ⟨h6, h7⟩
  ·have B6 := Lib.hid h6
   clear h6
   refine (is_at g (a1 + 1) (a1 + 1) 0 91 s _ false hI.1 (by omega) B6.out hs2 (by omega)).mono ?_
   rintro e w1 ⟨rfl, hl1⟩
   have hI := hI.later hl1
   clear hl1
   go_wp2_with fail
   refine (end_some g (a1 + 1) b bz s _ hI.1 hs (by omega) HE2.out).mono ?_
   rintro e w5 ⟨rfl, hF, hq⟩
   have hI := hI.fr hF hq
   clear hF hq
   go_wp2_with fail
   refine (span_at a b (b : Int) rfl ba bb _).mono ?_
   rintro e w6 ⟨rfl, hl6⟩
   have hI := hI.later hl6
   clear hl6
   obtain ⟨c0, c1, f1, z0, z1, z2, z3, y0, y1, y2, y3⟩ := hI.cells
   go_wp2_with fail
   exact bodyPost_ret (v := .tuple #[.agg #[.int .u64 (word (mSpan a b) 0 : Nat), .int .u64 (word (mSpan a b) 1 : Nat), .int .u64 (word (mSpan a b) 2 : Nat), .int .u64 (word (mSpan a b) 3 : Nat)], .bool true]) (by simp [results, Tryz.results139, go_sem, z0, z1, z2, z3]) rfl (by rw [hi.out]; exact hI.yes _ _ _ _ _)
  ·have B6 := Lib.hid h6
   have B7 := Lib.hid h7
   clear h6 h7
   refine (is_at g (a1 + 1) (a1 + 1) 0 91 s _ true hI.1 (by omega) B6.out hs2 (by omega)).mono ?_
   rintro e w1 ⟨rfl, hl1⟩
   have hI := hI.later hl1
   clear hl1
   go_wp2_with fail
   refine (is_at g (a1 + 1) (a1 + 2) 1 58 s _ false hI.1 (by omega) B7.out hs2 (by omega)).mono ?_
   rintro e w1 ⟨rfl, hl1⟩
   have hI := hI.later hl1
   clear hl1
   go_wp2_with fail
   refine (end_some g (a1 + 1) b bz s _ hI.1 hs (by omega) HE2.out).mono ?_
   rintro e w5 ⟨rfl, hF, hq⟩
   have hI := hI.fr hF hq
   clear hF hq
   go_wp2_with fail
   refine (span_at a b (b : Int) rfl ba bb _).mono ?_
   rintro e w6 ⟨rfl, hl6⟩
   have hI := hI.later hl6
   clear hl6
   obtain ⟨c0, c1, f1, z0, z1, z2, z3, y0, y1, y2, y3⟩ := hI.cells
   go_wp2_with fail
   exact bodyPost_ret (v := .tuple #[.agg #[.int .u64 (word (mSpan a b) 0 : Nat), .int .u64 (word (mSpan a b) 1 : Nat), .int .u64 (word (mSpan a b) 2 : Nat), .int .u64 (word (mSpan a b) 3 : Nat)], .bool true]) (by simp [results, Tryz.results139, go_sem, z0, z1, z2, z3]) rfl (by rw [hi.out]; exact hI.yes _ _ _ _ _)
theorem item_any (g p : Nat) (s : ByteArray) [Txt s] (w : World) (hb : BrOk w g s p) (hs : s.size ≤ 140737488355328) (hp : p ≤ s.size) :
  Calls Tryz.prog 139 #[.pointer (some ⟨g, 0, none⟩)] w (Setted w g s (itemF s.data.toList p)) := by
 have ho := Txt.opens (S := s) p
 cases he : endF s.data.toList p with
 | none => exact item_none g p s w hb hs hp ho he
 | some r =>
  obtain ⟨a, a1⟩ := r
  by_cases hc : (s.data.toList[a1]? = some 45 ∧ a1 + 1 < s.data.toList.length ∧ s.data.toList[a1 + 1]? ≠ some 93)
  ·obtain ⟨b, bz, he2, hle⟩ := Txt.span p a a1 he hc.1
   exact item_span g p s w hb hs hp ho a a1 b bz he hc (Txt.opens (S := s) _) he2 hle
  ·exact item_byte g p s w hb hs hp ho a a1 he hc
end Go.Proofs.YtmkddhkpeiajhaaGreatDoor
