import Derived.Test.YtmkddhkpeiajhaaGreatDoorBrk3
namespace Go.Proofs.YtmkddhkpeiajhaaGreatDoor
open Go.RowKit
theorem span_at (a z : Nat) (zi : Int) (hz : zi = (z : Int)) (ha : a < 256) (hz2 : z < 256) (w : World) :
  Calls Tryz.prog 150 #[.int .u8 (a : Int), .int .u8 zi] w fun e w' => e = .returned (.agg #[.int .u64 (word (mSpan a z) 0 : Nat), .int .u64 (word (mSpan a z) 1 : Nat), .int .u64 (word (mSpan a z) 2 : Nat), .int .u64 (word (mSpan a z) 3 : Nat)]) ∧ Later w w' := by
 subst hz
 exact span_any a z ha hz2 w
theorem item_open (g p : Nat) (s : ByteArray) (w : World) (hb : BrOk w g s p) (hs : s.size ≤ 140737488355328) (hp : p ≤ s.size) (ho : opensF s.data.toList p = false) (a a1 : Nat) (he : endF s.data.toList p = some (a, a1)) (hc : (s.data.toList[a1]? = some 45 ∧ a1 + 1 < s.data.toList.length ∧ s.data.toList[a1 + 1]? ≠ some 93)) (hop : opensF s.data.toList (a1 + 1) = true) :
  Calls Tryz.prog 139 #[.pointer (some ⟨g, 0, none⟩)] w (Setted w g s (itemF s.data.toList p)) := by
 have hs2 : s.size ≤ 9223372036854775807 := by omega
 have hlen : s.data.toList.length = s.size := Array.length_toList
 have hi : Hid (itemF s.data.toList p = none) := by
  show _ = _
  unfold itemF
  rw [if_neg (by rw [ho]; decide)]
  rw [he]
  simp only
  rw [if_pos hc, if_pos hop]
 have hor := notOpens s p ho
 obtain ⟨r, hr⟩ : ∃ r, r = itemF s.data.toList p := ⟨_, rfl⟩
 rw [← hr] at hi ⊢
 clear hr ho
 have hI := It.start hb
 clear hb
 obtain ⟨ba, bp, bq⟩ := endF_bd _ _ _ _ he
 unfold opensF at hop
 rw [Bool.and_eq_true] at hop
 have B6 := Lib.hid ((isB_eq s (a1 + 1) 91 91 rfl).trans hop.1)
 have B7 := Lib.hid ((isB_eq s (a1 + 2) 58 58 rfl).trans hop.2)
 clear hop
 obtain ⟨k1, k2, k3⟩ := hc
 rw [hlen] at bq k2
 have HE := Lib.hid he
 obtain ⟨cx, hx⟩ : ∃ cx, Hid (s.data.toList[a1 + 1]? = some cx) := ⟨_, List.getElem?_eq_getElem (by rw [hlen]; exact k2)⟩
 have HX := hx
 have B3 : Hid (isB s a1 45 = true) := by show _ = _; rw [isB_eq s a1 45 45 rfl, beq_iff_eq]; exact k1
 have B5 : Hid (isB s (a1 + 1) 93 = false) := by show _ = _; rw [isB_eq s (a1 + 1) 93 93 rfl, beq_eq_false_iff_ne]; exact k3
 clear he hlen k1 k3 hx
 rcases hor with h1 | ⟨h1, h2⟩
 case' inl =>
  have b1 := Lib.hid h1
  clear h1
  go_enter Tryz.func139, Tryz.ntmps139
  go_wp2_with fail
  refine (is_at g p p 0 91 s _ false hI.1 (by omega) b1.out hs2 (by omega)).mono ?_
  rintro e w1 ⟨rfl, hl1⟩
  have hI := hI.later hl1
  clear hl1
  go_wp2_with fail
 case' inr =>
  have b1 := Lib.hid h1
  have b2 := Lib.hid h2
  clear h1 h2
  go_enter Tryz.func139, Tryz.ntmps139
  go_wp2_with fail
  refine (is_at g p p 0 91 s _ true hI.1 (by omega) b1.out hs2 (by omega)).mono ?_
  rintro e w1 ⟨rfl, hl1⟩
  have hI := hI.later hl1
  clear hl1
  go_wp2_with fail
  refine (is_at g p (p + 1) 1 58 s _ false hI.1 (by omega) b2.out hs2 (by omega)).mono ?_
  rintro e w1 ⟨rfl, hl1⟩
  have hI := hI.later hl1
  clear hl1
  go_wp2_with fail
 all_goals
  refine (end_some g p a a1 s _ hI.1 hs (by omega) HE.out).mono ?_
  rintro e w2 ⟨rfl, hF, hq⟩
  have hI := hI.fr hF hq
  clear hF hq
  go_wp2_with fail
  refine (peek_some g a1 (a1 + 1) 1 s cx _ hI.1 (by omega) HX.out hs2).mono ?_
  rintro e w3 ⟨rfl, hl3⟩
  have hI := hI.later hl3
  clear hl3
  go_wp2_with fail
  refine (is_at g a1 a1 0 45 s _ true hI.1 (by omega) B3.out hs2 (by omega)).mono ?_
  rintro e w1 ⟨rfl, hl1⟩
  have hI := hI.later hl1
  clear hl1
  go_wp2_with fail
  refine (is_at g a1 (a1 + 1) 1 93 s _ false hI.1 (by omega) B5.out hs2 (by omega)).mono ?_
  rintro e w1 ⟨rfl, hl1⟩
  have hI := hI.later hl1
  clear hl1
  obtain ⟨c0, c1, f1, z0, z1, z2, z3, y0, y1, y2, y3⟩ := hI.cells
  go_wp2_with fail
  clear c0 c1 f1 z0 z1 z2 z3 y0 y1 y2 y3
  have hI := hI.move (a1 + 1) ((a1 : Int) + 1) (by omega)
  refine (is_at g (a1 + 1) (a1 + 1) 0 91 s _ true hI.1 (by omega) B6.out hs2 (by omega)).mono ?_
  rintro e w1 ⟨rfl, hl1⟩
  have hI := hI.later hl1
  clear hl1
  go_wp2_with fail
  refine (is_at g (a1 + 1) (a1 + 2) 1 58 s _ true hI.1 (by omega) B7.out hs2 (by omega)).mono ?_
  rintro e w1 ⟨rfl, hl1⟩
  have hI := hI.later hl1
  clear hl1
  obtain ⟨c0, c1, f1, z0, z1, z2, z3, y0, y1, y2, y3⟩ := hI.cells
  go_wp2_with fail
  exact bodyPost_ret (v := .tuple #[.agg #[.int .u64 0, .int .u64 0, .int .u64 0, .int .u64 0], .bool false]) (by simp [results, Tryz.results139, go_sem, z0, z1, z2, z3]) rfl (by rw [hi.out]; exact hI.empty _ _ _ _)
theorem item_half (g p : Nat) (s : ByteArray) (w : World) (hb : BrOk w g s p) (hs : s.size ≤ 140737488355328) (hp : p ≤ s.size) (ho : opensF s.data.toList p = false) (a a1 : Nat) (he : endF s.data.toList p = some (a, a1)) (hc : (s.data.toList[a1]? = some 45 ∧ a1 + 1 < s.data.toList.length ∧ s.data.toList[a1 + 1]? ≠ some 93)) (hop : opensF s.data.toList (a1 + 1) = false) (he2 : endF s.data.toList (a1 + 1) = none) :
  Calls Tryz.prog 139 #[.pointer (some ⟨g, 0, none⟩)] w (Setted w g s (itemF s.data.toList p)) := by
 have hs2 : s.size ≤ 9223372036854775807 := by omega
 have hlen : s.data.toList.length = s.size := Array.length_toList
 have hi : Hid (itemF s.data.toList p = none) := by
  show _ = _
  unfold itemF
  rw [if_neg (by rw [ho]; decide)]
  rw [he]
  simp only
  rw [if_pos hc, if_neg (by rw [hop]; decide), he2]
 have hor := notOpens s p ho
 obtain ⟨r, hr⟩ : ∃ r, r = itemF s.data.toList p := ⟨_, rfl⟩
 rw [← hr] at hi ⊢
 clear hr ho
 have hI := It.start hb
 clear hb
 obtain ⟨ba, bp, bq⟩ := endF_bd _ _ _ _ he
 have hor2 := notOpens s (a1 + 1) hop
 have HE2 := Lib.hid he2
 clear hop he2
 obtain ⟨k1, k2, k3⟩ := hc
 rw [hlen] at bq k2
 have HE := Lib.hid he
 obtain ⟨cx, hx⟩ : ∃ cx, Hid (s.data.toList[a1 + 1]? = some cx) := ⟨_, List.getElem?_eq_getElem (by rw [hlen]; exact k2)⟩
 have HX := hx
 have B3 : Hid (isB s a1 45 = true) := by show _ = _; rw [isB_eq s a1 45 45 rfl, beq_iff_eq]; exact k1
 have B5 : Hid (isB s (a1 + 1) 93 = false) := by show _ = _; rw [isB_eq s (a1 + 1) 93 93 rfl, beq_eq_false_iff_ne]; exact k3
 clear he hlen k1 k3 hx
 rcases hor with h1 | ⟨h1, h2⟩
 case' inl =>
  have b1 := Lib.hid h1
  clear h1
  go_enter Tryz.func139, Tryz.ntmps139
  go_wp2_with fail
  refine (is_at g p p 0 91 s _ false hI.1 (by omega) b1.out hs2 (by omega)).mono ?_
  rintro e w1 ⟨rfl, hl1⟩
  have hI := hI.later hl1
  clear hl1
  go_wp2_with fail
 case' inr =>
  have b1 := Lib.hid h1
  have b2 := Lib.hid h2
  clear h1 h2
  go_enter Tryz.func139, Tryz.ntmps139
  go_wp2_with fail
  refine (is_at g p p 0 91 s _ true hI.1 (by omega) b1.out hs2 (by omega)).mono ?_
  rintro e w1 ⟨rfl, hl1⟩
  have hI := hI.later hl1
  clear hl1
  go_wp2_with fail
  refine (is_at g p (p + 1) 1 58 s _ false hI.1 (by omega) b2.out hs2 (by omega)).mono ?_
  rintro e w1 ⟨rfl, hl1⟩
  have hI := hI.later hl1
  clear hl1
  go_wp2_with fail
 all_goals
  refine (end_some g p a a1 s _ hI.1 hs (by omega) HE.out).mono ?_
  rintro e w2 ⟨rfl, hF, hq⟩
  have hI := hI.fr hF hq
  clear hF hq
  go_wp2_with fail
  refine (peek_some g a1 (a1 + 1) 1 s cx _ hI.1 (by omega) HX.out hs2).mono ?_
  rintro e w3 ⟨rfl, hl3⟩
  have hI := hI.later hl3
  clear hl3
  go_wp2_with fail
  refine (is_at g a1 a1 0 45 s _ true hI.1 (by omega) B3.out hs2 (by omega)).mono ?_
  rintro e w1 ⟨rfl, hl1⟩
  have hI := hI.later hl1
  clear hl1
  go_wp2_with fail
  refine (is_at g a1 (a1 + 1) 1 93 s _ false hI.1 (by omega) B5.out hs2 (by omega)).mono ?_
  rintro e w1 ⟨rfl, hl1⟩
  have hI := hI.later hl1
  clear hl1
  obtain ⟨c0, c1, f1, z0, z1, z2, z3, y0, y1, y2, y3⟩ := hI.cells
  go_wp2_with fail
  clear c0 c1 f1 z0 z1 z2 z3 y0 y1 y2 y3
  have hI := hI.move (a1 + 1) ((a1 : Int) + 1) (by omega)
  rcases hor2 with h6 | ⟨h6, h7⟩
  ·have B6 := Lib.hid h6
   clear h6
   refine (is_at g (a1 + 1) (a1 + 1) 0 91 s _ false hI.1 (by omega) B6.out hs2 (by omega)).mono ?_
   rintro e w1 ⟨rfl, hl1⟩
   have hI := hI.later hl1
   clear hl1
   go_wp2_with fail
   refine (end_none g (a1 + 1) s _ hI.1 hs (by omega) HE2.out).mono ?_
   rintro e w5 ⟨rfl, hF, qz, hq⟩
   have hI := hI.fr hF hq
   clear hF hq
   go_wp2_with fail
   refine (span_at a 0 0 rfl ba (by omega) _).mono ?_
   rintro e w6 ⟨rfl, hl6⟩
   have hI := hI.later hl6
   clear hl6
   obtain ⟨c0, c1, f1, z0, z1, z2, z3, y0, y1, y2, y3⟩ := hI.cells
   go_wp2_with fail
   exact bodyPost_ret (v := .tuple #[.agg #[.int .u64 (word (mSpan a 0) 0 : Nat), .int .u64 (word (mSpan a 0) 1 : Nat), .int .u64 (word (mSpan a 0) 2 : Nat), .int .u64 (word (mSpan a 0) 3 : Nat)], .bool false]) (by simp [results, Tryz.results139, go_sem, z0, z1, z2, z3]) rfl (by rw [hi.out]; exact hI.no _ _ _ _ _)
  ·have B6 := Lib.hid h6
   have B7 := Lib.hid h7
   clear h6 h7
   refine (is_at g (a1 + 1) (a1 + 1) 0 91 s _ true hI.1 (by omega) B6.out hs2 (by omega)).mono ?_
   rintro e w1 ⟨rfl, hl1⟩
   have hI := hI.later hl1
   clear hl1
   go_wp2_with fail
   refine (is_at g (a1 + 1) (a1 + 2) 1 58 s _ false hI.1 (by omega) B7.out hs2 (by omega)).mono ?_
   rintro e w1 ⟨rfl, hl1⟩
   have hI := hI.later hl1
   clear hl1
   go_wp2_with fail
   refine (end_none g (a1 + 1) s _ hI.1 hs (by omega) HE2.out).mono ?_
   rintro e w5 ⟨rfl, hF, qz, hq⟩
   have hI := hI.fr hF hq
   clear hF hq
   go_wp2_with fail
   refine (span_at a 0 0 rfl ba (by omega) _).mono ?_
   rintro e w6 ⟨rfl, hl6⟩
   have hI := hI.later hl6
   clear hl6
   obtain ⟨c0, c1, f1, z0, z1, z2, z3, y0, y1, y2, y3⟩ := hI.cells
   go_wp2_with fail
   exact bodyPost_ret (v := .tuple #[.agg #[.int .u64 (word (mSpan a 0) 0 : Nat), .int .u64 (word (mSpan a 0) 1 : Nat), .int .u64 (word (mSpan a 0) 2 : Nat), .int .u64 (word (mSpan a 0) 3 : Nat)], .bool false]) (by simp [results, Tryz.results139, go_sem, z0, z1, z2, z3]) rfl (by rw [hi.out]; exact hI.no _ _ _ _ _)
theorem item_span (g p : Nat) (s : ByteArray) (w : World) (hb : BrOk w g s p) (hs : s.size ≤ 140737488355328) (hp : p ≤ s.size) (ho : opensF s.data.toList p = false) (a a1 b bz : Nat) (he : endF s.data.toList p = some (a, a1)) (hc : (s.data.toList[a1]? = some 45 ∧ a1 + 1 < s.data.toList.length ∧ s.data.toList[a1 + 1]? ≠ some 93)) (hop : opensF s.data.toList (a1 + 1) = false) (he2 : endF s.data.toList (a1 + 1) = some (b, bz)) (hle : a ≤ b) :
  Calls Tryz.prog 139 #[.pointer (some ⟨g, 0, none⟩)] w (Setted w g s (itemF s.data.toList p)) := by
 have hs2 : s.size ≤ 9223372036854775807 := by omega
 have hlen : s.data.toList.length = s.size := Array.length_toList
 have hi : Hid (itemF s.data.toList p = some (mSpan a b, bz)) := by
  show _ = _
  unfold itemF
  rw [if_neg (by rw [ho]; decide)]
  rw [he]
  simp only
  rw [if_pos hc, if_neg (by rw [hop]; decide), he2]
  simp only
  rw [if_pos hle]
 have hor := notOpens s p ho
 obtain ⟨r, hr⟩ : ∃ r, r = itemF s.data.toList p := ⟨_, rfl⟩
 rw [← hr] at hi ⊢
 clear hr ho
 have hI := It.start hb
 clear hb
 obtain ⟨ba, bp, bq⟩ := endF_bd _ _ _ _ he
 have hor2 := notOpens s (a1 + 1) hop
 obtain ⟨bb, bbp, bbq⟩ := endF_bd _ _ _ _ he2
 rw [hlen] at bbq
 have HE2 := Lib.hid he2
 have hlei : (a : Int) ≤ (b : Int) := by omega
 clear hop he2 hle
 obtain ⟨k1, k2, k3⟩ := hc
 rw [hlen] at bq k2
 have HE := Lib.hid he
 obtain ⟨cx, hx⟩ : ∃ cx, Hid (s.data.toList[a1 + 1]? = some cx) := ⟨_, List.getElem?_eq_getElem (by rw [hlen]; exact k2)⟩
 have HX := hx
 have B3 : Hid (isB s a1 45 = true) := by show _ = _; rw [isB_eq s a1 45 45 rfl, beq_iff_eq]; exact k1
 have B5 : Hid (isB s (a1 + 1) 93 = false) := by show _ = _; rw [isB_eq s (a1 + 1) 93 93 rfl, beq_eq_false_iff_ne]; exact k3
 clear he hlen k1 k3 hx
 rcases hor with h1 | ⟨h1, h2⟩
 case' inl =>
  have b1 := Lib.hid h1
  clear h1
  go_enter Tryz.func139, Tryz.ntmps139
  go_wp2_with fail
  refine (is_at g p p 0 91 s _ false hI.1 (by omega) b1.out hs2 (by omega)).mono ?_
  rintro e w1 ⟨rfl, hl1⟩
  have hI := hI.later hl1
  clear hl1
  go_wp2_with fail
 case' inr =>
  have b1 := Lib.hid h1
  have b2 := Lib.hid h2
  clear h1 h2
  go_enter Tryz.func139, Tryz.ntmps139
  go_wp2_with fail
  refine (is_at g p p 0 91 s _ true hI.1 (by omega) b1.out hs2 (by omega)).mono ?_
  rintro e w1 ⟨rfl, hl1⟩
  have hI := hI.later hl1
  clear hl1
  go_wp2_with fail
  refine (is_at g p (p + 1) 1 58 s _ false hI.1 (by omega) b2.out hs2 (by omega)).mono ?_
  rintro e w1 ⟨rfl, hl1⟩
  have hI := hI.later hl1
  clear hl1
  go_wp2_with fail
 all_goals
  refine (end_some g p a a1 s _ hI.1 hs (by omega) HE.out).mono ?_
  rintro e w2 ⟨rfl, hF, hq⟩
  have hI := hI.fr hF hq
  clear hF hq
  go_wp2_with fail
  refine (peek_some g a1 (a1 + 1) 1 s cx _ hI.1 (by omega) HX.out hs2).mono ?_
  rintro e w3 ⟨rfl, hl3⟩
  have hI := hI.later hl3
  clear hl3
  go_wp2_with fail
  refine (is_at g a1 a1 0 45 s _ true hI.1 (by omega) B3.out hs2 (by omega)).mono ?_
  rintro e w1 ⟨rfl, hl1⟩
  have hI := hI.later hl1
  clear hl1
  go_wp2_with fail
  refine (is_at g a1 (a1 + 1) 1 93 s _ false hI.1 (by omega) B5.out hs2 (by omega)).mono ?_
  rintro e w1 ⟨rfl, hl1⟩
  have hI := hI.later hl1
  clear hl1
  obtain ⟨c0, c1, f1, z0, z1, z2, z3, y0, y1, y2, y3⟩ := hI.cells
  go_wp2_with fail
  clear c0 c1 f1 z0 z1 z2 z3 y0 y1 y2 y3
  have hI := hI.move (a1 + 1) ((a1 : Int) + 1) (by omega)
  rcases hor2 with h6 | ⟨h6, h7⟩
  ·have B6 := Lib.hid h6
   clear h6
   refine (is_at g (a1 + 1) (a1 + 1) 0 91 s _ false hI.1 (by omega) B6.out hs2 (by omega)).mono ?_
   rintro e w1 ⟨rfl, hl1⟩
   have hI := hI.later hl1
   clear hl1
   go_wp2_with fail
   refine (end_some g (a1 + 1) b bz s _ hI.1 hs (by omega) HE2.out).mono ?_
   rintro e w5 ⟨rfl, hF, hq⟩
   have hI := hI.fr hF hq
   clear hF hq
   go_wp2_with fail
   refine (span_at a b (b : Int) rfl ba bb _).mono ?_
   rintro e w6 ⟨rfl, hl6⟩
   have hI := hI.later hl6
   clear hl6
   obtain ⟨c0, c1, f1, z0, z1, z2, z3, y0, y1, y2, y3⟩ := hI.cells
   go_wp2_with fail
   exact bodyPost_ret (v := .tuple #[.agg #[.int .u64 (word (mSpan a b) 0 : Nat), .int .u64 (word (mSpan a b) 1 : Nat), .int .u64 (word (mSpan a b) 2 : Nat), .int .u64 (word (mSpan a b) 3 : Nat)], .bool true]) (by simp [results, Tryz.results139, go_sem, z0, z1, z2, z3]) rfl (by rw [hi.out]; exact hI.yes _ _ _ _ _)
  ·have B6 := Lib.hid h6
   have B7 := Lib.hid h7
   clear h6 h7
   refine (is_at g (a1 + 1) (a1 + 1) 0 91 s _ true hI.1 (by omega) B6.out hs2 (by omega)).mono ?_
   rintro e w1 ⟨rfl, hl1⟩
   have hI := hI.later hl1
   clear hl1
   go_wp2_with fail
   refine (is_at g (a1 + 1) (a1 + 2) 1 58 s _ false hI.1 (by omega) B7.out hs2 (by omega)).mono ?_
   rintro e w1 ⟨rfl, hl1⟩
   have hI := hI.later hl1
   clear hl1
   go_wp2_with fail
   refine (end_some g (a1 + 1) b bz s _ hI.1 hs (by omega) HE2.out).mono ?_
   rintro e w5 ⟨rfl, hF, hq⟩
   have hI := hI.fr hF hq
   clear hF hq
   go_wp2_with fail
   refine (span_at a b (b : Int) rfl ba bb _).mono ?_
   rintro e w6 ⟨rfl, hl6⟩
   have hI := hI.later hl6
   clear hl6
   obtain ⟨c0, c1, f1, z0, z1, z2, z3, y0, y1, y2, y3⟩ := hI.cells
   go_wp2_with fail
   exact bodyPost_ret (v := .tuple #[.agg #[.int .u64 (word (mSpan a b) 0 : Nat), .int .u64 (word (mSpan a b) 1 : Nat), .int .u64 (word (mSpan a b) 2 : Nat), .int .u64 (word (mSpan a b) 3 : Nat)], .bool true]) (by simp [results, Tryz.results139, go_sem, z0, z1, z2, z3]) rfl (by rw [hi.out]; exact hI.yes _ _ _ _ _)
theorem item_turned (g p : Nat) (s : ByteArray) (w : World) (hb : BrOk w g s p) (hs : s.size ≤ 140737488355328) (hp : p ≤ s.size) (ho : opensF s.data.toList p = false) (a a1 b bz : Nat) (he : endF s.data.toList p = some (a, a1)) (hc : (s.data.toList[a1]? = some 45 ∧ a1 + 1 < s.data.toList.length ∧ s.data.toList[a1 + 1]? ≠ some 93)) (hop : opensF s.data.toList (a1 + 1) = false) (he2 : endF s.data.toList (a1 + 1) = some (b, bz)) (hle : ¬ a ≤ b) :
  Calls Tryz.prog 139 #[.pointer (some ⟨g, 0, none⟩)] w (Setted w g s (itemF s.data.toList p)) := by
 have hs2 : s.size ≤ 9223372036854775807 := by omega
 have hlen : s.data.toList.length = s.size := Array.length_toList
 have hi : Hid (itemF s.data.toList p = none) := by
  show _ = _
  unfold itemF
  rw [if_neg (by rw [ho]; decide)]
  rw [he]
  simp only
  rw [if_pos hc, if_neg (by rw [hop]; decide), he2]
  simp only
  rw [if_neg hle]
 have hor := notOpens s p ho
 obtain ⟨r, hr⟩ : ∃ r, r = itemF s.data.toList p := ⟨_, rfl⟩
 rw [← hr] at hi ⊢
 clear hr ho
 have hI := It.start hb
 clear hb
 obtain ⟨ba, bp, bq⟩ := endF_bd _ _ _ _ he
 have hor2 := notOpens s (a1 + 1) hop
 obtain ⟨bb, bbp, bbq⟩ := endF_bd _ _ _ _ he2
 rw [hlen] at bbq
 have HE2 := Lib.hid he2
 have hlei : ¬ (a : Int) ≤ (b : Int) := by omega
 clear hop he2 hle
 obtain ⟨k1, k2, k3⟩ := hc
 rw [hlen] at bq k2
 have HE := Lib.hid he
 obtain ⟨cx, hx⟩ : ∃ cx, Hid (s.data.toList[a1 + 1]? = some cx) := ⟨_, List.getElem?_eq_getElem (by rw [hlen]; exact k2)⟩
 have HX := hx
 have B3 : Hid (isB s a1 45 = true) := by show _ = _; rw [isB_eq s a1 45 45 rfl, beq_iff_eq]; exact k1
 have B5 : Hid (isB s (a1 + 1) 93 = false) := by show _ = _; rw [isB_eq s (a1 + 1) 93 93 rfl, beq_eq_false_iff_ne]; exact k3
 clear he hlen k1 k3 hx
 rcases hor with h1 | ⟨h1, h2⟩
 case' inl =>
  have b1 := Lib.hid h1
  clear h1
  go_enter Tryz.func139, Tryz.ntmps139
  go_wp2_with fail
  refine (is_at g p p 0 91 s _ false hI.1 (by omega) b1.out hs2 (by omega)).mono ?_
  rintro e w1 ⟨rfl, hl1⟩
  have hI := hI.later hl1
  clear hl1
  go_wp2_with fail
 case' inr =>
  have b1 := Lib.hid h1
  have b2 := Lib.hid h2
  clear h1 h2
  go_enter Tryz.func139, Tryz.ntmps139
  go_wp2_with fail
  refine (is_at g p p 0 91 s _ true hI.1 (by omega) b1.out hs2 (by omega)).mono ?_
  rintro e w1 ⟨rfl, hl1⟩
  have hI := hI.later hl1
  clear hl1
  go_wp2_with fail
  refine (is_at g p (p + 1) 1 58 s _ false hI.1 (by omega) b2.out hs2 (by omega)).mono ?_
  rintro e w1 ⟨rfl, hl1⟩
  have hI := hI.later hl1
  clear hl1
  go_wp2_with fail
 all_goals
  refine (end_some g p a a1 s _ hI.1 hs (by omega) HE.out).mono ?_
  rintro e w2 ⟨rfl, hF, hq⟩
  have hI := hI.fr hF hq
  clear hF hq
  go_wp2_with fail
  refine (peek_some g a1 (a1 + 1) 1 s cx _ hI.1 (by omega) HX.out hs2).mono ?_
  rintro e w3 ⟨rfl, hl3⟩
  have hI := hI.later hl3
  clear hl3
  go_wp2_with fail
  refine (is_at g a1 a1 0 45 s _ true hI.1 (by omega) B3.out hs2 (by omega)).mono ?_
  rintro e w1 ⟨rfl, hl1⟩
  have hI := hI.later hl1
  clear hl1
  go_wp2_with fail
  refine (is_at g a1 (a1 + 1) 1 93 s _ false hI.1 (by omega) B5.out hs2 (by omega)).mono ?_
  rintro e w1 ⟨rfl, hl1⟩
  have hI := hI.later hl1
  clear hl1
  obtain ⟨c0, c1, f1, z0, z1, z2, z3, y0, y1, y2, y3⟩ := hI.cells
  go_wp2_with fail
  clear c0 c1 f1 z0 z1 z2 z3 y0 y1 y2 y3
  have hI := hI.move (a1 + 1) ((a1 : Int) + 1) (by omega)
  rcases hor2 with h6 | ⟨h6, h7⟩
  ·have B6 := Lib.hid h6
   clear h6
   refine (is_at g (a1 + 1) (a1 + 1) 0 91 s _ false hI.1 (by omega) B6.out hs2 (by omega)).mono ?_
   rintro e w1 ⟨rfl, hl1⟩
   have hI := hI.later hl1
   clear hl1
   go_wp2_with fail
   refine (end_some g (a1 + 1) b bz s _ hI.1 hs (by omega) HE2.out).mono ?_
   rintro e w5 ⟨rfl, hF, hq⟩
   have hI := hI.fr hF hq
   clear hF hq
   go_wp2_with fail
   refine (span_at a b (b : Int) rfl ba bb _).mono ?_
   rintro e w6 ⟨rfl, hl6⟩
   have hI := hI.later hl6
   clear hl6
   obtain ⟨c0, c1, f1, z0, z1, z2, z3, y0, y1, y2, y3⟩ := hI.cells
   go_wp2_with fail
   exact bodyPost_ret (v := .tuple #[.agg #[.int .u64 (word (mSpan a b) 0 : Nat), .int .u64 (word (mSpan a b) 1 : Nat), .int .u64 (word (mSpan a b) 2 : Nat), .int .u64 (word (mSpan a b) 3 : Nat)], .bool false]) (by simp [results, Tryz.results139, go_sem, z0, z1, z2, z3]; omega) rfl (by rw [hi.out]; exact hI.no _ _ _ _ _)
  ·have B6 := Lib.hid h6
   have B7 := Lib.hid h7
   clear h6 h7
   refine (is_at g (a1 + 1) (a1 + 1) 0 91 s _ true hI.1 (by omega) B6.out hs2 (by omega)).mono ?_
   rintro e w1 ⟨rfl, hl1⟩
   have hI := hI.later hl1
   clear hl1
   go_wp2_with fail
   refine (is_at g (a1 + 1) (a1 + 2) 1 58 s _ false hI.1 (by omega) B7.out hs2 (by omega)).mono ?_
   rintro e w1 ⟨rfl, hl1⟩
   have hI := hI.later hl1
   clear hl1
   go_wp2_with fail
   refine (end_some g (a1 + 1) b bz s _ hI.1 hs (by omega) HE2.out).mono ?_
   rintro e w5 ⟨rfl, hF, hq⟩
   have hI := hI.fr hF hq
   clear hF hq
   go_wp2_with fail
   refine (span_at a b (b : Int) rfl ba bb _).mono ?_
   rintro e w6 ⟨rfl, hl6⟩
   have hI := hI.later hl6
   clear hl6
   obtain ⟨c0, c1, f1, z0, z1, z2, z3, y0, y1, y2, y3⟩ := hI.cells
   go_wp2_with fail
   exact bodyPost_ret (v := .tuple #[.agg #[.int .u64 (word (mSpan a b) 0 : Nat), .int .u64 (word (mSpan a b) 1 : Nat), .int .u64 (word (mSpan a b) 2 : Nat), .int .u64 (word (mSpan a b) 3 : Nat)], .bool false]) (by simp [results, Tryz.results139, go_sem, z0, z1, z2, z3]; omega) rfl (by rw [hi.out]; exact hI.no _ _ _ _ _)
theorem item_any (g p : Nat) (s : ByteArray) (w : World) (hb : BrOk w g s p) (hs : s.size ≤ 140737488355328) (hp : p ≤ s.size) :
  Calls Tryz.prog 139 #[.pointer (some ⟨g, 0, none⟩)] w (Setted w g s (itemF s.data.toList p)) := by
 cases ho : opensF s.data.toList p with
 | true => exact item_class g p s w hb hs hp ho
 | false =>
  cases he : endF s.data.toList p with
  | none => exact item_none g p s w hb hs hp ho he
  | some r =>
   obtain ⟨a, a1⟩ := r
   by_cases hc : (s.data.toList[a1]? = some 45 ∧ a1 + 1 < s.data.toList.length ∧ s.data.toList[a1 + 1]? ≠ some 93)
   ·cases hop : opensF s.data.toList (a1 + 1) with
    | true => exact item_open g p s w hb hs hp ho a a1 he hc hop
    | false =>
     cases he2 : endF s.data.toList (a1 + 1) with
     | none => exact item_half g p s w hb hs hp ho a a1 he hc hop he2
     | some r2 =>
      obtain ⟨b, bz⟩ := r2
      by_cases hle : a ≤ b
      ·exact item_span g p s w hb hs hp ho a a1 b bz he hc hop he2 hle
      ·exact item_turned g p s w hb hs hp ho a a1 b bz he hc hop he2 hle
   ·exact item_byte g p s w hb hs hp ho a a1 he hc
end Go.Proofs.YtmkddhkpeiajhaaGreatDoor
