/-
  The walk of ClassSpans.
-/
import Derived.Test.YthmjnelnnhidkaaClsKnown
import Derived.Test.YthmjnelnnhidkaaSpansLaw
namespace Go.Proofs.Ythmjnelnnhidkaa
open Go.RowKit

theorem span_u (A Z : UInt8) (w : World) :
    Calls Try.prog 23 #[.int .u8 (A.toNat : Int), .int .u8 (Z.toNat : Int)] w fun e w' => e = .returned (.agg #[.int .u64 (word (mSpan A.toNat Z.toNat) 0 : Nat), .int .u64 (word (mSpan A.toNat Z.toNat) 1 : Nat), .int .u64 (word (mSpan A.toNat Z.toNat) 2 : Nat), .int .u64 (word (mSpan A.toNat Z.toNat) 3 : Nat)]) ∧ Later w w' :=
  span_any A.toNat Z.toNat (by have := A.toNat_lt; omega) (by have := Z.toNat_lt; omega) w
theorem of_u (C : UInt8) (w : World) :
    Calls Try.prog 17 #[.slice (some ⟨w.heap.size, 0, none⟩) 1 1] (w.alloc (.cells #[.int .u8 (C.toNat : Int)] 5)) fun e w' => e = .returned (.agg #[.int .u64 (word (mOf [C]) 0 : Nat), .int .u64 (word (mOf [C]) 1 : Nat), .int .u64 (word (mOf [C]) 2 : Nat), .int .u64 (word (mOf [C]) 3 : Nat)]) ∧ Later w w' :=
  by have h := of_one C.toNat (by have := C.toNat_lt; omega) w; rwa [UInt8.ofNat_toNat] at h
theorem RdB.of_blk {w : World} {g n : Nat} {xs : Array Value} {l : List UInt8} (h : Blk w g 5 xs) (hn : n = l.length) (hx : (bv l).toArray = xs) : RdB w w.heap.size (some ⟨g, 0, none⟩) n l := by
  subst hx hn
  refine ⟨by rw [bv_length]; omega, fun _ => ⟨_, rfl, h.lt, fun j u hu => ?_⟩⟩
  rw [Addr.add_lit, Nat.zero_add, h.cell, List.getElem?_toArray]
  exact hu
theorem of_blk (C : UInt8) (w : World) (g : Nat) (h : Blk w g 5 #[.int .u8 (C.toNat : Int)]) :
    Calls Try.prog 17 #[.slice (some ⟨g, 0, none⟩) 1 1] w fun e w' => e = .returned (.agg #[.int .u64 (word (mOf [C]) 0 : Nat), .int .u64 (word (mOf [C]) 1 : Nat), .int .u64 (word (mOf [C]) 2 : Nat), .int .u64 (word (mOf [C]) 3 : Nat)]) ∧ Later w w' :=
  of_at _ 1 1 [C] w (RdB.of_blk h rfl rfl) (by omega)
theorem blkNew {w w1 : World} {t : TypeId} {cs : Array Value} (hl : Later (w.alloc (.cells cs t)) w1) : Blk w1 w.heap.size t cs := blkLater hl (Blk.new w t cs)
theorem bracket_s1 (A Z C : UInt8) (ha : 65 ≤ A.toNat ∧ A.toNat ≤ 84) (hz : A.toNat ≤ Z.toNat ∧ Z.toNat ≤ 89) (hc : 48 ≤ C.toNat ∧ C.toNat ≤ 57) (w : World) :
    Calls Try.prog 15 #[.string (bstr [A, 45, Z, C, 93]), .int .i64 0] w fun e w' => e = .returned (.tuple #[.agg #[.int .u64 (word (mOr (mSpan A.toNat Z.toNat) (mOf [C])) 0 : Nat), .int .u64 (word (mOr (mSpan A.toNat Z.toNat) (mOf [C])) 1 : Nat), .int .u64 (word (mOr (mSpan A.toNat Z.toNat) (mOf [C])) 2 : Nat), .int .u64 (word (mOr (mSpan A.toNat Z.toNat) (mOf [C])) 3 : Nat)], .int .i64 5, .bool true]) ∧ Later w w' :=
  bracket_set (bstr [A, 45, Z, C, 93]) 0 _ (mOr (mSpan A.toNat Z.toNat) (mOf [C])) 5 w (by show (5 : Nat) ≤ _; omega) (bracket_span A Z C ha hz hc).1 (spanM_eq A Z C)
theorem bracket_s2 (A Z C : UInt8) (ha : 65 ≤ A.toNat ∧ A.toNat ≤ 84) (hz : A.toNat ≤ Z.toNat ∧ Z.toNat ≤ 89) (hc : 48 ≤ C.toNat ∧ C.toNat ≤ 57) (s : ByteArray) (hs : s = bstr [94, A, 45, Z, C, 93]) (w : World) :
    Calls Try.prog 15 #[.string s, .int .i64 0] w fun e w' => e = .returned (.tuple #[.agg #[.int .u64 (word (mNot (mOr (mSpan A.toNat Z.toNat) (mOf [C]))) 0 : Nat), .int .u64 (word (mNot (mOr (mSpan A.toNat Z.toNat) (mOf [C]))) 1 : Nat), .int .u64 (word (mNot (mOr (mSpan A.toNat Z.toNat) (mOf [C]))) 2 : Nat), .int .u64 (word (mNot (mOr (mSpan A.toNat Z.toNat) (mOf [C]))) 3 : Nat)], .int .i64 6, .bool true]) ∧ Later w w' := by
  subst hs
  exact bracket_set (bstr [94, A, 45, Z, C, 93]) 0 _ (mNot (mOr (mSpan A.toNat Z.toNat) (mOf [C]))) 6 w (by show (6 : Nat) ≤ _; omega) (bracket_span A Z C ha hz hc).2 (spanN_eq A Z C)
theorem str5 (A Z C : UInt8) (w : World) : (convert 34 9 (.slice (some ⟨w.heap.size, 0, none⟩) 5 5)).run Try.prog (w.alloc (.cells #[.int .u8 (A.toNat : Int), .int .u8 45, .int .u8 (Z.toNat : Int), .int .u8 (C.toNat : Int), .int .u8 93] 5)) = .ok (.string (bstr [A, 45, Z, C, 93])) (w.alloc (.cells #[.int .u8 (A.toNat : Int), .int .u8 45, .int .u8 (Z.toNat : Int), .int .u8 (C.toNat : Int), .int .u8 93] 5)) :=
  run_str (RdB.lit (l := [A, 45, Z, C, 93]) rfl rfl rfl)

set_option maxRecDepth 100000 in
set_option maxHeartbeats 8000000 in
theorem spans_any (a z c : Int) (ha0 : 0 ≤ a) (ha1 : a < 256) (hz0 : 0 ≤ z) (hz1 : z < 256) (hc0 : 0 ≤ c) (hc1 : c < 256) (w : World) :
    Calls Try.prog 6 #[.int .u8 a, .int .u8 z, .int .u8 c] w fun e w' => e = .returned (.bool true) ∧ Later w w' := by
  obtain ⟨A, hA, hA1⟩ : ∃ A : UInt8, Hid (65 + a % 20 = (A.toNat : Int)) ∧ 65 ≤ A.toNat ∧ A.toNat ≤ 84 := ⟨UInt8.ofNat (65 + a % 20).toNat, by show _ = _; rw [UInt8.toNat_ofNat', Nat.mod_eq_of_lt (by omega)]; omega, by rw [UInt8.toNat_ofNat', Nat.mod_eq_of_lt (by omega)]; omega⟩
  obtain ⟨Z, hZ, hZ1⟩ : ∃ Z : UInt8, Hid ((A.toNat : Int) + z % 6 = (Z.toNat : Int)) ∧ A.toNat ≤ Z.toNat ∧ Z.toNat ≤ 89 := ⟨UInt8.ofNat ((A.toNat : Int) + z % 6).toNat, by show _ = _; rw [UInt8.toNat_ofNat', Nat.mod_eq_of_lt (by omega)]; omega, by rw [UInt8.toNat_ofNat', Nat.mod_eq_of_lt (by omega)]; omega⟩
  obtain ⟨C, hC, hC1⟩ : ∃ C : UInt8, Hid (48 + c % 10 = (C.toNat : Int)) ∧ 48 ≤ C.toNat ∧ C.toNat ≤ 57 := ⟨UInt8.ofNat (48 + c % 10).toNat, by show _ = _; rw [UInt8.toNat_ofNat', Nat.mod_eq_of_lt (by omega)]; omega, by rw [UInt8.toNat_ofNat', Nat.mod_eq_of_lt (by omega)]; omega⟩
  have hAi : (A.toNat : Int) ≤ 84 := by omega
  have eA := hA.out
  have eZ := hZ.out
  have eC := hC.out
  have keq := run_eq_set
  have kst := str5 A Z C
  go_enter Try.func6, Try.ntmps6
  go_wp2_with fail
  refine (bracket_s1 A Z C hA1 hZ1 hC1 _).mono ?_
  rintro e wa ⟨rfl, hla⟩
  have hla : Later w wa := ((Later.refl w).alloc _).trans hla
  go_wp2_with fail
  refine (bracket_s2 A Z C hA1 hZ1 hC1 _ (by rfl) _).mono ?_
  rintro e wb ⟨rfl, hlb⟩
  have B1 : Blk wb wa.heap.size 24 (setC (mOr (mSpan A.toNat Z.toNat) (mOf [C]))) := blkLater hlb (Blk.new wa _ _)
  have hlb : Later w wb := (hla.alloc _).trans hlb
  go_wp2_with fail
  obtain ⟨wf, hwf⟩ : ∃ wf, wf = wb.alloc (.cells #[.int .u64 (word (mNot (mOr (mSpan A.toNat Z.toNat) (mOf [C]))) 0 : Nat), .int .u64 (word (mNot (mOr (mSpan A.toNat Z.toNat) (mOf [C]))) 1 : Nat), .int .u64 (word (mNot (mOr (mSpan A.toNat Z.toNat) (mOf [C]))) 2 : Nat), .int .u64 (word (mNot (mOr (mSpan A.toNat Z.toNat) (mOf [C]))) 3 : Nat)] 24) := ⟨_, rfl⟩
  have B1 : Blk wf wa.heap.size 24 (setC (mOr (mSpan A.toNat Z.toNat) (mOf [C]))) := by rw [hwf]; exact B1.alloc _
  have B2 : Blk wf wb.heap.size 24 (setC (mNot (mOr (mSpan A.toNat Z.toNat) (mOf [C])))) := by rw [hwf]; exact Blk.new wb _ _
  have hlf : Later w wf := by rw [hwf]; exact hlb.alloc _
  rw [← hwf]
  clear hwf hla hlb eA eZ eC
  go_region_held_law (fun w' => (w'.cell? ⟨wa.heap.size, 0, none⟩ = some (.int .u64 (word (mOr (mSpan A.toNat Z.toNat) (mOf [C])) 0 : Nat)) ∧ w'.cell? ⟨wa.heap.size, 1, none⟩ = some (.int .u64 (word (mOr (mSpan A.toNat Z.toNat) (mOf [C])) 1 : Nat)) ∧ w'.cell? ⟨wa.heap.size, 2, none⟩ = some (.int .u64 (word (mOr (mSpan A.toNat Z.toNat) (mOf [C])) 2 : Nat)) ∧ w'.cell? ⟨wa.heap.size, 3, none⟩ = some (.int .u64 (word (mOr (mSpan A.toNat Z.toNat) (mOf [C])) 3 : Nat))) ∧ (w'.cell? ⟨wb.heap.size, 0, none⟩ = some (.int .u64 (word (mNot (mOr (mSpan A.toNat Z.toNat) (mOf [C]))) 0 : Nat)) ∧ w'.cell? ⟨wb.heap.size, 1, none⟩ = some (.int .u64 (word (mNot (mOr (mSpan A.toNat Z.toNat) (mOf [C]))) 1 : Nat)) ∧ w'.cell? ⟨wb.heap.size, 2, none⟩ = some (.int .u64 (word (mNot (mOr (mSpan A.toNat Z.toNat) (mOf [C]))) 2 : Nat)) ∧ w'.cell? ⟨wb.heap.size, 3, none⟩ = some (.int .u64 (word (mNot (mOr (mSpan A.toNat Z.toNat) (mOf [C]))) 3 : Nat)))) (exact ⟨setS (by repeat (first | (with_reducible assumption) | apply Blk.drew | apply Blk.alloc)), setS (by repeat (first | (with_reducible assumption) | apply Blk.drew | apply Blk.alloc))⟩)
    (((first
      | ((go_at_call 16; (with_reducible refine (clsKnown_any _).mono ?_)); rintro e w1 ⟨rfl, hl1⟩)
      | ((go_at_call 23; (with_reducible refine (span_u A Z _).mono ?_)); rintro e w1 ⟨rfl, hl1⟩)
      | ((go_at_call 17; (first | (with_reducible refine (of_u C _).mono ?_) | (with_reducible refine (of_blk C _ _ RO).mono ?_))); rintro e w1 ⟨rfl, hl1⟩)
      | ((go_at_call 24; (with_reducible refine (or_at _ _ _).mono ?_)); rintro e w1 ⟨rfl, hl1⟩)
      | ((go_at_call 18; (with_reducible refine (not_at _ _).mono ?_)); rintro e w1 ⟨rfl, hl1⟩)); (first | (with_reducible have RO : Blk w1 _ 5 #[.int .u8 (C.toNat : Int)] := blkNew hl1) | skip); have B1 := blkLater hl1 (by repeat (first | exact B1 | apply Blk.drew | apply Blk.alloc)); have B2 := blkLater hl1 (by repeat (first | exact B2 | apply Blk.drew | apply Blk.alloc)); have hlf : Later w w1 := Later.trans (by repeat (first | exact hlf | apply Later.drew | apply Later.alloc)) hl1))
  all_goals
    go_wp2_with fail
    go_ret
    exact ⟨rfl, (by repeat (first | exact hlf | apply Later.drew | apply Later.alloc))⟩

end Go.Proofs.Ythmjnelnnhidkaa
