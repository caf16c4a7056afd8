/-
  Package ere's octal and Quote.
-/
import Derived.Test.YtmkddhkpeiajhaaEreKn
namespace Go.Proofs.Ytmkddhkpeiajhaa
open Go.RowKit

/-- a byte as a backslash and three digits -/
def octD (n : Nat) : List UInt8 := [92, UInt8.ofNat (48 + n / 64), UInt8.ofNat (48 + n / 8 % 8), UInt8.ofNat (48 + n % 8)]
def quoteL (l : List UInt8) : List UInt8 := l.flatMap fun c => octD c.toNat

theorem octD_len (n : Nat) : (octD n).length = 4 := rfl
theorem quoteL_len : ∀ l : List UInt8, (quoteL l).length = 4 * l.length
  | [] => rfl
  | c :: l => by
    have := quoteL_len l
    unfold quoteL at this ⊢
    rw [List.flatMap_cons, List.length_append, this, octD_len, List.length_cons]
    omega
theorem quoteL_snoc (l : List UInt8) (c : UInt8) : quoteL (l ++ [c]) = quoteL l ++ octD c.toNat := by
  unfold quoteL
  rw [List.flatMap_append]
  simp
theorem and7 {x : Nat} (h : x < 256) : bits .and .u8 (x : Int) 7 = (x : Int) % 8 := by
  have e1 := u8_and_nat x 7 h (by omega)
  rw [show x &&& 7 = x % 8 from Nat.and_two_pow_sub_one_eq_mod x 3] at e1
  rw [show (7 : Int) = ((7 : Nat) : Int) from rfl, e1]
  omega
theorem str4 (A B C : UInt8) (w : World) : (convert 48 9 (.slice (some ⟨w.heap.size, 0, none⟩) 4 4)).run Try.prog (w.alloc (.cells #[.int .u8 92, .int .u8 (A.toNat : Int), .int .u8 (B.toNat : Int), .int .u8 (C.toNat : Int)] 5)) = .ok (.string (bstr [92, A, B, C])) (w.alloc (.cells #[.int .u8 92, .int .u8 (A.toNat : Int), .int .u8 (B.toNat : Int), .int .u8 (C.toNat : Int)] 5)) :=
  run_str (RdB.lit (l := [92, A, B, C]) rfl rfl rfl)

set_option maxHeartbeats 2000000 in
theorem octal_any (n : Nat) (hn : n < 256) (w : World) : Calls Try.prog 31 #[.int .u8 (n : Int)] w fun e w' => e = .returned (.string (bstr (octD n))) ∧ Later w w' := by
  obtain ⟨A, hA⟩ : ∃ A : UInt8, UInt8.ofNat (48 + n / 64) = A := ⟨_, rfl⟩
  obtain ⟨B, hB⟩ : ∃ A : UInt8, UInt8.ofNat (48 + n / 8 % 8) = A := ⟨_, rfl⟩
  obtain ⟨C, hC⟩ : ∃ A : UInt8, UInt8.ofNat (48 + n % 8) = A := ⟨_, rfl⟩
  have hR : Hid (octD n = [92, A, B, C]) := by show octD n = _; unfold octD; rw [hA, hB, hC]
  have eA : 48 + (n : Int) / 64 = (A.toNat : Int) := by rw [← hA, UInt8.toNat_ofNat', Nat.mod_eq_of_lt (by omega)]; omega
  have eB : 48 + (n : Int) / 8 % 8 = (B.toNat : Int) := by rw [← hB, UInt8.toNat_ofNat', Nat.mod_eq_of_lt (by omega)]; omega
  have eC : 48 + (n : Int) % 8 = (C.toNat : Int) := by rw [← hC, UInt8.toNat_ofNat', Nat.mod_eq_of_lt (by omega)]; omega
  have k7 : bits .and .u8 (n : Int) 7 = (n : Int) % 8 := and7 hn
  have k8 : bits .and .u8 ((n : Int) / 8) 7 = (n : Int) / 8 % 8 := by
    have := and7 (x := n / 8) (by omega)
    rw [show ((n / 8 : Nat) : Int) = (n : Int) / 8 by omega] at this
    exact this
  have hs := str4 A B C w
  clear hA hB hC
  go_enter Try.func31, Try.ntmps31
  go_wp2_with fail
  go_ret
  exact ⟨by rw [hR.out]; rfl, (Later.refl w).alloc _⟩

theorem bstr_size (a : List UInt8) : (bstr a).size = a.length := rfl
theorem bstr_app (a b : List UInt8) : bstr a ++ bstr b = bstr (a ++ b) := by
  apply ByteArray.ext
  simp [bstr]

set_option maxHeartbeats 2000000 in
theorem quote_any (l : List UInt8) (hl : l.length ≤ 200000000) (w : World) : Calls Try.prog 17 #[.string (bstr l)] w fun e w' => e = .returned (.string (bstr (quoteL l))) ∧ Later w w' := by
  obtain ⟨n, hn⟩ : ∃ n, (bstr l).size = n := ⟨_, rfl⟩
  have hnl : l.length = n := by rw [← hn]; rfl
  have hnb : n ≤ 200000000 := by omega
  have hnbi : (n : Int) ≤ 200000000 := by omega
  have HN := Lib.hid hn
  have HL := Lib.hid hnl
  go_enter Try.func17, Try.ntmps17
  go_wp2_with fail
  go_loopw [3, 4] (fun s3 s4 wr => ∃ j : Nat, j ≤ n ∧ s4 = .int .i64 (j : Int) ∧ s3 = .string (bstr (quoteL (l.take j))) ∧ Later w wr) (fun _ s4 _ => n - (intOf s4).toNat)
  case atStart => exact ⟨0, by omega, rfl, rfl, Later.refl w⟩
  case round =>
    obtain ⟨j, hj, rfl, rfl, hlw⟩ := hrel
    by_cases hlt : j < n
    · have hlti : (j : Int) < (n : Int) := by omega
      obtain ⟨c, hc⟩ : ∃ c, l[j]? = some c := ⟨_, List.getElem?_eq_getElem (by omega)⟩
      obtain ⟨hi, he⟩ := str_get (bstr l) j c hc
      have hc256 := c.toNat_lt
      have htk : l.take (j + 1) = l.take j ++ [c] := by
        obtain ⟨hq, e⟩ := List.getElem?_eq_some_iff.1 hc
        rw [List.take_succ_eq_append_getElem hq, e]
      have HTK : Hid (bstr (quoteL (l.take j)) ++ bstr (octD c.toNat) = bstr (quoteL (l.take (j + 1)))) := by
        show _ = _
        rw [bstr_app, ← quoteL_snoc, ← htk]
      have hcc : ¬ 9223372036854775807 < (bstr (quoteL (l.take j))).size + (bstr (octD c.toNat)).size := by
        rw [bstr_size, bstr_size, quoteL_len, octD_len, List.length_take]
        omega
      clear htk hc hnl
      go_wp2_with fail
      refine (octal_any c.toNat hc256 _).mono ?_
      rintro e w1 ⟨rfl, hl1⟩
      go_wp2_with fail
      go_roundw
      case rel => exact ⟨j + 1, by omega, by go_num, by rw [← HTK.out], hlw.trans hl1⟩
      case measure => simp [intOf]; omega
    · obtain rfl : n = j := by omega
      have HE : Hid (l.take n = l) := List.take_of_length_le (by rw [hnl]; exact Nat.le_refl _)
      clear hnl
      go_wp2_with fail
      go_ret
      exact ⟨by rw [HE.out]; rfl, hlw⟩

end Go.Proofs.Ytmkddhkpeiajhaa
