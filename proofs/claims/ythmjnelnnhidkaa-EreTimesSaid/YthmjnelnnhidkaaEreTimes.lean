import Derived.Test.YthmjnelnnhidkaaPick
import Derived.Test.YthmjnelnnhidkaaQuote
import Derived.Test.YthmjnelnnhidkaaBoolRow
import Derived.Laws.Tables
import Derived.Test.YthmjnelnnhidkaaEreDeep
import Derived.Test.YthmjnelnnhidkaaRbr
/-
  EreTimes's closure, and the hand's Pattern: texts of few bytes.
-/
namespace Go.Proofs.Ythmjnelnnhidkaa
open Go.RowKit

theorem pick_some (x m : Int) (hm : 0 < m) (hm2 : m ≤ 100) (w : World) : Calls Try.prog 26 #[.int .i64 x, .int .i64 m] w fun e w' => (∃ q : Nat, (q : Int) < m ∧ e = .returned (.int .i64 (q : Int))) ∧ w = w' := by
  obtain ⟨k, hk, hk1⟩ := pick_nat x m hm
  exact (pick_at x m k w hm (by omega) hk).mono fun e w' h => ⟨⟨k, hk1, h.1⟩, h.2⟩
theorem str4k (A B : UInt8) (w : World) : (convert 34 9 (.slice (some ⟨w.heap.size, 0, none⟩) 4 4)).run Try.prog (w.alloc (.cells #[.int .u8 123, .int .u8 (A.toNat : Int), .int .u8 (B.toNat : Int), .int .u8 125] 5)) = .ok (.string (bstr [123, A, B, 125])) (w.alloc (.cells #[.int .u8 123, .int .u8 (A.toNat : Int), .int .u8 (B.toNat : Int), .int .u8 125] 5)) :=
  run_str (RdB.lit (l := [123, A, B, 125]) rfl rfl rfl)

set_option maxHeartbeats 2000000 in
theorem k_any (n : Int) (w : World) : Calls Try.prog 25 #[.int .i64 n] w fun e w' => (∃ L : List UInt8, e = .returned (.string (bstr L)) ∧ L.length = 4) ∧ Later w w' := by
  go_enter Try.func25, Try.ntmps25
  go_wp2_with fail
  refine (pick_some _ 6 (by omega) (by omega) _).mono ?_
  rintro e w0 ⟨⟨q, hq, rfl⟩, rfl⟩
  go_wp2_with fail
  refine (pick_some _ 10 (by omega) (by omega) _).mono ?_
  rintro e w0 ⟨⟨r, hr, rfl⟩, rfl⟩
  obtain ⟨A, hA⟩ : ∃ A : UInt8, UInt8.ofNat (48 + q) = A := ⟨_, rfl⟩
  obtain ⟨B, hB⟩ : ∃ A : UInt8, UInt8.ofNat (48 + r) = A := ⟨_, rfl⟩
  have eA : 48 + (q : Int) = (A.toNat : Int) := by rw [← hA, UInt8.toNat_ofNat', Nat.mod_eq_of_lt (by omega)]; omega
  have eB : 48 + (r : Int) = (B.toNat : Int) := by rw [← hB, UInt8.toNat_ofNat', Nat.mod_eq_of_lt (by omega)]; omega
  have hA1 := A.toNat_lt
  have hB1 := B.toNat_lt
  have wA : IntKind.u8.wrap (A.toNat : Int) = (A.toNat : Int) := by rw [IntKind.wrap_u8]; omega
  have wB : IntKind.u8.wrap (B.toNat : Int) = (B.toNat : Int) := by rw [IntKind.wrap_u8]; omega
  have hs := str4k A B w
  clear hA hB
  go_wp2_with fail
  go_ret
  exact ⟨⟨[123, A, B, 125], rfl, rfl⟩, (Later.refl w).alloc _⟩

theorem zero24 : (∀ w, (zeroValue 82).run Try.prog w = .ok (.agg #[.string ⟨#[]⟩, .string ⟨#[]⟩, .string ⟨#[]⟩, .string ⟨#[]⟩, .string ⟨#[]⟩, .string ⟨#[]⟩, .string ⟨#[]⟩, .string ⟨#[]⟩, .string ⟨#[]⟩, .string ⟨#[]⟩, .string ⟨#[]⟩, .string ⟨#[]⟩, .string ⟨#[]⟩, .string ⟨#[]⟩, .string ⟨#[]⟩, .string ⟨#[]⟩, .string ⟨#[]⟩, .string ⟨#[]⟩, .string ⟨#[]⟩, .string ⟨#[]⟩, .string ⟨#[]⟩, .string ⟨#[]⟩, .string ⟨#[]⟩, .string ⟨#[]⟩]) w) ∧ (Try.prog.info? 82).map (·.size) = some 24 :=
  zero_of_info (by kernel_rfl)
theorem built24 : Try.prog.built 82 [(0, Value.string ⟨#[97]⟩), (1, Value.string ⟨#[98]⟩), (2, Value.string ⟨#[99]⟩), (3, Value.string ⟨#[97]⟩), (4, Value.string ⟨#[98]⟩), (5, Value.string ⟨#[46]⟩), (6, Value.string ⟨#[42]⟩), (7, Value.string ⟨#[43]⟩), (8, Value.string ⟨#[63]⟩), (9, Value.string ⟨#[124]⟩), (10, Value.string ⟨#[40]⟩), (11, Value.string ⟨#[41]⟩), (12, Value.string ⟨#[40, 97, 124, 98, 41]⟩), (13, Value.string ⟨#[91, 97, 98, 93]⟩), (14, Value.string ⟨#[91, 94, 97, 93]⟩), (15, Value.string ⟨#[94]⟩), (16, Value.string ⟨#[36]⟩), (17, Value.string ⟨#[123, 50, 125]⟩), (18, Value.string ⟨#[123, 49, 44, 51, 125]⟩), (19, Value.string ⟨#[123, 48, 125]⟩), (20, Value.string ⟨#[123, 50, 44, 125]⟩), (21, Value.string ⟨#[92, 110]⟩), (22, Value.string ⟨#[92, 49, 48, 49]⟩), (23, Value.string ⟨#[91, 91, 58, 100, 105, 103, 105, 116, 58, 93, 93]⟩)] = some #[.string ⟨#[97]⟩, .string ⟨#[98]⟩, .string ⟨#[99]⟩, .string ⟨#[97]⟩, .string ⟨#[98]⟩, .string ⟨#[46]⟩, .string ⟨#[42]⟩, .string ⟨#[43]⟩, .string ⟨#[63]⟩, .string ⟨#[124]⟩, .string ⟨#[40]⟩, .string ⟨#[41]⟩, .string ⟨#[40, 97, 124, 98, 41]⟩, .string ⟨#[91, 97, 98, 93]⟩, .string ⟨#[91, 94, 97, 93]⟩, .string ⟨#[94]⟩, .string ⟨#[36]⟩, .string ⟨#[123, 50, 125]⟩, .string ⟨#[123, 49, 44, 51, 125]⟩, .string ⟨#[123, 48, 125]⟩, .string ⟨#[123, 50, 44, 125]⟩, .string ⟨#[92, 110]⟩, .string ⟨#[92, 49, 48, 49]⟩, .string ⟨#[91, 91, 58, 100, 105, 103, 105, 116, 58, 93, 93]⟩] := by kernel_rfl
theorem wpList_build_c {P : Program} {ops : Array Oper} {rest : List Oper} {o : Oper} {a : Act} {w : World} {Q : Exit → Act → World → Prop} (hg : o.guard = none) (t : TypeId) (parts : Array (Nat × Operand)) (ho : o.op = .build t parts)
    (cells : Array Value) (hc : P.built t (parts.map fun (i, x) => (i, a.eval x)).toList = some cells) (h : wpList P ops Q rest (a.put o.dst (.agg cells)) w) : wpList P ops Q (o :: rest) a w :=
  wpList_build hg t parts ho (by rw [hc]; rfl) (by rw [hc]; exact h)
/-- the table of parts -/
def partsL : List (List UInt8) := [[97], [98], [99], [97], [98], [46], [42], [43], [63], [124], [40], [41], [40, 97, 124, 98, 41], [91, 97, 98, 93], [91, 94, 97, 93], [94], [36], [123, 50, 125], [123, 49, 44, 51, 125], [123, 48, 125], [123, 50, 44, 125], [92, 110], [92, 49, 48, 49], [91, 91, 58, 100, 105, 103, 105, 116, 58, 93, 93]]
theorem parts_at {w : World} {g : Nat} (h : Blk w g 82 #[.string ⟨#[97]⟩, .string ⟨#[98]⟩, .string ⟨#[99]⟩, .string ⟨#[97]⟩, .string ⟨#[98]⟩, .string ⟨#[46]⟩, .string ⟨#[42]⟩, .string ⟨#[43]⟩, .string ⟨#[63]⟩, .string ⟨#[124]⟩, .string ⟨#[40]⟩, .string ⟨#[41]⟩, .string ⟨#[40, 97, 124, 98, 41]⟩, .string ⟨#[91, 97, 98, 93]⟩, .string ⟨#[91, 94, 97, 93]⟩, .string ⟨#[94]⟩, .string ⟨#[36]⟩, .string ⟨#[123, 50, 125]⟩, .string ⟨#[123, 49, 44, 51, 125]⟩, .string ⟨#[123, 48, 125]⟩, .string ⟨#[123, 50, 44, 125]⟩, .string ⟨#[92, 110]⟩, .string ⟨#[92, 49, 48, 49]⟩, .string ⟨#[91, 91, 58, 100, 105, 103, 105, 116, 58, 93, 93]⟩]) (y : Nat) (hy : y < 24) : ∃ M : List UInt8, M.length ≤ 11 ∧ w.cell? ⟨g, y, none⟩ = some (.string (bstr M)) := by
  have hl : y < partsL.length := hy
  refine ⟨partsL[y], ?_, ?_⟩
  · have : ∀ x ∈ partsL, x.length ≤ 11 := by decide
    exact this _ (List.getElem_mem hl)
  · rw [h.cell]
    have e : (#[.string ⟨#[97]⟩, .string ⟨#[98]⟩, .string ⟨#[99]⟩, .string ⟨#[97]⟩, .string ⟨#[98]⟩, .string ⟨#[46]⟩, .string ⟨#[42]⟩, .string ⟨#[43]⟩, .string ⟨#[63]⟩, .string ⟨#[124]⟩, .string ⟨#[40]⟩, .string ⟨#[41]⟩, .string ⟨#[40, 97, 124, 98, 41]⟩, .string ⟨#[91, 97, 98, 93]⟩, .string ⟨#[91, 94, 97, 93]⟩, .string ⟨#[94]⟩, .string ⟨#[36]⟩, .string ⟨#[123, 50, 125]⟩, .string ⟨#[123, 49, 44, 51, 125]⟩, .string ⟨#[123, 48, 125]⟩, .string ⟨#[123, 50, 44, 125]⟩, .string ⟨#[92, 110]⟩, .string ⟨#[92, 49, 48, 49]⟩, .string ⟨#[91, 91, 58, 100, 105, 103, 105, 116, 58, 93, 93]⟩] : Array Value) = (partsL.map fun x => Value.string (bstr x)).toArray := rfl
    rw [e, List.getElem?_toArray, List.getElem?_map, List.getElem?_eq_getElem hl]
    rfl

set_option maxRecDepth 4000 in
set_option maxHeartbeats 4000000 in
theorem pattern_any (A : Option Addr) (n c : Nat) (l : List UInt8) (w : World) (hr : RdB w w.heap.size A n l) (hn : n ≤ 3) :
    Calls Try.prog 27 #[.slice A n c] w fun e w' => (∃ L : List UInt8, e = .returned (.string (bstr L)) ∧ L.length ≤ 33) ∧ Later w w' := by
  have HR := Lib.hid hr
  have hni : (n : Int) ≤ 3 := by omega
  clear hr
  go_enter Try.func27, Try.ntmps27
  obtain ⟨hz, hsz⟩ := zero24
  obtain ⟨C, hC⟩ : ∃ C : Array Value, C = #[.string ⟨#[97]⟩, .string ⟨#[98]⟩, .string ⟨#[99]⟩, .string ⟨#[97]⟩, .string ⟨#[98]⟩, .string ⟨#[46]⟩, .string ⟨#[42]⟩, .string ⟨#[43]⟩, .string ⟨#[63]⟩, .string ⟨#[124]⟩, .string ⟨#[40]⟩, .string ⟨#[41]⟩, .string ⟨#[40, 97, 124, 98, 41]⟩, .string ⟨#[91, 97, 98, 93]⟩, .string ⟨#[91, 94, 97, 93]⟩, .string ⟨#[94]⟩, .string ⟨#[36]⟩, .string ⟨#[123, 50, 125]⟩, .string ⟨#[123, 49, 44, 51, 125]⟩, .string ⟨#[123, 48, 125]⟩, .string ⟨#[123, 50, 44, 125]⟩, .string ⟨#[92, 110]⟩, .string ⟨#[92, 49, 48, 49]⟩, .string ⟨#[91, 91, 58, 100, 105, 103, 105, 116, 58, 93, 93]⟩] := ⟨_, rfl⟩
  obtain ⟨Z, hZ⟩ : ∃ Z : Array Value, Z = #[.string ⟨#[]⟩, .string ⟨#[]⟩, .string ⟨#[]⟩, .string ⟨#[]⟩, .string ⟨#[]⟩, .string ⟨#[]⟩, .string ⟨#[]⟩, .string ⟨#[]⟩, .string ⟨#[]⟩, .string ⟨#[]⟩, .string ⟨#[]⟩, .string ⟨#[]⟩, .string ⟨#[]⟩, .string ⟨#[]⟩, .string ⟨#[]⟩, .string ⟨#[]⟩, .string ⟨#[]⟩, .string ⟨#[]⟩, .string ⟨#[]⟩, .string ⟨#[]⟩, .string ⟨#[]⟩, .string ⟨#[]⟩, .string ⟨#[]⟩, .string ⟨#[]⟩] := ⟨_, rfl⟩
  rw [← hZ] at hz
  have hone : C.all (·.oneCell') = true := by rw [hC]; kernel_rfl
  have hszC : (Try.prog.info? 82).map (·.size) = some C.size := by rw [hC]; exact hsz
  have hth : Hid ((w.alloc (.cells Z 82)).there w.heap.size 0 C.size) := by
    show World.there _ _ _ _
    intro j hj
    have hj24 : j < 24 := by rw [hC] at hj; exact hj
    have hB := Blk.new w 82 Z
    refine ⟨?_, ?_⟩
    · rw [Nat.zero_add, hB.cell, hZ]
      rw [Array.getElem?_eq_getElem (by exact hj24)]
      rfl
    · exact hB.frozen _
  have hbt : ∀ a : Act, Try.prog.built 82 ((#[(0, Operand.const (.string ⟨#[97]⟩)), (1, Operand.const (.string ⟨#[98]⟩)), (2, Operand.const (.string ⟨#[99]⟩)), (3, Operand.const (.string ⟨#[97]⟩)), (4, Operand.const (.string ⟨#[98]⟩)), (5, Operand.const (.string ⟨#[46]⟩)), (6, Operand.const (.string ⟨#[42]⟩)), (7, Operand.const (.string ⟨#[43]⟩)), (8, Operand.const (.string ⟨#[63]⟩)), (9, Operand.const (.string ⟨#[124]⟩)), (10, Operand.const (.string ⟨#[40]⟩)), (11, Operand.const (.string ⟨#[41]⟩)), (12, Operand.const (.string ⟨#[40, 97, 124, 98, 41]⟩)), (13, Operand.const (.string ⟨#[91, 97, 98, 93]⟩)), (14, Operand.const (.string ⟨#[91, 94, 97, 93]⟩)), (15, Operand.const (.string ⟨#[94]⟩)), (16, Operand.const (.string ⟨#[36]⟩)), (17, Operand.const (.string ⟨#[123, 50, 125]⟩)), (18, Operand.const (.string ⟨#[123, 49, 44, 51, 125]⟩)), (19, Operand.const (.string ⟨#[123, 48, 125]⟩)), (20, Operand.const (.string ⟨#[123, 50, 44, 125]⟩)), (21, Operand.const (.string ⟨#[92, 110]⟩)), (22, Operand.const (.string ⟨#[92, 49, 48, 49]⟩)), (23, Operand.const (.string ⟨#[91, 91, 58, 100, 105, 103, 105, 116, 58, 93, 93]⟩))] : Array (Nat × Operand)).map fun (i, x) => (i, a.eval x)).toList = some C := fun a => by rw [hC, Array.toList_map]; exact built24
  have HBT := Lib.hid hbt
  have HC := Lib.hid hC
  have HZ := Lib.hid hZ
  clear hC hZ hbt
  go_upto_region 2 with fail
  go_upto_region 3 with (first
    | (refine wpList_build_c rfl 82 _ rfl C (HBT.out _) ?_)
    | (refine wpList_store_mid (P := Try.prog) rfl 82 (.tmp 4) (.tmp 6) rfl w.heap.size 0 C rfl rfl (by with_reducible exact hth.out) hszC hone ?_))
  obtain ⟨W0, hW0⟩ : ∃ W0, W0 = (w.alloc (.cells Z 82)).setCells w.heap.size 0 C.toList := ⟨_, rfl⟩
  have B4 : Blk W0 w.heap.size 82 #[.string ⟨#[97]⟩, .string ⟨#[98]⟩, .string ⟨#[99]⟩, .string ⟨#[97]⟩, .string ⟨#[98]⟩, .string ⟨#[46]⟩, .string ⟨#[42]⟩, .string ⟨#[43]⟩, .string ⟨#[63]⟩, .string ⟨#[124]⟩, .string ⟨#[40]⟩, .string ⟨#[41]⟩, .string ⟨#[40, 97, 124, 98, 41]⟩, .string ⟨#[91, 97, 98, 93]⟩, .string ⟨#[91, 94, 97, 93]⟩, .string ⟨#[94]⟩, .string ⟨#[36]⟩, .string ⟨#[123, 50, 125]⟩, .string ⟨#[123, 49, 44, 51, 125]⟩, .string ⟨#[123, 48, 125]⟩, .string ⟨#[123, 50, 44, 125]⟩, .string ⟨#[92, 110]⟩, .string ⟨#[92, 49, 48, 49]⟩, .string ⟨#[91, 91, 58, 100, 105, 103, 105, 116, 58, 93, 93]⟩] := by
    rw [hW0]
    have := Blk.setCells C.toList (Blk.new w 82 Z) 0
    rw [over_all _ _ (by rw [HZ.out, HC.out]; rfl), Array.toArray_toList] at this
    rw [← HC.out]
    exact this
  have hl : Later w W0 := by rw [hW0]; exact laterCells ((Later.refl w).alloc _) _ _
  rw [← hW0]
  have hpa := fun y hy => parts_at B4 y hy
  have HPA := Lib.hid hpa
  have HRD : Hid (RdB W0 w.heap.size A n l) := RdB.later' HR.out (Nat.le_refl _) hl
  clear hW0 B4 hpa HR hone hszC hth HBT HC HZ hz hsz
  go_wp2_with fail
  go_loop [3, 5] (fun s3 s5 => ∃ (i : Nat) (L : List UInt8), i ≤ n ∧ s5 = .int .i64 (i : Int) ∧ s3 = .string (bstr L) ∧ L.length ≤ 11 * i) (fun _ s5 => n - (intOf s5).toNat)
  case atStart => exact ⟨0, [], Nat.zero_le _, rfl, rfl, Nat.zero_le _⟩
  case round =>
    obtain ⟨i, L, hi, rfl, rfl, hL⟩ := hrel
    by_cases hlt : i < n
    · have hlti : (i : Int) < (n : Int) := by omega
      have hi24 : (i : Int) < 24 := by omega
      obtain ⟨b, off, rfl, -, hcell⟩ := HRD.out.at_ hlt
      obtain ⟨x, hx⟩ : ∃ x, x = l[i]?.getD 0 := ⟨_, rfl⟩
      rw [← hx] at hcell
      obtain ⟨y, hy⟩ : ∃ y : Nat, y = x.toNat % 24 := ⟨_, rfl⟩
      have hy24 : y < 24 := by omega
      have hyi : (x.toNat : Int) % 24 = (y : Int) := by omega
      have hy24i : (y : Int) < 24 := by omega
      obtain ⟨M, hM, hc4⟩ := HPA.out y hy24
      have hcc : ¬ 9223372036854775807 < (bstr L).size + (bstr M).size := by rw [bstr_size, bstr_size]; omega
      have HTK : Hid (bstr L ++ bstr M = bstr (L ++ M)) := bstr_app L M
      clear hx hy
      go_wp2_with fail
      go_round
      case rel => exact ⟨i + 1, L ++ M, by omega, by go_num, by rw [← HTK.out], by rw [List.length_append]; omega⟩
      case measure => simp [intOf]; omega
    · obtain rfl : n = i := by omega
      have hnd : decide (n < n) = false := by simp
      have hLL : L.length ≤ 33 := by omega
      clear hlt
      go_wp2_with fail
      go_ret
      exact ⟨⟨L, rfl, hLL⟩, hl⟩

end Go.Proofs.Ythmjnelnnhidkaa

/-
  EreTimes: times after times, as the document reads them.
-/
namespace Go.Proofs.Ythmjnelnnhidkaa
open Go.RowKit

set_option maxRecDepth 100000 in
set_option maxHeartbeats 4000000 in
theorem ereTimes_any (p q r s : Int) (A : Option Addr) (nb cb : Nat) (l : List UInt8) (w : World) (hr : RdB w w.heap.size A nb l) (hnb : nb ≤ 140737488355232) (hc : nb ≤ cb) :
    Calls Try.prog 7 #[.int .i64 p, .int .i64 q, .int .i64 r, .int .i64 s, .slice A nb cb] w fun e w' => e = .returned (.bool true) ∧ Later w w' := by
  have hR3 := Lib.hid hr
  clear hr
  go_enter Try.func7, Try.ntmps7
  go_wp2_with fail
  all_goals
    first
      | (with_reducible refine (pattern_any A nb cb l _ hR3.out (by omega)).mono ?_)
      | (with_reducible refine (pattern_any A 3 cb (l.take 3) _ (hR3.out.upto (by omega)) (by omega)).mono ?_)
    rintro e w1 ⟨⟨L0, rfl, hL0⟩, hlw⟩
    obtain ⟨M1, hM1⟩ : ∃ M1 : List UInt8, M1 = [40, 40, 40] ++ L0 := ⟨_, rfl⟩
    have lM1 : M1.length = 3 + L0.length := by rw [hM1, List.length_append]; rfl
    have eM1 : (⟨#[40, 40, 40]⟩ : ByteArray) ++ bstr L0 = bstr M1 := by rw [hM1]; exact bstr_app [40, 40, 40] L0
    have cM1 : ¬ 9223372036854775807 < ((⟨#[40, 40, 40]⟩ : ByteArray)).size + (bstr L0).size := by
      show ¬ 9223372036854775807 < 3 + L0.length
      omega
    clear hM1
    obtain ⟨M2, hM2⟩ : ∃ M2 : List UInt8, M2 = M1 ++ [41] := ⟨_, rfl⟩
    have lM2 : M2.length = M1.length + 1 := by rw [hM2, List.length_append]; rfl
    have eM2 : bstr M1 ++ (⟨#[41]⟩ : ByteArray) = bstr M2 := by rw [hM2]; exact bstr_app M1 [41]
    have cM2 : ¬ 9223372036854775807 < (bstr M1).size + ((⟨#[41]⟩ : ByteArray)).size := by
      show ¬ 9223372036854775807 < M1.length + 1
      omega
    clear hM2
    go_wp2_with fail
    refine (k_any _ _).mono ?_
    rintro e w2 ⟨⟨K1, rfl, hK1⟩, hl2⟩
    have hlw := hlw.trans hl2
    obtain ⟨M3, hM3⟩ : ∃ M3 : List UInt8, M3 = M2 ++ K1 := ⟨_, rfl⟩
    have lM3 : M3.length = M2.length + K1.length := by rw [hM3, List.length_append]
    have eM3 : bstr M2 ++ bstr K1 = bstr M3 := by rw [hM3]; exact bstr_app M2 K1
    have cM3 : ¬ 9223372036854775807 < (bstr M2).size + (bstr K1).size := by
      show ¬ 9223372036854775807 < M2.length + K1.length
      omega
    clear hM3
    obtain ⟨M4, hM4⟩ : ∃ M4 : List UInt8, M4 = M3 ++ [41] := ⟨_, rfl⟩
    have lM4 : M4.length = M3.length + 1 := by rw [hM4, List.length_append]; rfl
    have eM4 : bstr M3 ++ (⟨#[41]⟩ : ByteArray) = bstr M4 := by rw [hM4]; exact bstr_app M3 [41]
    have cM4 : ¬ 9223372036854775807 < (bstr M3).size + ((⟨#[41]⟩ : ByteArray)).size := by
      show ¬ 9223372036854775807 < M3.length + 1
      omega
    clear hM4
    clear eM1 cM1 eM2 cM2 hl2
    go_wp2_with fail
    refine (k_any _ _).mono ?_
    rintro e w3 ⟨⟨K2, rfl, hK2⟩, hl2⟩
    have hlw := hlw.trans hl2
    obtain ⟨M5, hM5⟩ : ∃ M5 : List UInt8, M5 = M4 ++ K2 := ⟨_, rfl⟩
    have lM5 : M5.length = M4.length + K2.length := by rw [hM5, List.length_append]
    have eM5 : bstr M4 ++ bstr K2 = bstr M5 := by rw [hM5]; exact bstr_app M4 K2
    have cM5 : ¬ 9223372036854775807 < (bstr M4).size + (bstr K2).size := by
      show ¬ 9223372036854775807 < M4.length + K2.length
      omega
    clear hM5
    obtain ⟨M6, hM6⟩ : ∃ M6 : List UInt8, M6 = M5 ++ [41] := ⟨_, rfl⟩
    have lM6 : M6.length = M5.length + 1 := by rw [hM6, List.length_append]; rfl
    have eM6 : bstr M5 ++ (⟨#[41]⟩ : ByteArray) = bstr M6 := by rw [hM6]; exact bstr_app M5 [41]
    have cM6 : ¬ 9223372036854775807 < (bstr M5).size + ((⟨#[41]⟩ : ByteArray)).size := by
      show ¬ 9223372036854775807 < M5.length + 1
      omega
    clear hM6
    clear eM3 cM3 eM4 cM4 hl2
    go_wp2_with fail
    refine (k_any _ _).mono ?_
    rintro e w4 ⟨⟨K3, rfl, hK3⟩, hl2⟩
    have hlw := hlw.trans hl2
    obtain ⟨M7, hM7⟩ : ∃ M7 : List UInt8, M7 = M6 ++ K3 := ⟨_, rfl⟩
    have lM7 : M7.length = M6.length + K3.length := by rw [hM7, List.length_append]
    have eM7 : bstr M6 ++ bstr K3 = bstr M7 := by rw [hM7]; exact bstr_app M6 K3
    have cM7 : ¬ 9223372036854775807 < (bstr M6).size + (bstr K3).size := by
      show ¬ 9223372036854775807 < M6.length + K3.length
      omega
    clear hM7
    obtain ⟨M8, hM8⟩ : ∃ M8 : List UInt8, M8 = M7 ++ [120] := ⟨_, rfl⟩
    have lM8 : M8.length = M7.length + 1 := by rw [hM8, List.length_append]; rfl
    have eM8 : bstr M7 ++ (⟨#[120]⟩ : ByteArray) = bstr M8 := by rw [hM8]; exact bstr_app M7 [120]
    have cM8 : ¬ 9223372036854775807 < (bstr M7).size + ((⟨#[120]⟩ : ByteArray)).size := by
      show ¬ 9223372036854775807 < M7.length + 1
      omega
    clear hM8
    clear eM5 cM5 eM6 cM6 hl2
    go_wp2_with fail
    refine (k_any _ _).mono ?_
    rintro e w5 ⟨⟨K4, rfl, hK4⟩, hl2⟩
    have hlw := hlw.trans hl2
    obtain ⟨L, hL⟩ : ∃ L : List UInt8, L = M8 ++ K4 := ⟨_, rfl⟩
    have lL : L.length = M8.length + K4.length := by rw [hL, List.length_append]
    have eL : bstr M8 ++ bstr K4 = bstr L := by rw [hL]; exact bstr_app M8 K4
    have cL : ¬ 9223372036854775807 < (bstr M8).size + (bstr K4).size := by
      show ¬ 9223372036854775807 < M8.length + K4.length
      omega
    clear hL
    have hLl : L.length ≤ 2000 := by
      omega
    have hLs : (bstr L).size ≤ 20000 := by show L.length ≤ _; omega
    clear eM7 cM7 eM8 cM8 hl2 lL lM1 lM2 lM3 lM4 lM5 lM6 lM7 lM8 hK1 hK2 hK3 hK4 hL0
    go_wp2_with fail
    refine (parse_any (bstr L) (fun _ => True) _ (by omega) (fun _ _ => trivial)).mono ?_
    rintro e w1 ⟨k, a, b1, c, d, A1, n1, cp, rfl, hC1, hl1⟩
    obtain ⟨R, hR⟩ : ∃ R, R = parseF (bstr L).data.toList := ⟨_, rfl⟩
    have hps := parse_same (bstr L).data.toList
    rw [← hR] at hC1 hps ⊢
    have hth : thinT R.1 := by rw [hR]; exact parse_thin _
    have HPS := Lib.hid hps
    have HTH := Lib.hid hth
    clear hR hps hth
    go_upto_region 4 with fail
    obtain ⟨g1, hg1⟩ : ∃ g1, g1 = w1.heap.size := ⟨_, rfl⟩
    obtain ⟨W1, hW1⟩ : ∃ W1, W1 = w1.alloc (.cells #[.int .i64 k, .int .u64 a, .int .u64 b1, .int .u64 c, .int .u64 d, .slice A1 n1 cp] 49) := ⟨_, rfl⟩
    have B1 : Blk W1 g1 49 #[.int .i64 k, .int .u64 a, .int .u64 b1, .int .u64 c, .int .u64 d, .slice A1 n1 cp] := by rw [hW1, hg1]; exact Blk.new w1 _ _
    have hl2 : Later w1 W1 := by rw [hW1]; exact (Later.refl w1).alloc _
    have hlw := (hlw.trans hl1).trans hl2
    have hC1 := hC1.later hl2
    rw [← hW1, ← hg1]
    clear hW1 hg1 hl2 hl1
    go_wp2_with fail
    refine (refParse_any (bstr L) (fun _ => True) _ hLs (fun d => atom91_any (bstr L) d hLs) (fun _ _ => trivial)).mono ?_
    rw [HPS.out]
    rintro e w2 ⟨k2, a2, b2, c2, d2, A2, n2, cp2, rfl, hC2, hl2⟩
    have hlw := hlw.trans hl2
    have B1 := blkL hl2 B1
    have hC1 := hC1.later hl2
    clear hl2
    go_upto_region 5 with fail
    obtain ⟨g2, hg2⟩ : ∃ g2, g2 = w2.heap.size := ⟨_, rfl⟩
    obtain ⟨W2, hW2⟩ : ∃ W2, W2 = w2.alloc (.cells #[.int .i64 k2, .int .u64 a2, .int .u64 b2, .int .u64 c2, .int .u64 d2, .slice A2 n2 cp2] 49) := ⟨_, rfl⟩
    have B2 : Blk W2 g2 49 #[.int .i64 k2, .int .u64 a2, .int .u64 b2, .int .u64 c2, .int .u64 d2, .slice A2 n2 cp2] := by rw [hW2, hg2]; exact Blk.new w2 _ _
    have hl2 : Later w2 W2 := by rw [hW2]; exact (Later.refl w2).alloc _
    have hlw := hlw.trans hl2
    have hC1 := hC1.later hl2
    have hC2 := hC2.later hl2
    have B1 := blkL hl2 B1
    rw [← hW2, ← hg2]
    clear hW2 hg2 hl2
    have hE : EndP R k a b1 c d A1 n1 cp k2 a2 b2 c2 d2 A2 n2 cp2 W2 := ⟨fun wx hl => same_any _ R.1 (fun _ => True) (fun _ => True) k a b1 c d A1 n1 cp k2 a2 b2 c2 d2 A2 n2 cp2 wx (Nat.le_refl _) HTH.out (hC1.later hl) (hC2.later hl)⟩
    have HE := Lib.hid hE
    obtain ⟨r1, hr1⟩ : ∃ r1, r1 = R.2.1 := ⟨_, rfl⟩
    obtain ⟨r2, hr2⟩ : ∃ r2, r2 = R.2.2 := ⟨_, rfl⟩
    rw [← hr1, ← hr2]
    have e1 : ((r1 : Int) == (r1 : Int)) = true := beq_self_eq_true _
    have e2 : ((r2 : Int) == (r2 : Int)) = true := beq_self_eq_true _
    have e3 : (r1 == r1) = true := beq_self_eq_true _
    have e4 : (r2 == r2) = true := beq_self_eq_true _
    clear hE hC1 hC2 hr1 hr2 HPS HTH
    go_wp2_with fail
    refine (ereKnown_any _).mono ?_
    rintro e w3 ⟨rfl, hl3⟩
    have B1 := blkL hl3 B1
    have B2 := blkL hl3 B2
    obtain ⟨ha1, ha2, ha3, ha4, ha5, ha6⟩ := cells6 B1
    obtain ⟨hb1, hb2, hb3, hb4, hb5, hb6⟩ := cells6 B2
    go_wp2_with fail
    refine (HE.out.same _ hl3).mono ?_
    rintro e w4 ⟨rfl, hl4⟩
    go_wp2_with fail
    go_ret
    exact ⟨rfl, hlw.trans (hl3.trans hl4)⟩

end Go.Proofs.Ythmjnelnnhidkaa
