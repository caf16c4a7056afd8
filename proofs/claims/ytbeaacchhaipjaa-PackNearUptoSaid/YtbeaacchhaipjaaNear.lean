/-
  The walk of PackNear: bytes that were laid, one of them turned, are read by the calls that laid them as the document says.
-/
import Derived.Test.YtbeaacchhaipjaaReads
import Derived.Deep.DeepCutAuto
namespace Go.Proofs.Ytbeaacchhaipjaa
open Go.RowKit

theorem ask_info : (Try.prog.info? 67).map (fun i => (i.zero, i.size, i.bytes)) = some (some (.agg #[.int .i64 0, .int .u8 0, .int .u64 0, .int .i64 0]), 4, 32) := by kernel_rfl

/-- a value of several cells in a block of its own -/
theorem Reads.new (w : World) (size : Nat) (cs : Array Value) (t : TypeId) (n : Nat) (h : cs.size = n * size) : Reads (w.alloc (.cells cs t)) (w.heap.size + 1) size (some ⟨w.heap.size, 0, none⟩) n cs.toList := by
  refine ⟨by rw [Array.length_toList]; exact h, fun _ => ⟨_, rfl, Nat.lt_succ_self _, fun j u hu => ?_⟩⟩
  rw [Addr.add_lit, Nat.zero_add, cell_of_row _ _ _ _ _ _ (heap_alloc_new w _)]
  simpa using hu
theorem own_slice {w : World} {base size n : Nat} {e : TypeId} {v : Value} {xs : List Value} (h : w.ownsRow base e size v n xs) : ∃ A c, v = .slice A n c := by
  rcases h.2 with ⟨rfl, e⟩ | ⟨g, cap, cur, rfl, _⟩
  · have := h.1
    exact ⟨none, 0, by rw [e]⟩
  · exact ⟨_, _, rfl⟩
theorem flat_snoc (l : List AskV) (y : AskV) : (l ++ [y]).flatMap askCells = l.flatMap askCells ++ askCells y := by simp
theorem asks_snoc {l : List AskV} {y : AskV} (h : ∀ z ∈ l, AskOk z) (hy : AskOk y) : ∀ z ∈ l ++ [y], AskOk z := by
  intro z hz
  rcases List.mem_append.1 hz with h1 | h1
  · exact h z h1
  · rw [List.mem_singleton.1 h1]; exact hy
/-- asks that were put together -/
def Asks (w : World) (base : Nat) (A : Option Addr) (k c : Nat) (la : List AskV) : Prop := w.ownsRow base 67 4 (.slice A k c) k (la.flatMap askCells) ∧ ∀ y ∈ la, AskOk y
theorem ask_dflt (q : Int) : AskOk ⟨q, 255, 18446744073709551615, 1048576⟩ := ⟨by show 18446744073709551615 < 18446744073709551616; decide, by show (-9223372036854775808 : Int) ≤ 1048576; decide, by show (1048576 : Int) ≤ 9223372036854775807; decide⟩
theorem cells_one (y : AskV) : ∀ u ∈ askCells y, u.oneCell' = true := by
  intro u hu
  simp [askCells] at hu
  rcases hu with rfl | rfl | rfl | rfl <;> rfl

/-- the bytes that were laid, one of them turned or none -/
def Turned (w : World) (A : Option Addr) (n c : Nat) (wx : World) : Prop := ∃ l, OwnB wx w.heap.size A n c l ∧ Below w.heap.size w wx

theorem reads_ask (w : World) (o : Obj) (y : AskV) (cs : Array Value) (t : TypeId) (h : cs.toList = askCells y) : Reads ((w.alloc o).alloc (.cells cs t)) (w.heap.size + 2) 4 (some ⟨w.heap.size + 1, 0, none⟩) 1 (askCells y) := by
  have hs : cs.size = 1 * 4 := by rw [← Array.length_toList, h]; rfl
  have := Reads.new (w.alloc o) 4 cs t 1 hs
  rw [h] at this
  simpa using this

theorem wpList_append_ask (w : World) {ops : Array Oper} {rest : List Oper} {o : Oper} {a : Act} {Q : Exit → Act → World → Prop} (hgd : o.guard = none) (s x : Operand)
    (ho : o.op = .call { callee := .builtin .append, args := #[s, x], argTypes := #[63, 63] })
    (base : Nat) (A : Option Addr) (n c : Nat) (la : List AskV) (hs : a.eval s = .slice A n c) (hown : Asks w base A n c la) (y : AskV) (hy : AskOk y)
    (B : Nat) (A2 : Option Addr) (hx : a.eval x = .slice A2 1 1) (hr : Reads w B 4 A2 1 (askCells y)) (hbd : n < 1048577) (hbase : base ≤ w.heap.size)
    (h : ∀ A' n' c' w', n' = n + 1 → Asks w' base A' n' c' (la ++ [y]) → w.grownBy w' (ob A) → wpList Try.prog ops Q rest (a.put o.dst (.slice A' n' c')) w') :
    wpList Try.prog ops Q (o :: rest) a w := by
  obtain ⟨i0, hi, hz0, hz1, hz2⟩ := info_parts ask_info
  refine wpList_append_any w hgd s x 63 ho base 67 i0 _ 4 32 Try.underlying63 hi hz0 hz1 hz2 rfl (by decide) (.slice A n c) n _ hs hown.1 B A2 1 1 (askCells y) hx hr (cells_one y) (by unfold maxLen; omega) (by omega) hbase ?_
  intro v' w' h2 h3 _
  have hv : ∃ A' c', v' = .slice A' (n + 1) c' := by
    rcases h2.2 with ⟨_, e⟩ | ⟨g, cap, cur, rfl, _⟩
    · omega
    · exact ⟨_, _, rfl⟩
  obtain ⟨A', c', rfl⟩ := hv
  rw [ob_own] at h3
  exact h A' _ c' w' rfl ⟨by rw [flat_snoc]; exact h2, asks_snoc hown.2 hy⟩ h3

/-- the bytes, one of them turned or none -/
theorem near_store {w0 w1 : World} {A : Option Addr} {n c : Nat} {l : List UInt8} (hb : Below w0.heap.size w0 w1) (ho : OwnB w1 w0.heap.size A n c l) {k : Nat} (hk : k < n) {x : Int} (h0 : 0 ≤ x) (h1 : x < 256) :
    ∃ g, A = some ⟨g, 0, none⟩ ∧ g < w1.heap.size ∧ (∃ y, w1.cell? ⟨g, k, none⟩ = some (.int .u8 y)) ∧ w1.frozen? ⟨g, k, none⟩ = false ∧
      (∃ l', OwnB (w1.setCell ⟨g, k, none⟩ (.int .u8 x)) w0.heap.size A n c l') ∧ Below w0.heap.size w0 (w1.setCell ⟨g, k, none⟩ (.int .u8 x)) := by
  obtain ⟨g, rfl, hbg, hgl, hcell, hfz, hst⟩ := ho.store hk
  obtain ⟨h2, h3⟩ := hst x h0 h1
  exact ⟨g, rfl, hgl, ⟨_, hcell⟩, hfz, ⟨_, h2⟩, hb.setCell hbg _⟩

set_option maxRecDepth 100000 in
set_option maxHeartbeats 4000000 in
theorem near_any (A : Option Addr) (n c : Nat) (ls : List LayV) (at_ : Int) (tb : UInt8) (A2 : Option Addr) (n2 c2 : Nat) (hs : List AskV) (w : World) (hr : RdL w w.heap.size A n ls) (hok : LaysOk ls) (hn : n ≤ 1048576)
    (hh : RdA w w.heap.size A2 n2 hs) (hhok : ∀ y ∈ hs, AskOk y) :
    Calls Try.prog 10 #[.slice A n c, .int .i64 at_, .int .u8 (tb.toNat : Int), .slice A2 n2 c2] w fun e w' => e = .returned (.bool true) ∧ Below w.heap.size w w' := by
  have HL : Hid (ls.length = n) := hr.len
  have hto : (tb.toNat : Int) < 256 := by have := tb.toNat_lt; omega
  go_enter Try.func10, Try.ntmps10
  go_wp2_with fail
  refine (laid_any A n c ls w hr hok (by omega)).mono ?_
  rintro e w0 ⟨A0, n0, c0, rfl, hown0, hb0⟩
  have hz0 := hb0.size
  have HN : Hid ((laidB ls).length = n0) := hown0.len
  have hn0 : n0 + 20 ≤ 140737488355328 := by have := hok.2; have := HN.out; omega
  have hcap := hown0.cap
  go_upto_if 17 with (fail)
  go_cut [9] (fun s9 wx => s9 = .slice A0 n0 c0 ∧ Turned w A0 n0 c0 wx)
  case first =>
    by_cases hn00 : n0 = 0
    · subst hn00
      go_wp2_with fail
      go_meet
      exact ⟨rfl, _, hown0, hb0⟩
    · obtain ⟨cc, hcc, hccl⟩ := pick_nat at_ (n0 : Int) (by omega)
      have hn0p : 0 < (n0 : Int) := by omega
      obtain ⟨g, rfl, hgl, ⟨y0, hcell⟩, hfz, ⟨l1, hown1⟩, hb1⟩ := near_store (x := (tb.toNat : Int)) hb0 hown0 (k := cc) (by omega) (by omega) hto
      go_wp2_with fail
      refine (pick_at at_ (n0 : Int) cc _ (by omega) (by omega) hcc).mono ?_
      rintro e w' ⟨rfl, rfl⟩
      go_wp2_with fail
      go_meet
      exact ⟨rfl, _, hown1, hb1⟩
  case rest =>
    obtain ⟨rfl, l1, hown1, hb1⟩ := hcut
    obtain ⟨W1, rfl⟩ : ∃ W1, W1 = wc := ⟨wc, rfl⟩
    go_wp2_with fail
    have hsz1 := hb1.size
    go_loopw [10, 11] (fun v i wr => ∃ (k : Nat) (A9 : Option Addr) (c9 : Nat) (la : List AskV), k ≤ n ∧ i = .int .i64 (k : Int) ∧ v = .slice A9 k c9 ∧ Asks wr W1.heap.size A9 k c9 la ∧ Below W1.heap.size W1 wr) (fun _ i _ => n - (intOf i).toNat)
    case atStart => exact ⟨0, none, 0, [], by omega, rfl, rfl, ⟨World.ownsRow_nil _ _ _ _, fun y hy => by cases hy⟩, Below.refl _ _⟩
    case round =>
      obtain ⟨k, A9, c9, la, hk, rfl, rfl, hown2, hbk⟩ := hrel
      have hsz := hbk.size
      have hbw := hb1.trans (hbk.mono hsz1)
      by_cases hlt : k < n
      · obtain ⟨b, off, y, rfl, hbB, hy, d0, d1, d2, d3, d4⟩ := (hr.below hbw).at_ hlt
        obtain ⟨q, hq, hqc⟩ := pick4 y.what
        by_cases hk2 : k < n2
        · obtain ⟨b', off', z, rfl, hbB', hz, e0, e1, e2, e3⟩ := (hh.below hbw).at_ hk2
          have hoz := hhok z (List.mem_of_getElem? hz)
          have hbw' : b' < wr.heap.size := by omega
          by_cases hm : z.what.tmod 3 = 0
          · have hm' : (z.what.tmod 3 == 0) = true := beq_iff_eq.2 hm
            clear hm
            have haok : AskOk ⟨q, z.b, z.n, z.t⟩ := hoz
            go_wp2_with fail
            refine (pick_at y.what 4 q _ (by omega) (by omega) hq).mono ?_
            rintro e w' ⟨rfl, rfl⟩
            go_wp2_with (at_builtin; go_loud (refine wpList_append_ask _ rfl (.tmp 69) (.tmp 71) rfl W1.heap.size A9 k c9 la rfl ⟨World.ownsRow.alloc (World.ownsRow.alloc hown2.1 _) _, hown2.2⟩ (⟨q, z.b, z.n, z.t⟩ : AskV) haok _ (some ⟨wr.heap.size + 1, 0, none⟩) rfl (reads_ask _ _ _ _ _ rfl) (by omega) (by simp; omega) ?_); intro A8 n8 c8 w2 hn8 hown3 hg2; have hn8 := Lib.hid hn8)
            have hb3 : Below W1.heap.size W1 w2 := ((hbk.alloc hsz _).alloc (by simp; omega) _).grown hg2 (by simp; omega) (fun g' e => ((World.ownsRow.lt hown2.1 g' (by rw [ob_own]; exact e)).1))
            go_roundw
            case rel => exact ⟨k + 1, A8, c8, la ++ [(⟨q, z.b, z.n, z.t⟩ : AskV)], by omega, by go_num, rfl, by rw [hn8.out] at hown3; exact hown3, hb3⟩
            case measure => simp [intOf]; omega
          · have hm' : (z.what.tmod 3 == 0) = false := beq_eq_false_iff_ne.2 hm
            clear hm
            have haok : AskOk ⟨q, 255, 18446744073709551615, 1048576⟩ := ask_dflt q
            go_wp2_with fail
            refine (pick_at y.what 4 q _ (by omega) (by omega) hq).mono ?_
            rintro e w' ⟨rfl, rfl⟩
            go_wp2_with (at_builtin; go_loud (refine wpList_append_ask _ rfl (.tmp 69) (.tmp 71) rfl W1.heap.size A9 k c9 la rfl ⟨World.ownsRow.alloc (World.ownsRow.alloc hown2.1 _) _, hown2.2⟩ (⟨q, 255, 18446744073709551615, 1048576⟩ : AskV) haok _ (some ⟨wr.heap.size + 1, 0, none⟩) rfl (reads_ask _ _ _ _ _ rfl) (by omega) (by simp; omega) ?_); intro A8 n8 c8 w2 hn8 hown3 hg2; have hn8 := Lib.hid hn8)
            have hb3 : Below W1.heap.size W1 w2 := ((hbk.alloc hsz _).alloc (by simp; omega) _).grown hg2 (by simp; omega) (fun g' e => ((World.ownsRow.lt hown2.1 g' (by rw [ob_own]; exact e)).1))
            go_roundw
            case rel => exact ⟨k + 1, A8, c8, la ++ [(⟨q, 255, 18446744073709551615, 1048576⟩ : AskV)], by omega, by go_num, rfl, by rw [hn8.out] at hown3; exact hown3, hb3⟩
            case measure => simp [intOf]; omega
        · have haok : AskOk ⟨q, 255, 18446744073709551615, 1048576⟩ := ask_dflt q
          go_wp2_with fail
          refine (pick_at y.what 4 q _ (by omega) (by omega) hq).mono ?_
          rintro e w' ⟨rfl, rfl⟩
          go_wp2_with (at_builtin; go_loud (refine wpList_append_ask _ rfl (.tmp 69) (.tmp 71) rfl W1.heap.size A9 k c9 la rfl ⟨World.ownsRow.alloc (World.ownsRow.alloc hown2.1 _) _, hown2.2⟩ (⟨q, 255, 18446744073709551615, 1048576⟩ : AskV) haok _ (some ⟨wr.heap.size + 1, 0, none⟩) rfl (reads_ask _ _ _ _ _ rfl) (by omega) (by simp; omega) ?_); intro A8 n8 c8 w2 hn8 hown3 hg2; have hn8 := Lib.hid hn8)
          have hb3 : Below W1.heap.size W1 w2 := ((hbk.alloc hsz _).alloc (by simp; omega) _).grown hg2 (by simp; omega) (fun g' e => ((World.ownsRow.lt hown2.1 g' (by rw [ob_own]; exact e)).1))
          go_roundw
          case rel => exact ⟨k + 1, A8, c8, la ++ [(⟨q, 255, 18446744073709551615, 1048576⟩ : AskV)], by omega, by go_num, rfl, by rw [hn8.out] at hown3; exact hown3, hb3⟩
          case measure => simp [intOf]; omega
      · obtain rfl : k = n := by omega
        have hrd := ((hown1.rd.below hbk).more hsz)
        have hra : RdA wr wr.heap.size A9 k la := Reads.of_own hown2.1
        go_wp2_with fail
        refine (known_any _).mono ?_
        rintro e w3 ⟨rfl, hb3⟩
        have hz3 := hb3.size
        go_wp2_with fail
        refine (reads_any A0 _ c0 l1 A9 k c9 la w3 ((hrd.below hb3).more hz3) hcap ((hra.below hb3).more hz3) hown2.2 (by omega) (by omega)).mono ?_
        rintro e w4 ⟨rfl, hb4⟩
        go_wp2_with fail
        go_ret
        exact ⟨rfl, (hbw.trans (hb3.mono (by omega))).trans (hb4.mono (by omega))⟩

end Go.Proofs.Ytbeaacchhaipjaa
