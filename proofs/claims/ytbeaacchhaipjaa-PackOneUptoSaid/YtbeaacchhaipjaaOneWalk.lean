/-
  The walk of PackOne: what is read without anything wrong is laid as the same bytes.
-/
import Derived.Test.YtbeaacchhaipjaaOneLaw
import Derived.Test.YtbeaacchhaipjaaLayOpen
import Derived.Test.YtbeaacchhaipjaaKnown
import Derived.Deep.RegionWith
import Derived.Deep.RegionHeldLaw
import Derived.Deep.DeepCutAuto
namespace Go.Proofs.Ytbeaacchhaipjaa
open Go.RowKit

theorem lay_info : (Try.prog.info? 40).map (fun i => (i.zero, i.size, i.bytes)) = some (some (.agg #[.int .i64 0, .int .u8 0, .int .u64 0, .float .f64 0, .string .empty]), 5, 48) := by kernel_rfl

/-- a value of several cells in a block of its own -/
theorem Reads.new (w : World) (size : Nat) (cs : Array Value) (t : TypeId) (n : Nat) (h : cs.size = n * size) : Reads (w.alloc (.cells cs t)) (w.heap.size + 1) size (some ⟨w.heap.size, 0, none⟩) n cs.toList := by
  refine ⟨by rw [Array.length_toList]; exact h, fun _ => ⟨_, rfl, Nat.lt_succ_self _, fun j u hu => ?_⟩⟩
  rw [Addr.add_lit, Nat.zero_add, cell_of_row _ _ _ _ _ _ (heap_alloc_new w _)]
  simpa using hu
theorem lflat_snoc (l : List LayV) (y : LayV) : (l ++ [y]).flatMap layCells = l.flatMap layCells ++ layCells y := by simp
theorem lays_snoc {l : List LayV} {y : LayV} (h : ∀ z ∈ l, LayOk z) (hy : LayOk y) : ∀ z ∈ l ++ [y], LayOk z := by
  intro z hz
  rcases List.mem_append.1 hz with h1 | h1
  · exact h z h1
  · rw [List.mem_singleton.1 h1]; exact hy
/-- values that were put together -/
def Lays (w : World) (base : Nat) (A : Option Addr) (k c : Nat) (la : List LayV) : Prop := w.ownsRow base 40 5 (.slice A k c) k (la.flatMap layCells) ∧ ∀ y ∈ la, LayOk y
theorem lcells_one (y : LayV) : ∀ u ∈ layCells y, u.oneCell' = true := by
  intro u hu
  simp [layCells] at hu
  rcases hu with rfl | rfl | rfl | rfl | rfl <;> rfl
theorem reads_lay (w : World) (y : LayV) (cs : Array Value) (t : TypeId) (h : cs.toList = layCells y) : Reads (w.alloc (.cells cs t)) (w.heap.size + 1) 5 (some ⟨w.heap.size, 0, none⟩) 1 (layCells y) := by
  have hs : cs.size = 1 * 5 := by rw [← Array.length_toList, h]; rfl
  have := Reads.new w 5 cs t 1 hs
  rw [h] at this
  exact this

theorem wpList_append_lay (w : World) {ops : Array Oper} {rest : List Oper} {o : Oper} {a : Act} {Q : Exit → Act → World → Prop} (hgd : o.guard = none) (s x : Operand)
    (ho : o.op = .call { callee := .builtin .append, args := #[s, x], argTypes := #[35, 35] })
    (base : Nat) (A : Option Addr) (n c : Nat) (la : List LayV) (hs : a.eval s = .slice A n c) (hown : Lays w base A n c la) (y : LayV) (hy : LayOk y)
    (B : Nat) (A2 : Option Addr) (hx : a.eval x = .slice A2 1 1) (hr : Reads w B 5 A2 1 (layCells y)) (hbd : n < 1048577) (hbase : base ≤ w.heap.size)
    (h : ∀ A' n' c' w', n' = n + 1 → Lays w' base A' n' c' (la ++ [y]) → w.grownBy w' (ob A) → wpList Try.prog ops Q rest (a.put o.dst (.slice A' n' c')) w') :
    wpList Try.prog ops Q (o :: rest) a w := by
  obtain ⟨i0, hi, hz0, hz1, hz2⟩ := info_parts lay_info
  refine wpList_append_any w hgd s x 35 ho base 40 i0 _ 5 48 Try.underlying35 hi hz0 hz1 hz2 rfl (by decide) (.slice A n c) n _ hs hown.1 B A2 1 1 (layCells y) hx hr (lcells_one y) (by unfold maxLen; omega) (by omega) hbase ?_
  intro v' w' h2 h3 _
  have hv : ∃ A' c', v' = .slice A' (n + 1) c' := by
    rcases h2.2 with ⟨_, e⟩ | ⟨g, cap, cur, rfl, _⟩
    · omega
    · exact ⟨_, _, rfl⟩
  obtain ⟨A', c', rfl⟩ := hv
  rw [ob_own] at h3
  exact h A' _ c' w' rfl ⟨by rw [lflat_snoc]; exact h2, lays_snoc hown.2 hy⟩ h3

/-- the opened slice of ints -/
def RdI (w : World) (B : Nat) (A : Option Addr) (n : Nat) (ks : List Int) : Prop := Reads w B 1 A n (ks.map (Value.int .i64))
theorem RdI.below {w w' : World} {B n : Nat} {A : Option Addr} {ks : List Int} (h : RdI w B A n ks) (hb : Below B w w') : RdI w' B A n ks := Reads.below h hb
theorem RdI.at_ {w : World} {B n : Nat} {A : Option Addr} {ks : List Int} (h : RdI w B A n ks) {k : Nat} (hk : k < n) : ∃ b off x, A = some ⟨b, off, none⟩ ∧ b < B ∧ w.cell? ⟨b, off + k, none⟩ = some (.int .i64 x) := by
  obtain ⟨ad, rfl, hb, hall⟩ := h.2 (by omega)
  have hlen : ks.length = n := by have := h.1; simpa using this
  have hc := hall k (.int .i64 (ks[k]'(by omega))) (by rw [List.getElem?_map, List.getElem?_eq_getElem (by omega)]; rfl)
  have h0 := hall 0 (.int .i64 (ks[0]'(by omega))) (by rw [List.getElem?_map, List.getElem?_eq_getElem (by omega)]; rfl)
  obtain ⟨b, off, sp⟩ := ad
  have hsp : sp = none := by simpa [Addr.add] using World.cell?_spot h0
  subst hsp
  rw [Addr.add_lit] at hc
  exact ⟨b, off, _, rfl, hb, hc⟩

/-- the Reader stays apart from what was put together -/
theorem rr_lays {w w1 : World} {B g base : Nat} {l : List UInt8} {s : Nat × Int} {A : Option Addr} {k c : Nat} {la : List LayV} (h : RrOk w B g l s) (hl : Lays w base A k c la) (hg : w.grownBy w1 (ob A)) : RrOk w1 B g l s := by
  have hne : ∀ g' t cs, Blk w g' t cs → 40 ≠ t → ob A ≠ some g' := by
    intro g' t cs hb ht
    have := own_blk_ne hl.1 hb ht
    rw [ob_own] at this
    exact this
  refine h.fr (Fr.of_grown hg) ?_ ?_
  · obtain ⟨_, _, _, A', n', c', hb, _⟩ := h
    exact hne g _ _ hb (by decide)
  · intro A' n' c' ho j hj
    rcases ho.2 with ⟨e, _⟩ | ⟨g', cap, cur, e, _, hh, _⟩
    · injection e with e; rw [e] at hj; cases hj
    · injection e with e
      rw [e] at hj
      injection hj with hj
      subst hj
      exact hne g' _ _ hh (by decide)
theorem lays_rr {w w1 : World} {B g base : Nat} {l : List UInt8} {s : Nat × Int} {A : Option Addr} {k c : Nat} {la : List LayV} (h : RrOk w B g l s) (hl : Lays w base A k c la) (hf : Fr w w1 (fun j => j = g)) : Lays w1 base A k c la := by
  refine ⟨ownsRow_fr hl.1 hf ?_, hl.2⟩
  intro j hj e
  subst e
  obtain ⟨_, _, _, A', n', c', hb, _⟩ := h
  exact own_blk_ne hl.1 hb (by decide) hj

/-- one thing read, put into the value under way -/
theorem reads_lay3 (w : World) (y : LayV) (cs : Array Value) (t : TypeId) (g j : Nat) (u : Value) (h : cs.toList = layCells y) : Reads ((w.setCell ⟨g, j, none⟩ u).alloc (.cells cs t)) (w.heap.size + 1) 5 (some ⟨w.heap.size, 0, none⟩) 1 (layCells y) := by
  have := reads_lay (w.setCell ⟨g, j, none⟩ u) y cs t h
  have e : (w.setCell ⟨g, j, none⟩ u).heap.size = w.heap.size := by simp [World.setCell]
  rw [e] at this
  exact this
theorem one_step {w wr w3 : World} {base g k c9 p : Nat} {bad : Int} {A9 : Option Addr} {la : List LayV} {l : List UInt8} {s2 : Nat × Int} {cs : Array Value} (hla : Lays wr base A9 k c9 la) (hrd : RrOk wr base g l (p, bad))
    (hbw : Below base w wr) (hsz : base ≤ wr.heap.size) (hf3 : Fr (wr.alloc (.cells cs 40)) w3 (fun j => j = g)) (hr3 : RrOk w3 base g l s2) (j : Nat) (u : Value) :
    Lays (w3.setCell ⟨wr.heap.size, j, none⟩ u) base A9 k c9 la ∧ RrOk (w3.setCell ⟨wr.heap.size, j, none⟩ u) base g l s2 ∧ Below base w (w3.setCell ⟨wr.heap.size, j, none⟩ u) := by
  have hgl := hrd.lt
  have hgb := hrd.1
  have hz3 := hf3.size
  have hx3 : Blk w3 wr.heap.size 40 cs := (Blk.new wr _ cs).fr hf3 (by omega)
  have h1 : Lays w3 base A9 k c9 la := ⟨ownsRow_fr (World.ownsRow.alloc hla.1 _) hf3 (by
    intro j hj e
    subst e
    obtain ⟨_, _, _, A', n', c', hb, _⟩ := hrd
    exact own_blk_ne hla.1 hb (by decide) hj), hla.2⟩
  have hf : Fr w3 (w3.setCell ⟨wr.heap.size, j, none⟩ u) (fun j => j = wr.heap.size) := (Fr.refl w3 (fun j => j = wr.heap.size)).set (a := ⟨wr.heap.size, j, none⟩) (fun _ => rfl) u
  refine ⟨⟨ownsRow_fr h1.1 hf ?_, h1.2⟩, hr3.fr hf (by omega) ?_, ?_⟩
  · intro j hj e
    subst e
    have := (World.ownsRow.lt hla.1 _ hj).2
    omega
  · intro A' n' c' ho j hj e
    subst e
    exact ho.ne_blk hx3 (by decide) hj
  · have h2 : Below base w w3 := hbw.trans (((Below.refl base wr).alloc hsz (.cells cs 40)).trans (hf3.below (B := base) (by simp; omega) (fun j hj e => by omega)))
    exact h2.setCell hsz u

theorem rByte_val {l : List UInt8} {s : Nat × Int} {m : Int} : 0 ≤ (rByte l s m).1 ∧ (rByte l s m).1 < 256 := by
  have h := (l[s.1]?.getD 0).toNat_lt
  unfold rByte
  repeat' split
  all_goals first | (constructor <;> decide) | (constructor <;> (simp only; omega))
theorem bdd' {α β : Type} (a : α) (b : β) {c : Int} (h : -100 < c ∧ c < 100) : -100 < (a, b, c).2.2 ∧ (a, b, c).2.2 < 100 := h
theorem lt1 {α : Type} {a : Nat} (b : α) (h : a < 18446744073709551616) : (a, b).1 < 18446744073709551616 := h
theorem rByte_bad' {l : List UInt8} {s : Nat × Int} {m : Int} (hbad : -100 < s.2 ∧ s.2 < 100) : -100 < (rByte l s m).2.2 ∧ (rByte l s m).2.2 < 100 := by
  unfold rByte
  repeat' split
  all_goals first | exact hbad | exact bdd' _ _ (by decide)
theorem rFloat_bad' {l : List UInt8} {s : Nat × Int} (hbad : -100 < s.2 ∧ s.2 < 100) : (-100 < (rFloat l s).2.2 ∧ (rFloat l s).2.2 < 100) ∧ (rFloat l s).1 < 18446744073709551616 := by
  have h := le8_lt l s.1 0 (by omega)
  have e : (256 : Nat) ^ (8 - 0) = 18446744073709551616 := by decide
  rw [e] at h
  unfold rFloat
  repeat' split
  all_goals first | exact ⟨hbad, lt1 _ (by decide)⟩ | exact ⟨bdd' _ _ (by decide), lt1 _ (by decide)⟩ | exact ⟨bdd' _ _ (by decide), lt1 _ h⟩
theorem rText_bad' {l : List UInt8} {s : Nat × Int} {m : Int} (hbad : -100 < s.2 ∧ s.2 < 100) : -100 < (rText l s m).2.2 ∧ (rText l s m).2.2 < 100 := by
  have h := rNum_bad (l := l) (m := m.toNat) hbad
  unfold rText
  repeat' split
  all_goals first | exact h.1 | exact bdd' _ _ (by decide)
theorem end_zero {l : List UInt8} {p : Nat} {bad : Int} (hp : p ≤ l.length) (h : rEnd l (p, bad) = 0) : bad = 0 ∧ p = l.length := by
  unfold rEnd at h
  by_cases c : (p, bad).2 = 0 ∧ (p, bad).1 < l.length
  · rw [if_pos c] at h; cases h
  · rw [if_neg c] at h
    have h' : bad = 0 := h
    refine ⟨h', ?_⟩
    have : ¬ p < l.length := fun hl => c ⟨h', hl⟩
    omega

set_option maxRecDepth 100000 in
set_option maxHeartbeats 1000000 in
theorem reader_end_q (w : World) (base g : Nat) (l : List UInt8) (p : Nat) (bad : Int) (hr : RrOk w base g l (p, bad)) (hbad : -100 < bad ∧ bad < 100) :
    Calls Try.prog 34 #[.pointer (some ⟨g, 0, none⟩)] w (fun e w' => e = .returned (.int .i64 (rEnd l (p, bad))) ∧ ∃ m, w' = w.drewN m) := by
  obtain ⟨hb, h1, h2, A, n, c, h3, h4⟩ := hr
  have HL : Hid (l.length = n) := h4.len
  have hc0 := h3.cell 0
  have hc1 := h3.cell 1
  have hc2 := h3.cell 2
  simp only [List.getElem?_toArray, List.getElem?_cons_succ, List.getElem?_cons_zero] at hc0 hc1 hc2
  have hn : n ≤ 140737488355320 := by have := HL.out; omega
  have hp : p ≤ n := by have := HL.out; simp only at h1; omega
  by_cases hb0 : bad = 0
  · subst hb0
    by_cases hlt : p < n
    · have hspec : rEnd l (p, 0) = 11 := by unfold rEnd; rw [if_pos ⟨rfl, by rw [HL.out]; exact hlt⟩]
      rw [hspec]
      have hlti : (p : Int) < (n : Int) := by omega
      go_enter Try.func34, Try.ntmps34
      go_wp2_with fail
      go_quiet (fail)
      go_wp2_with fail
      go_ret
      exact ⟨rfl, _, rfl⟩
    · have hspec : rEnd l (p, 0) = 0 := by unfold rEnd; rw [if_neg (by have := HL.out; simp only; omega)]
      rw [hspec]
      have hlti : (n : Int) ≤ (p : Int) := by omega
      go_enter Try.func34, Try.ntmps34
      go_wp2_with fail
      go_quiet (fail)
      go_wp2_with fail
      go_ret
      exact ⟨rfl, _, rfl⟩
  · have hspec : rEnd l (p, bad) = bad := by unfold rEnd; rw [if_neg (fun h => hb0 h.1)]
    rw [hspec]
    have hbb : (bad == 0) = false := beq_eq_false_iff_ne.2 hb0
    go_enter Try.func34, Try.ntmps34
    go_wp2_with fail
    go_quiet (fail)
    go_wp2_with fail
    go_ret
    exact ⟨rfl, _, rfl⟩

theorem run_store_float (P : Program) (w : World) (a : Addr) (m : Mode) (k : FloatKind) (b : Nat) : (store a (.float k b) m).run P w = stored P w a (.float k b) m := run_store P w a _ m rfl
attribute [local go_sem] run_store_float

set_option maxRecDepth 100000 in
set_option maxHeartbeats 4000000 in
theorem packOne_any (A : Option Addr) (n c : Nat) (l : List UInt8) (A2 : Option Addr) (n2 c2 : Nat) (ks : List Int) (w : World) (hr : RdB w w.heap.size A n l) (hc : n ≤ c) (hk : RdI w w.heap.size A2 n2 ks) (hn : n ≤ 1048576) (hn2 : n2 ≤ 1048576) :
    Calls Try.prog 13 #[.slice A n c, .slice A2 n2 c2] w fun e w' => e = .returned (.bool true) ∧ Below w.heap.size w w' := by
  have HL : Hid (l.length = n) := hr.len
  go_enter Try.func13, Try.ntmps13
  go_wp2_with fail
  refine (newReader_any A n c l w hr (by omega)).mono ?_
  rintro e w1 ⟨g, rfl, hg, hr1, hb1⟩
  have hs1 := hb1.size
  go_wp2_with fail
  refine (known_any _).mono ?_
  rintro e w2 ⟨rfl, hb2⟩
  have hs2 := hb2.size
  have hr2 := hr1.keepB hb2
  have hbw2 := hb1.trans (hb2.mono hs1)
  clear hr1
  go_wp2_with fail
  go_loopw [6, 7] (fun v i wr => ∃ (k : Nat) (A9 : Option Addr) (c9 : Nat) (la : List LayV) (p : Nat) (bad : Int), k ≤ n2 ∧ i = .int .i64 (k : Int) ∧ v = .slice A9 k c9 ∧ Lays wr w.heap.size A9 k c9 la ∧ RrOk wr w.heap.size g l (p, bad) ∧
      Hid (OneInv l la p bad) ∧ -100 < bad ∧ bad < 100 ∧ Below w.heap.size w wr) (fun _ i _ => n2 - (intOf i).toNat)
  case atStart => exact ⟨0, none, 0, [], 0, 0, by omega, rfl, rfl, ⟨World.ownsRow_nil _ _ _ _, fun y hy => by cases hy⟩, hr2, (fun _ => rfl), by decide, by decide, hbw2⟩
  case round =>
    obtain ⟨k, A9, c9, la, p, bad, hkn, rfl, rfl, hla, hrd, hinv, hbd0, hbd1, hbw⟩ := hrel
    have hsz := hbw.size
    have hgl := hrd.lt
    by_cases hlt : k < n2
    · obtain ⟨b, off, x, rfl, hbB, hx⟩ := (hk.below hbw).at_ hlt
      obtain ⟨q, hq, hqc⟩ := pick4 x
      rcases hqc with rfl | rfl | rfl | rfl
      · obtain ⟨v, p2, b2, hv⟩ : ∃ v p2 b2, Hid (rByte l (p, bad) 255 = (v, p2, b2)) := ⟨_, _, _, rfl⟩
        have hbn := rByte_bad' (l := l) (s := (p, bad)) (m := 255) ⟨hbd0, hbd1⟩
        have hin := one_byte hinv.out 0 0 ⟨#[]⟩ hrd.2.1
        have hv0 := rByte_val (l := l) (s := (p, bad)) (m := 255)
        rw [hv.out] at hbn hin hv0
        have hin := Lib.hid hin
        have hvb : ((byt v).toNat : Int) = v := byt_toNat hv0.1 hv0.2
        have hvb := Lib.hid hvb
        have hyok : LayOk ⟨0, byt v, 0, 0, ⟨#[]⟩⟩ := ⟨by show 0 < _; decide, by show 0 < _; decide⟩
        have hW : RrOk (wr.alloc (.cells #[.int .i64 0, .int .u8 0, .int .u64 0, .float .f64 0, .string ⟨#[]⟩] 40)) w.heap.size g l (p, bad) := hrd.keepB ((Below.refl _ _).alloc (Nat.le_refl _) _)
        have H1 := Lib.hid (reader_byte 255 (by decide) (by decide) _ w.heap.size g l p bad hW ⟨hbd0, hbd1⟩)
        rw [hv.out] at H1
        clear hv hW
        go_wp2_with fail
        refine (pick_at x 4 0 _ (by omega) (by omega) hq).mono ?_
        rintro e w' ⟨rfl, rfl⟩
        go_wp2_with fail
        refine H1.out.mono ?_
        rintro e w3 ⟨rfl, hr3, hf3⟩
        have hz3 : wr.heap.size < w3.heap.size := by have := hf3.size; simp at this; omega
        obtain ⟨hla3, hrr3, hbw3⟩ := one_step hla hrd hbw hsz hf3 hr3 1 (.int .u8 v)
        have hx3 : Blk w3 wr.heap.size 40 #[.int .i64 0, .int .u8 0, .int .u64 0, .float .f64 0, .string ⟨#[]⟩] := (Blk.new wr _ _).fr hf3 (by omega)
        have x0 : w3.cell? ⟨wr.heap.size, 0, none⟩ = some (.int .i64 0) := hx3.cell 0
        have x1 : w3.cell? ⟨wr.heap.size, 1, none⟩ = some (.int .u8 0) := hx3.cell 1
        have x2 : w3.cell? ⟨wr.heap.size, 2, none⟩ = some (.int .u64 0) := hx3.cell 2
        have x3 : w3.cell? ⟨wr.heap.size, 3, none⟩ = some (.float .f64 0) := hx3.cell 3
        have x4 : w3.cell? ⟨wr.heap.size, 4, none⟩ = some (.string ⟨#[]⟩) := hx3.cell 4
        have fz : w3.frozen? ⟨wr.heap.size, 1, none⟩ = false := hx3.frozen 1
        have hz4 : (w3.setCell ⟨wr.heap.size, 1, none⟩ (.int .u8 v)).heap.size = w3.heap.size := by simp [World.setCell]
        have hz5 : w.heap.size ≤ (w3.setCell ⟨wr.heap.size, 1, none⟩ (.int .u8 v)).heap.size := by rw [hz4]; omega
        clear hz4
        go_wp2_with (at_builtin; go_loud (refine wpList_append_lay _ rfl (.tmp 51) (.tmp 53) rfl w.heap.size A9 k c9 la rfl ⟨World.ownsRow.alloc hla3.1 _, hla3.2⟩ (⟨0, byt v, 0, 0, ⟨#[]⟩⟩ : LayV) hyok (w3.heap.size + 1) (some ⟨w3.heap.size, 0, none⟩) rfl (reads_lay3 _ _ _ _ _ _ _ (by simp [layCells, hvb.out])) (by omega) (by simp; omega) ?_); intro A8 n8 c8 w5 hn8 hla5 hg5; have hn8 := Lib.hid hn8)
        have hrr5 := rr_lays (hrr3.keepB ((Below.refl _ _).alloc (Nat.le_refl _) _)) ⟨World.ownsRow.alloc hla3.1 _, hla3.2⟩ hg5
        have hb5 : Below w.heap.size w w5 := (hbw3.alloc hz5 _).grown hg5 (by simp; omega) (fun g' e => ((World.ownsRow.lt hla3.1 g' (by rw [ob_own]; exact e)).1))
        go_roundw
        case rel => exact ⟨k + 1, A8, c8, la ++ [⟨0, byt v, 0, 0, ⟨#[]⟩⟩], p2, b2, by omega, by go_num, rfl, by rw [hn8.out] at hla5; exact hla5, hrr5, hin, hbn.1, hbn.2, hb5⟩
        case measure => simp [intOf]; omega
      · obtain ⟨v, p2, b2, hv⟩ : ∃ v p2 b2, Hid (rNum l (p, bad) 18446744073709551615 = (v, p2, b2)) := ⟨_, _, _, rfl⟩
        have hbn := rNum_bad (l := l) (s := (p, bad)) (m := 18446744073709551615) ⟨hbd0, hbd1⟩
        have hin := one_num hinv.out 0 0 ⟨#[]⟩ hrd.2.1 18446744073709551615
        rw [hv.out] at hbn hin
        have hin := Lib.hid hin
        have hyok : LayOk ⟨1, 0, v, 0, ⟨#[]⟩⟩ := ⟨hbn.2, by show 0 < _; decide⟩
        have hW : RrOk (wr.alloc (.cells #[.int .i64 1, .int .u8 0, .int .u64 0, .float .f64 0, .string ⟨#[]⟩] 40)) w.heap.size g l (p, bad) := hrd.keepB ((Below.refl _ _).alloc (Nat.le_refl _) _)
        have H1 := Lib.hid (reader_num 18446744073709551615 (by decide) _ w.heap.size g l p bad hW ⟨hbd0, hbd1⟩)
        rw [hv.out] at H1
        clear hv hW
        go_wp2_with fail
        refine (pick_at x 4 1 _ (by omega) (by omega) hq).mono ?_
        rintro e w' ⟨rfl, rfl⟩
        go_wp2_with fail
        refine H1.out.mono ?_
        rintro e w3 ⟨rfl, hr3, hf3⟩
        have hz3 : wr.heap.size < w3.heap.size := by have := hf3.size; simp at this; omega
        obtain ⟨hla3, hrr3, hbw3⟩ := one_step hla hrd hbw hsz hf3 hr3 2 (.int .u64 (v : Int))
        have hx3 : Blk w3 wr.heap.size 40 #[.int .i64 1, .int .u8 0, .int .u64 0, .float .f64 0, .string ⟨#[]⟩] := (Blk.new wr _ _).fr hf3 (by omega)
        have x0 : w3.cell? ⟨wr.heap.size, 0, none⟩ = some (.int .i64 1) := hx3.cell 0
        have x1 : w3.cell? ⟨wr.heap.size, 1, none⟩ = some (.int .u8 0) := hx3.cell 1
        have x2 : w3.cell? ⟨wr.heap.size, 2, none⟩ = some (.int .u64 0) := hx3.cell 2
        have x3 : w3.cell? ⟨wr.heap.size, 3, none⟩ = some (.float .f64 0) := hx3.cell 3
        have x4 : w3.cell? ⟨wr.heap.size, 4, none⟩ = some (.string ⟨#[]⟩) := hx3.cell 4
        have fz : w3.frozen? ⟨wr.heap.size, 2, none⟩ = false := hx3.frozen 2
        have hz4 : (w3.setCell ⟨wr.heap.size, 2, none⟩ (.int .u64 (v : Int))).heap.size = w3.heap.size := by simp [World.setCell]
        have hz5 : w.heap.size ≤ (w3.setCell ⟨wr.heap.size, 2, none⟩ (.int .u64 (v : Int))).heap.size := by rw [hz4]; omega
        clear hz4
        go_wp2_with (at_builtin; go_loud (refine wpList_append_lay _ rfl (.tmp 51) (.tmp 53) rfl w.heap.size A9 k c9 la rfl ⟨World.ownsRow.alloc hla3.1 _, hla3.2⟩ (⟨1, 0, v, 0, ⟨#[]⟩⟩ : LayV) hyok (w3.heap.size + 1) (some ⟨w3.heap.size, 0, none⟩) rfl (reads_lay3 _ _ _ _ _ _ _ rfl) (by omega) (by simp; omega) ?_); intro A8 n8 c8 w5 hn8 hla5 hg5; have hn8 := Lib.hid hn8)
        have hrr5 := rr_lays (hrr3.keepB ((Below.refl _ _).alloc (Nat.le_refl _) _)) ⟨World.ownsRow.alloc hla3.1 _, hla3.2⟩ hg5
        have hb5 : Below w.heap.size w w5 := (hbw3.alloc hz5 _).grown hg5 (by simp; omega) (fun g' e => ((World.ownsRow.lt hla3.1 g' (by rw [ob_own]; exact e)).1))
        go_roundw
        case rel => exact ⟨k + 1, A8, c8, la ++ [⟨1, 0, v, 0, ⟨#[]⟩⟩], p2, b2, by omega, by go_num, rfl, by rw [hn8.out] at hla5; exact hla5, hrr5, hin, hbn.1.1, hbn.1.2, hb5⟩
        case measure => simp [intOf]; omega
      · obtain ⟨v, p2, b2, hv⟩ : ∃ v p2 b2, Hid (rText l (p, bad) (n : Int) = (v, p2, b2)) := ⟨_, _, _, rfl⟩
        have hbn := rText_bad' (l := l) (s := (p, bad)) (m := (n : Int)) ⟨hbd0, hbd1⟩
        have hin := one_text hinv.out 0 0 0 hrd.2.1 (n : Int)
        rw [hv.out] at hbn hin
        have hin := Lib.hid hin
        have hyok : LayOk ⟨2, 0, 0, 0, bstr v⟩ := ⟨by show 0 < _; decide, by show 0 < _; decide⟩
        have hW : RrOk (wr.alloc (.cells #[.int .i64 2, .int .u8 0, .int .u64 0, .float .f64 0, .string ⟨#[]⟩] 40)) w.heap.size g l (p, bad) := hrd.keepB ((Below.refl _ _).alloc (Nat.le_refl _) _)
        have H1 := Lib.hid (reader_text (n : Int) (by omega) (by omega) _ w.heap.size g l p bad hW ⟨hbd0, hbd1⟩)
        rw [hv.out] at H1
        clear hv hW
        go_wp2_with fail
        refine (pick_at x 4 2 _ (by omega) (by omega) hq).mono ?_
        rintro e w' ⟨rfl, rfl⟩
        go_wp2_with fail
        refine H1.out.mono ?_
        rintro e w3 ⟨rfl, hr3, hf3⟩
        have hz3 : wr.heap.size < w3.heap.size := by have := hf3.size; simp at this; omega
        obtain ⟨hla3, hrr3, hbw3⟩ := one_step hla hrd hbw hsz hf3 hr3 4 (.string (bstr v))
        have hx3 : Blk w3 wr.heap.size 40 #[.int .i64 2, .int .u8 0, .int .u64 0, .float .f64 0, .string ⟨#[]⟩] := (Blk.new wr _ _).fr hf3 (by omega)
        have x0 : w3.cell? ⟨wr.heap.size, 0, none⟩ = some (.int .i64 2) := hx3.cell 0
        have x1 : w3.cell? ⟨wr.heap.size, 1, none⟩ = some (.int .u8 0) := hx3.cell 1
        have x2 : w3.cell? ⟨wr.heap.size, 2, none⟩ = some (.int .u64 0) := hx3.cell 2
        have x3 : w3.cell? ⟨wr.heap.size, 3, none⟩ = some (.float .f64 0) := hx3.cell 3
        have x4 : w3.cell? ⟨wr.heap.size, 4, none⟩ = some (.string ⟨#[]⟩) := hx3.cell 4
        have fz : w3.frozen? ⟨wr.heap.size, 4, none⟩ = false := hx3.frozen 4
        have hz4 : (w3.setCell ⟨wr.heap.size, 4, none⟩ (.string (bstr v))).heap.size = w3.heap.size := by simp [World.setCell]
        have hz5 : w.heap.size ≤ (w3.setCell ⟨wr.heap.size, 4, none⟩ (.string (bstr v))).heap.size := by rw [hz4]; omega
        clear hz4
        go_wp2_with (at_builtin; go_loud (refine wpList_append_lay _ rfl (.tmp 51) (.tmp 53) rfl w.heap.size A9 k c9 la rfl ⟨World.ownsRow.alloc hla3.1 _, hla3.2⟩ (⟨2, 0, 0, 0, bstr v⟩ : LayV) hyok (w3.heap.size + 1) (some ⟨w3.heap.size, 0, none⟩) rfl (reads_lay3 _ _ _ _ _ _ _ rfl) (by omega) (by simp; omega) ?_); intro A8 n8 c8 w5 hn8 hla5 hg5; have hn8 := Lib.hid hn8)
        have hrr5 := rr_lays (hrr3.keepB ((Below.refl _ _).alloc (Nat.le_refl _) _)) ⟨World.ownsRow.alloc hla3.1 _, hla3.2⟩ hg5
        have hb5 : Below w.heap.size w w5 := (hbw3.alloc hz5 _).grown hg5 (by simp; omega) (fun g' e => ((World.ownsRow.lt hla3.1 g' (by rw [ob_own]; exact e)).1))
        go_roundw
        case rel => exact ⟨k + 1, A8, c8, la ++ [⟨2, 0, 0, 0, bstr v⟩], p2, b2, by omega, by go_num, rfl, by rw [hn8.out] at hla5; exact hla5, hrr5, hin, hbn.1, hbn.2, hb5⟩
        case measure => simp [intOf]; omega
      · obtain ⟨v, p2, b2, hv⟩ : ∃ v p2 b2, Hid (rFloat l (p, bad) = (v, p2, b2)) := ⟨_, _, _, rfl⟩
        have hbn := rFloat_bad' (l := l) (s := (p, bad)) ⟨hbd0, hbd1⟩
        have hin := one_float hinv.out 0 0 ⟨#[]⟩ hrd.2.1
        rw [hv.out] at hbn hin
        have hin := Lib.hid hin
        have hyok : LayOk ⟨3, 0, 0, v, ⟨#[]⟩⟩ := ⟨by show 0 < _; decide, hbn.2⟩
        have hW : RrOk (wr.alloc (.cells #[.int .i64 3, .int .u8 0, .int .u64 0, .float .f64 0, .string ⟨#[]⟩] 40)) w.heap.size g l (p, bad) := hrd.keepB ((Below.refl _ _).alloc (Nat.le_refl _) _)
        have H1 := Lib.hid (reader_float _ w.heap.size g l p bad hW ⟨hbd0, hbd1⟩)
        rw [hv.out] at H1
        clear hv hW
        go_wp2_with fail
        refine (pick_at x 4 3 _ (by omega) (by omega) hq).mono ?_
        rintro e w' ⟨rfl, rfl⟩
        go_wp2_with fail
        refine H1.out.mono ?_
        rintro e w3 ⟨rfl, hr3, hf3⟩
        have hz3 : wr.heap.size < w3.heap.size := by have := hf3.size; simp at this; omega
        obtain ⟨hla3, hrr3, hbw3⟩ := one_step hla hrd hbw hsz hf3 hr3 3 (.float .f64 v)
        have hx3 : Blk w3 wr.heap.size 40 #[.int .i64 3, .int .u8 0, .int .u64 0, .float .f64 0, .string ⟨#[]⟩] := (Blk.new wr _ _).fr hf3 (by omega)
        have x0 : w3.cell? ⟨wr.heap.size, 0, none⟩ = some (.int .i64 3) := hx3.cell 0
        have x1 : w3.cell? ⟨wr.heap.size, 1, none⟩ = some (.int .u8 0) := hx3.cell 1
        have x2 : w3.cell? ⟨wr.heap.size, 2, none⟩ = some (.int .u64 0) := hx3.cell 2
        have x3 : w3.cell? ⟨wr.heap.size, 3, none⟩ = some (.float .f64 0) := hx3.cell 3
        have x4 : w3.cell? ⟨wr.heap.size, 4, none⟩ = some (.string ⟨#[]⟩) := hx3.cell 4
        have fz : w3.frozen? ⟨wr.heap.size, 3, none⟩ = false := hx3.frozen 3
        have hz4 : (w3.setCell ⟨wr.heap.size, 3, none⟩ (.float .f64 v)).heap.size = w3.heap.size := by simp [World.setCell]
        have hz5 : w.heap.size ≤ (w3.setCell ⟨wr.heap.size, 3, none⟩ (.float .f64 v)).heap.size := by rw [hz4]; omega
        clear hz4
        go_wp2_with (at_builtin; go_loud (refine wpList_append_lay _ rfl (.tmp 51) (.tmp 53) rfl w.heap.size A9 k c9 la rfl ⟨World.ownsRow.alloc hla3.1 _, hla3.2⟩ (⟨3, 0, 0, v, ⟨#[]⟩⟩ : LayV) hyok (w3.heap.size + 1) (some ⟨w3.heap.size, 0, none⟩) rfl (reads_lay3 _ _ _ _ _ _ _ rfl) (by omega) (by simp; omega) ?_); intro A8 n8 c8 w5 hn8 hla5 hg5; have hn8 := Lib.hid hn8)
        have hrr5 := rr_lays (hrr3.keepB ((Below.refl _ _).alloc (Nat.le_refl _) _)) ⟨World.ownsRow.alloc hla3.1 _, hla3.2⟩ hg5
        have hb5 : Below w.heap.size w w5 := (hbw3.alloc hz5 _).grown hg5 (by simp; omega) (fun g' e => ((World.ownsRow.lt hla3.1 g' (by rw [ob_own]; exact e)).1))
        go_roundw
        case rel => exact ⟨k + 1, A8, c8, la ++ [⟨3, 0, 0, v, ⟨#[]⟩⟩], p2, b2, by omega, by go_num, rfl, by rw [hn8.out] at hla5; exact hla5, hrr5, hin, hbn.1.1, hbn.1.2, hb5⟩
        case measure => simp [intOf]; omega
    · obtain rfl : k = n2 := by omega
      have H1 := Lib.hid (reader_end wr.drew w.heap.size g l p bad (hrd.drewN 1) ⟨hbd0, hbd1⟩)
      have q1 : RdB wr.drew w.heap.size A n l := (hr.below hbw).drewN 1
      have hbwd : Below w.heap.size w wr.drew := below_drewN hbw 1
      have hszd : w.heap.size ≤ wr.drew.heap.size := hsz
      have hrl : RdL wr.drew wr.drew.heap.size A9 k la := Reads.of_own hla.1
      have hlad : Lays wr.drew w.heap.size A9 k c9 la := hla
      have hrdd : RrOk wr.drew w.heap.size g l (p, bad) := hrd
      by_cases hE : rEnd l (p, bad) = 0
      · have hb0 : bad = 0 := (end_zero hrd.2.1 hE).1
        have hpl : p = l.length := (end_zero hrd.2.1 hE).2
        have hl : laidB la = l := by have := hinv.out hb0; rw [hpl, List.take_length] at this; exact this
        have hlok : LaysOk la := ⟨hla.2, by rw [hl, HL.out]; omega⟩
        have k0 := run_str (c := c) q1
        have hseq : ((bstr l).toList == (bstr l).toList) = true := seq_true rfl
        have Hl := Lib.hid (fun W (h : RdL W W.heap.size A9 k la) => laid_any A9 k c9 la W h hlok (by omega))
        rw [hE] at H1
        simp only [hl] at Hl
        clear hE hl hb0 hpl
        go_wp2_with fail
        go_region_held_law (fun w' => (convert 22 9 (.slice A n c)).run Try.prog w' = .ok (.string (bstr l)) w') (with_reducible assumption)
          (first
            | (go_at_call 34; refine H1.out.mono ?_; rintro e w3 ⟨rfl, hr3, hf3⟩; have hk3 : RdL w3 w3.heap.size A9 k la := Reads.of_own (lays_rr hrdd hlad hf3).1; have q3 := q1.fr hf3 hszd (fun j hj e => by have := hrd.1; omega); have k3 := run_str (c := c) q3)
            | (go_at_call 41; refine (Hl.out _ hk3).mono ?_; rintro e w4 ⟨A4, n4, c4, rfl, hown4, hb4⟩; have k4 := run_str (c := c) (q3.below (hb4.mono (by have := hf3.size; simp at this; omega))); have k5 := run_str (c := c4) hown4.rd))
        go_wp2_with fail
        go_ret
        have hb3 : Below w.heap.size w w3 := hbwd.trans (hf3.below (B := w.heap.size) hszd (fun j hj e => by have := hrd.1; omega))
        exact ⟨rfl, hb3.trans (hb4.mono hb3.size)⟩
      · have hEb : (rEnd l (p, bad) != 0) = true := bne_iff_ne.2 hE
        clear hE
        go_wp2_with fail
        go_quiet ((go_at_call 34; exact Calls.quiet_of (reader_end_q _ w.heap.size g l p bad (hrd.drewN _) ⟨hbd0, hbd1⟩)))
        go_wp2_with fail
        go_ret
        exact ⟨rfl, below_drewN hbw _⟩

end Go.Proofs.Ytbeaacchhaipjaa
