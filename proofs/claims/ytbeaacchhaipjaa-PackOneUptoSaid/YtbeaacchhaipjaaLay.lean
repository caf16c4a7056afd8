/-
  What is laid: the law's Lay values, as cells and as bytes.
-/
import Derived.Test.YtbeaacchhaipjaaFloat
import Derived.Test.YtbeaacchhaipjaaPick
namespace Go.Proofs.Ytbeaacchhaipjaa
open Go.RowKit

/-- one thing that is laid -/
structure LayV where
  what : Int
  b : UInt8
  n : Nat
  x : Nat
  t : ByteArray

def layCells (y : LayV) : List Value := [.int .i64 y.what, .int .u8 (y.b.toNat : Int), .int .u64 (y.n : Int), .float .f64 y.x, .string y.t]
def LayOk (y : LayV) : Prop := y.n < 18446744073709551616 ∧ y.x < 18446744073709551616
/-- its bytes -/
def layB (y : LayV) : List UInt8 :=
  if y.what % 4 = 0 then [y.b] else if y.what % 4 = 1 then nm y.n else if y.what % 4 = 3 then leB 8 (bitsOf y.x) else nm y.t.size ++ y.t.data.toList
def laidB (ls : List LayV) : List UInt8 := ls.flatMap layB
def RdL (w : World) (B : Nat) (A : Option Addr) (n : Nat) (ls : List LayV) : Prop := Reads w B 5 A n (ls.flatMap layCells)

theorem laid_snoc (ls : List LayV) (y : LayV) : laidB (ls ++ [y]) = laidB ls ++ layB y := by unfold laidB; simp
theorem cells_len (ls : List LayV) : (ls.flatMap layCells).length = ls.length * 5 := by
  induction ls with
  | nil => rfl
  | cons y ls ih => simp [layCells, ih]; omega
theorem cells_get : ∀ (ls : List LayV) (k j : Nat) (hk : k < ls.length), j < 5 → (ls.flatMap layCells)[k * 5 + j]? = (layCells ls[k])[j]?
  | y :: ls, 0, j, _, hj => by
    rw [List.flatMap_cons, List.getElem?_append_left (by simp [layCells]; omega)]; simp
  | y :: ls, k + 1, j, hk, hj => by
    rw [List.flatMap_cons, List.getElem?_append_right (by simp [layCells]; omega)]
    have := cells_get ls k j (by simpa using hk) hj
    rw [show (k + 1) * 5 + j - (layCells y).length = k * 5 + j from by simp [layCells]; omega, this]
    simp

theorem layB0 {y : LayV} (h : Hid (y.what % 4 = 0)) : layB y = [byt (y.b.toNat : Int)] := by unfold layB; rw [if_pos h.out, byt_of]
theorem layB1 {y : LayV} (h : Hid (y.what % 4 = 1)) : layB y = nm y.n := by have := h.out; unfold layB; rw [if_neg (by omega), if_pos h.out]
theorem layB3 {y : LayV} (h : Hid (y.what % 4 = 3)) : layB y = leB 8 (bitsOf y.x) := by have := h.out; unfold layB; rw [if_neg (by omega), if_neg (by omega), if_pos h.out]
theorem layB2 {y : LayV} (h : Hid (y.what % 4 = 2)) : layB y = nm y.t.size ++ y.t.data.toList := by have := h.out; unfold layB; rw [if_neg (by omega), if_neg (by omega), if_neg (by omega)]
theorem data_len (s : ByteArray) : s.data.toList.length = s.size := by rw [Array.length_toList]; rfl
theorem layB_len (y : LayV) : (layB y).length ≤ 10 + y.t.size := by
  unfold layB
  split
  · simp; omega
  · split
    · have := nm_len y.n; omega
    · split
      · rw [leB_len]; omega
      · have := nm_len y.t.size
        have e : y.t.data.toList.length = y.t.size := by rw [Array.length_toList]; rfl
        rw [List.length_append]; omega

section
variable {w w' : World} {B B' n : Nat} {A : Option Addr} {ls : List LayV}
theorem RdL.len (h : RdL w B A n ls) : ls.length = n := by have := h.1; rw [cells_len] at this; omega
theorem RdL.below (h : RdL w B A n ls) (hb : Below B w w') : RdL w' B A n ls := Reads.below h hb
theorem RdL.more (h : RdL w B A n ls) (hB : B ≤ B') : RdL w B' A n ls := Reads.more h hB
theorem RdL.at_ (h : RdL w B A n ls) {k : Nat} (hk : k < n) : ∃ b off y, A = some ⟨b, off, none⟩ ∧ b < B ∧ ls[k]? = some y ∧
    w.cell? ⟨b, off + k * 5, none⟩ = some (.int .i64 y.what) ∧ w.cell? ⟨b, off + k * 5 + 1, none⟩ = some (.int .u8 (y.b.toNat : Int)) ∧ w.cell? ⟨b, off + k * 5 + 2, none⟩ = some (.int .u64 (y.n : Int)) ∧
    w.cell? ⟨b, off + k * 5 + 3, none⟩ = some (.float .f64 y.x) ∧ w.cell? ⟨b, off + k * 5 + 4, none⟩ = some (.string y.t) := by
  obtain ⟨ad, rfl, hb, hall⟩ := h.2 (by omega)
  have hl : k < ls.length := by rw [h.len]; exact hk
  have hc : ∀ j u, j < 5 → (layCells ls[k])[j]? = some u → w.cell? (ad.add (k * 5 + j)) = some u := fun j u hj hu => hall _ u (by rw [cells_get ls k j hl hj]; exact hu)
  have h0 := hall 0 (.int .i64 (ls[0]'(by omega)).what) (by have := cells_get ls 0 0 (by omega) (by omega); simpa [layCells] using this)
  obtain ⟨b, off, sp⟩ := ad
  have hsp : sp = none := by simpa [Addr.add] using World.cell?_spot h0
  subst hsp
  have c0 := hc 0 _ (by omega) rfl
  have c1 := hc 1 _ (by omega) rfl
  have c2 := hc 2 _ (by omega) rfl
  have c3 := hc 3 _ (by omega) rfl
  have c4 := hc 4 _ (by omega) rfl
  rw [Addr.add_lit] at c0 c1 c2 c3 c4
  exact ⟨b, off, ls[k], rfl, hb, List.getElem?_eq_getElem hl, c0, by rw [Nat.add_assoc]; exact c1, by rw [Nat.add_assoc]; exact c2, by rw [Nat.add_assoc]; exact c3, by rw [Nat.add_assoc]; exact c4⟩
theorem RdL.cells_at {b off : Nat} {y : LayV} {k : Nat} (h : RdL w B (some ⟨b, off, none⟩) n ls) (hy : ls[k]? = some y) :
    w.cell? ⟨b, off + k * 5, none⟩ = some (.int .i64 y.what) ∧ w.cell? ⟨b, off + k * 5 + 1, none⟩ = some (.int .u8 (y.b.toNat : Int)) ∧ w.cell? ⟨b, off + k * 5 + 2, none⟩ = some (.int .u64 (y.n : Int)) ∧
    w.cell? ⟨b, off + k * 5 + 3, none⟩ = some (.float .f64 y.x) ∧ w.cell? ⟨b, off + k * 5 + 4, none⟩ = some (.string y.t) := by
  have hk : k < n := by
    obtain ⟨hk, _⟩ := List.getElem?_eq_some_iff.1 hy
    rw [h.len] at hk; exact hk
  obtain ⟨b', off', y', e, _, hy', h0⟩ := h.at_ hk
  injection e with e
  injection e with e1 e2
  subst e1; subst e2
  rw [hy] at hy'
  injection hy' with hy'
  subst hy'
  exact h0
end

theorem laid_take {ls : List LayV} {k : Nat} {y : LayV} (hy : ls[k]? = some y) : laidB (ls.take (k + 1)) = laidB (ls.take k) ++ layB y := by
  obtain ⟨hk, rfl⟩ := List.getElem?_eq_some_iff.1 hy
  rw [List.take_succ_eq_append_getElem hk, laid_snoc]
theorem laid_le (ls : List LayV) (k : Nat) : (laidB (ls.take k)).length ≤ (laidB ls).length := by
  have e : ls = ls.take k ++ ls.drop k := (List.take_append_drop k ls).symm
  have h : laidB ls = laidB (ls.take k) ++ laidB (ls.drop k) := by
    conv => lhs; rw [e]
    unfold laidB; rw [List.flatMap_append]
  rw [h, List.length_append]; omega

/-- a Writer and a row of the call's own that share no block -/
def Apart (A : Option Addr) (g : Nat) (R : Option Nat) : Prop := ∀ j, ob A = some j → ¬ WrIn g R j

/-- the Writer has laid; the row is as it was, and apart -/
theorem want_laid {w w1 : World} {base g n c : Nat} {A : Option Addr} {R R1 : Option Nat} {l : List UInt8} (hown : OwnB w base A n c l) (hd : Apart A g R) (hf : Fr w w1 (WrIn g R)) (hR : R1 = R ∨ ∃ k, R1 = some k ∧ w.heap.size ≤ k) :
    OwnB w1 base A n c l ∧ Apart A g R1 := by
  refine ⟨hown.fr hf hd, fun j hj => ?_⟩
  rintro (rfl | e)
  · exact hd j hj (.inl rfl)
  · rcases hR with rfl | ⟨k, e', hk⟩
    · exact hd j hj (.inr e)
    · rw [e] at e'; injection e' with e'
      have := (hown.lt j hj).2
      omega
/-- the row has been appended to; the Writer is as it was, and apart -/
theorem laid_want {w w1 : World} {base g : Nat} {A A' : Option Addr} {R : Option Nat} {l : List UInt8} (hw : WrOk w base g R l) (hd : Apart A g R) (hf : Fr w w1 (fun k => ob A = some k)) (hA : ob A' = ob A ∨ ∃ k, ob A' = some k ∧ w.heap.size ≤ k) :
    WrOk w1 base g R l ∧ Apart A' g R := by
  refine ⟨hw.fr hf fun k hk e => hd k e hk, fun j hj hk => ?_⟩
  rcases hA with e | ⟨k, e, hks⟩
  · exact hd j (by rw [← e]; exact hj) hk
  · rw [hj] at e; injection e with e
    have := (hw.lt j hk).2
    omega

end Go.Proofs.Ytbeaacchhaipjaa
