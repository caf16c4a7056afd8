/-
  Trees and pieces in memory.
-/
import Derived.Test.YtmkddhkpeiajhaaTreeLaw
import Derived.Test.YtmkddhkpeiajhaaLaterQ
import Derived.Test.YtmkddhkpeiajhaaBrk
namespace Go.Proofs.Ytmkddhkpeiajhaa
open Go.RowKit

theorem blkL {w w1 : World} {g : Nat} {t : TypeId} {cs : Array Value} (hl : Later w w1) (h : Blk w g t cs) : Blk w1 g t cs := Blk.below h hl h.lt

/-- the cells of a tree's root -/
structure ReX where
  k : Int
  a : Int
  b : Int
  c : Int
  d : Int
  A : Option Addr
  n : Nat
  cp : Nat
def reL (x : ReX) : List Value := [.int .i64 x.k, .int .u64 x.a, .int .u64 x.b, .int .u64 x.c, .int .u64 x.d, .slice x.A x.n x.cp]
theorem reL_len (x : ReX) : (reL x).length = 6 := rfl

/-- a slice of trees that reads as these cells, and lies at or behind block lo -/
def LoR (w : World) (lo : Nat → Prop) (size : Nat) (A : Option Addr) (n : Nat) (xs : List Value) : Prop :=
  Reads w w.heap.size size A n xs ∧ (0 < n → ∀ ad, A = some ad → lo ad.block ∧ ∃ cs, Blk w ad.block 30 cs)
/-- no tree's block is turned -/
def Spares (w : World) (lo : Nat → Prop) (p : Nat → Prop) : Prop := ∀ k cs, lo k → Blk w k 30 cs → ¬ p k
theorem spares_false (w : World) (lo : Nat → Prop) : Spares w lo (fun _ => False) := fun _ _ _ _ h => h
theorem spares_blk {w : World} {g : Nat} {t : TypeId} {cs : Array Value} (lo : Nat → Prop) (h : Blk w g t cs) (ht : 30 ≠ t) : Spares w lo (fun k => k = g) := fun k cs' _ hb e => by
  subst e
  exact Blk.ne_ hb h ht rfl
theorem spares_not (w : World) {lo : Nat → Prop} {g : Nat} (h : ¬ lo g) : Spares w lo (fun k => k = g) := fun k _ hk _ e => by subst e; exact h hk
/-- every block to come will do -/
def Up (w : World) (lo : Nat → Prop) : Prop := ∀ k, w.heap.size ≤ k → lo k
theorem Up.later {w w' : World} {lo : Nat → Prop} (h : Up w lo) (hl : Later w w') : Up w' lo := fun k hk => h k (Nat.le_trans hl.size hk)
theorem Up.fr {w w' : World} {lo p : Nat → Prop} (h : Up w lo) (hl : Fr w w' p) : Up w' lo := fun k hk => h k (Nat.le_trans hl.size hk)

theorem cell_fr {w w' : World} {p : Nat → Prop} (hf : Fr w w' p) (a : Addr) (ha : a.block < w.heap.size) (hp : ¬ p a.block) : w'.cell? a = w.cell? a :=
  World.cell?_of_block (hf.block a.block ha hp)
theorem LoR.fr {w w' : World} {p lo : Nat → Prop} {size n : Nat} {A : Option Addr} {xs : List Value} (h : LoR w lo size A n xs) (hf : Fr w w' p) (hp : Spares w lo p) : LoR w' lo size A n xs :=
  ⟨⟨h.1.1, fun hn => by
    obtain ⟨ad, e, hb, hc⟩ := h.1.2 hn
    obtain ⟨hlo, cs, hB⟩ := h.2 hn ad e
    exact ⟨ad, e, Nat.lt_of_lt_of_le hb hf.size, fun j u hu => (cell_fr hf _ (by rw [block_of_add]; exact hb) (by rw [block_of_add]; exact hp _ cs hlo hB)).trans (hc j u hu)⟩⟩, fun hn ad e => by
    obtain ⟨hlo, cs, hB⟩ := h.2 hn ad e
    exact ⟨hlo, cs, hB.fr hf (hp _ cs hlo hB)⟩⟩
theorem LoR.nil {w : World} {lo : Nat → Prop} {size : Nat} {A : Option Addr} : LoR w lo size A 0 [] := ⟨Reads.none_, fun h => absurd h (by omega)⟩

mutual
/-- these cells are a tree's root -/
def ReC (w : World) (lo : Nat → Prop) : Tree → ReX → Prop
  | .node k s ks, x => x.k = k ∧ (x.a = (s.1 : Int) ∧ x.b = (s.2.1 : Int) ∧ x.c = (s.2.2.1 : Int) ∧ x.d = (s.2.2.2 : Int)) ∧ ks.length = x.n ∧ x.n ≤ x.cp ∧ ∃ xs : List ReX, LoR w lo 6 x.A x.n (xs.flatMap reL) ∧ ReCs w lo ks xs
def ReCs (w : World) (lo : Nat → Prop) : List Tree → List ReX → Prop
  | [], xs => xs = []
  | t :: ts, xs => ∃ y ys, xs = y :: ys ∧ ReC w lo t y ∧ ReCs w lo ts ys
end

mutual
theorem ReC.fr {w w' : World} {p lo : Nat → Prop} (hf : Fr w w' p) (hp : Spares w lo p) : ∀ (t : Tree) {x : ReX}, ReC w lo t x → ReC w' lo t x
  | .node k s ks, x, h => by
    unfold ReC at h ⊢
    obtain ⟨h1, h2, h3, h4, xs, h5, h6⟩ := h
    exact ⟨h1, h2, h3, h4, xs, h5.fr hf hp, ReCs.fr hf hp ks h6⟩
theorem ReCs.fr {w w' : World} {p lo : Nat → Prop} (hf : Fr w w' p) (hp : Spares w lo p) : ∀ (ts : List Tree) {xs : List ReX}, ReCs w lo ts xs → ReCs w' lo ts xs
  | [], _, h => by unfold ReCs at h ⊢; exact h
  | t :: ts, _, h => by
    unfold ReCs at h ⊢
    obtain ⟨y, ys, e, h1, h2⟩ := h
    exact ⟨y, ys, e, ReC.fr hf hp t h1, ReCs.fr hf hp ts h2⟩
end
theorem Fr.laterF {w w' : World} (h : Later w w') : Fr w w' (fun _ => False) := ⟨h.os, h.tape, h.output, h.size, fun k hk _ => h.block k hk⟩
theorem ReC.later {w w' : World} {lo : Nat → Prop} {t : Tree} {x : ReX} (h : ReC w lo t x) (hl : Later w w') : ReC w' lo t x := ReC.fr (Fr.laterF hl) (spares_false _ _) t h
theorem ReCs.later {w w' : World} {lo : Nat → Prop} {ts : List Tree} {xs : List ReX} (h : ReCs w lo ts xs) (hl : Later w w') : ReCs w' lo ts xs := ReCs.fr (Fr.laterF hl) (spares_false _ _) ts h
theorem ReCs.len {w : World} {lo : Nat → Prop} : ∀ {ts : List Tree} {xs : List ReX}, ReCs w lo ts xs → xs.length = ts.length
  | [], _, h => by unfold ReCs at h; rw [h]; rfl
  | t :: ts, _, h => by
    unfold ReCs at h
    obtain ⟨y, ys, rfl, _, h2⟩ := h
    rw [List.length_cons, List.length_cons, ReCs.len h2]
theorem ReCs.get {w : World} {lo : Nat → Prop} : ∀ {ts : List Tree} {xs : List ReX} (_h : ReCs w lo ts xs) (i : Nat) (t : Tree), ts[i]? = some t → ∃ x, xs[i]? = some x ∧ ReC w lo t x
  | [], _, _, _, _, hi => by cases hi
  | t :: ts, _, h, 0, u, hi => by
    unfold ReCs at h
    obtain ⟨y, ys, rfl, h1, _⟩ := h
    injection hi with hi
    subst hi
    exact ⟨y, rfl, h1⟩
  | t :: ts, _, h, i + 1, u, hi => by
    unfold ReCs at h
    obtain ⟨y, ys, rfl, _, h2⟩ := h
    obtain ⟨x, hx, hc⟩ := ReCs.get h2 i u hi
    exact ⟨x, hx, hc⟩
theorem ReCs.snoc {w : World} {lo : Nat → Prop} : ∀ {ts : List Tree} {xs : List ReX} {t : Tree} {x : ReX}, ReCs w lo ts xs → ReC w lo t x → ReCs w lo (ts ++ [t]) (xs ++ [x])
  | [], _, _, _, h, ht => by
    unfold ReCs at h
    subst h
    show ReCs w lo [_] [_]
    unfold ReCs
    exact ⟨_, _, rfl, ht, by unfold ReCs; rfl⟩
  | u :: ts, _, _, _, h, ht => by
    unfold ReCs at h
    obtain ⟨y, ys, rfl, h1, h2⟩ := h
    show ReCs w lo (u :: (ts ++ [_])) (y :: (ys ++ [_]))
    unfold ReCs
    exact ⟨y, _, rfl, h1, h2.snoc ht⟩

mutual
theorem ReC.weaken {w : World} {lo lo' : Nat → Prop} (h : ∀ k, k < w.heap.size → lo k → lo' k) : ∀ (t : Tree) {x : ReX}, ReC w lo t x → ReC w lo' t x
  | .node k s ks, x, hc => by
    unfold ReC at hc ⊢
    obtain ⟨h1, h2, h3, h4, xs, h5, h6⟩ := hc
    exact ⟨h1, h2, h3, h4, xs, ⟨h5.1, fun hn ad e => by
      obtain ⟨a, cs, hB⟩ := h5.2 hn ad e
      exact ⟨h _ hB.lt a, cs, hB⟩⟩, ReCs.weaken h ks h6⟩
theorem ReCs.weaken {w : World} {lo lo' : Nat → Prop} (h : ∀ k, k < w.heap.size → lo k → lo' k) : ∀ (ts : List Tree) {xs : List ReX}, ReCs w lo ts xs → ReCs w lo' ts xs
  | [], _, hc => by unfold ReCs at hc ⊢; exact hc
  | t :: ts, _, hc => by
    unfold ReCs at hc ⊢
    obtain ⟨y, ys, e, h1, h2⟩ := hc
    exact ⟨y, ys, e, ReC.weaken h t h1, ReCs.weaken h ts h2⟩
end

/-- a row of six cells each -/
theorem flat6 : ∀ (xs : List ReX), (xs.flatMap reL).length = xs.length * 6
  | [] => rfl
  | x :: xs => by rw [List.flatMap_cons, List.length_append, flat6 xs, reL_len, List.length_cons]; omega
theorem flat6_get : ∀ (xs : List ReX) (i j : Nat) (x : ReX) (u : Value), xs[i]? = some x → (reL x)[j]? = some u → (xs.flatMap reL)[i * 6 + j]? = some u
  | [], _, _, _, _, h, _ => by cases h
  | y :: ys, 0, j, x, u, h, hu => by
    injection h with h
    subst h
    have hj : j < 6 := by have := (List.getElem?_eq_some_iff.1 hu).1; rw [reL_len] at this; exact this
    rw [List.flatMap_cons, Nat.zero_mul, Nat.zero_add, List.getElem?_append_left (by rw [reL_len]; exact hj)]
    exact hu
  | y :: ys, i + 1, j, x, u, h, hu => by
    rw [List.flatMap_cons, List.getElem?_append_right (by rw [reL_len]; omega), reL_len, show (i + 1) * 6 + j - 6 = i * 6 + j by omega]
    exact flat6_get ys i j x u h hu

theorem ReC.leaf (w : World) (lo : Nat → Prop) (k : Int) (s : W4) (A : Option Addr) (cp : Nat) : ReC w lo (.node k s []) ⟨k, s.1, s.2.1, s.2.2.1, s.2.2.2, A, 0, cp⟩ := by
  unfold ReC
  exact ⟨rfl, ⟨rfl, rfl, rfl, rfl⟩, rfl, Nat.zero_le _, [], LoR.nil, by unfold ReCs; rfl⟩

/-- a kid of a tree in memory: its six cells -/
theorem LoR.six {w : World} {lo : Nat → Prop} {n : Nat} {A : Option Addr} {xs : List ReX} (h : LoR w lo 6 A n (xs.flatMap reL)) {i : Nat} (hi : i < n) {x : ReX} (hx : xs[i]? = some x) :
    ∃ b off, A = some ⟨b, off, none⟩ ∧ w.cell? ⟨b, off + i * 6, none⟩ = some (.int .i64 x.k) ∧ w.cell? ⟨b, off + i * 6 + 1, none⟩ = some (.int .u64 x.a) ∧ w.cell? ⟨b, off + i * 6 + 2, none⟩ = some (.int .u64 x.b) ∧
      w.cell? ⟨b, off + i * 6 + 3, none⟩ = some (.int .u64 x.c) ∧ w.cell? ⟨b, off + i * 6 + 4, none⟩ = some (.int .u64 x.d) ∧ w.cell? ⟨b, off + i * 6 + 5, none⟩ = some (.slice x.A x.n x.cp) := by
  obtain ⟨ad, rfl, hb, hc⟩ := h.1.2 (by omega)
  have hl : 0 < xs.length := by have := (List.getElem?_eq_some_iff.1 hx).1; omega
  have h0 := hc 0 _ (flat6_get xs 0 0 xs[0] _ (List.getElem?_eq_getElem hl) rfl)
  obtain ⟨b, off, sp⟩ := ad
  have hsp : sp = none := by simpa [Addr.add] using World.cell?_spot h0
  subst hsp
  have g : ∀ j u, (reL x)[j]? = some u → w.cell? ⟨b, off + i * 6 + j, none⟩ = some u := fun j u hu => by
    have := hc _ _ (flat6_get xs i j x u hx hu)
    rw [Addr.add_lit] at this
    rw [Nat.add_assoc]
    exact this
  exact ⟨b, off, rfl, g 0 _ rfl, g 1 _ rfl, g 2 _ rfl, g 3 _ rfl, g 4 _ rfl, g 5 _ rfl⟩

/-- kids that have just been laid -/
theorem LoR.new {w : World} {lo : Nat → Prop} {n : Nat} (xs : List ReX) (cs : Array Value) (hcs : cs.toList = xs.flatMap reL) (hn : xs.length = n) (hlo : Up w lo) :
    LoR (w.alloc (.cells cs 30)) lo 6 (some ⟨w.heap.size, 0, none⟩) n (xs.flatMap reL) :=
  ⟨⟨by rw [flat6, hn], fun _ => ⟨_, rfl, by simp, fun j u hu => by
    rw [Addr.add_lit, Nat.zero_add, cell_of_row _ _ _ _ _ _ (heap_alloc_new w _), ← Array.getElem?_toList, hcs]
    exact hu⟩⟩, fun _ ad e => by injection e with e; subst e; exact ⟨hlo _ (Nat.le_refl _), cs, Blk.new w _ _⟩⟩

theorem ReC.one {w : World} {lo : Nat → Prop} {t1 : Tree} {x1 : ReX} (k : Int) (h1 : ReC w lo t1 x1) (hlo : Up w lo) :
    ReC (w.alloc (.cells #[.int .i64 x1.k, .int .u64 x1.a, .int .u64 x1.b, .int .u64 x1.c, .int .u64 x1.d, .slice x1.A x1.n x1.cp] 30)) lo (.node k z4 [t1]) ⟨k, 0, 0, 0, 0, some ⟨w.heap.size, 0, none⟩, 1, 1⟩ := by
  unfold ReC
  refine ⟨rfl, ⟨rfl, rfl, rfl, rfl⟩, rfl, Nat.le_refl _, [x1], LoR.new [x1] _ (by simp [reL]) rfl hlo, ?_⟩
  unfold ReCs
  exact ⟨x1, [], rfl, h1.later ((Later.refl w).alloc _), by unfold ReCs; rfl⟩
theorem ReC.two {w : World} {lo : Nat → Prop} {t1 t2 : Tree} {x1 x2 : ReX} (k : Int) (h1 : ReC w lo t1 x1) (h2 : ReC w lo t2 x2) (hlo : Up w lo) :
    ReC (w.alloc (.cells #[.int .i64 x1.k, .int .u64 x1.a, .int .u64 x1.b, .int .u64 x1.c, .int .u64 x1.d, .slice x1.A x1.n x1.cp, .int .i64 x2.k, .int .u64 x2.a, .int .u64 x2.b, .int .u64 x2.c, .int .u64 x2.d, .slice x2.A x2.n x2.cp] 30)) lo (.node k z4 [t1, t2]) ⟨k, 0, 0, 0, 0, some ⟨w.heap.size, 0, none⟩, 2, 2⟩ := by
  unfold ReC
  refine ⟨rfl, ⟨rfl, rfl, rfl, rfl⟩, rfl, Nat.le_refl _, [x1, x2], LoR.new [x1, x2] _ (by simp [reL]) rfl hlo, ?_⟩
  unfold ReCs
  refine ⟨x1, [x2], rfl, h1.later ((Later.refl w).alloc _), ?_⟩
  unfold ReCs
  exact ⟨x2, [], rfl, h2.later ((Later.refl w).alloc _), by unfold ReCs; rfl⟩

/-- what a function that makes a piece leaves -/
def RetPc (w : World) (lo : Nat → Prop) (q : Pc) (e : Ending) (w' : World) : Prop :=
  ∃ (k a b c d : Int) (A : Option Addr) (n cp : Nat), e = .returned (.agg #[.int .i64 k, .int .u64 a, .int .u64 b, .int .u64 c, .int .u64 d, .slice A n cp, .int .i64 (q.deep : Int), .int .i64 (q.leaves : Int), .bool q.big]) ∧
    ReC w' lo q.re ⟨k, a, b, c, d, A, n, cp⟩ ∧ Later w w'

end Go.Proofs.Ytmkddhkpeiajhaa
