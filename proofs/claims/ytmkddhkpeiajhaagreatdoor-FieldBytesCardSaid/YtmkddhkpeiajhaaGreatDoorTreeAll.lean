import Derived.Test.YtmkddhkpeiajhaaGreatDoorSetLaw
import Derived.Test.YtmkddhkpeiajhaaGreatDoorBytes
import Derived.Test.YtmkddhkpeiajhaaGreatDoorBrk
import Derived.Deep.RegionLaw
namespace Go.Proofs.YtmkddhkpeiajhaaGreatDoor
open Go.RowKit
theorem blkL {w w1 : World} {g : Nat} {t : TypeId} {cs : Array Value} (hl : Later w w1) (h : Blk w g t cs) : Blk w1 g t cs := Blk.below h hl h.lt
structure ReX where
  k : Int
  a : Int
  b : Int
  c : Int
  d : Int
  A : Option Addr
  n : Nat
  cp : Nat
def reL (x : ReX) : List Value := [.int .i64 x.k, .int .u64 x.a, .int .u64 x.b, .int .u64 x.c, .int .u64 x.d, .slice x.A x.n x.cp]
theorem reL_len (x : ReX) : (reL x).length = 6 := rfl
def LoR (w : World) (lo : Nat → Prop) (size : Nat) (A : Option Addr) (n : Nat) (xs : List Value) : Prop :=
  Reads w w.heap.size size A n xs ∧ (0 < n → ∀ ad, A = some ad → lo ad.block ∧ ∃ cs, Blk w ad.block 98 cs)
def Spares (w : World) (lo : Nat → Prop) (p : Nat → Prop) : Prop := ∀ k cs, lo k → Blk w k 98 cs → ¬ p k
theorem spares_false (w : World) (lo : Nat → Prop) : Spares w lo (fun _ => False) := fun _ _ _ _ h => h
theorem spares_blk {w : World} {g : Nat} {t : TypeId} {cs : Array Value} (lo : Nat → Prop) (h : Blk w g t cs) (ht : 98 ≠ t) : Spares w lo (fun k => k = g) := fun k cs' _ hb e => by
  subst e
  exact Blk.ne_ hb h ht rfl
theorem spares_not (w : World) {lo : Nat → Prop} {g : Nat} (h : ¬ lo g) : Spares w lo (fun k => k = g) := fun k _ hk _ e => by subst e; exact h hk
def Up (w : World) (lo : Nat → Prop) : Prop := ∀ k, w.heap.size ≤ k → lo k
theorem Up.later {w w' : World} {lo : Nat → Prop} (h : Up w lo) (hl : Later w w') : Up w' lo := fun k hk => h k (Nat.le_trans hl.size hk)
theorem Up.fr {w w' : World} {lo p : Nat → Prop} (h : Up w lo) (hl : Fr w w' p) : Up w' lo := fun k hk => h k (Nat.le_trans hl.size hk)
theorem cell_fr {w w' : World} {p : Nat → Prop} (hf : Fr w w' p) (a : Addr) (ha : a.block < w.heap.size) (hp : ¬ p a.block) : w'.cell? a = w.cell? a :=
  World.cell?_of_block (hf.block a.block ha hp)
theorem LoR.fr {w w' : World} {p lo : Nat → Prop} {size n : Nat} {A : Option Addr} {xs : List Value} (h : LoR w lo size A n xs) (hf : Fr w w' p) (hp : Spares w lo p) : LoR w' lo size A n xs :=
  ⟨⟨h.1.1, fun hn => by
    obtain ⟨ad, e, hb, hc⟩ := h.1.2 hn
    obtain ⟨hlo, cs, hB⟩ := h.2 hn ad e
    exact ⟨ad, e, Nat.lt_of_lt_of_le hb hf.size, fun j u hu => (cell_fr hf _ (by rw [block_of_add]; exact hb) (by rw [block_of_add]; exact hp _ cs hlo hB)).trans (hc j u hu)⟩⟩, fun hn ad e => by
    obtain ⟨hlo, cs, hB⟩ := h.2 hn ad e
    exact ⟨hlo, cs, hB.fr hf (hp _ cs hlo hB)⟩⟩
theorem LoR.nil {w : World} {lo : Nat → Prop} {size : Nat} {A : Option Addr} : LoR w lo size A 0 [] := ⟨Reads.none_, fun h => absurd h (by omega)⟩
mutual
def ReC (w : World) (lo : Nat → Prop) : Tree → ReX → Prop
  | .node k s ks, x => x.k = k ∧ (x.a = (s.1 : Int) ∧ x.b = (s.2.1 : Int) ∧ x.c = (s.2.2.1 : Int) ∧ x.d = (s.2.2.2 : Int)) ∧ ks.length = x.n ∧ x.n ≤ x.cp ∧ ∃ xs : List ReX, LoR w lo 6 x.A x.n (xs.flatMap reL) ∧ ReCs w lo ks xs
def ReCs (w : World) (lo : Nat → Prop) : List Tree → List ReX → Prop
  | [], xs => xs = []
  | t :: ts, xs => ∃ y ys, xs = y :: ys ∧ ReC w lo t y ∧ ReCs w lo ts ys
end
mutual
theorem ReC.fr {w w' : World} {p lo : Nat → Prop} (hf : Fr w w' p) (hp : Spares w lo p) : ∀ (t : Tree) {x : ReX}, ReC w lo t x → ReC w' lo t x
  | .node k s ks, x, h => by
    unfold ReC at h ⊢
    obtain ⟨h1, h2, h3, h4, xs, h5, h6⟩ := h
    exact ⟨h1, h2, h3, h4, xs, h5.fr hf hp, ReCs.fr hf hp ks h6⟩
theorem ReCs.fr {w w' : World} {p lo : Nat → Prop} (hf : Fr w w' p) (hp : Spares w lo p) : ∀ (ts : List Tree) {xs : List ReX}, ReCs w lo ts xs → ReCs w' lo ts xs
  | [], _, h => by unfold ReCs at h ⊢; exact h
  | t :: ts, _, h => by
    unfold ReCs at h ⊢
    obtain ⟨y, ys, e, h1, h2⟩ := h
    exact ⟨y, ys, e, ReC.fr hf hp t h1, ReCs.fr hf hp ts h2⟩
end
theorem Fr.laterF {w w' : World} (h : Later w w') : Fr w w' (fun _ => False) := ⟨h.os, h.tape, h.output, h.size, fun k hk _ => h.block k hk⟩
theorem ReC.later {w w' : World} {lo : Nat → Prop} {t : Tree} {x : ReX} (h : ReC w lo t x) (hl : Later w w') : ReC w' lo t x := ReC.fr (Fr.laterF hl) (spares_false _ _) t h
theorem ReCs.later {w w' : World} {lo : Nat → Prop} {ts : List Tree} {xs : List ReX} (h : ReCs w lo ts xs) (hl : Later w w') : ReCs w' lo ts xs := ReCs.fr (Fr.laterF hl) (spares_false _ _) ts h
theorem ReCs.len {w : World} {lo : Nat → Prop} : ∀ {ts : List Tree} {xs : List ReX}, ReCs w lo ts xs → xs.length = ts.length
  | [], _, h => by unfold ReCs at h; rw [h]; rfl
  | t :: ts, _, h => by
    unfold ReCs at h
    obtain ⟨y, ys, rfl, _, h2⟩ := h
    rw [List.length_cons, List.length_cons, ReCs.len h2]
theorem ReCs.get {w : World} {lo : Nat → Prop} : ∀ {ts : List Tree} {xs : List ReX} (_h : ReCs w lo ts xs) (i : Nat) (t : Tree), ts[i]? = some t → ∃ x, xs[i]? = some x ∧ ReC w lo t x
  | [], _, _, _, _, hi => by cases hi
  | t :: ts, _, h, 0, u, hi => by
    unfold ReCs at h
    obtain ⟨y, ys, rfl, h1, _⟩ := h
    injection hi with hi
    subst hi
    exact ⟨y, rfl, h1⟩
  | t :: ts, _, h, i + 1, u, hi => by
    unfold ReCs at h
    obtain ⟨y, ys, rfl, _, h2⟩ := h
    obtain ⟨x, hx, hc⟩ := ReCs.get h2 i u hi
    exact ⟨x, hx, hc⟩
theorem ReCs.snoc {w : World} {lo : Nat → Prop} : ∀ {ts : List Tree} {xs : List ReX} {t : Tree} {x : ReX}, ReCs w lo ts xs → ReC w lo t x → ReCs w lo (ts ++ [t]) (xs ++ [x])
  | [], _, _, _, h, ht => by
    unfold ReCs at h
    subst h
    show ReCs w lo [_] [_]
    unfold ReCs
    exact ⟨_, _, rfl, ht, by unfold ReCs; rfl⟩
  | u :: ts, _, _, _, h, ht => by
    unfold ReCs at h
    obtain ⟨y, ys, rfl, h1, h2⟩ := h
    show ReCs w lo (u :: (ts ++ [_])) (y :: (ys ++ [_]))
    unfold ReCs
    exact ⟨y, _, rfl, h1, h2.snoc ht⟩
mutual
theorem ReC.weaken {w : World} {lo lo' : Nat → Prop} (h : ∀ k, k < w.heap.size → lo k → lo' k) : ∀ (t : Tree) {x : ReX}, ReC w lo t x → ReC w lo' t x
  | .node k s ks, x, hc => by
    unfold ReC at hc ⊢
    obtain ⟨h1, h2, h3, h4, xs, h5, h6⟩ := hc
    exact ⟨h1, h2, h3, h4, xs, ⟨h5.1, fun hn ad e => by
      obtain ⟨a, cs, hB⟩ := h5.2 hn ad e
      exact ⟨h _ hB.lt a, cs, hB⟩⟩, ReCs.weaken h ks h6⟩
theorem ReCs.weaken {w : World} {lo lo' : Nat → Prop} (h : ∀ k, k < w.heap.size → lo k → lo' k) : ∀ (ts : List Tree) {xs : List ReX}, ReCs w lo ts xs → ReCs w lo' ts xs
  | [], _, hc => by unfold ReCs at hc ⊢; exact hc
  | t :: ts, _, hc => by
    unfold ReCs at hc ⊢
    obtain ⟨y, ys, e, h1, h2⟩ := hc
    exact ⟨y, ys, e, ReC.weaken h t h1, ReCs.weaken h ts h2⟩
end
theorem flat6 : ∀ (xs : List ReX), (xs.flatMap reL).length = xs.length * 6
  | [] => rfl
  | x :: xs => by rw [List.flatMap_cons, List.length_append, flat6 xs, reL_len, List.length_cons]; omega
theorem flat6_get : ∀ (xs : List ReX) (i j : Nat) (x : ReX) (u : Value), xs[i]? = some x → (reL x)[j]? = some u → (xs.flatMap reL)[i * 6 + j]? = some u
  | [], _, _, _, _, h, _ => by cases h
  | y :: ys, 0, j, x, u, h, hu => by
    injection h with h
    subst h
    have hj : j < 6 := by have := (List.getElem?_eq_some_iff.1 hu).1; rw [reL_len] at this; exact this
    rw [List.flatMap_cons, Nat.zero_mul, Nat.zero_add, List.getElem?_append_left (by rw [reL_len]; exact hj)]
    exact hu
  | y :: ys, i + 1, j, x, u, h, hu => by
    rw [List.flatMap_cons, List.getElem?_append_right (by rw [reL_len]; omega), reL_len, show (i + 1) * 6 + j - 6 = i * 6 + j by omega]
    exact flat6_get ys i j x u h hu
theorem ReC.leaf (w : World) (lo : Nat → Prop) (k : Int) (s : W4) (A : Option Addr) (cp : Nat) : ReC w lo (.node k s []) ⟨k, s.1, s.2.1, s.2.2.1, s.2.2.2, A, 0, cp⟩ := by
  unfold ReC
  exact ⟨rfl, ⟨rfl, rfl, rfl, rfl⟩, rfl, Nat.zero_le _, [], LoR.nil, by unfold ReCs; rfl⟩
theorem LoR.six {w : World} {lo : Nat → Prop} {n : Nat} {A : Option Addr} {xs : List ReX} (h : LoR w lo 6 A n (xs.flatMap reL)) {i : Nat} (hi : i < n) {x : ReX} (hx : xs[i]? = some x) :
    ∃ b off, A = some ⟨b, off, none⟩ ∧ w.cell? ⟨b, off + i * 6, none⟩ = some (.int .i64 x.k) ∧ w.cell? ⟨b, off + i * 6 + 1, none⟩ = some (.int .u64 x.a) ∧ w.cell? ⟨b, off + i * 6 + 2, none⟩ = some (.int .u64 x.b) ∧
      w.cell? ⟨b, off + i * 6 + 3, none⟩ = some (.int .u64 x.c) ∧ w.cell? ⟨b, off + i * 6 + 4, none⟩ = some (.int .u64 x.d) ∧ w.cell? ⟨b, off + i * 6 + 5, none⟩ = some (.slice x.A x.n x.cp) := by
  obtain ⟨ad, rfl, hb, hc⟩ := h.1.2 (by omega)
  have hl : 0 < xs.length := by have := (List.getElem?_eq_some_iff.1 hx).1; omega
  have h0 := hc 0 _ (flat6_get xs 0 0 xs[0] _ (List.getElem?_eq_getElem hl) rfl)
  obtain ⟨b, off, sp⟩ := ad
  have hsp : sp = none := by simpa [Addr.add] using World.cell?_spot h0
  subst hsp
  have g : ∀ j u, (reL x)[j]? = some u → w.cell? ⟨b, off + i * 6 + j, none⟩ = some u := fun j u hu => by
    have := hc _ _ (flat6_get xs i j x u hx hu)
    rw [Addr.add_lit] at this
    rw [Nat.add_assoc]
    exact this
  exact ⟨b, off, rfl, g 0 _ rfl, g 1 _ rfl, g 2 _ rfl, g 3 _ rfl, g 4 _ rfl, g 5 _ rfl⟩
theorem LoR.new {w : World} {lo : Nat → Prop} {n : Nat} (xs : List ReX) (cs : Array Value) (hcs : cs.toList = xs.flatMap reL) (hn : xs.length = n) (hlo : Up w lo) :
    LoR (w.alloc (.cells cs 98)) lo 6 (some ⟨w.heap.size, 0, none⟩) n (xs.flatMap reL) :=
  ⟨⟨by rw [flat6, hn], fun _ => ⟨_, rfl, by simp, fun j u hu => by
    rw [Addr.add_lit, Nat.zero_add, cell_of_row _ _ _ _ _ _ (heap_alloc_new w _), ← Array.getElem?_toList, hcs]
    exact hu⟩⟩, fun _ ad e => by injection e with e; subst e; exact ⟨hlo _ (Nat.le_refl _), cs, Blk.new w _ _⟩⟩
theorem ReC.one {w : World} {lo : Nat → Prop} {t1 : Tree} {x1 : ReX} (k : Int) (h1 : ReC w lo t1 x1) (hlo : Up w lo) :
    ReC (w.alloc (.cells #[.int .i64 x1.k, .int .u64 x1.a, .int .u64 x1.b, .int .u64 x1.c, .int .u64 x1.d, .slice x1.A x1.n x1.cp] 98)) lo (.node k z4 [t1]) ⟨k, 0, 0, 0, 0, some ⟨w.heap.size, 0, none⟩, 1, 1⟩ := by
  unfold ReC
  refine ⟨rfl, ⟨rfl, rfl, rfl, rfl⟩, rfl, Nat.le_refl _, [x1], LoR.new [x1] _ (by simp [reL]) rfl hlo, ?_⟩
  unfold ReCs
  exact ⟨x1, [], rfl, h1.later ((Later.refl w).alloc _), by unfold ReCs; rfl⟩
theorem ReC.two {w : World} {lo : Nat → Prop} {t1 t2 : Tree} {x1 x2 : ReX} (k : Int) (h1 : ReC w lo t1 x1) (h2 : ReC w lo t2 x2) (hlo : Up w lo) :
    ReC (w.alloc (.cells #[.int .i64 x1.k, .int .u64 x1.a, .int .u64 x1.b, .int .u64 x1.c, .int .u64 x1.d, .slice x1.A x1.n x1.cp, .int .i64 x2.k, .int .u64 x2.a, .int .u64 x2.b, .int .u64 x2.c, .int .u64 x2.d, .slice x2.A x2.n x2.cp] 98)) lo (.node k z4 [t1, t2]) ⟨k, 0, 0, 0, 0, some ⟨w.heap.size, 0, none⟩, 2, 2⟩ := by
  unfold ReC
  refine ⟨rfl, ⟨rfl, rfl, rfl, rfl⟩, rfl, Nat.le_refl _, [x1, x2], LoR.new [x1, x2] _ (by simp [reL]) rfl hlo, ?_⟩
  unfold ReCs
  refine ⟨x1, [x2], rfl, h1.later ((Later.refl w).alloc _), ?_⟩
  unfold ReCs
  exact ⟨x2, [], rfl, h2.later ((Later.refl w).alloc _), by unfold ReCs; rfl⟩
def RetPc (w : World) (lo : Nat → Prop) (q : Pc) (e : Ending) (w' : World) : Prop :=
  ∃ (k a b c d : Int) (A : Option Addr) (n cp : Nat), e = .returned (.agg #[.int .i64 k, .int .u64 a, .int .u64 b, .int .u64 c, .int .u64 d, .slice A n cp, .int .i64 (q.deep : Int), .int .i64 (q.leaves : Int), .bool q.big]) ∧
    ReC w' lo q.re ⟨k, a, b, c, d, A, n, cp⟩ ∧ Later w w'
end Go.Proofs.YtmkddhkpeiajhaaGreatDoor
namespace Go.Proofs.YtmkddhkpeiajhaaGreatDoor
open Go.RowKit
theorem RetPc.big {w w' : World} {lo : Nat → Prop} {q : Pc} (hq : q = bigPc) (hl : Later w w') : RetPc w lo q (.returned (.agg #[.int .i64 0, .int .u64 0, .int .u64 0, .int .u64 0, .int .u64 0, .slice none 0 0, .int .i64 1, .int .i64 1, .bool true])) w' := by
  subst hq
  exact ⟨0, 0, 0, 0, 0, none, 0, 0, rfl, ReC.leaf w' lo 0 z4 none 0, hl⟩
theorem RetPc.mk {w w' : World} {lo : Nat → Prop} {q : Pc} {t : Tree} {dp lv : Nat} {bg : Bool} {k a b c d : Int} {A : Option Addr} {n cp : Nat} {D L : Int} (hq : q = ⟨t, dp, lv, bg⟩) (hD : D = (dp : Int)) (hL : L = (lv : Int)) (h : ReC w' lo t ⟨k, a, b, c, d, A, n, cp⟩) (hl : Later w w') :
    RetPc w lo q (.returned (.agg #[.int .i64 k, .int .u64 a, .int .u64 b, .int .u64 c, .int .u64 d, .slice A n cp, .int .i64 D, .int .i64 L, .bool bg])) w' := by
  subst hq hD hL
  exact ⟨k, a, b, c, d, A, n, cp, rfl, h, hl⟩
theorem fits_any (lo : Nat → Prop) (k a b c d : Int) (A : Option Addr) (n cp : Nat) (t : Tree) (dp lv : Nat) (bg : Bool) (D L : Int) (w : World) (h : ReC w lo t ⟨k, a, b, c, d, A, n, cp⟩) (hD : D = (dp : Int)) (hL : L = (lv : Int)) (hd : dp ≤ 1000000) (hl : lv ≤ 1000000) :
    Calls Tryz.prog 117 #[.agg #[.int .i64 k, .int .u64 a, .int .u64 b, .int .u64 c, .int .u64 d, .slice A n cp, .int .i64 (D : Int), .int .i64 (L : Int), .bool bg]] w (RetPc w lo (pcFits ⟨t, dp, lv, bg⟩)) := by
  subst hD hL
  cases bg with
  | true =>
    have hq : Hid (pcFits ⟨t, dp, lv, true⟩ = bigPc) := by show _ = _; unfold pcFits; rw [if_pos (by simp)]
    go_enter Tryz.func117, Tryz.ntmps117
    go_wp2_with fail
    exact bodyPost_ret (v := .agg #[.int .i64 0, .int .u64 0, .int .u64 0, .int .u64 0, .int .u64 0, .slice none 0 0, .int .i64 1, .int .i64 1, .bool true]) (by simp [results, Tryz.results117, go_sem]) rfl (RetPc.big hq.out (((Later.refl w).alloc _).alloc _))
  | false =>
    by_cases h1 : 40 < dp
    · have hq : Hid (pcFits ⟨t, dp, lv, false⟩ = bigPc) := by show _ = _; unfold pcFits; rw [if_pos (by simp [h1])]
      have hi : (40 : Int) < (dp : Int) := by omega
      go_enter Tryz.func117, Tryz.ntmps117
      go_wp2_with fail
      exact bodyPost_ret (v := .agg #[.int .i64 0, .int .u64 0, .int .u64 0, .int .u64 0, .int .u64 0, .slice none 0 0, .int .i64 1, .int .i64 1, .bool true]) (by simp [results, Tryz.results117, go_sem]) rfl (RetPc.big hq.out (((Later.refl w).alloc _).alloc _))
    · have hi : ¬ (40 : Int) < (dp : Int) := by omega
      by_cases h2 : 400 < lv
      · have hq : Hid (pcFits ⟨t, dp, lv, false⟩ = bigPc) := by show _ = _; unfold pcFits; rw [if_pos (by simp [h2])]
        have hi2 : (400 : Int) < (lv : Int) := by omega
        go_enter Tryz.func117, Tryz.ntmps117
        go_wp2_with fail
        exact bodyPost_ret (v := .agg #[.int .i64 0, .int .u64 0, .int .u64 0, .int .u64 0, .int .u64 0, .slice none 0 0, .int .i64 1, .int .i64 1, .bool true]) (by simp [results, Tryz.results117, go_sem]) rfl (RetPc.big hq.out (((Later.refl w).alloc _).alloc _))
      · have hq : Hid (pcFits ⟨t, dp, lv, false⟩ = ⟨t, dp, lv, false⟩) := by show _ = _; unfold pcFits; rw [if_neg (by simp [h1, h2])]
        have hi2 : ¬ (400 : Int) < (lv : Int) := by omega
        go_enter Tryz.func117, Tryz.ntmps117
        go_wp2_with fail
        exact bodyPost_ret (v := .agg #[.int .i64 k, .int .u64 a, .int .u64 b, .int .u64 c, .int .u64 d, .slice A n cp, .int .i64 (dp : Int), .int .i64 (lv : Int), .bool false]) (by simp [results, Tryz.results117, go_sem]) rfl (RetPc.mk hq.out rfl rfl (h.later (((Later.refl w).alloc _).alloc _)) (((Later.refl w).alloc _).alloc _))
theorem cells9 {w : World} {b : Nat} {t : TypeId} {x0 x1 x2 x3 x4 x5 x6 x7 x8 : Value} (h : Blk w b t #[x0, x1, x2, x3, x4, x5, x6, x7, x8]) :
    w.cell? ⟨b, 0, none⟩ = some x0 ∧ w.cell? ⟨b, 1, none⟩ = some x1 ∧ w.cell? ⟨b, 2, none⟩ = some x2 ∧ w.cell? ⟨b, 3, none⟩ = some x3 ∧ w.cell? ⟨b, 4, none⟩ = some x4 ∧ w.cell? ⟨b, 5, none⟩ = some x5 ∧ w.cell? ⟨b, 6, none⟩ = some x6 ∧ w.cell? ⟨b, 7, none⟩ = some x7 ∧ w.cell? ⟨b, 8, none⟩ = some x8 ∧
    w.frozen? ⟨b, 0, none⟩ = false ∧ w.frozen? ⟨b, 1, none⟩ = false ∧ w.frozen? ⟨b, 2, none⟩ = false ∧ w.frozen? ⟨b, 3, none⟩ = false ∧ w.frozen? ⟨b, 4, none⟩ = false ∧ w.frozen? ⟨b, 5, none⟩ = false ∧ w.frozen? ⟨b, 6, none⟩ = false ∧ w.frozen? ⟨b, 7, none⟩ = false ∧ w.frozen? ⟨b, 8, none⟩ = false :=
  ⟨h.cell 0, h.cell 1, h.cell 2, h.cell 3, h.cell 4, h.cell 5, h.cell 6, h.cell 7, h.cell 8, h.frozen 0, h.frozen 1, h.frozen 2, h.frozen 3, h.frozen 4, h.frozen 5, h.frozen 6, h.frozen 7, h.frozen 8⟩
def set9 (w : World) (g : Nat) (x0 x1 x2 x3 x4 x5 x6 x7 x8 : Value) : World :=
  ((((((((w.setCell ⟨g, 0, none⟩ x0).setCell ⟨g, 1, none⟩ x1).setCell ⟨g, 2, none⟩ x2).setCell ⟨g, 3, none⟩ x3).setCell ⟨g, 4, none⟩ x4).setCell ⟨g, 5, none⟩ x5).setCell ⟨g, 6, none⟩ x6).setCell ⟨g, 7, none⟩ x7).setCell ⟨g, 8, none⟩ x8
theorem Later.set9 {w w1 : World} {g : Nat} {x0 x1 x2 x3 x4 x5 x6 x7 x8 : Value} (h : Later w w1) (hg : w.heap.size ≤ g) : Later w (set9 w1 g x0 x1 x2 x3 x4 x5 x6 x7 x8) := by
  unfold Proofs.YtmkddhkpeiajhaaGreatDoor.set9
  repeat (first | (with_reducible exact h) | (with_reducible refine Later.setCell ?_ hg _))
theorem frG {w w1 : World} {g i : Nat} (h : Fr w w1 (fun k => k = g)) (u : Value) : Fr w (w1.setCell ⟨g, i, none⟩ u) (fun k => k = g) := Fr.set (p := fun k => k = g) (a := ⟨g, i, none⟩) h (fun _ => rfl) u
theorem Fr.set9 {w : World} (g : Nat) (x0 x1 x2 x3 x4 x5 x6 x7 x8 : Value) : Fr w (set9 w g x0 x1 x2 x3 x4 x5 x6 x7 x8) (fun k => k = g) := by
  unfold Proofs.YtmkddhkpeiajhaaGreatDoor.set9
  repeat (first | (with_reducible exact Fr.refl _ _) | (with_reducible refine frG ?_ _))
theorem Blk.set9 {w : World} {g : Nat} {t : TypeId} {y0 y1 y2 y3 y4 y5 y6 y7 y8 x0 x1 x2 x3 x4 x5 x6 x7 x8 : Value} (h : Blk w g t #[y0, y1, y2, y3, y4, y5, y6, y7, y8]) : Blk (set9 w g x0 x1 x2 x3 x4 x5 x6 x7 x8) g t #[x0, x1, x2, x3, x4, x5, x6, x7, x8] :=
  by
  unfold Proofs.YtmkddhkpeiajhaaGreatDoor.set9
  have h0 := (h.set_ 0 x0).set_ 1 x1
  simp only [List.setIfInBounds_toArray, List.set_cons_zero, List.set_cons_succ] at h0
  have h1 := (h0.set_ 2 x2).set_ 3 x3
  simp only [List.setIfInBounds_toArray, List.set_cons_zero, List.set_cons_succ] at h1
  have h2 := (h1.set_ 4 x4).set_ 5 x5
  simp only [List.setIfInBounds_toArray, List.set_cons_zero, List.set_cons_succ] at h2
  have h3 := (h2.set_ 6 x6).set_ 7 x7
  simp only [List.setIfInBounds_toArray, List.set_cons_zero, List.set_cons_succ] at h3
  have h4 := h3.set_ 8 x8
  simp only [List.setIfInBounds_toArray, List.set_cons_zero, List.set_cons_succ] at h4
  exact h4
theorem RetPc.store9 {w w1 : World} {lo : Nat → Prop} {g : Nat} {q : Pc} {t : TypeId} {y0 y1 y2 y3 y4 y5 y6 y7 y8 : Value} {k1 a1 b1 c1 d1 : Int} {A1 : Option Addr} {n1 cp1 : Nat} (ht : 98 ≠ t) (hB : Blk w1 g t #[y0, y1, y2, y3, y4, y5, y6, y7, y8]) (h1 : ReC w1 lo q.re ⟨k1, a1, b1, c1, d1, A1, n1, cp1⟩) (hl : Later w w1) (hg : w.heap.size ≤ g) :
    RetPc w lo q (.returned (.agg #[.int .i64 k1, .int .u64 a1, .int .u64 b1, .int .u64 c1, .int .u64 d1, .slice A1 n1 cp1, .int .i64 (q.deep : Int), .int .i64 (q.leaves : Int), .bool q.big])) (set9 w1 g (.int .i64 k1) (.int .u64 a1) (.int .u64 b1) (.int .u64 c1) (.int .u64 d1) (.slice A1 n1 cp1) (.int .i64 (q.deep : Int)) (.int .i64 (q.leaves : Int)) (.bool q.big)) :=
  ⟨k1, a1, b1, c1, d1, A1, n1, cp1, rfl, ReC.fr (Fr.set9 g _ _ _ _ _ _ _ _ _) (spares_blk lo hB ht) _ h1, hl.set9 hg⟩
theorem leaf_any (lo : Nat → Prop) (kind : Int) (s : W4) (w : World) :
    Calls Tryz.prog 125 #[.int .i64 kind, .agg #[.int .u64 (s.1 : Int), .int .u64 (s.2.1 : Int), .int .u64 (s.2.2.1 : Int), .int .u64 (s.2.2.2 : Int)]] w (RetPc w lo (pcLeaf kind s)) := by
  obtain ⟨s0, s1, s2, s3⟩ := s
  go_enter Tryz.func125, Tryz.ntmps125
  go_wp2_with fail
  exact bodyPost_ret (v := .agg #[.int .i64 kind, .int .u64 (s0 : Int), .int .u64 (s1 : Int), .int .u64 (s2 : Int), .int .u64 (s3 : Int), .slice none 0 0, .int .i64 1, .int .i64 1, .bool false]) (by simp [results, Tryz.results125, go_sem]) rfl (RetPc.mk (q := pcLeaf kind (s0, s1, s2, s3)) rfl rfl rfl (ReC.leaf _ lo kind (s0, s1, s2, s3) none 0) (((Later.refl w).alloc _).alloc _))
theorem one_any (lo : Nat → Prop) (kind : Int) (k a b c d : Int) (A : Option Addr) (n cp : Nat) (p : Pc) (w : World) (h : ReC w lo p.re ⟨k, a, b, c, d, A, n, cp⟩) (hp : PcOk p) (hlo : Up w lo) :
    Calls Tryz.prog 115 #[.int .i64 kind, .agg #[.int .i64 k, .int .u64 a, .int .u64 b, .int .u64 c, .int .u64 d, .slice A n cp, .int .i64 (p.deep : Int), .int .i64 (p.leaves : Int), .bool p.big]] w (RetPc w lo (pcOne kind p)) := by
  obtain ⟨t, dp, lv, bg⟩ := p
  obtain ⟨o1, o2, o3, o4⟩ : 1 ≤ dp ∧ dp ≤ 40 ∧ 1 ≤ lv ∧ lv ≤ 400 := ⟨hp.1, hp.2.1, hp.2.2.1, hp.2.2.2.1⟩
  have hd : (dp : Int) ≤ 40 := by omega
  obtain ⟨q, hq⟩ : ∃ q, q = pcOne kind ⟨t, dp, lv, bg⟩ := ⟨_, rfl⟩
  have hc : ∀ (w0 : World) (B : Nat), B = w.heap.size + 1 + 1 → ReC w0 lo (.node kind z4 [t]) ⟨kind, 0, 0, 0, 0, some ⟨B, 0, none⟩, 1, 1⟩ → Calls Tryz.prog 117 #[.agg #[.int .i64 kind, .int .u64 0, .int .u64 0, .int .u64 0, .int .u64 0, .slice (some ⟨w.heap.size + 1 + 1, 0, none⟩) 1 1, .int .i64 ((dp : Int) + 1), .int .i64 (lv : Int), .bool bg]] w0 (RetPc w0 lo q) := by
    rintro w0 B rfl h0
    rw [hq]
    exact fits_any lo kind 0 0 0 0 _ 1 1 (.node kind z4 [t]) (dp + 1) lv bg _ _ w0 h0 (by omega) rfl (by omega) (by omega)
  rw [← hq]
  clear hq
  go_enter Tryz.func115, Tryz.ntmps115
  go_wp2_with fail
  refine (hc _ _ (by simp) (ReC.one (x1 := ⟨k, a, b, c, d, A, n, cp⟩) kind ((h.later (((Later.refl w).alloc _).alloc _))) (hlo.later (((Later.refl w).alloc _).alloc _)))).mono ?_
  rintro e w1 ⟨k1, a1, b1, c1, d1, A1, n1, cp1, rfl, h1, hl1⟩
  have B4 := blkL hl1 (Blk.alloc (blk_at (w := w.alloc _) (cs := #[.int .i64 0, .int .u64 0, .int .u64 0, .int .u64 0, .int .u64 0, .slice none 0 0, .int .i64 0, .int .i64 0, .bool false]) (t := 117) (g := w.heap.size + 1) (by simp)) _)
  obtain ⟨z0, z1, z2, z3, z4, z5, z6, z7, z8, y0, y1, y2, y3, y4, y5, y6, y7, y8⟩ := cells9 B4
  have hl1 := (((((Later.refl w).alloc _).alloc _).alloc _).trans hl1)
  have hsz : w.heap.size ≤ w.heap.size + 1 := by omega
  go_wp2_with fail
  refine bodyPost_ret (v := .agg #[.int .i64 k1, .int .u64 a1, .int .u64 b1, .int .u64 c1, .int .u64 d1, .slice A1 n1 cp1, .int .i64 (q.deep : Int), .int .i64 (q.leaves : Int), .bool q.big]) (by simp [results, Tryz.results115, go_sem, z0, z1, z2, z3, z4, z5, z6, z7, z8]) rfl ?_
  exact RetPc.store9 (by decide) B4 h1 hl1 hsz
set_option maxHeartbeats 1000000 in
theorem two_any (lo : Nat → Prop) (kind : Int) (lk la lb lc ld : Int) (lA : Option Addr) (ln lcp : Nat) (rk ra rb rc rd : Int) (rA : Option Addr) (rn rcp : Nat) (p1 p2 : Pc) (w : World) (hl : ReC w lo p1.re ⟨lk, la, lb, lc, ld, lA, ln, lcp⟩) (hr : ReC w lo p2.re ⟨rk, ra, rb, rc, rd, rA, rn, rcp⟩) (hp1 : PcOk p1) (hp2 : PcOk p2) (hlo : Up w lo) :
    Calls Tryz.prog 101 #[.int .i64 kind, .agg #[.int .i64 lk, .int .u64 la, .int .u64 lb, .int .u64 lc, .int .u64 ld, .slice lA ln lcp, .int .i64 (p1.deep : Int), .int .i64 (p1.leaves : Int), .bool p1.big], .agg #[.int .i64 rk, .int .u64 ra, .int .u64 rb, .int .u64 rc, .int .u64 rd, .slice rA rn rcp, .int .i64 (p2.deep : Int), .int .i64 (p2.leaves : Int), .bool p2.big]] w (RetPc w lo (pcTwo kind p1 p2)) := by
  obtain ⟨t1, d1, l1, b1⟩ := p1
  obtain ⟨t2, d2, l2, b2⟩ := p2
  obtain ⟨o1, o2, o3, o4⟩ : 1 ≤ d1 ∧ d1 ≤ 40 ∧ 1 ≤ l1 ∧ l1 ≤ 400 := ⟨hp1.1, hp1.2.1, hp1.2.2.1, hp1.2.2.2.1⟩
  obtain ⟨o5, o6, o7, o8⟩ : 1 ≤ d2 ∧ d2 ≤ 40 ∧ 1 ≤ l2 ∧ l2 ≤ 400 := ⟨hp2.1, hp2.2.1, hp2.2.2.1, hp2.2.2.2.1⟩
  obtain ⟨q, hq⟩ : ∃ q, q = pcTwo kind ⟨t1, d1, l1, b1⟩ ⟨t2, d2, l2, b2⟩ := ⟨_, rfl⟩
  have hc : ∀ (w0 : World) (B : Nat) (D L : Int) (bg : Bool), D = ((max (d1 + 1) d2 : Nat) : Int) → L = ((l1 + l2 : Nat) : Int) → bg = (b1 || b2) → ReC w0 lo (.node kind z4 [t1, t2]) ⟨kind, 0, 0, 0, 0, some ⟨B, 0, none⟩, 2, 2⟩ →
      Calls Tryz.prog 117 #[.agg #[.int .i64 kind, .int .u64 0, .int .u64 0, .int .u64 0, .int .u64 0, .slice (some ⟨B, 0, none⟩) 2 2, .int .i64 D, .int .i64 L, .bool bg]] w0 (RetPc w0 lo q) := by
    intro w0 B D L bg hD hL hb h0
    rw [hq]
    subst hb
    exact fits_any lo kind 0 0 0 0 _ 2 2 (.node kind z4 [t1, t2]) (max (d1 + 1) d2) (l1 + l2) (b1 || b2) D L w0 h0 hD hL (by omega) (by omega)
  rw [← hq]
  clear hq
  cases b1
  all_goals
    by_cases hm : d2 ≤ d1 + 1
    all_goals
      have hmi : (d2 : Int) ≤ (d1 : Int) + 1 ∨ (d1 : Int) + 1 < (d2 : Int) := by omega
      rcases hmi with hmi | hmi
      all_goals (try (exfalso; omega))
      all_goals
        go_enter Tryz.func101, Tryz.ntmps101
        go_wp2_with fail
        refine (hc _ (w.heap.size + 1 + 1 + 1) _ _ _ (by omega) (by omega) (by first | rfl | simp) (ReC.two (x1 := ⟨lk, la, lb, lc, ld, lA, ln, lcp⟩) (x2 := ⟨rk, ra, rb, rc, rd, rA, rn, rcp⟩) kind (hl.later ((((Later.refl w).alloc _).alloc _).alloc _)) (hr.later ((((Later.refl w).alloc _).alloc _).alloc _)) (hlo.later ((((Later.refl w).alloc _).alloc _).alloc _)) |> fun h => (by simpa using h))).mono ?_
        rintro e w1 ⟨k1, a1, b1, c1, d1, A1, n1, cp1, rfl, h1, hl1⟩
        have B6 := blkL hl1 (Blk.alloc (blk_at (w := (w.alloc _).alloc _) (cs := #[.int .i64 0, .int .u64 0, .int .u64 0, .int .u64 0, .int .u64 0, .slice none 0 0, .int .i64 0, .int .i64 0, .bool false]) (t := 117) (g := w.heap.size + 1 + 1) (by simp)) _)
        obtain ⟨z0, z1, z2, z3, z4, z5, z6, z7, z8, y0, y1, y2, y3, y4, y5, y6, y7, y8⟩ := cells9 B6
        have hl1 := ((((((Later.refl w).alloc _).alloc _).alloc _).alloc _).trans hl1)
        have hsz : w.heap.size ≤ w.heap.size + 1 + 1 := by omega
        go_wp2_with fail
        refine bodyPost_ret (v := .agg #[.int .i64 k1, .int .u64 a1, .int .u64 b1, .int .u64 c1, .int .u64 d1, .slice A1 n1 cp1, .int .i64 (q.deep : Int), .int .i64 (q.leaves : Int), .bool q.big]) (by simp [results, Tryz.results101, go_sem, z0, z1, z2, z3, z4, z5, z6, z7, z8]) rfl ?_
        exact RetPc.store9 (by decide) B6 h1 hl1 hsz
end Go.Proofs.YtmkddhkpeiajhaaGreatDoor
namespace Go.Proofs.YtmkddhkpeiajhaaGreatDoor
open Go.RowKit
def pcL (p : Pc) (x : ReX) : List Value := reL x ++ [.int .i64 (p.deep : Int), .int .i64 (p.leaves : Int), .bool p.big]
def pcsL : List Pc → List ReX → List Value
  | p :: ps, x :: xs => pcL p x ++ pcsL ps xs
  | _, _ => []
theorem pcL_len (p : Pc) (x : ReX) : (pcL p x).length = 9 := rfl
theorem pcsL_get : ∀ (ps : List Pc) (xs : List ReX) (i j : Nat) (p : Pc) (x : ReX) (u : Value), ps[i]? = some p → xs[i]? = some x → (pcL p x)[j]? = some u → (pcsL ps xs)[i * 9 + j]? = some u
  | [], _, _, _, _, _, _, h, _, _ => by cases h
  | _ :: _, [], _, _, _, _, _, _, h, _ => by cases h
  | p :: ps, x :: xs, 0, j, _, _, u, h, h2, hu => by
    injection h with h
    injection h2 with h2
    subst h h2
    have hj : j < 9 := by have := (List.getElem?_eq_some_iff.1 hu).1; rw [pcL_len] at this; exact this
    rw [pcsL, Nat.zero_mul, Nat.zero_add, List.getElem?_append_left (by rw [pcL_len]; exact hj)]
    exact hu
  | p :: ps, x :: xs, i + 1, j, _, _, u, h, h2, hu => by
    rw [pcsL, List.getElem?_append_right (by rw [pcL_len]; omega), pcL_len, show (i + 1) * 9 + j - 9 = i * 9 + j by omega]
    exact pcsL_get ps xs i j _ _ u h h2 hu
theorem pcsL_snoc : ∀ (ps : List Pc) (xs : List ReX) (p : Pc) (x : ReX), xs.length = ps.length → pcsL (ps ++ [p]) (xs ++ [x]) = pcsL ps xs ++ pcL p x
  | [], [], p, x, _ => by simp [pcsL]
  | [], _ :: _, _, _, h => by simp at h
  | _ :: _, [], _, _, h => by simp at h
  | q :: ps, y :: ys, p, x, h => by
    show pcL q y ++ pcsL (ps ++ [p]) (ys ++ [x]) = _
    rw [pcsL_snoc ps ys p x (by simpa using h), pcsL, List.append_assoc]
def RdP (w : World) (lo : Nat → Prop) (A : Option Addr) (n : Nat) (ps : List Pc) : Prop :=
  ps.length = n ∧ ∃ xs : List ReX, ReCs w lo (ps.map Pc.re) xs ∧ Reads w w.heap.size 9 A n (pcsL ps xs)
theorem RdP.later {w w' : World} {lo : Nat → Prop} {n : Nat} {A : Option Addr} {ps : List Pc} (h : RdP w lo A n ps) (hl : Later w w') : RdP w' lo A n ps := by
  obtain ⟨h1, xs, h2, h3⟩ := h
  exact ⟨h1, xs, h2.later hl, (h3.below hl).more hl.size⟩
theorem RdP.at_ {w : World} {lo : Nat → Prop} {n : Nat} {A : Option Addr} {ps : List Pc} (h : RdP w lo A n ps) {i : Nat} {p : Pc} (hp : ps[i]? = some p) :
    ∃ b off k a0 a1 a2 a3 rA rn rc, A = some ⟨b, off, none⟩ ∧ ReC w lo p.re ⟨k, a0, a1, a2, a3, rA, rn, rc⟩ ∧ w.cell? ⟨b, off + i * 9, none⟩ = some (.int .i64 k) ∧ w.cell? ⟨b, off + i * 9 + 1, none⟩ = some (.int .u64 a0) ∧ w.cell? ⟨b, off + i * 9 + 2, none⟩ = some (.int .u64 a1) ∧
      w.cell? ⟨b, off + i * 9 + 3, none⟩ = some (.int .u64 a2) ∧ w.cell? ⟨b, off + i * 9 + 4, none⟩ = some (.int .u64 a3) ∧ w.cell? ⟨b, off + i * 9 + 5, none⟩ = some (.slice rA rn rc) ∧ w.cell? ⟨b, off + i * 9 + 6, none⟩ = some (.int .i64 (p.deep : Int)) ∧
      w.cell? ⟨b, off + i * 9 + 7, none⟩ = some (.int .i64 (p.leaves : Int)) ∧ w.cell? ⟨b, off + i * 9 + 8, none⟩ = some (.bool p.big) := by
  obtain ⟨h1, xs, h2, h3⟩ := h
  have hi : i < n := by have := (List.getElem?_eq_some_iff.1 hp).1; omega
  obtain ⟨x, hx, hr⟩ := h2.get i p.re (by rw [List.getElem?_map, hp]; rfl)
  have hlen := h2.len
  rw [List.length_map] at hlen
  obtain ⟨ad, rfl, hb, hc⟩ := h3.2 (by omega)
  have hl : 0 < xs.length := by omega
  have hl2 : 0 < ps.length := by omega
  have h0 := hc 0 _ (pcsL_get ps xs 0 0 ps[0] xs[0] _ (List.getElem?_eq_getElem hl2) (List.getElem?_eq_getElem hl) rfl)
  obtain ⟨b, off, sp⟩ := ad
  have hsp : sp = none := by simpa [Addr.add] using World.cell?_spot h0
  subst hsp
  have g : ∀ j u, (pcL p x)[j]? = some u → w.cell? ⟨b, off + i * 9 + j, none⟩ = some u := fun j u hu => by
    have := hc _ _ (pcsL_get ps xs i j p x u hp hx hu)
    rw [Addr.add_lit] at this
    rw [Nat.add_assoc]
    exact this
  obtain ⟨k, a0, a1, a2, a3, rA, rn, rc⟩ := x
  exact ⟨b, off, k, a0, a1, a2, a3, rA, rn, rc, rfl, hr, g 0 _ rfl, g 1 _ rfl, g 2 _ rfl, g 3 _ rfl, g 4 _ rfl, g 5 _ rfl, g 6 _ rfl, g 7 _ rfl, g 8 _ rfl⟩
theorem pcFold_step (k : Int) (ps : List Pc) (q p : Pc) {j : Nat} (hp : ps[j]? = some p) : pcFold k (ps.take (j + 1)).reverse q = pcFold k (ps.take j).reverse (pcTwo k p q) := by
  obtain ⟨hl, e⟩ := List.getElem?_eq_some_iff.1 hp
  rw [List.take_succ_eq_append_getElem hl, e, List.reverse_append]
  rfl
theorem pcRow_last (k : Int) (ps : List Pc) (p : Pc) {j : Nat} (hj : ps.length = j + 1) (hp : ps[j]? = some p) : pcRow k ps = pcFold k (ps.take j).reverse p := by
  have e : ps.reverse = p :: (ps.take j).reverse := by
    obtain ⟨hl, e⟩ := List.getElem?_eq_some_iff.1 hp
    have h2 : ps = ps.take j ++ [p] := by
      have := List.take_succ_eq_append_getElem hl
      rw [e, ← hj, List.take_length] at this
      exact this
    rw [h2, List.reverse_append, List.take_left' (by rw [List.length_take]; omega)]
    rfl
  unfold pcRow
  rw [e]
def RowAt (lo : Nat → Prop) (kind : Int) (ps : List Pc) (Q : Pc) (w : World) (s6 : Value) (wr : World) : Prop :=
  ∃ (j : Nat) (q : Pc) (k a b c d : Int) (A : Option Addr) (n cp : Nat), j ≤ ps.length ∧ s6 = .int .i64 ((j : Int) - 1) ∧ PcOk q ∧ ReC wr lo q.re ⟨k, a, b, c, d, A, n, cp⟩ ∧
    Blk wr (w.heap.size + 1) 117 #[.int .i64 k, .int .u64 a, .int .u64 b, .int .u64 c, .int .u64 d, .slice A n cp, .int .i64 (q.deep : Int), .int .i64 (q.leaves : Int), .bool q.big] ∧
    Blk wr w.heap.size 117 #[.int .i64 0, .int .u64 0, .int .u64 0, .int .u64 0, .int .u64 0, .slice none 0 0, .int .i64 0, .int .i64 0, .bool false] ∧ Later w wr ∧ pcFold kind (ps.take j).reverse q = Q
set_option maxHeartbeats 2000000 in
theorem row_any (lo : Nat → Prop) (kind : Int) (A : Option Addr) (n c : Nat) (ps : List Pc) (w : World) (hr : RdP w lo A n ps) (hok : ∀ p ∈ ps, PcOk p) (hn : 0 < n) (hn2 : n ≤ 1000000000) (hlo : Up w lo) :
    Calls Tryz.prog 83 #[.int .i64 kind, .slice A n c] w (RetPc w lo (pcRow kind ps)) := by
  have hlen := hr.1
  obtain ⟨m, hm⟩ : ∃ m, n = m + 1 := ⟨n - 1, by omega⟩
  subst hm
  obtain ⟨p, hp⟩ : ∃ p, ps[m]? = some p := ⟨_, List.getElem?_eq_getElem (by omega)⟩
  obtain ⟨b, off, k0, a0, a1, a2, a3, rA, rn, rc, rfl, hre, c0, c1, c2, c3, c4, c5, c6, c7, c8⟩ := (hr.later ((Later.refl w).alloc (.cells #[.int .i64 0, .int .u64 0, .int .u64 0, .int .u64 0, .int .u64 0, .slice none 0 0, .int .i64 0, .int .i64 0, .bool false] 117))).at_ hp
  have hpo := hok p (List.mem_of_getElem? hp)
  have hQ := pcRow_last kind ps p hlen hp
  obtain ⟨Q, hQe⟩ : ∃ Q, Q = pcRow kind ps := ⟨_, rfl⟩
  rw [← hQe] at hQ ⊢
  have HQ := Lib.hid hQ
  have HL := Lib.hid hlen
  have e1 : IntKind.i64.wrap (((m + 1 : Nat) : Int) - 1) = (m : Int) := by rw [show ((m + 1 : Nat) : Int) - 1 = (m : Int) by omega]; exact IntWalk.i64_in _ (by omega)
  clear hQ hQe hlen hp
  go_enter Tryz.func83, Tryz.ntmps83
  go_wp2_with fail
  go_loopw [6] (fun s6 wr => RowAt lo kind ps Q w s6 wr) (fun s6 _ => (intOf s6 + 1).toNat)
  case atStart => exact ⟨m, p, k0, a0, a1, a2, a3, rA, rn, rc, by have := HL.out; omega, by go_num, hpo, hre.later ((Later.refl _).alloc _), blk_at (by simp), (Blk.new w _ _).alloc _, ((Later.refl w).alloc _).alloc _, HQ.out.symm⟩
  case round =>
    clear c0 c1 c2 c3 c4 c5 c6 c7 c8 hre HQ hpo e1
    obtain ⟨j, q, k, a, b', c', d, A', n', cp, hj, rfl, hqo, hq, B5, B4, hl, hQ⟩ := hrel
    have HQ := Lib.hid hQ
    clear hQ
    cases j with
    | zero =>
      have e : ((0 : Nat) : Int) - 1 = -1 := rfl
      rw [e]
      have hqQ : q = Q := HQ.out
      subst hqQ
      obtain ⟨u0, u1, u2, u3, u4, u5, u6, u7, u8, -⟩ := cells9 B5
      obtain ⟨z0, z1, z2, z3, z4, z5, z6, z7, z8, y0, y1, y2, y3, y4, y5, y6, y7, y8⟩ := cells9 B4
      clear e HQ
      go_wp2_with fail
      refine bodyPost_ret (v := .agg #[.int .i64 k, .int .u64 a, .int .u64 b', .int .u64 c', .int .u64 d, .slice A' n' cp, .int .i64 (q.deep : Int), .int .i64 (q.leaves : Int), .bool q.big]) (by simp [results, Tryz.results83, go_sem, z0, z1, z2, z3, z4, z5, z6, z7, z8]) rfl ?_
      exact RetPc.store9 (by decide) B4 hq hl (Nat.le_refl _)
    | succ i =>
      have e : ((i + 1 : Nat) : Int) - 1 = (i : Int) := by omega
      rw [e]
      clear e
      have hlen := HL.out
      obtain ⟨pi, hpi⟩ : ∃ pi, ps[i]? = some pi := ⟨_, List.getElem?_eq_getElem (by omega)⟩
      have hpio := hok pi (List.mem_of_getElem? hpi)
      have hst := pcFold_step kind ps q pi hpi
      have HST := Lib.hid hst
      obtain ⟨b2, off2, ik, i0, i1, i2, i3, iA, inn, ic, hA, hire, v0, v1, v2, v3, v4, v5, v6, v7, v8⟩ := (hr.later hl).at_ hpi
      injection hA with hA
      injection hA with hA1 hA2
      subst hA1 hA2
      obtain ⟨u0, u1, u2, u3, u4, u5, u6, u7, u8, -⟩ := cells9 B5
      have hi1 : (i : Int) < ((m + 1 : Nat) : Int) := by omega
      have hi2 : (i : Int) < (m : Int) + 1 := by omega
      have hi3 : (i : Int) ≤ 1000000000 := by omega
      clear hlen hpi hst
      go_wp2_with fail
      go_region_law ((go_simp; go_at_call 101; refine (two_any lo kind ik i0 i1 i2 i3 iA inn ic k a b' c' d A' n' cp pi q _ (hire.later (Later.drew (Later.refl _))) (hq.later (Later.drew (Later.refl _))) hpio hqo (hlo.later hl.drew)).mono ?_; rintro e w1 ⟨k1, a1, b1, c1, d1, A1, n1, cp1, rfl, h1, hl1⟩; have D5 := blkL hl1 B5.drew; have D4 := blkL hl1 B4.drew; have hl1 := hl.drew.trans hl1; obtain ⟨z0, z1, z2, z3, z4, z5, z6, z7, z8, y0, y1, y2, y3, y4, y5, y6, y7, y8⟩ := cells9 D5; go_simp))
      all_goals
        go_wp2_with fail
        go_roundw
        case rel => exact ⟨i, pcTwo kind pi q, k1, a1, b1, c1, d1, A1, n1, cp1, by omega, by go_num, pcTwo_ok kind hpio hqo, ReC.fr (Fr.set9 (w.heap.size + 1) _ _ _ _ _ _ _ _ _) (spares_blk lo D5 (by decide)) _ h1, D5.set9, Blk.fr D4 (Fr.set9 (w.heap.size + 1) _ _ _ _ _ _ _ _ _) (by show ¬ w.heap.size = w.heap.size + 1; omega), hl1.set9 (Nat.le_succ _), HST.out ▸ HQ.out⟩
        case measure => simp [intOf]
end Go.Proofs.YtmkddhkpeiajhaaGreatDoor
namespace Go.Proofs.YtmkddhkpeiajhaaGreatDoor
open Go.RowKit
theorem re_info : (Tryz.prog.info? 98).map (fun i => (i.zero, i.size, i.bytes)) = some (some (.agg #[.int .i64 0, .int .u64 0, .int .u64 0, .int .u64 0, .int .u64 0, .slice none 0 0]), 6, 64) := by kernel_rfl
theorem piece_info : (Tryz.prog.info? 117).map (fun i => (i.zero, i.size, i.bytes)) = some (some (.agg #[.int .i64 0, .int .u64 0, .int .u64 0, .int .u64 0, .int .u64 0, .slice none 0 0, .int .i64 0, .int .i64 0, .bool false]), 9, 88) := by kernel_rfl
theorem own_row_blk {w : World} {base : Nat} {e : TypeId} {size n c : Nat} {A : Option Addr} {xs : List Value} (h : w.ownsRow base e size (.slice A n c) n xs) {k : Nat} (hk : ob A = some k) : k < w.heap.size ∧ base ≤ k ∧ ∃ cs, Blk w k e cs := by
  rcases h.2 with ⟨e1, _⟩ | ⟨g, cap, cur, hv, h1, h2, h3⟩
  · injection e1 with e1
    subst e1
    cases hk
  · injection hv with hv
    subst hv
    have hk' : g = k := by simpa [ob] using hk
    subst hk'
    exact ⟨Blk.lt (t := e) h2, h1, cur, h2⟩
theorem own_row_form {w : World} {base : Nat} {e : TypeId} {size n c : Nat} {A : Option Addr} {xs : List Value} (h : w.ownsRow base e size (.slice A n c) n xs) : n ≤ c := by
  rcases h.2 with ⟨e1, _⟩ | ⟨g, cap, cur, hv, h1, h2, h3, h4, _⟩
  · injection e1 with _ e1 e2; omega
  · injection hv with _ _ hv; omega
def OwnT (w : World) (lo : Nat → Prop) (base : Nat) (A : Option Addr) (n c : Nat) (ts : List Tree) : Prop :=
  ts.length = n ∧ ∃ xs : List ReX, ReCs w (fun k => lo k ∧ ob A ≠ some k) ts xs ∧ w.ownsRow base 98 6 (.slice A n c) n (xs.flatMap reL)
def OwnP (w : World) (lo : Nat → Prop) (base : Nat) (A : Option Addr) (n c : Nat) (ps : List Pc) : Prop :=
  ps.length = n ∧ ∃ xs : List ReX, ReCs w lo (ps.map Pc.re) xs ∧ w.ownsRow base 117 9 (.slice A n c) n (pcsL ps xs)
section
variable {w w' : World} {lo : Nat → Prop} {base n c : Nat} {A : Option Addr} {ts : List Tree} {ps : List Pc}
theorem OwnT.nil : OwnT w lo base none 0 0 [] := ⟨rfl, [], by unfold ReCs; rfl, World.ownsRow_nil _ _ _ _⟩
theorem OwnP.nil : OwnP w lo base none 0 0 [] := ⟨rfl, [], by unfold ReCs; rfl, World.ownsRow_nil _ _ _ _⟩
theorem OwnT.fr {p : Nat → Prop} (h : OwnT w lo base A n c ts) (hf : Fr w w' p) (hp : Spares w lo p) (hA : ∀ k, ob A = some k → ¬ p k) : OwnT w' lo base A n c ts := by
  obtain ⟨h1, xs, h2, h3⟩ := h
  exact ⟨h1, xs, ReCs.fr hf (fun k cs hk hB => hp k cs hk.1 hB) ts h2, ownsRow_fr h3 hf (fun k hk => hA k (by rw [← ob_own A n c]; exact hk))⟩
theorem OwnT.later (h : OwnT w lo base A n c ts) (hl : Later w w') : OwnT w' lo base A n c ts := h.fr (Fr.laterF hl) (spares_false _ _) (fun _ _ h => h)
theorem OwnP.fr {p : Nat → Prop} (h : OwnP w lo base A n c ps) (hf : Fr w w' p) (hp : Spares w lo p) (hA : ∀ k, ob A = some k → ¬ p k) : OwnP w' lo base A n c ps := by
  obtain ⟨h1, xs, h2, h3⟩ := h
  exact ⟨h1, xs, ReCs.fr hf hp _ h2, ownsRow_fr h3 hf (fun k hk => hA k (by rw [← ob_own A n c]; exact hk))⟩
theorem OwnP.later (h : OwnP w lo base A n c ps) (hl : Later w w') : OwnP w' lo base A n c ps := h.fr (Fr.laterF hl) (spares_false _ _) (fun _ _ h => h)
theorem OwnP.rd (h : OwnP w lo base A n c ps) : RdP w lo A n ps := by
  obtain ⟨h1, xs, h2, h3⟩ := h
  exact ⟨h1, xs, h2, Reads.of_own h3⟩
theorem OwnP.ne {g : Nat} {t : TypeId} {cs : Array Value} (h : OwnP w lo base A n c ps) (hB : Blk w g t cs) (ht : 117 ≠ t) : ∀ k, ob A = some k → ¬ k = g := by
  rintro k hk rfl
  obtain ⟨_, xs, _, h3⟩ := h
  obtain ⟨_, _, cs', hB'⟩ := own_row_blk h3 hk
  exact Blk.ne_ hB' hB ht rfl
theorem OwnP.lt (h : OwnP w lo base A n c ps) : ∀ k, ob A = some k → base ≤ k ∧ k < w.heap.size := fun k hk => by
  obtain ⟨_, xs, _, h3⟩ := h
  obtain ⟨a, b, _⟩ := own_row_blk h3 hk
  exact ⟨b, a⟩
theorem OwnT.lt (h : OwnT w lo base A n c ts) : ∀ k, ob A = some k → base ≤ k ∧ k < w.heap.size := fun k hk => by
  obtain ⟨_, xs, _, h3⟩ := h
  obtain ⟨a, b, _⟩ := own_row_blk h3 hk
  exact ⟨b, a⟩
end
theorem wpList_append_t (w : World) {ops : Array Oper} {rest : List Oper} {o : Oper} {a : Act} {Q : Exit → Act → World → Prop} (hgd : o.guard = none) (s x : Operand)
    (ho : o.op = .call { callee := .builtin .append, args := #[s, x], argTypes := #[96, 96] })
    (lo : Nat → Prop) (base : Nat) (A : Option Addr) (n c : Nat) (ts : List Tree) (hs : a.eval s = .slice A n c) (hown : OwnT w lo base A n c ts) (t : Tree) (rx : ReX) (ht : ReC w (fun k => lo k ∧ ob A ≠ some k) t rx)
    (B : Nat) (A2 : Option Addr) (hx : a.eval x = .slice A2 1 1) (hr : Reads w B 6 A2 1 (reL rx)) (hbd : n < 1000000000) (hbase : base ≤ w.heap.size)
    (h : ∀ A' n' c' w', n' = n + 1 → OwnT w' lo base A' n' c' (ts ++ [t]) → w.grownBy w' (ob A) → wpList Tryz.prog ops Q rest (a.put o.dst (.slice A' n' c')) w') :
    wpList Tryz.prog ops Q (o :: rest) a w := by
  obtain ⟨i0, hi, hz0, hz1, hz2⟩ := info_parts re_info
  obtain ⟨h1, xs, h2, h3⟩ := hown
  refine wpList_append_any w hgd s x 96 ho base 98 i0 _ 6 64 Tryz.underlying96 hi hz0 hz1 hz2 rfl (by decide) (.slice A n c) n _ hs h3 B A2 1 1 (reL rx) hx hr (by intro u hu; simp [reL] at hu; rcases hu with rfl | rfl | rfl | rfl | rfl | rfl <;> rfl) (by unfold maxLen; omega) (by omega) hbase ?_
  intro v' w' g2 g3 g4
  have hv : ∃ A' c', v' = .slice A' (n + 1) c' := by
    rcases g2.2 with ⟨_, e⟩ | ⟨g, cap, cur, rfl, _⟩
    · omega
    · exact ⟨_, _, rfl⟩
  obtain ⟨A', c', rfl⟩ := hv
  rw [ob_own] at g3 g4
  refine h A' _ c' w' rfl ⟨by rw [List.length_append, h1]; rfl, xs ++ [rx], ?_, by rw [List.flatMap_append]; simpa using g2⟩ g3
  have hmid : ∀ k, k < w.heap.size → (lo k ∧ ob A ≠ some k) → (lo k ∧ ob A ≠ some k ∧ k < w.heap.size) := fun k hk hq => ⟨hq.1, hq.2, hk⟩
  have hsp : Spares w (fun k => lo k ∧ ob A ≠ some k ∧ k < w.heap.size) (fun k => ob A = some k) := fun k _ hk _ e => hk.2.1 e
  have hend : ∀ k, k < w'.heap.size → (lo k ∧ ob A ≠ some k ∧ k < w.heap.size) → (lo k ∧ ob A' ≠ some k) := fun k _ hq => ⟨hq.1, by
    rw [ob_own] at g4
    rcases g4 with g4 | g4
    · rw [g4]; exact hq.2.1
    · rw [g4]; intro e; injection e with e; omega⟩
  exact ReCs.snoc (ReCs.weaken hend _ (ReCs.fr (Fr.of_grown g3) hsp _ (ReCs.weaken hmid ts h2))) (ReC.weaken hend _ (ReC.fr (Fr.of_grown g3) hsp _ (ReC.weaken hmid t ht)))
theorem wpList_append_p (w : World) {ops : Array Oper} {rest : List Oper} {o : Oper} {a : Act} {Q : Exit → Act → World → Prop} (hgd : o.guard = none) (s x : Operand)
    (ho : o.op = .call { callee := .builtin .append, args := #[s, x], argTypes := #[147, 147] })
    (lo : Nat → Prop) (base : Nat) (A : Option Addr) (n c : Nat) (ps : List Pc) (hs : a.eval s = .slice A n c) (hown : OwnP w lo base A n c ps) (p : Pc) (rx : ReX) (ht : ReC w lo p.re rx)
    (B : Nat) (A2 : Option Addr) (hx : a.eval x = .slice A2 1 1) (hr : Reads w B 9 A2 1 (pcL p rx)) (hbd : n < 1000000000) (hbase : base ≤ w.heap.size)
    (h : ∀ A' n' c' w', n' = n + 1 → OwnP w' lo base A' n' c' (ps ++ [p]) → w.grownBy w' (ob A) → (∀ k cs, ob A = some k → ∀ t, Blk w k t cs → t = 117) → wpList Tryz.prog ops Q rest (a.put o.dst (.slice A' n' c')) w') :
    wpList Tryz.prog ops Q (o :: rest) a w := by
  obtain ⟨i0, hi, hz0, hz1, hz2⟩ := info_parts piece_info
  obtain ⟨h1, xs, h2, h3⟩ := hown
  have hbl : ∀ k, ob A = some k → ∃ cs, Blk w k 117 cs := fun k hk => (own_row_blk h3 hk).2.2
  refine wpList_append_any w hgd s x 147 ho base 117 i0 _ 9 88 Tryz.underlying147 hi hz0 hz1 hz2 rfl (by decide) (.slice A n c) n _ hs h3 B A2 1 1 (pcL p rx) hx hr (by intro u hu; simp [pcL, reL] at hu; rcases hu with rfl | rfl | rfl | rfl | rfl | rfl | rfl | rfl | rfl <;> rfl) (by unfold maxLen; omega) (by omega) hbase ?_
  intro v' w' g2 g3 g4
  have hv : ∃ A' c', v' = .slice A' (n + 1) c' := by
    rcases g2.2 with ⟨_, e⟩ | ⟨g, cap, cur, rfl, _⟩
    · omega
    · exact ⟨_, _, rfl⟩
  obtain ⟨A', c', rfl⟩ := hv
  rw [ob_own] at g3
  have hlen := h2.len
  rw [List.length_map] at hlen
  have hsp : Spares w lo (fun k => ob A = some k) := fun k cs hk hB e => by
    obtain ⟨cs', hB'⟩ := hbl k e
    exact Blk.ne_ hB hB' (by decide) rfl
  refine h A' _ c' w' rfl ⟨by rw [List.length_append, h1]; rfl, xs ++ [rx], ?_, by rw [pcsL_snoc ps xs p rx hlen]; exact g2⟩ g3 (fun k cs hk t hB => ?_)
  · rw [List.map_append]
    exact ReCs.snoc (ReCs.fr (Fr.of_grown g3) hsp _ h2) (ReC.fr (Fr.of_grown g3) hsp _ ht)
  · obtain ⟨cs', hB'⟩ := hbl k hk
    rcases Nat.decEq t 117 with hne | he
    · exact (Blk.ne_ hB hB' hne rfl).elim
    · exact he
theorem reads_t (w : World) (x : ReX) (t : TypeId) : Reads (w.alloc (.cells #[.int .i64 x.k, .int .u64 x.a, .int .u64 x.b, .int .u64 x.c, .int .u64 x.d, .slice x.A x.n x.cp] t)) (w.heap.size + 1) 6 (some ⟨w.heap.size, 0, none⟩) 1 (reL x) :=
  ⟨rfl, fun _ => ⟨_, rfl, Nat.lt_succ_self _, fun j u hu => by
    rw [Addr.add_lit, Nat.zero_add, cell_of_row _ _ _ _ _ _ (heap_alloc_new w _), ← Array.getElem?_toList]
    exact hu⟩⟩
theorem reads_p (w : World) (p : Pc) (x : ReX) (t : TypeId) : Reads (w.alloc (.cells #[.int .i64 x.k, .int .u64 x.a, .int .u64 x.b, .int .u64 x.c, .int .u64 x.d, .slice x.A x.n x.cp, .int .i64 (p.deep : Int), .int .i64 (p.leaves : Int), .bool p.big] t)) (w.heap.size + 1) 9 (some ⟨w.heap.size, 0, none⟩) 1 (pcL p x) :=
  ⟨rfl, fun _ => ⟨_, rfl, Nat.lt_succ_self _, fun j u hu => by
    rw [Addr.add_lit, Nat.zero_add, cell_of_row _ _ _ _ _ _ (heap_alloc_new w _), ← Array.getElem?_toList]
    exact hu⟩⟩
end Go.Proofs.YtmkddhkpeiajhaaGreatDoor
