/-
  Raw trees (tailracehand.Tree) among a law's arguments: how they lie in memory, and how one is opened.
-/
import Derived.Test.YtmkddhkpeiajhaaUpto
import Derived.Test.YtmkddhkpeiajhaaLaterQ
import Derived.Deep.Slices
import Derived.ChangeSame
namespace Go.Proofs.Ytmkddhkpeiajhaa
open Go.RowKit

inductive HTree where
  | node (kind n : Int) (kids : List HTree)
def HTree.kind : HTree → Int | .node k _ _ => k
def HTree.num : HTree → Int | .node _ n _ => n
def HTree.kids : HTree → List HTree | .node _ _ l => l

/-- the cells of a raw tree's root -/
structure HX where
  k : Int
  n : Int
  A : Option Addr
  m : Nat
  cp : Nat
def hxL (x : HX) : List Value := [.int .i64 x.k, .int .i64 x.n, .slice x.A x.m x.cp]
theorem hxL_len (x : HX) : (hxL x).length = 3 := rfl
def In64 (k : Int) : Prop := -9223372036854775808 ≤ k ∧ k ≤ 9223372036854775807

mutual
/-- these cells are a raw tree's root; no node has more than M kids -/
def HdC (w : World) (M : Nat) : HTree → HX → Prop
  | .node k n ks, x => x.k = k ∧ x.n = n ∧ In64 k ∧ In64 n ∧ ks.length = x.m ∧ x.m ≤ M ∧ ∃ xs : List HX, Reads w w.heap.size 3 x.A x.m (xs.flatMap hxL) ∧ HdCs w M ks xs
def HdCs (w : World) (M : Nat) : List HTree → List HX → Prop
  | [], xs => xs = []
  | t :: ts, xs => ∃ y ys, xs = y :: ys ∧ HdC w M t y ∧ HdCs w M ts ys
end

theorem reads_later {w w' : World} {size n : Nat} {A : Option Addr} {xs : List Value} (h : Reads w w.heap.size size A n xs) (hl : Later w w') : Reads w' w'.heap.size size A n xs := (h.below hl).more hl.size
mutual
theorem HdC.later {w w' : World} {M : Nat} (hl : Later w w') : ∀ (t : HTree) {x : HX}, HdC w M t x → HdC w' M t x
  | .node k n ks, x, h => by
    unfold HdC at h ⊢
    obtain ⟨h1, h2, h3, h4, h5, h6, xs, h7, h8⟩ := h
    exact ⟨h1, h2, h3, h4, h5, h6, xs, reads_later h7 hl, HdCs.later hl ks h8⟩
theorem HdCs.later {w w' : World} {M : Nat} (hl : Later w w') : ∀ (ts : List HTree) {xs : List HX}, HdCs w M ts xs → HdCs w' M ts xs
  | [], _, h => by unfold HdCs at h ⊢; exact h
  | t :: ts, _, h => by
    unfold HdCs at h ⊢
    obtain ⟨y, ys, e, h1, h2⟩ := h
    exact ⟨y, ys, e, HdC.later hl t h1, HdCs.later hl ts h2⟩
end
theorem HdCs.get {w : World} {M : Nat} : ∀ {ts : List HTree} {xs : List HX} (_h : HdCs w M ts xs) (i : Nat) (t : HTree), ts[i]? = some t → ∃ x, xs[i]? = some x ∧ HdC w M t x
  | [], _, _, _, _, hi => by cases hi
  | t :: ts, _, h, 0, u, hi => by
    unfold HdCs at h
    obtain ⟨y, ys, rfl, h1, _⟩ := h
    injection hi with hi
    subst hi
    exact ⟨y, rfl, h1⟩
  | t :: ts, _, h, i + 1, u, hi => by
    unfold HdCs at h
    obtain ⟨y, ys, rfl, _, h2⟩ := h
    obtain ⟨x, hx, hc⟩ := HdCs.get h2 i u hi
    exact ⟨x, hx, hc⟩
theorem HdCs.of_pairs {w : World} {M : Nat} : ∀ (ls : List (HTree × HX)), (∀ p ∈ ls, HdC w M p.1 p.2) → HdCs w M (ls.map (·.1)) (ls.map (·.2))
  | [], _ => by show HdCs w M [] []; unfold HdCs; rfl
  | p :: ls, h => by
    show HdCs w M (p.1 :: ls.map (·.1)) (p.2 :: ls.map (·.2))
    unfold HdCs
    exact ⟨p.2, _, rfl, h p (List.mem_cons_self ..), HdCs.of_pairs ls fun q hq => h q (List.mem_cons_of_mem _ hq)⟩

theorem flat3 : ∀ (xs : List HX), (xs.flatMap hxL).length = xs.length * 3
  | [] => rfl
  | x :: xs => by rw [List.flatMap_cons, List.length_append, flat3 xs, hxL_len, List.length_cons]; omega
theorem flat3_get : ∀ (xs : List HX) (i j : Nat) (x : HX) (u : Value), xs[i]? = some x → (hxL x)[j]? = some u → (xs.flatMap hxL)[i * 3 + j]? = some u
  | [], _, _, _, _, h, _ => by cases h
  | y :: ys, 0, j, x, u, h, hu => by
    injection h with h
    subst h
    have hj : j < 3 := by have := (List.getElem?_eq_some_iff.1 hu).1; rw [hxL_len] at this; exact this
    rw [List.flatMap_cons, Nat.zero_mul, Nat.zero_add, List.getElem?_append_left (by rw [hxL_len]; exact hj)]
    exact hu
  | y :: ys, i + 1, j, x, u, h, hu => by
    rw [List.flatMap_cons, List.getElem?_append_right (by rw [hxL_len]; omega), hxL_len, show (i + 1) * 3 + j - 3 = i * 3 + j by omega]
    exact flat3_get ys i j x u h hu
theorem flat3_inv (xs : List HX) (j : Nat) (u : Value) (h : (xs.flatMap hxL)[j]? = some u) : ∃ x, xs[j / 3]? = some x ∧ (hxL x)[j % 3]? = some u := by
  have hj := (List.getElem?_eq_some_iff.1 h).1
  rw [flat3] at hj
  have hq : j / 3 < xs.length := by omega
  have hr : j % 3 < (hxL xs[j / 3]).length := by rw [hxL_len]; omega
  have := flat3_get xs (j / 3) (j % 3) _ _ (List.getElem?_eq_getElem hq) (List.getElem?_eq_getElem hr)
  rw [show j / 3 * 3 + j % 3 = j by omega, h] at this
  injection this with this
  exact ⟨_, List.getElem?_eq_getElem hq, by rw [List.getElem?_eq_getElem hr, this]⟩

/-- a kid of a raw tree: its three cells -/
theorem reads_three {w : World} {n : Nat} {A : Option Addr} {xs : List HX} (h : Reads w w.heap.size 3 A n (xs.flatMap hxL)) {i : Nat} (hi : i < n) {x : HX} (hx : xs[i]? = some x) :
    ∃ b off, A = some ⟨b, off, none⟩ ∧ b < w.heap.size ∧ w.cell? ⟨b, off + i * 3, none⟩ = some (.int .i64 x.k) ∧ w.cell? ⟨b, off + i * 3 + 1, none⟩ = some (.int .i64 x.n) ∧ w.cell? ⟨b, off + i * 3 + 2, none⟩ = some (.slice x.A x.m x.cp) := by
  obtain ⟨ad, rfl, hb, hc⟩ := h.2 (by omega)
  have hl : 0 < xs.length := by have := (List.getElem?_eq_some_iff.1 hx).1; omega
  have h0 := hc 0 _ (flat3_get xs 0 0 xs[0] _ (List.getElem?_eq_getElem hl) rfl)
  obtain ⟨b, off, sp⟩ := ad
  have hsp : sp = none := by simpa [Addr.add] using World.cell?_spot h0
  subst hsp
  have g : ∀ j u, (hxL x)[j]? = some u → w.cell? ⟨b, off + i * 3 + j, none⟩ = some u := fun j u hu => by
    have := hc _ _ (flat3_get xs i j x u hx hu)
    rw [Addr.add_lit] at this
    rw [Nat.add_assoc]
    exact this
  exact ⟨b, off, rfl, hb, g 0 _ rfl, g 1 _ rfl, g 2 _ rfl⟩

theorem list_of2 {α : Type} {p : Nat → α → Prop} : ∀ n : Nat, (∀ i, i < n → ∃ y, p i y) → ∃ l : List α, l.length = n ∧ ∀ (i : Nat) (y : α), l[i]? = some y → p i y
  | 0, _ => ⟨[], rfl, fun i y h => by simp at h⟩
  | n + 1, h => by
    obtain ⟨l, hl, hp⟩ := list_of2 n fun i hi => h i (by omega)
    obtain ⟨y, hy⟩ := h n (by omega)
    refine ⟨l ++ [y], by simp [hl], fun i z hz => ?_⟩
    by_cases hi : i < l.length
    · rw [List.getElem?_append_left hi] at hz; exact hp i z hz
    · rw [List.getElem?_append_right (by omega)] at hz
      have : i - l.length = 0 := by
        rcases Nat.eq_zero_or_pos (i - l.length) with h0 | h0
        · exact h0
        · rw [List.getElem?_eq_none (by simp; omega)] at hz; cases hz
      rw [this] at hz
      simp at hz
      subst hz
      rw [show i = n from by omega]
      exact hy

open Go.ChangeShapes Go.WideShapes Go.ChangeAt
theorem cellsHT : Try.prog.cellsOf 24 = 3 := by kernel_rfl
theorem cellsHI : Try.prog.cellsOf 3 = 1 := by kernel_rfl
theorem cellsHS : Try.prog.cellsOf 22 = 1 := by kernel_rfl

set_option maxRecDepth 100000 in
/-- the three fields of a raw tree -/
theorem open_hnode {H : Type} {enc : TypeId × Value → H} {W : World} {fuel : Nat} {cs : List Value} {x : DataW H × List MemPlace} (h : DataW.trod enc Try.prog W 0 (fun _ => true) true fuel 24 cs = some x) :
    ∃ (k n : Int) (v : Value) (y0 y1 y2 : DataW H × List MemPlace) (f : Nat), cs = [.int .i64 k, .int .i64 n, v] ∧ In64 k ∧ In64 n ∧ x.1 = .agg [y0.1, y1.1, y2.1] ∧ DataW.trod enc Try.prog W 0 (fun _ => true) true f 22 [v] = some y2 := by
  obtain ⟨xs, n, _, rfl, hl, hlen, hf⟩ := DataW.trod_struct Try.underlying24 h
  rw [cellsHT] at hl
  match cs, hl with
  | [c0, c1, c2], _ =>
    match xs, hlen with
    | [y0, y1, y2], _ =>
      have h0 : DataW.trod enc Try.prog W 0 (fun _ => true) true n 3 (([c0, c1, c2].drop 0).take (Try.prog.cellsOf 3)) = some y0 := hf 0 _ rfl
      have h1 : DataW.trod enc Try.prog W 0 (fun _ => true) true n 3 (([c0, c1, c2].drop 1).take (Try.prog.cellsOf 3)) = some y1 := hf 1 _ rfl
      have h2 : DataW.trod enc Try.prog W 0 (fun _ => true) true n 22 (([c0, c1, c2].drop 2).take (Try.prog.cellsOf 22)) = some y2 := hf 2 _ rfl
      rw [cellsHI] at h0 h1
      rw [cellsHS] at h2
      simp only [List.drop_zero, List.drop_succ_cons, List.take_succ_cons, List.take_zero] at h0 h1 h2
      obtain ⟨n0, hv0, _, w0⟩ := DataW.trod_int Try.underlying3 h0
      obtain ⟨n1, hv1, _, w1⟩ := DataW.trod_int Try.underlying3 h1
      simp only [List.cons.injEq, and_true] at hv0 hv1
      subst hv0; subst hv1
      exact ⟨n0, n1, c2, y0, y1, y2, _, rfl, i64_bd w0, i64_bd w1, by simp, h2⟩

set_option maxRecDepth 100000 in
set_option maxHeartbeats 1000000 in
theorem open_htree_core {H : Type} {enc : TypeId × Value → H} {W : World} : ∀ (N fuel : Nat) (cs : List Value) (x : DataW H × List MemPlace) (M : Nat), SizeOf.sizeOf x.1 ≤ N →
    DataW.trod enc Try.prog W 0 (fun _ => true) true fuel 24 cs = some x → (9223372036854775807 ≤ M ∨ Rows.uptoBulk x.1 ≤ M) → ∃ t y, cs = hxL y ∧ HdC W M t y
  | 0, _, _, x, _, hN, h, _ => by
    obtain ⟨_, _, _, _, _, _, _, _, _, _, hx, _⟩ := open_hnode h
    rw [hx] at hN
    simp at hN
  | N + 1, fuel, cs, x, M, hN, h, hM => by
    obtain ⟨k, n, v, y0, y1, y2, f, rfl, hk, hn, hx, h2⟩ := open_hnode h
    rw [hx] at hN hM
    clear hx h
    rcases Go.Deep.open_slice Try.underlying22 h2 with ⟨hcs, _⟩ | ⟨a, len, cap, m, nf, D, Pl, hcs, _, hl, hm, hmm, hy, hi⟩
    · simp only [List.cons.injEq, and_true] at hcs
      subst hcs
      exact ⟨.node k n [], ⟨k, n, none, 0, 0⟩, rfl, by unfold HdC; exact ⟨rfl, rfl, hk, hn, rfl, Nat.zero_le _, [], Reads.none_, by unfold HdCs; rfl⟩⟩
    · simp only [List.cons.injEq, and_true] at hcs
      subst hcs
      subst hy
      rw [if_pos rfl] at hmm
      subst hmm
      simp only at hN hM
      have hlen : len ≤ M := by
        rcases hM with hM | hM
        · unfold maxLen at hm; omega
        · have := bulk_part (show DataW.slice ((List.range len).map D) ((List.range (m - len)).map fun j => D (len + j)) ∈ [y0.1, y1.1, DataW.slice ((List.range len).map D) ((List.range (m - len)).map fun j => D (len + j))] from by simp)
          have h3 := bulk_all_len ((List.range len).map D)
          rw [List.length_map, List.length_range] at h3
          simp only [Rows.uptoBulk] at hM this
          omega
      have each : ∀ i, i < len → ∃ p : HTree × HX, HdC W M p.1 p.2 ∧ ∀ (j : Nat) (u : Value), (hxL p.2)[j]? = some u → W.cell? (a.add (i * 3 + j)) = some u := by
        intro i hil
        obtain ⟨cs', hc, ht'⟩ := hi i (by omega)
        rw [cellsHT] at hc
        have hmem : D i ∈ (List.range len).map D := List.mem_map.2 ⟨i, List.mem_range.2 hil, rfl⟩
        have hsz := List.sizeOf_lt_of_mem hmem
        have hs1 : ∀ d : DataW H, SizeOf.sizeOf d < SizeOf.sizeOf (DataW.agg [y0.1, y1.1, d]) := fun d => by
          have := List.sizeOf_lt_of_mem (show d ∈ [y0.1, y1.1, d] from by simp)
          rw [DataW.agg.sizeOf_spec]; omega
        have hs2 : ∀ a b : List (DataW H), SizeOf.sizeOf a < SizeOf.sizeOf (DataW.slice a b) := fun a b => by rw [DataW.slice.sizeOf_spec]; omega
        have hs3 := hs1 (DataW.slice ((List.range len).map D) ((List.range (m - len)).map fun j => D (len + j)))
        have hs4 := hs2 ((List.range len).map D) ((List.range (m - len)).map fun j => D (len + j))
        have hbl : 9223372036854775807 ≤ M ∨ Rows.uptoBulk (D i) ≤ M := by
          rcases hM with hM | hM
          · exact .inl hM
          · have h3 := bulk_part (show DataW.slice ((List.range len).map D) ((List.range (m - len)).map fun j => D (len + j)) ∈ [y0.1, y1.1, DataW.slice ((List.range len).map D) ((List.range (m - len)).map fun j => D (len + j))] from by simp)
            have h4 := bulk_part hmem
            simp only [Rows.uptoBulk] at hM h3
            exact .inr (by omega)
        obtain ⟨t, y, rfl, hC⟩ := open_htree_core N nf cs' (D i, Pl i) M (by show SizeOf.sizeOf (D i) ≤ N; omega) ht' hbl
        obtain ⟨_, _, hat⟩ := World.cells?_some hc
        refine ⟨(t, y), hC, fun j u hu => ?_⟩
        have hj : j < 3 := by have := (List.getElem?_eq_some_iff.1 hu).1; rw [hxL_len] at this; exact this
        have := hat j hj
        rw [hu, Go.Deep.add_add] at this
        exact this
      obtain ⟨ls, hll, hls⟩ := list_of2 len each
      refine ⟨.node k n (ls.map (·.1)), ⟨k, n, some a, len, _⟩, rfl, ?_⟩
      unfold HdC
      refine ⟨rfl, rfl, hk, hn, by simp [hll], hlen, ls.map (·.2), ⟨by rw [flat3, List.length_map, hll], fun hpos => ⟨a, rfl, ?_, fun j u hu => ?_⟩⟩, HdCs.of_pairs ls fun p hp => ?_⟩
      · have hpos : 0 < len := hpos
        have := World.block_lt_of_cell? W _ ((hls 0 _ (List.getElem?_eq_getElem (show 0 < ls.length by omega))).2 0 _ rfl)
        rw [block_of_add] at this
        exact this
      · obtain ⟨y, hy, hu2⟩ := flat3_inv _ j u hu
        rw [List.getElem?_map] at hy
        cases hp : ls[j / 3]? with
        | none => rw [hp] at hy; cases hy
        | some p =>
          rw [hp] at hy
          simp only [Option.map_some, Option.some.injEq] at hy
          subst hy
          have := (hls _ _ hp).2 _ _ hu2
          rw [show j / 3 * 3 + j % 3 = j by omega] at this
          exact this
      · obtain ⟨i, hi2, rfl⟩ := List.getElem_of_mem hp
        exact (hls i _ (List.getElem?_eq_getElem hi2)).1

set_option maxRecDepth 100000 in
theorem open_htree {H : Type} {enc : TypeId × Value → H} {W : World} {base : Nat} {v : Value} {d : DataW H} {p : List MemPlace} (M : Nat)
    (hval : Value.okWide Try.prog W .any base 24 v) (h : DataW.Trod enc Try.prog W 0 (fun _ => true) true 24 v d p) (hM : 9223372036854775807 ≤ M ∨ Rows.uptoBulk d ≤ M) :
    ∃ k n A m cp t, v = .agg #[.int .i64 k, .int .i64 n, .slice A m cp] ∧ HdC W M t ⟨k, n, A, m, cp⟩ := by
  obtain ⟨cs, rfl, hsz⟩ := okWide_struct Try.underlying24 hval
  obtain ⟨fuel, hf⟩ := h
  obtain ⟨t, ⟨k, n, A, m, cp⟩, hcs, hC⟩ := open_htree_core _ fuel _ _ M (Nat.le_refl _) hf hM
  refine ⟨k, n, A, m, cp, t, ?_, hC⟩
  congr 1
  apply Array.ext'
  exact hcs

end Go.Proofs.Ytmkddhkpeiajhaa
