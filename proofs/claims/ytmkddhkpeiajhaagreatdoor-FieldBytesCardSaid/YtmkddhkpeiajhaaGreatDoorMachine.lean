import Derived.Test.YtmkddhkpeiajhaaGreatDoorTreeAll
import Derived.Test.YtmkddhkpeiajhaaGreatDoorRxs
import Derived.Deep.RegionHeldLaw
import Derived.StillTailTactics
import Derived.Deep.CutBlock
import Derived.Deep.DeepCutAuto
import Derived.Test.YtmkddhkpeiajhaaGreatDoorLeaf
namespace Go.Proofs.YtmkddhkpeiajhaaGreatDoor
open Go.RowKit
def stL (s : NSt) : List Value := [.int .i64 (s.kind : Int), .int .u64 (s.set.1 : Int), .int .u64 (s.set.2.1 : Int), .int .u64 (s.set.2.2.1 : Int), .int .u64 (s.set.2.2.2 : Int), .int .i64 (s.a : Int), .int .i64 (s.b : Int)]
theorem stL_len (s : NSt) : (stL s).length = 7 := rfl
theorem state_info : (Tryz.prog.info? 127).map (fun i => (i.zero, i.size, i.bytes)) = some (some (.agg #[.int .i64 0, .int .u64 0, .int .u64 0, .int .u64 0, .int .u64 0, .int .i64 0, .int .i64 0]), 7, 56) := by kernel_rfl
theorem flat7_get : ∀ (xs : List NSt) (i j : Nat) (x : NSt) (u : Value), xs[i]? = some x → (stL x)[j]? = some u → (xs.flatMap stL)[i * 7 + j]? = some u
  | [], _, _, _, _, h, _ => by cases h
  | y :: ys, 0, j, x, u, h, hu => by
    injection h with h
    subst h
    have hj : j < 7 := by have := (List.getElem?_eq_some_iff.1 hu).1; rw [stL_len] at this; exact this
    rw [List.flatMap_cons, Nat.zero_mul, Nat.zero_add, List.getElem?_append_left (by rw [stL_len]; exact hj)]
    exact hu
  | y :: ys, i + 1, j, x, u, h, hu => by
    rw [List.flatMap_cons, List.getElem?_append_right (by rw [stL_len]; omega), stL_len, show (i + 1) * 7 + j - 7 = i * 7 + j by omega]
    exact flat7_get ys i j x u h hu
def OwnN (w : World) (base : Nat) (A : Option Addr) (n c : Nat) (l : List NSt) : Prop :=
  l.length = n ∧ w.ownsRow base 127 7 (.slice A n c) n (l.flatMap stL)
theorem OwnN.nil {w : World} {base : Nat} : OwnN w base none 0 0 [] := ⟨rfl, World.ownsRow_nil _ _ _ _⟩
theorem OwnN.fr {w w' : World} {base n c : Nat} {A : Option Addr} {l : List NSt} {p : Nat → Prop} (h : OwnN w base A n c l) (hf : Fr w w' p) (hA : ∀ k, ob A = some k → ¬ p k) : OwnN w' base A n c l :=
  ⟨h.1, ownsRow_fr h.2 hf (fun k hk => hA k (by rw [← ob_own A n c]; exact hk))⟩
theorem OwnN.later {w w' : World} {base n c : Nat} {A : Option Addr} {l : List NSt} (h : OwnN w base A n c l) (hl : Later w w') : OwnN w' base A n c l := h.fr (Fr.laterF hl) (fun _ _ h => h)
theorem OwnN.blk {w : World} {base n c : Nat} {A : Option Addr} {l : List NSt} (h : OwnN w base A n c l) {k : Nat} (hk : ob A = some k) : k < w.heap.size ∧ base ≤ k ∧ ∃ cs, Blk w k 127 cs := own_row_blk h.2 hk
theorem OwnN.seven {w : World} {base n c : Nat} {A : Option Addr} {l : List NSt} (h : OwnN w base A n c l) {i : Nat} {x : NSt} (hx : l[i]? = some x) :
    ∃ b off, A = some ⟨b, off, none⟩ ∧ b < w.heap.size ∧ w.cell? ⟨b, off + i * 7, none⟩ = some (.int .i64 (x.kind : Int)) ∧ w.cell? ⟨b, off + i * 7 + 1, none⟩ = some (.int .u64 (x.set.1 : Int)) ∧ w.cell? ⟨b, off + i * 7 + 2, none⟩ = some (.int .u64 (x.set.2.1 : Int)) ∧
      w.cell? ⟨b, off + i * 7 + 3, none⟩ = some (.int .u64 (x.set.2.2.1 : Int)) ∧ w.cell? ⟨b, off + i * 7 + 4, none⟩ = some (.int .u64 (x.set.2.2.2 : Int)) ∧ w.cell? ⟨b, off + i * 7 + 5, none⟩ = some (.int .i64 (x.a : Int)) ∧ w.cell? ⟨b, off + i * 7 + 6, none⟩ = some (.int .i64 (x.b : Int)) := by
  have hr := Reads.of_own h.2
  have hi : i < n := by have := (List.getElem?_eq_some_iff.1 hx).1; have := h.1; omega
  obtain ⟨ad, rfl, hb, hc⟩ := hr.2 (by omega)
  have hl : 0 < l.length := by have := (List.getElem?_eq_some_iff.1 hx).1; omega
  have h0 := hc 0 _ (flat7_get l 0 0 l[0] _ (List.getElem?_eq_getElem hl) rfl)
  obtain ⟨b, off, sp⟩ := ad
  have hsp : sp = none := by simpa [Addr.add] using World.cell?_spot h0
  subst hsp
  have g : ∀ j u, (stL x)[j]? = some u → w.cell? ⟨b, off + i * 7 + j, none⟩ = some u := fun j u hu => by
    have := hc _ _ (flat7_get l i j x u hx hu)
    rw [Addr.add_lit] at this
    rw [Nat.add_assoc]
    exact this
  exact ⟨b, off, rfl, hb, g 0 _ rfl, g 1 _ rfl, g 2 _ rfl, g 3 _ rfl, g 4 _ rfl, g 5 _ rfl, g 6 _ rfl⟩
theorem step_append_n (w : World) {ops : Array Oper} {o : Oper} {a : Act} {K : Act → World → Prop} {Q : Exit → Act → World → Prop} {E : Prop} (hgd : o.guard = none) (s x : Operand)
    (ho : o.op = .call { callee := .builtin .append, args := #[s, x], argTypes := #[121, 121] })
    (base : Nat) (A : Option Addr) (n c : Nat) (l : List NSt) (hs : a.eval s = .slice A n c) (hown : OwnN w base A n c l) (t : NSt)
    (B : Nat) (A2 : Option Addr) (hx : a.eval x = .slice A2 1 1) (hr : Reads w B 7 A2 1 (stL t)) (hbd : n < 1000000000) (hbase : base ≤ w.heap.size)
    (h : ∀ A' n' c' w', n' = n + 1 → OwnN w' base A' n' c' (l ++ [t]) → w.grownBy w' (ob A) → K (a.put o.dst (.slice A' n' c')) w') :
    if Region.wanted o (yielded ops a.tmps) = true then Oper.wp Tryz.prog o a w K Q else E := by
  obtain ⟨i0, hi, hz0, hz1, hz2⟩ := info_parts state_info
  obtain ⟨h1, h3⟩ := hown
  refine step_append_any w hgd s x 121 ho base 127 i0 _ 7 56 Tryz.underlying121 hi hz0 hz1 hz2 rfl (by decide) (.slice A n c) n _ hs h3 B A2 1 1 (stL t) hx hr (by intro u hu; simp [stL] at hu; rcases hu with rfl | rfl | rfl | rfl | rfl | rfl | rfl <;> rfl) (by unfold maxLen; omega) (by omega) hbase ?_
  intro v' w' g2 g3 g4
  have hv : ∃ A' c', v' = .slice A' (n + 1) c' := by
    rcases g2.2 with ⟨_, e⟩ | ⟨g, cap, cur, rfl, _⟩
    · omega
    · exact ⟨_, _, rfl⟩
  obtain ⟨A', c', rfl⟩ := hv
  rw [ob_own] at g3
  exact h A' _ c' w' rfl ⟨by rw [List.length_append, h1]; rfl, by rw [List.flatMap_append]; simpa using g2⟩ g3
theorem reads_n (w : World) (x : NSt) (t : TypeId) : Reads (w.alloc (.cells #[.int .i64 (x.kind : Int), .int .u64 (x.set.1 : Int), .int .u64 (x.set.2.1 : Int), .int .u64 (x.set.2.2.1 : Int), .int .u64 (x.set.2.2.2 : Int), .int .i64 (x.a : Int), .int .i64 (x.b : Int)] t)) (w.heap.size + 1) 7 (some ⟨w.heap.size, 0, none⟩) 1 (stL x) :=
  ⟨rfl, fun _ => ⟨_, rfl, Nat.lt_succ_self _, fun j u hu => by
    rw [Addr.add_lit, Nat.zero_add, cell_of_row _ _ _ _ _ _ (heap_alloc_new w _), ← Array.getElem?_toList]
    exact hu⟩⟩
def TyN (w : World) (k : Nat) : Prop := ∃ cs, Blk w k 127 cs
def FrM (base g : Nat) (w w' : World) : Prop := Fr w w' (fun k => k = g ∨ (base ≤ k ∧ TyN w k))
section
variable {w w1 w2 : World} {base g : Nat}
theorem FrM.refl (base g : Nat) (w : World) : FrM base g w w := Fr.refl _ _
theorem FrM.trans (h1 : FrM base g w w1) (h2 : FrM base g w1 w2) : FrM base g w w2 := by
  refine Fr.trans h1 h2 ?_
  rintro k hk (rfl | ⟨hb, cs, hB⟩)
  · exact .inl rfl
  · by_cases hp : k = g ∨ (base ≤ k ∧ TyN w k)
    · exact hp
    · exact .inr ⟨hb, cs, (h1.block k hk hp).symm.trans hB⟩
theorem FrM.of_later (h : Later w w1) : FrM base g w w1 := (Fr.laterF h).mono fun _ _ h => h.elim
theorem FrM.blk {t : TypeId} {b : Nat} {cs : Array Value} (h : FrM base g w w1) (hB : Blk w b t cs) (hg : b ≠ g) (ht : t ≠ 127) : Blk w1 b t cs :=
  hB.fr h (by
    rintro (rfl | ⟨_, cs', hB'⟩)
    · exact hg rfl
    · exact Blk.ne_ hB hB' ht rfl)
theorem FrM.tree {lo : Nat → Prop} {t : Tree} {x : ReX} (h : FrM base g w w1) {cs : Array Value} (hg : Blk w g 123 cs) (hC : ReC w lo t x) : ReC w1 lo t x :=
  ReC.fr h (fun k cs' _ hB => by
    rintro (rfl | ⟨_, cs'', hB'⟩)
    · exact Blk.ne_ hB hg (by decide) rfl
    · exact Blk.ne_ hB hB' (by decide) rfl) t hC
theorem FrM.size (h : FrM base g w w1) : w.heap.size ≤ w1.heap.size := Fr.size h
theorem FrM.later (h : FrM base g w w1) (hb : w.heap.size ≤ base) (hg : w.heap.size ≤ g) : Later w w1 :=
  Fr.none_ h (by
    rintro k hk (rfl | ⟨h, _⟩) <;> omega)
theorem FrM.below (h : FrM base g w w1) (hb : w2.heap.size ≤ base) (hg : w2.heap.size ≤ g) (hw : Later w2 w) : Later w2 w1 :=
  Fr.none_ (Fr.trans (p := fun k => w2.heap.size ≤ k) ((Fr.laterF hw).mono fun _ _ h => h.elim) h (by
    rintro k hk (rfl | ⟨h, _⟩) <;> omega)) (fun k hk h => by omega)
end
def MacW (w : World) (base g : Nat) (l : List NSt) (b : Int) : Prop := ∃ A n c, Blk w g 123 #[.slice A n c, .int .i64 b] ∧ OwnN w base A n c l
theorem MacW.later {w w' : World} {base g : Nat} {l : List NSt} {b : Int} (h : MacW w base g l b) (hl : Later w w') : MacW w' base g l b := by
  obtain ⟨A, n, c, h1, h2⟩ := h
  exact ⟨A, n, c, blkL hl h1, h2.later hl⟩
theorem mach_cells {w : World} {g : Nat} {A : Option Addr} {n c : Nat} {b : Int} (h : Blk w g 123 #[.slice A n c, .int .i64 b]) : w.cell? ⟨g, 0, none⟩ = some (.slice A n c) ∧ w.frozen? ⟨g, 0, none⟩ = false := ⟨h.cell 0, h.frozen 0⟩
theorem add_step {w0 w w1 : World} {base g n c n' c' : Nat} {A A' : Option Addr} {b : Int} {l : List NSt} {st : NSt} (hl : Later w0 w) (hB : Blk w0 g 123 #[.slice A n c, .int .i64 b]) (ho : OwnN w0 base A n c l)
    (ho1 : OwnN w1 base A' n' c' (l ++ [st])) (hg : w.grownBy w1 (ob A)) : Blk w1 g 123 #[.slice A n c, .int .i64 b] ∧ MacW (w1.setCell ⟨g, 0, none⟩ (.slice A' n' c')) base g (l ++ [st]) b ∧ FrM base g w0 (w1.setCell ⟨g, 0, none⟩ (.slice A' n' c')) := by
  have hne : ∀ k, ob A = some k → k ≠ g := fun k hk e => by
    obtain ⟨_, _, cs, hB'⟩ := ho.blk hk
    subst e
    exact Blk.ne_ hB hB' (by decide) rfl
  have hBw := blkL hl hB
  have hB1 : Blk w1 g 123 #[.slice A n c, .int .i64 b] := hBw.grown hg (fun e => hne g e.symm rfl)
  have hne' : ∀ k, ob A' = some k → ¬ k = g := fun k hk e => by
    obtain ⟨_, _, cs, hB'⟩ := ho1.blk hk
    subst e
    exact Blk.ne_ hB1 hB' (by decide) rfl
  refine ⟨hB1, ⟨A', n', c', by simpa using hB1.set_ 0 (.slice A' n' c'), ho1.fr (Fr.set (Fr.refl w1 (fun k => k = g)) (a := ⟨g, 0, none⟩) (fun _ => rfl) _) hne'⟩, ?_⟩
  refine Fr.set (a := ⟨g, 0, none⟩) (Fr.grown ((Fr.laterF hl).mono fun _ _ h => h.elim) hg (fun k hk e => ?_)) (fun _ => .inl rfl) _
  obtain ⟨_, h2, h3⟩ := ho.blk e
  exact .inr ⟨h2, h3⟩
end Go.Proofs.YtmkddhkpeiajhaaGreatDoor
namespace Go.Proofs.YtmkddhkpeiajhaaGreatDoor
open Go.RowKit
theorem cells7 {w : World} {b : Nat} {t : TypeId} {x0 x1 x2 x3 x4 x5 x6 : Value} (h : Blk w b t #[x0, x1, x2, x3, x4, x5, x6]) :
    w.cell? ⟨b, 0, none⟩ = some x0 ∧ w.cell? ⟨b, 1, none⟩ = some x1 ∧ w.cell? ⟨b, 2, none⟩ = some x2 ∧ w.cell? ⟨b, 3, none⟩ = some x3 ∧ w.cell? ⟨b, 4, none⟩ = some x4 ∧ w.cell? ⟨b, 5, none⟩ = some x5 ∧ w.cell? ⟨b, 6, none⟩ = some x6 :=
  ⟨h.cell 0, h.cell 1, h.cell 2, h.cell 3, h.cell 4, h.cell 5, h.cell 6⟩
set_option maxRecDepth 100000 in
set_option maxHeartbeats 4000000 in
theorem madd_any (kd s0 s1 s2 s3 sa sb : Nat) (w : World) (base g : Nat) (l : List NSt) (b : Int) (h : MacW w base g l b) (hbase : base ≤ w.heap.size) (hl : l.length ≤ 1000000) :
    Calls Tryz.prog 69 #[.pointer (some ⟨g, 0, none⟩), .agg #[.int .i64 (kd : Int), .int .u64 (s0 : Int), .int .u64 (s1 : Int), .int .u64 (s2 : Int), .int .u64 (s3 : Int), .int .i64 (sa : Int), .int .i64 (sb : Int)]] w
      fun e w' => e = .returned (.int .i64 (l.length : Int)) ∧ MacW w' base g (l ++ [⟨kd, (s0, s1, s2, s3), sa, sb⟩]) b ∧ FrM base g w w' := by
  obtain ⟨A, n, c, hB, ho⟩ := h
  obtain ⟨n', hn'⟩ : ∃ n', l.length = n' := ⟨_, rfl⟩
  have hn : n = n' := by rw [← hn', ho.1]
  subst hn
  have HL := Lib.hid hn'
  rw [hn'] at hl ⊢
  clear hn'
  go_enter Tryz.func69, Tryz.ntmps69
  go_upto_region 1 with fail
  obtain ⟨W, hW⟩ : ∃ W, W = w.alloc (.cells #[.int .i64 (kd : Int), .int .u64 (s0 : Int), .int .u64 (s1 : Int), .int .u64 (s2 : Int), .int .u64 (s3 : Int), .int .i64 (sa : Int), .int .i64 (sb : Int)] 127) := ⟨_, rfl⟩
  have B3 : Blk W w.heap.size 127 #[.int .i64 (kd : Int), .int .u64 (s0 : Int), .int .u64 (s1 : Int), .int .u64 (s2 : Int), .int .u64 (s3 : Int), .int .i64 (sa : Int), .int .i64 (sb : Int)] := by rw [hW]; exact Blk.new w _ _
  have hlw : Later w W := by rw [hW]; exact (Later.refl w).alloc _
  have hB1 := blkL hlw hB
  have ho1 := ho.later hlw
  have hbW : base ≤ W.heap.size := Nat.le_trans hbase hlw.size
  rw [← hW]
  clear hW hB ho hbase
  obtain ⟨z0, z1, z2, z3, z4, z5, z6⟩ := cells7 B3
  obtain ⟨x0, f0⟩ := mach_cells hB1
  have hgW : g < W.heap.size := hB1.lt
  have hwW : w.heap.size < W.heap.size := B3.lt
  go_region_law ((refine step_append_n (o := ⟨some 12, _, _, _, _, _⟩) _ rfl (.tmp 9) (.tmp 11) rfl base A n c l rfl (ho1.later (by repeat (first | (with_reducible exact Later.refl _) | (with_reducible apply Later.drew) | (with_reducible apply Later.alloc)))) ⟨kd, (s0, s1, s2, s3), sa, sb⟩ _ _ rfl (by repeat (first | (with_reducible exact reads_n _ ⟨kd, (s0, s1, s2, s3), sa, sb⟩ _) | (with_reducible apply Reads.drew))) (by omega) (by simp; omega) ?_); intro A9 n9 c9 w4 hn9 hown9 hg9; have hst := add_step (w0 := W) (by repeat (first | (with_reducible exact Later.refl _) | (with_reducible apply Later.drew) | (with_reducible apply Later.alloc))) hB1 ho1 hown9 hg9; obtain ⟨y0, g0⟩ := mach_cells hst.1)
  all_goals
    subst hn9
    have hq := (hst.1.set_ 0 (.slice A9 (n + 1) c9)).cell 0
    have q0 : (w4.setCell ⟨g, 0, none⟩ (.slice A9 (n + 1) c9)).cell? ⟨g, 0, none⟩ = some (.slice A9 (n + 1) c9) := hq
    have HST := Lib.hid hst.2
    clear hst hq
    go_wp2_with fail
    go_ret
    exact ⟨by go_num, HST.out.1, (FrM.of_later hlw).trans HST.out.2⟩
end Go.Proofs.YtmkddhkpeiajhaaGreatDoor
namespace Go.Proofs.YtmkddhkpeiajhaaGreatDoor
open Go.RowKit
theorem own_set {w : World} {base : Nat} {e : TypeId} {size n c g off : Nat} {_sp : Option (Nat × Nat)} {xs : List Value} (h : w.ownsRow base e size (.slice (some ⟨g, off, none⟩) n c) n xs) {j : Nat} (u : Value) (_hj : j < n * size) :
    (w.setCell ⟨g, off + j, none⟩ u).ownsRow base e size (.slice (some ⟨g, off, none⟩) n c) n (xs.set j u) := by
  rcases h.2 with ⟨e1, _⟩ | ⟨g', cap, cur, hv, h1, h2, h3, h4, h5, h6⟩
  · cases e1
  · injection hv with hv hv2 hv3
    injection hv with hv
    injection hv with hv hv4
    subst hv hv4 hv3
    refine ⟨by rw [List.length_set]; exact h.1, .inr ⟨g, c, cur.setIfInBounds j u, rfl, h1, ?_, h3, h4, by rw [Array.size_setIfInBounds]; exact h5, ?_⟩⟩
    · rw [Nat.zero_add]
      exact Blk.set_ (t := e) (cs := cur) h2 j u
    · rw [Array.toList_setIfInBounds, List.take_set, h6]
theorem own_cut {w : World} {base : Nat} {e : TypeId} {size n m c : Nat} {A : Option Addr} {xs : List Value} (h : w.ownsRow base e size (.slice A n c) n xs) (hm : m ≤ n) (hA : A ≠ none) :
    w.ownsRow base e size (.slice A m c) m (xs.take (m * size)) := by
  rcases h.2 with ⟨e1, _⟩ | ⟨g', cap, cur, hv, h1, h2, h3, h4, h5, h6⟩
  · injection e1 with e1
    exact absurd e1 hA
  · injection hv with hv hv2 hv3
    subst hv hv3
    have hle : m * size ≤ n * size := Nat.mul_le_mul_right _ hm
    refine ⟨by rw [List.length_take, h.1]; omega, .inr ⟨g', c, cur, rfl, h1, h2, by omega, h4, h5, ?_⟩⟩
    rw [← h6, List.take_take, Nat.min_eq_left hle]
theorem set_flat7 : ∀ (l : List NSt) (i a : Nat), i < l.length → (setNA l i a).flatMap stL = (l.flatMap stL).set (i * 7 + 5) (.int .i64 (a : Int))
  | [], i, a, h => by simp at h
  | y :: ys, 0, a, h => by
    unfold setNA
    rw [List.modify_zero_cons, List.flatMap_cons, List.flatMap_cons]
    rfl
  | y :: ys, i + 1, a, h => by
    have ih := set_flat7 ys i a (by simpa using h)
    unfold setNA at ih ⊢
    rw [List.modify_succ_cons, List.flatMap_cons, List.flatMap_cons, ih, List.set_append_right _ _ (by rw [stL_len]; omega), stL_len, show (i + 1) * 7 + 5 - 7 = i * 7 + 5 by omega]
theorem MacW.turn {w : World} {base g : Nat} {l : List NSt} {b : Int} {i a : Nat} (h : MacW w base g l b) (hi : i < l.length) :
    ∃ A n c k, Blk w g 123 #[.slice A n c, .int .i64 b] ∧ l.length = n ∧ A = some ⟨k, 0, none⟩ ∧ k ≠ g ∧ k < w.heap.size ∧ w.frozen? ⟨k, i * 7 + 5, none⟩ = false ∧ (∃ v, w.cell? ⟨k, i * 7 + 5, none⟩ = some v) ∧
      MacW (w.setCell ⟨k, i * 7 + 5, none⟩ (.int .i64 (a : Int))) base g (setNA l i a) b ∧ FrM base g w (w.setCell ⟨k, i * 7 + 5, none⟩ (.int .i64 (a : Int))) := by
  obtain ⟨A, n, c, hB, ho⟩ := h
  have hn := ho.1
  obtain ⟨s, hs⟩ : ∃ s, l[i]? = some s := ⟨_, List.getElem?_eq_getElem hi⟩
  obtain ⟨k, off, rfl, hk, _, _, _, _, _, hc, _⟩ := ho.seven hs
  have hoff : off = 0 := by
    obtain ⟨_, h3⟩ := ho
    rcases h3.2 with ⟨e1, _⟩ | ⟨g', cap, cur, hv, _⟩
    · cases e1
    · injection hv with hv
      injection hv with hv
      injection hv
  subst hoff
  obtain ⟨_, hbk, cs, hBk⟩ := ho.blk (k := k) rfl
  have hne : k ≠ g := fun e => by subst e; exact Blk.ne_ hB hBk (by decide) rfl
  refine ⟨_, n, c, k, hB, hn, rfl, hne, hk, hBk.frozen _, ⟨_, by rw [Nat.zero_add] at hc; exact hc⟩, ⟨_, n, c, hB.far (p := ⟨k, i * 7 + 5, none⟩) (Ne.symm hne) _, by rw [setNA_len]; exact hn, ?_⟩, ?_⟩
  · rw [set_flat7 l i a hi]
    have h := own_set (_sp := none) ho.2 (j := i * 7 + 5) (.int .i64 (a : Int)) (by omega)
    rw [Nat.zero_add] at h
    exact h
  · exact Fr.set (a := ⟨k, i * 7 + 5, none⟩) (Fr.refl w _) (fun _ => .inr ⟨hbk, cs, hBk⟩) _
end Go.Proofs.YtmkddhkpeiajhaaGreatDoor
namespace Go.Proofs.YtmkddhkpeiajhaaGreatDoor
open Go.RowKit
theorem FrM.lor {w w1 : World} {base g : Nat} {lo : Nat → Prop} {size n : Nat} {A : Option Addr} {xs : List Value} {cs : Array Value} (h : FrM base g w w1) (hg : Blk w g 123 cs) (hL : LoR w lo size A n xs) : LoR w1 lo size A n xs :=
  LoR.fr hL h (fun k cs' _ hB => by
    rintro (rfl | ⟨_, cs'', hB'⟩)
    · exact Blk.ne_ hB hg (by decide) rfl
    · exact Blk.ne_ hB hB' (by decide) rfl)
def Fin (w : World) (base g : Nat) (r : List NSt × Nat) (bg : Int) (e : Ending) (w' : World) : Prop := e = .returned (.int .i64 (r.2 : Int)) ∧ MacW w' base g r.1 bg ∧ FrM base g w w'
def BuildAt (x : Rx) : Prop := ∀ (tt : Nat) (lo : Nat → Prop) (k a b c d : Int) (A : Option Addr) (n cp : Nat) (w : World) (base g : Nat) (l : List NSt) (bg : Int), ReC w lo (rxT x) ⟨k, a, b, c, d, A, n, cp⟩ → MacW w base g l bg → base ≤ w.heap.size → tt ≤ 1000000 → l.length + 2 * rxSize x ≤ 1000000 →
  Calls Tryz.prog 68 #[.pointer (some ⟨g, 0, none⟩), .agg #[.int .i64 k, .int .u64 a, .int .u64 b, .int .u64 c, .int .u64 d, .slice A n cp], .int .i64 (tt : Int)] w (Fin w base g (buildF x tt l) bg)
theorem leaf_open {w : World} {lo : Nat → Prop} {kd k : Int} {s : W4} {a b c d : Int} {A : Option Addr} {n cp : Nat} (h : ReC w lo (.node kd s []) ⟨k, a, b, c, d, A, n, cp⟩) : k = kd ∧ a = (s.1 : Int) ∧ b = (s.2.1 : Int) ∧ c = (s.2.2.1 : Int) ∧ d = (s.2.2.2 : Int) := by
  unfold ReC at h
  exact ⟨h.1, h.2.1⟩
theorem kids_at {w : World} {lo : Nat → Prop} {n p0 off : Nat} {xs : List ReX} (hL : LoR w lo 6 (some ⟨p0, off, none⟩) n (xs.flatMap reL)) {i : Nat} {y : ReX} (hi : i < n) (hy : xs[i]? = some y) :
    w.cell? ⟨p0, off + i * 6, none⟩ = some (.int .i64 y.k) ∧ w.cell? ⟨p0, off + i * 6 + 1, none⟩ = some (.int .u64 y.a) ∧ w.cell? ⟨p0, off + i * 6 + 2, none⟩ = some (.int .u64 y.b) ∧ w.cell? ⟨p0, off + i * 6 + 3, none⟩ = some (.int .u64 y.c) ∧ w.cell? ⟨p0, off + i * 6 + 4, none⟩ = some (.int .u64 y.d) ∧ w.cell? ⟨p0, off + i * 6 + 5, none⟩ = some (.slice y.A y.n y.cp) := by
  obtain ⟨b, o, hA, h⟩ := hL.six hi hy
  injection hA with hA
  injection hA with h1 h2
  subst h1 h2
  exact h
theorem one_open {w : World} {lo : Nat → Prop} {kd k : Int} {t : Tree} {a b c d : Int} {A : Option Addr} {n cp : Nat} (h : ReC w lo (.node kd z4 [t]) ⟨k, a, b, c, d, A, n, cp⟩) :
    k = kd ∧ a = 0 ∧ b = 0 ∧ c = 0 ∧ d = 0 ∧ n = 1 ∧ 1 ≤ cp ∧ ∃ p0 off xs y0, A = some ⟨p0, off, none⟩ ∧ LoR w lo 6 A 1 (List.flatMap reL xs) ∧ xs[0]? = some y0 ∧ ReC w lo t y0 := by
  unfold ReC at h
  obtain ⟨hk, ⟨ha, hb, hc, hd⟩, hn, hcp, xs, hL, hKs⟩ := h
  obtain ⟨y0, h0, hC0⟩ := hKs.get 0 t rfl
  have hn : n = 1 := hn.symm
  subst hn
  obtain ⟨p0, off, hA, _⟩ := hL.six (i := 0) (by simp) h0
  exact ⟨hk, ha, hb, hc, hd, rfl, hcp, p0, off, xs, y0, hA, hL, h0, hC0⟩
theorem two_open {w : World} {lo : Nat → Prop} {kd k : Int} {t u : Tree} {a b c d : Int} {A : Option Addr} {n cp : Nat} (h : ReC w lo (.node kd z4 [t, u]) ⟨k, a, b, c, d, A, n, cp⟩) :
    k = kd ∧ a = 0 ∧ b = 0 ∧ c = 0 ∧ d = 0 ∧ n = 2 ∧ 2 ≤ cp ∧ ∃ p0 off xs y0 y1, A = some ⟨p0, off, none⟩ ∧ LoR w lo 6 A 2 (List.flatMap reL xs) ∧ xs[0]? = some y0 ∧ xs[1]? = some y1 ∧ ReC w lo t y0 ∧ ReC w lo u y1 := by
  unfold ReC at h
  obtain ⟨hk, ⟨ha, hb, hc, hd⟩, hn, hcp, xs, hL, hKs⟩ := h
  obtain ⟨y0, h0, hC0⟩ := hKs.get 0 t rfl
  obtain ⟨y1, h1, hC1⟩ := hKs.get 1 u rfl
  have hn : n = 2 := hn.symm
  subst hn
  obtain ⟨p0, off, hA, _⟩ := hL.six (i := 0) (by simp) h0
  exact ⟨hk, ha, hb, hc, hd, rfl, hcp, p0, off, xs, y0, y1, hA, hL, h0, h1, hC0, hC1⟩
theorem add0 (off i : Nat) : off + 0 * 6 + i = off + i := by omega
theorem kidsF1 {w : World} {lo : Nat → Prop} {base g b4 p0 off cp : Nat} {kd : Int} {cs : Array Value} {xs : List ReX} {y0 : ReX} (hg : Blk w g 123 cs) (hB : Blk w b4 98 #[.int .i64 kd, .int .u64 0, .int .u64 0, .int .u64 0, .int .u64 0, .slice (some ⟨p0, off, none⟩) 1 cp]) (hL : LoR w lo 6 (some ⟨p0, off, none⟩) 1 (xs.flatMap reL)) (h0 : xs[0]? = some y0)
    (wx : World) (hf : FrM base g w wx) : wx.cell? ⟨b4, 5, none⟩ = some (.slice (some ⟨p0, off, none⟩) 1 cp) ∧ wx.cell? ⟨p0, off, none⟩ = some (.int .i64 y0.k) ∧ wx.cell? ⟨p0, off + 1, none⟩ = some (.int .u64 y0.a) ∧ wx.cell? ⟨p0, off + 2, none⟩ = some (.int .u64 y0.b) ∧ wx.cell? ⟨p0, off + 3, none⟩ = some (.int .u64 y0.c) ∧ wx.cell? ⟨p0, off + 4, none⟩ = some (.int .u64 y0.d) ∧ wx.cell? ⟨p0, off + 5, none⟩ = some (.slice y0.A y0.n y0.cp) := by
  have hB1 := hf.blk hB (fun e => by subst e; exact Blk.ne_ hB hg (by decide) rfl) (by decide)
  have hL1 := hf.lor hg hL
  obtain ⟨e0, e1, e2, e3, e4, e5⟩ := kids_at hL1 (i := 0) (by omega) h0
  simp only [add0] at e1 e2 e3 e4 e5
  rw [show off + 0 * 6 = off by omega] at e0
  exact ⟨hB1.cell 5, e0, e1, e2, e3, e4, e5⟩
theorem kidsF2 {w : World} {lo : Nat → Prop} {base g b4 p0 off cp : Nat} {kd : Int} {cs : Array Value} {xs : List ReX} {y0 y1 : ReX} (hg : Blk w g 123 cs) (hB : Blk w b4 98 #[.int .i64 kd, .int .u64 0, .int .u64 0, .int .u64 0, .int .u64 0, .slice (some ⟨p0, off, none⟩) 2 cp]) (hL : LoR w lo 6 (some ⟨p0, off, none⟩) 2 (xs.flatMap reL)) (h0 : xs[0]? = some y0) (h1 : xs[1]? = some y1)
    (wx : World) (hf : FrM base g w wx) : wx.cell? ⟨b4, 5, none⟩ = some (.slice (some ⟨p0, off, none⟩) 2 cp) ∧ wx.cell? ⟨p0, off, none⟩ = some (.int .i64 y0.k) ∧ wx.cell? ⟨p0, off + 1, none⟩ = some (.int .u64 y0.a) ∧ wx.cell? ⟨p0, off + 2, none⟩ = some (.int .u64 y0.b) ∧ wx.cell? ⟨p0, off + 3, none⟩ = some (.int .u64 y0.c) ∧ wx.cell? ⟨p0, off + 4, none⟩ = some (.int .u64 y0.d) ∧ wx.cell? ⟨p0, off + 5, none⟩ = some (.slice y0.A y0.n y0.cp) ∧ wx.cell? ⟨p0, off + 6, none⟩ = some (.int .i64 y1.k) ∧ wx.cell? ⟨p0, off + 7, none⟩ = some (.int .u64 y1.a) ∧ wx.cell? ⟨p0, off + 8, none⟩ = some (.int .u64 y1.b) ∧ wx.cell? ⟨p0, off + 9, none⟩ = some (.int .u64 y1.c) ∧ wx.cell? ⟨p0, off + 10, none⟩ = some (.int .u64 y1.d) ∧ wx.cell? ⟨p0, off + 11, none⟩ = some (.slice y1.A y1.n y1.cp) := by
  have hB1 := hf.blk hB (fun e => by subst e; exact Blk.ne_ hB hg (by decide) rfl) (by decide)
  have hL1 := hf.lor hg hL
  obtain ⟨e0, e1, e2, e3, e4, e5⟩ := kids_at hL1 (i := 0) (by omega) h0
  simp only [add0] at e1 e2 e3 e4 e5
  rw [show off + 0 * 6 = off by omega] at e0
  obtain ⟨g0, g1, g2, g3, g4, g5⟩ := kids_at hL1 (i := 1) (by omega) h1
  rw [show off + 1 * 6 = off + 6 by omega] at g0 g1 g2 g3 g4 g5
  simp only [Nat.add_assoc, Nat.reduceAdd] at g1 g2 g3 g4 g5
  exact ⟨hB1.cell 5, e0, e1, e2, e3, e4, e5, g0, g1, g2, g3, g4, g5⟩
set_option maxRecDepth 100000 in
set_option maxHeartbeats 4000000 in
theorem build_eps : BuildAt .eps := by
  intro tt lo k a b c d A n cp w base g l bg hC hM hbase hto hl
  obtain ⟨rfl, ha, hb, hc, hd⟩ := leaf_open hC
  have HM := Lib.hid hM
  clear hC hM ha hb hc hd
  go_enter Tryz.func68, Tryz.ntmps68
  go_wp2_with fail
  go_ret
  exact ⟨rfl, HM.out.later ((Later.refl w).alloc _), FrM.of_later ((Later.refl w).alloc _)⟩
set_option maxRecDepth 100000 in
set_option maxHeartbeats 4000000 in
theorem build_set (s : W4) : BuildAt (.set s) := by
  intro tt lo k a b c d A n cp w base g l bg hC hM hbase hto hl
  obtain ⟨rfl, ha, hb, hc, hd⟩ := leaf_open hC
  subst ha hb hc hd
  obtain ⟨s0, s1, s2, s3⟩ := s
  have hc : ∀ wx, Later w wx → Calls Tryz.prog 69 #[.pointer (some ⟨g, 0, none⟩), .agg #[.int .i64 0, .int .u64 (s0 : Int), .int .u64 (s1 : Int), .int .u64 (s2 : Int), .int .u64 (s3 : Int), .int .i64 (tt : Int), .int .i64 0]] wx fun e w' => e = .returned (.int .i64 (l.length : Int)) ∧ MacW w' base g (buildF (.set (s0, s1, s2, s3)) tt l).1 bg ∧ FrM base g wx w' :=
    fun wx hwx => madd_any 0 s0 s1 s2 s3 tt 0 wx base g l bg (hM.later hwx) (Nat.le_trans hbase hwx.size) (by omega)
  have hR : (buildF (.set (s0, s1, s2, s3)) tt l).2 = l.length := rfl
  obtain ⟨N, hN⟩ : ∃ N, N = l.length := ⟨_, rfl⟩
  rw [← hN] at hc hR
  have HC := Lib.hid hc
  have HR := Lib.hid hR
  clear hC hM hc hR hN hl
  go_enter Tryz.func68, Tryz.ntmps68
  go_wp2_with fail
  refine (HC.out _ ((Later.refl w).alloc _)).mono ?_
  rintro e w1 ⟨rfl, hm1, hf1⟩
  go_wp2_with fail
  go_ret
  exact ⟨by rw [HR.out]; rfl, hm1, (FrM.of_later ((Later.refl w).alloc _)).trans hf1⟩
set_option maxRecDepth 100000 in
set_option maxHeartbeats 4000000 in
theorem build_first : BuildAt .first := by
  intro tt lo k a b c d A n cp w base g l bg hC hM hbase hto hl
  obtain ⟨rfl, ha, hb, hc, hd⟩ := leaf_open hC
  subst ha hb hc hd
  have hc : ∀ wx, Later w wx → Calls Tryz.prog 69 #[.pointer (some ⟨g, 0, none⟩), .agg #[.int .i64 2, .int .u64 0, .int .u64 0, .int .u64 0, .int .u64 0, .int .i64 (tt : Int), .int .i64 0]] wx fun e w' => e = .returned (.int .i64 (l.length : Int)) ∧ MacW w' base g (buildF .first tt l).1 bg ∧ FrM base g wx w' :=
    fun wx hwx => madd_any 2 0 0 0 0 tt 0 wx base g l bg (hM.later hwx) (Nat.le_trans hbase hwx.size) (by omega)
  have hR : (buildF .first tt l).2 = l.length := rfl
  obtain ⟨N, hN⟩ : ∃ N, N = l.length := ⟨_, rfl⟩
  rw [← hN] at hc hR
  have HC := Lib.hid hc
  have HR := Lib.hid hR
  clear hC hM hc hR hN hl
  go_enter Tryz.func68, Tryz.ntmps68
  go_wp2_with fail
  refine (HC.out _ ((Later.refl w).alloc _)).mono ?_
  rintro e w1 ⟨rfl, hm1, hf1⟩
  go_wp2_with fail
  go_ret
  exact ⟨by rw [HR.out]; rfl, hm1, (FrM.of_later ((Later.refl w).alloc _)).trans hf1⟩
set_option maxRecDepth 100000 in
set_option maxHeartbeats 4000000 in
theorem build_last : BuildAt .last := by
  intro tt lo k a b c d A n cp w base g l bg hC hM hbase hto hl
  obtain ⟨rfl, ha, hb, hc, hd⟩ := leaf_open hC
  subst ha hb hc hd
  have hc : ∀ wx, Later w wx → Calls Tryz.prog 69 #[.pointer (some ⟨g, 0, none⟩), .agg #[.int .i64 3, .int .u64 0, .int .u64 0, .int .u64 0, .int .u64 0, .int .i64 (tt : Int), .int .i64 0]] wx fun e w' => e = .returned (.int .i64 (l.length : Int)) ∧ MacW w' base g (buildF .last tt l).1 bg ∧ FrM base g wx w' :=
    fun wx hwx => madd_any 3 0 0 0 0 tt 0 wx base g l bg (hM.later hwx) (Nat.le_trans hbase hwx.size) (by omega)
  have hR : (buildF .last tt l).2 = l.length := rfl
  obtain ⟨N, hN⟩ : ∃ N, N = l.length := ⟨_, rfl⟩
  rw [← hN] at hc hR
  have HC := Lib.hid hc
  have HR := Lib.hid hR
  clear hC hM hc hR hN hl
  go_enter Tryz.func68, Tryz.ntmps68
  go_wp2_with fail
  refine (HC.out _ ((Later.refl w).alloc _)).mono ?_
  rintro e w1 ⟨rfl, hm1, hf1⟩
  go_wp2_with fail
  go_ret
  exact ⟨by rw [HR.out]; rfl, hm1, (FrM.of_later ((Later.refl w).alloc _)).trans hf1⟩
set_option maxRecDepth 100000 in
set_option maxHeartbeats 4000000 in
theorem build_cat (x y : Rx) (hx : BuildAt x) (hy : BuildAt y) : BuildAt (.cat x y) := by
  intro tt lo k a b c d A n cp w base g l bg hC hM hbase hto hl
  have hbf := build_facts
  obtain ⟨rfl, rfl, rfl, rfl, rfl, rfl, hcp, p0, off, xs, y0, y1, rfl, hL, h0, h1, hC0, hC1⟩ := two_open hC
  obtain ⟨mA, mn, mc, hMB, hMo⟩ := id hM
  obtain ⟨W1, hW1⟩ : ∃ W1, W1 = w.alloc (.cells #[.int .i64 2, .int .u64 0, .int .u64 0, .int .u64 0, .int .u64 0, .slice (some ⟨p0, off, none⟩) 2 cp] 98) := ⟨_, rfl⟩
  have hlw : Later w W1 := by rw [hW1]; exact (Later.refl w).alloc _
  have B4 : Blk W1 w.heap.size 98 #[.int .i64 2, .int .u64 0, .int .u64 0, .int .u64 0, .int .u64 0, .slice (some ⟨p0, off, none⟩) 2 cp] := by rw [hW1]; exact Blk.new w _ _
  obtain ⟨b4, hb4⟩ : ∃ b4, b4 = w.heap.size := ⟨_, rfl⟩
  rw [← hb4] at B4
  have hMB1 := blkL hlw hMB
  have hL1 := LoR.fr hL (Fr.laterF hlw) (spares_false _ _)
  have hM1 := hM.later hlw
  have hbase1 : base ≤ W1.heap.size := Nat.le_trans hbase hlw.size
  have KF := Lib.hid (kidsF2 (base := base) hMB1 B4 hL1 h0 h1)
  have hC0 := (ReC.later hC0 hlw)
  have hC1 := (ReC.later hC1 hlw)
  unfold rxSize at hl
  have fy := build_facts y tt l
  obtain ⟨Ry, hRy⟩ : ∃ R, R = buildF y tt l := ⟨_, rfl⟩
  obtain ⟨R, hR⟩ : ∃ R, R = buildF (.cat x y) tt l := ⟨_, rfl⟩
  have hRx : buildF x Ry.2 Ry.1 = R := by rw [hR, hRy]; rfl
  rw [← hRy] at fy
  have hib : ∀ wx, Later W1 wx → Calls Tryz.prog 68 #[.pointer (some ⟨g, 0, none⟩), .agg #[.int .i64 y1.k, .int .u64 y1.a, .int .u64 y1.b, .int .u64 y1.c, .int .u64 y1.d, .slice y1.A y1.n y1.cp], .int .i64 (tt : Int)] wx fun e w' => e = .returned (.int .i64 (Ry.2 : Int)) ∧ MacW w' base g Ry.1 bg ∧ FrM base g W1 w' :=
    fun wx hwx => (hy tt lo _ _ _ _ _ _ _ _ wx base g l bg (hC1.later hwx) (hM1.later hwx) (Nat.le_trans hbase1 hwx.size) hto (by omega)).mono fun e w' h => by rw [← hRy] at h; exact ⟨h.1, h.2.1, (FrM.of_later hwx).trans h.2.2⟩
  have hia : ∀ w3 wx, MacW w3 base g Ry.1 bg → FrM base g W1 w3 → Later w3 wx → Calls Tryz.prog 68 #[.pointer (some ⟨g, 0, none⟩), .agg #[.int .i64 y0.k, .int .u64 y0.a, .int .u64 y0.b, .int .u64 y0.c, .int .u64 y0.d, .slice y0.A y0.n y0.cp], .int .i64 (Ry.2 : Int)] wx fun e w' => e = .returned (.int .i64 (R.2 : Int)) ∧ MacW w' base g R.1 bg ∧ FrM base g W1 w' :=
    fun w3 wx hm3 hf3 hwx => (hx Ry.2 lo _ _ _ _ _ _ _ _ wx base g Ry.1 bg ((FrM.tree hf3 hMB1 hC0).later hwx) (hm3.later hwx) (Nat.le_trans hbase1 (Nat.le_trans hf3.size hwx.size)) (by omega) (by omega)).mono fun e w' h => by rw [hRx] at h; exact ⟨h.1, h.2.1, hf3.trans ((FrM.of_later hwx).trans h.2.2)⟩
  have HIB := Lib.hid hib
  have HIA := Lib.hid hia
  rw [← hR]
  have HM := Lib.hid hM1
  have hph : FrM base g W1 W1 := FrM.refl _ _ _
  have HY0 := Lib.hid hC0
  have HLW := Lib.hid hlw
  obtain ⟨z0, z1, z2, z3, z4', z5, z6, z7, z8, z9, z10, z11, z12⟩ := KF.out W1 hph
  clear hC hM hM1 hC0 hC1 hx hy hbf fy hl hL hL1 h0 h1 hMB hMB1 hMo hib hia hRy hR hRx hbase hbase1 hlw
  go_enter Tryz.func68, Tryz.ntmps68
  go_upto_region 5 with fail
  rw [← hW1, ← hb4]
  clear hW1 hb4
  go_region_held_law (fun w' => w'.cell? ⟨b4, 5, none⟩ = some (.slice (some ⟨p0, off, none⟩) 2 cp) ∧ w'.cell? ⟨p0, off, none⟩ = some (.int .i64 y0.k) ∧ w'.cell? ⟨p0, off + 1, none⟩ = some (.int .u64 y0.a) ∧ w'.cell? ⟨p0, off + 2, none⟩ = some (.int .u64 y0.b) ∧ w'.cell? ⟨p0, off + 3, none⟩ = some (.int .u64 y0.c) ∧ w'.cell? ⟨p0, off + 4, none⟩ = some (.int .u64 y0.d) ∧ w'.cell? ⟨p0, off + 5, none⟩ = some (.slice y0.A y0.n y0.cp) ∧ w'.cell? ⟨p0, off + 6, none⟩ = some (.int .i64 y1.k) ∧ w'.cell? ⟨p0, off + 7, none⟩ = some (.int .u64 y1.a) ∧ w'.cell? ⟨p0, off + 8, none⟩ = some (.int .u64 y1.b) ∧ w'.cell? ⟨p0, off + 9, none⟩ = some (.int .u64 y1.c) ∧ w'.cell? ⟨p0, off + 10, none⟩ = some (.int .u64 y1.d) ∧ w'.cell? ⟨p0, off + 11, none⟩ = some (.slice y1.A y1.n y1.cp)) (exact KF.out _ (FrM.trans hph (FrM.of_later (by repeat (first | (with_reducible exact Later.refl _) | (with_reducible apply Later.drew) | (with_reducible apply Later.alloc))))))
    ((first
      | (((go_at_call 68; (with_reducible refine (HIB.out _ (by repeat (first | (with_reducible exact Later.refl _) | (with_reducible apply Later.drew) | (with_reducible apply Later.alloc)))).mono ?_)); rintro e w3 ⟨rfl, hm3, hf3⟩); have hph := hf3)
      | (((go_at_call 68; (with_reducible refine (HIA.out _ _ hm3 hf3 (by repeat (first | (with_reducible exact Later.refl _) | (with_reducible apply Later.drew) | (with_reducible apply Later.alloc)))).mono ?_)); rintro e w5 ⟨rfl, hm5, hf5⟩); have hph := hf5)))
  all_goals
    go_wp2_with fail
    go_ret
    exact ⟨rfl, hm5, (FrM.of_later HLW.out).trans hf5⟩
set_option maxRecDepth 100000 in
set_option maxHeartbeats 4000000 in
theorem build_opt (x : Rx) (hx : BuildAt x) : BuildAt (.opt x) := by
  intro tt lo k a b c d A n cp w base g l bg hC hM hbase hto hl
  have hbf := build_facts
  obtain ⟨rfl, rfl, rfl, rfl, rfl, rfl, hcp, p0, off, xs, y0, rfl, hL, h0, hC0⟩ := one_open hC
  obtain ⟨mA, mn, mc, hMB, hMo⟩ := id hM
  obtain ⟨W1, hW1⟩ : ∃ W1, W1 = w.alloc (.cells #[.int .i64 6, .int .u64 0, .int .u64 0, .int .u64 0, .int .u64 0, .slice (some ⟨p0, off, none⟩) 1 cp] 98) := ⟨_, rfl⟩
  have hlw : Later w W1 := by rw [hW1]; exact (Later.refl w).alloc _
  have B4 : Blk W1 w.heap.size 98 #[.int .i64 6, .int .u64 0, .int .u64 0, .int .u64 0, .int .u64 0, .slice (some ⟨p0, off, none⟩) 1 cp] := by rw [hW1]; exact Blk.new w _ _
  obtain ⟨b4, hb4⟩ : ∃ b4, b4 = w.heap.size := ⟨_, rfl⟩
  rw [← hb4] at B4
  have hMB1 := blkL hlw hMB
  have hL1 := LoR.fr hL (Fr.laterF hlw) (spares_false _ _)
  have hM1 := hM.later hlw
  have hbase1 : base ≤ W1.heap.size := Nat.le_trans hbase hlw.size
  have KF := Lib.hid (kidsF1 (base := base) hMB1 B4 hL1 h0)
  have hC0 := (ReC.later hC0 hlw)
  unfold rxSize at hl
  have fx := build_facts x tt l
  obtain ⟨Rx, hRx⟩ : ∃ R, R = buildF x tt l := ⟨_, rfl⟩
  obtain ⟨R, hR⟩ : ∃ R, R = buildF (.opt x) tt l := ⟨_, rfl⟩
  have hR1 : R = (Rx.1 ++ [⟨1, z4, Rx.2, tt⟩], Rx.1.length) := by rw [hR, hRx]; rfl
  rw [← hRx] at fx
  have hia : ∀ wx, Later W1 wx → Calls Tryz.prog 68 #[.pointer (some ⟨g, 0, none⟩), .agg #[.int .i64 y0.k, .int .u64 y0.a, .int .u64 y0.b, .int .u64 y0.c, .int .u64 y0.d, .slice y0.A y0.n y0.cp], .int .i64 (tt : Int)] wx fun e w' => e = .returned (.int .i64 (Rx.2 : Int)) ∧ MacW w' base g Rx.1 bg ∧ FrM base g W1 w' :=
    fun wx hwx => (hx tt lo _ _ _ _ _ _ _ _ wx base g l bg (hC0.later hwx) (hM1.later hwx) (Nat.le_trans hbase1 hwx.size) hto (by omega)).mono fun e w' h => by rw [← hRx] at h; exact ⟨h.1, h.2.1, (FrM.of_later hwx).trans h.2.2⟩
  have had : ∀ wx, MacW wx base g Rx.1 bg → FrM base g W1 wx → Calls Tryz.prog 69 #[.pointer (some ⟨g, 0, none⟩), .agg #[.int .i64 1, .int .u64 0, .int .u64 0, .int .u64 0, .int .u64 0, .int .i64 (Rx.2 : Int), .int .i64 (tt : Int)]] wx fun e w' => e = .returned (.int .i64 (R.2 : Int)) ∧ MacW w' base g R.1 bg ∧ FrM base g W1 w' :=
    fun wx hm hf => (madd_any 1 0 0 0 0 Rx.2 tt wx base g Rx.1 bg hm (Nat.le_trans hbase1 hf.size) (by omega)).mono fun e w' h => by rw [hR1]; exact ⟨h.1, h.2.1, hf.trans h.2.2⟩
  have HIA := Lib.hid hia
  have HAD := Lib.hid had
  rw [← hR]
  have HM := Lib.hid hM1
  have hph : FrM base g W1 W1 := FrM.refl _ _ _
  have HLW := Lib.hid hlw
  obtain ⟨c0, c1, c2, c3, c4, c5, c6⟩ := KF.out W1 hph
  clear hC hM hM1 hC0 hx hbf fx hl hL hL1 h0 hMB hMB1 hMo hia had hRx hR hR1 hbase hbase1 hlw
  go_enter Tryz.func68, Tryz.ntmps68
  go_upto_region 18 with fail
  rw [← hW1, ← hb4]
  clear hW1 hb4
  go_wp2_with fail
  refine (HIA.out _ (Later.refl _)).mono ?_
  rintro e w3 ⟨rfl, hm3, hf3⟩
  go_wp2_with fail
  refine (HAD.out _ hm3 hf3).mono ?_
  rintro e w5 ⟨rfl, hm5, hf5⟩
  go_wp2_with fail
  go_ret
  exact ⟨rfl, hm5, (FrM.of_later HLW.out).trans hf5⟩
set_option maxRecDepth 100000 in
set_option maxHeartbeats 4000000 in
theorem build_alt (x y : Rx) (hx : BuildAt x) (hy : BuildAt y) : BuildAt (.alt x y) := by
  intro tt lo k a b c d A n cp w base g l bg hC hM hbase hto hl
  have hbf := build_facts
  obtain ⟨rfl, rfl, rfl, rfl, rfl, rfl, hcp, p0, off, xs, y0, y1, rfl, hL, h0, h1, hC0, hC1⟩ := two_open hC
  obtain ⟨mA, mn, mc, hMB, hMo⟩ := id hM
  obtain ⟨W1, hW1⟩ : ∃ W1, W1 = w.alloc (.cells #[.int .i64 3, .int .u64 0, .int .u64 0, .int .u64 0, .int .u64 0, .slice (some ⟨p0, off, none⟩) 2 cp] 98) := ⟨_, rfl⟩
  have hlw : Later w W1 := by rw [hW1]; exact (Later.refl w).alloc _
  have B4 : Blk W1 w.heap.size 98 #[.int .i64 3, .int .u64 0, .int .u64 0, .int .u64 0, .int .u64 0, .slice (some ⟨p0, off, none⟩) 2 cp] := by rw [hW1]; exact Blk.new w _ _
  obtain ⟨b4, hb4⟩ : ∃ b4, b4 = w.heap.size := ⟨_, rfl⟩
  rw [← hb4] at B4
  have hMB1 := blkL hlw hMB
  have hL1 := LoR.fr hL (Fr.laterF hlw) (spares_false _ _)
  have hM1 := hM.later hlw
  have hbase1 : base ≤ W1.heap.size := Nat.le_trans hbase hlw.size
  have KF := Lib.hid (kidsF2 (base := base) hMB1 B4 hL1 h0 h1)
  have hC0 := (ReC.later hC0 hlw)
  have hC1 := (ReC.later hC1 hlw)
  unfold rxSize at hl
  have fx := build_facts x tt l
  have fy := build_facts y tt (buildF x tt l).1
  obtain ⟨Rx, hRx⟩ : ∃ R, R = buildF x tt l := ⟨_, rfl⟩
  obtain ⟨R, hR⟩ : ∃ R, R = buildF (.alt x y) tt l := ⟨_, rfl⟩
  obtain ⟨Ry, hRy⟩ : ∃ R, R = buildF y tt Rx.1 := ⟨_, rfl⟩
  have hR1 : R = (Ry.1 ++ [⟨1, z4, Rx.2, Ry.2⟩], Ry.1.length) := by rw [hR, hRy, hRx]; rfl
  rw [← hRx] at fx fy
  rw [← hRy] at fy
  have hia : ∀ wx, Later W1 wx → Calls Tryz.prog 68 #[.pointer (some ⟨g, 0, none⟩), .agg #[.int .i64 y0.k, .int .u64 y0.a, .int .u64 y0.b, .int .u64 y0.c, .int .u64 y0.d, .slice y0.A y0.n y0.cp], .int .i64 (tt : Int)] wx fun e w' => e = .returned (.int .i64 (Rx.2 : Int)) ∧ MacW w' base g Rx.1 bg ∧ FrM base g W1 w' :=
    fun wx hwx => (hx tt lo _ _ _ _ _ _ _ _ wx base g l bg (hC0.later hwx) (hM1.later hwx) (Nat.le_trans hbase1 hwx.size) hto (by omega)).mono fun e w' h => by rw [← hRx] at h; exact ⟨h.1, h.2.1, (FrM.of_later hwx).trans h.2.2⟩
  have hib : ∀ wx, MacW wx base g Rx.1 bg → FrM base g W1 wx → Calls Tryz.prog 68 #[.pointer (some ⟨g, 0, none⟩), .agg #[.int .i64 y1.k, .int .u64 y1.a, .int .u64 y1.b, .int .u64 y1.c, .int .u64 y1.d, .slice y1.A y1.n y1.cp], .int .i64 (tt : Int)] wx fun e w' => e = .returned (.int .i64 (Ry.2 : Int)) ∧ MacW w' base g Ry.1 bg ∧ FrM base g W1 w' :=
    fun wx hm hf => (hy tt lo _ _ _ _ _ _ _ _ wx base g Rx.1 bg (FrM.tree hf hMB1 hC1) hm (Nat.le_trans hbase1 hf.size) hto (by omega)).mono fun e w' h => by rw [← hRy] at h; exact ⟨h.1, h.2.1, hf.trans h.2.2⟩
  have had : ∀ wx, MacW wx base g Ry.1 bg → FrM base g W1 wx → Calls Tryz.prog 69 #[.pointer (some ⟨g, 0, none⟩), .agg #[.int .i64 1, .int .u64 0, .int .u64 0, .int .u64 0, .int .u64 0, .int .i64 (Rx.2 : Int), .int .i64 (Ry.2 : Int)]] wx fun e w' => e = .returned (.int .i64 (R.2 : Int)) ∧ MacW w' base g R.1 bg ∧ FrM base g W1 w' :=
    fun wx hm hf => (madd_any 1 0 0 0 0 Rx.2 Ry.2 wx base g Ry.1 bg hm (Nat.le_trans hbase1 hf.size) (by omega)).mono fun e w' h => by rw [hR1]; exact ⟨h.1, h.2.1, hf.trans h.2.2⟩
  have HIA := Lib.hid hia
  have HIB := Lib.hid hib
  have HAD := Lib.hid had
  rw [← hR]
  have HM := Lib.hid hM1
  have hph : FrM base g W1 W1 := FrM.refl _ _ _
  have HLW := Lib.hid hlw
  obtain ⟨c0, c1, c2, c3, c4, c5, c6, d1, d2, d3, d4, d5, d6⟩ := KF.out W1 hph
  clear hC hM hM1 hC0 hC1 hx hy hbf fx fy hl hL hL1 h0 h1 hMB hMB1 hMo hia hib had hRx hRy hR hR1 hbase hbase1 hlw
  go_enter Tryz.func68, Tryz.ntmps68
  go_upto_region 7 with fail
  rw [← hW1, ← hb4]
  clear hW1 hb4
  go_wp2_with fail
  refine (HIA.out _ (Later.refl _)).mono ?_
  rintro e w3 ⟨rfl, hm3, hf3⟩
  clear c0 c1 c2 c3 c4 c5 c6 d1 d2 d3 d4 d5 d6
  obtain ⟨c0, c1, c2, c3, c4, c5, c6, d1, d2, d3, d4, d5, d6⟩ := KF.out w3 hf3
  go_wp2_with fail
  refine (HIB.out _ hm3 hf3).mono ?_
  rintro e w4 ⟨rfl, hm4, hf4⟩
  go_wp2_with fail
  refine (HAD.out _ hm4 hf4).mono ?_
  rintro e w5 ⟨rfl, hm5, hf5⟩
  go_wp2_with fail
  go_ret
  exact ⟨rfl, hm5, (FrM.of_later HLW.out).trans hf5⟩
set_option maxRecDepth 100000 in
set_option maxHeartbeats 4000000 in
theorem build_star (x : Rx) (hx : BuildAt x) : BuildAt (.star x) := by
  intro tt lo k a b c d A n cp w base g l bg hC hM hbase hto hl
  have hbf := build_facts
  obtain ⟨rfl, rfl, rfl, rfl, rfl, rfl, hcp, p0, off, xs, y0, rfl, hL, h0, hC0⟩ := one_open hC
  obtain ⟨mA, mn, mc, hMB, hMo⟩ := id hM
  obtain ⟨W1, hW1⟩ : ∃ W1, W1 = w.alloc (.cells #[.int .i64 4, .int .u64 0, .int .u64 0, .int .u64 0, .int .u64 0, .slice (some ⟨p0, off, none⟩) 1 cp] 98) := ⟨_, rfl⟩
  have hlw : Later w W1 := by rw [hW1]; exact (Later.refl w).alloc _
  have B4 : Blk W1 w.heap.size 98 #[.int .i64 4, .int .u64 0, .int .u64 0, .int .u64 0, .int .u64 0, .slice (some ⟨p0, off, none⟩) 1 cp] := by rw [hW1]; exact Blk.new w _ _
  obtain ⟨b4, hb4⟩ : ∃ b4, b4 = w.heap.size := ⟨_, rfl⟩
  rw [← hb4] at B4
  have hMB1 := blkL hlw hMB
  have hL1 := LoR.fr hL (Fr.laterF hlw) (spares_false _ _)
  have hM1 := hM.later hlw
  have hbase1 : base ≤ W1.heap.size := Nat.le_trans hbase hlw.size
  have KF := Lib.hid (kidsF1 (base := base) hMB1 B4 hL1 h0)
  have hC0 := (ReC.later hC0 hlw)
  unfold rxSize at hl
  obtain ⟨N, hN⟩ : ∃ N, N = l.length := ⟨_, rfl⟩
  have fx := build_facts x N (l ++ [⟨1, z4, 0, tt⟩])
  obtain ⟨Rx, hRx⟩ : ∃ R, R = buildF x N (l ++ [⟨1, z4, 0, tt⟩]) := ⟨_, rfl⟩
  obtain ⟨R, hR⟩ : ∃ R, R = buildF (.star x) tt l := ⟨_, rfl⟩
  have hR1 : R = (setNA Rx.1 N Rx.2, l.length) := by rw [hR, hRx, hN]; rfl
  rw [← hRx] at fx
  simp only [List.length_append, List.length_singleton] at fx
  have had : ∀ wx, Later W1 wx → Calls Tryz.prog 69 #[.pointer (some ⟨g, 0, none⟩), .agg #[.int .i64 1, .int .u64 0, .int .u64 0, .int .u64 0, .int .u64 0, .int .i64 0, .int .i64 (tt : Int)]] wx fun e w' => e = .returned (.int .i64 (N : Int)) ∧ MacW w' base g (l ++ [⟨1, z4, 0, tt⟩]) bg ∧ FrM base g W1 w' :=
    fun wx hwx => (madd_any 1 0 0 0 0 0 tt wx base g l bg (hM1.later hwx) (Nat.le_trans hbase1 hwx.size) (by omega)).mono fun e w' h => by rw [hN]; exact ⟨h.1, h.2.1, (FrM.of_later hwx).trans h.2.2⟩
  have hia : ∀ wx, MacW wx base g (l ++ [⟨1, z4, 0, tt⟩]) bg → FrM base g W1 wx → Calls Tryz.prog 68 #[.pointer (some ⟨g, 0, none⟩), .agg #[.int .i64 y0.k, .int .u64 y0.a, .int .u64 y0.b, .int .u64 y0.c, .int .u64 y0.d, .slice y0.A y0.n y0.cp], .int .i64 (N : Int)] wx fun e w' => e = .returned (.int .i64 (Rx.2 : Int)) ∧ MacW w' base g Rx.1 bg ∧ FrM base g W1 w' :=
    fun wx hm hf => (hx N lo _ _ _ _ _ _ _ _ wx base g _ bg (FrM.tree hf hMB1 hC0) hm (Nat.le_trans hbase1 hf.size) (by omega) (by simp only [List.length_append, List.length_singleton]; omega)).mono fun e w' h => by rw [← hRx] at h; exact ⟨h.1, h.2.1, hf.trans h.2.2⟩
  have HIA := Lib.hid hia
  have HAD := Lib.hid had
  have hNl : N < Rx.1.length := by omega
  have hNN : N ≤ 1000000 := by omega
  have hRn : Rx.1.length ≤ 1000000 := by omega
  rw [← hR]
  have HR1 := Lib.hid hR1
  have hb4g : b4 ≠ g := Blk.ne_ B4 hMB1 (by decide)
  have HM := Lib.hid hM1
  have hph : FrM base g W1 W1 := FrM.refl _ _ _
  have HLW := Lib.hid hlw
  obtain ⟨c0, c1, c2, c3, c4, c5, c6⟩ := KF.out W1 hph
  clear hC hM hM1 hC0 hx hbf fx hl hL hL1 h0 hMB hMB1 hMo hia had hRx hR hR1 hbase hbase1 hlw
  have HN := Lib.hid hN
  clear hN
  go_enter Tryz.func68, Tryz.ntmps68
  go_upto_region 11 with fail
  rw [← hW1, ← hb4]
  clear hW1 hb4
  go_wp2_with fail
  refine (HAD.out _ (Later.refl _)).mono ?_
  rintro e w3 ⟨rfl, hm3, hf3⟩
  clear c0 c1 c2 c3 c4 c5 c6
  obtain ⟨c0, c1, c2, c3, c4, c5, c6⟩ := KF.out w3 hf3
  go_wp2_with fail
  refine (HIA.out _ hm3 hf3).mono ?_
  rintro e w4 ⟨rfl, hm4, hf4⟩
  obtain ⟨mA, mn, mc, mk, hmB, hml, rfl, hmk, hmk2, hfz, ⟨mv, hmv⟩, hmt, hft⟩ := hm4.turn (a := Rx.2) hNl
  have hB4 := (hf4.trans hft).blk B4 hb4g (by decide)
  have x0 := hmB.cell 0
  have hNi : (N : Int) < (mn : Int) := by omega
  have q0 := hB4.cell 0
  clear c0 c1 c2 c3 c4 c5 c6
  go_wp2_with fail
  go_ret
  exact ⟨by rw [HR1.out, HN.out]; rfl, by rw [HR1.out]; exact hmt, (FrM.of_later HLW.out).trans (hf4.trans hft)⟩
set_option maxRecDepth 100000 in
set_option maxHeartbeats 4000000 in
theorem build_plus (x : Rx) (hx : BuildAt x) : BuildAt (.plus x) := by
  intro tt lo k a b c d A n cp w base g l bg hC hM hbase hto hl
  have hbf := build_facts
  obtain ⟨rfl, rfl, rfl, rfl, rfl, rfl, hcp, p0, off, xs, y0, rfl, hL, h0, hC0⟩ := one_open hC
  obtain ⟨mA, mn, mc, hMB, hMo⟩ := id hM
  obtain ⟨W1, hW1⟩ : ∃ W1, W1 = w.alloc (.cells #[.int .i64 5, .int .u64 0, .int .u64 0, .int .u64 0, .int .u64 0, .slice (some ⟨p0, off, none⟩) 1 cp] 98) := ⟨_, rfl⟩
  have hlw : Later w W1 := by rw [hW1]; exact (Later.refl w).alloc _
  have B4 : Blk W1 w.heap.size 98 #[.int .i64 5, .int .u64 0, .int .u64 0, .int .u64 0, .int .u64 0, .slice (some ⟨p0, off, none⟩) 1 cp] := by rw [hW1]; exact Blk.new w _ _
  obtain ⟨b4, hb4⟩ : ∃ b4, b4 = w.heap.size := ⟨_, rfl⟩
  rw [← hb4] at B4
  have hMB1 := blkL hlw hMB
  have hL1 := LoR.fr hL (Fr.laterF hlw) (spares_false _ _)
  have hM1 := hM.later hlw
  have hbase1 : base ≤ W1.heap.size := Nat.le_trans hbase hlw.size
  have KF := Lib.hid (kidsF1 (base := base) hMB1 B4 hL1 h0)
  have hC0 := (ReC.later hC0 hlw)
  unfold rxSize at hl
  obtain ⟨N, hN⟩ : ∃ N, N = l.length := ⟨_, rfl⟩
  have fx := build_facts x N (l ++ [⟨1, z4, 0, tt⟩])
  obtain ⟨Rx, hRx⟩ : ∃ R, R = buildF x N (l ++ [⟨1, z4, 0, tt⟩]) := ⟨_, rfl⟩
  obtain ⟨R, hR⟩ : ∃ R, R = buildF (.plus x) tt l := ⟨_, rfl⟩
  have hR1 : R = (setNA Rx.1 N Rx.2, Rx.2) := by rw [hR, hRx, hN]; rfl
  rw [← hRx] at fx
  simp only [List.length_append, List.length_singleton] at fx
  have had : ∀ wx, Later W1 wx → Calls Tryz.prog 69 #[.pointer (some ⟨g, 0, none⟩), .agg #[.int .i64 1, .int .u64 0, .int .u64 0, .int .u64 0, .int .u64 0, .int .i64 0, .int .i64 (tt : Int)]] wx fun e w' => e = .returned (.int .i64 (N : Int)) ∧ MacW w' base g (l ++ [⟨1, z4, 0, tt⟩]) bg ∧ FrM base g W1 w' :=
    fun wx hwx => (madd_any 1 0 0 0 0 0 tt wx base g l bg (hM1.later hwx) (Nat.le_trans hbase1 hwx.size) (by omega)).mono fun e w' h => by rw [hN]; exact ⟨h.1, h.2.1, (FrM.of_later hwx).trans h.2.2⟩
  have hia : ∀ wx, MacW wx base g (l ++ [⟨1, z4, 0, tt⟩]) bg → FrM base g W1 wx → Calls Tryz.prog 68 #[.pointer (some ⟨g, 0, none⟩), .agg #[.int .i64 y0.k, .int .u64 y0.a, .int .u64 y0.b, .int .u64 y0.c, .int .u64 y0.d, .slice y0.A y0.n y0.cp], .int .i64 (N : Int)] wx fun e w' => e = .returned (.int .i64 (Rx.2 : Int)) ∧ MacW w' base g Rx.1 bg ∧ FrM base g W1 w' :=
    fun wx hm hf => (hx N lo _ _ _ _ _ _ _ _ wx base g _ bg (FrM.tree hf hMB1 hC0) hm (Nat.le_trans hbase1 hf.size) (by omega) (by simp only [List.length_append, List.length_singleton]; omega)).mono fun e w' h => by rw [← hRx] at h; exact ⟨h.1, h.2.1, hf.trans h.2.2⟩
  have HIA := Lib.hid hia
  have HAD := Lib.hid had
  have hNl : N < Rx.1.length := by omega
  have hNN : N ≤ 1000000 := by omega
  have hRn : Rx.1.length ≤ 1000000 := by omega
  rw [← hR]
  have HR1 := Lib.hid hR1
  have hb4g : b4 ≠ g := Blk.ne_ B4 hMB1 (by decide)
  have HM := Lib.hid hM1
  have hph : FrM base g W1 W1 := FrM.refl _ _ _
  have HLW := Lib.hid hlw
  obtain ⟨c0, c1, c2, c3, c4, c5, c6⟩ := KF.out W1 hph
  clear hC hM hM1 hC0 hx hbf fx hl hL hL1 h0 hMB hMB1 hMo hia had hRx hR hR1 hbase hbase1 hlw
  have HN := Lib.hid hN
  clear hN
  go_enter Tryz.func68, Tryz.ntmps68
  go_upto_region 11 with fail
  rw [← hW1, ← hb4]
  clear hW1 hb4
  go_wp2_with fail
  refine (HAD.out _ (Later.refl _)).mono ?_
  rintro e w3 ⟨rfl, hm3, hf3⟩
  clear c0 c1 c2 c3 c4 c5 c6
  obtain ⟨c0, c1, c2, c3, c4, c5, c6⟩ := KF.out w3 hf3
  go_wp2_with fail
  refine (HIA.out _ hm3 hf3).mono ?_
  rintro e w4 ⟨rfl, hm4, hf4⟩
  obtain ⟨mA, mn, mc, mk, hmB, hml, rfl, hmk, hmk2, hfz, ⟨mv, hmv⟩, hmt, hft⟩ := hm4.turn (a := Rx.2) hNl
  have hB4 := (hf4.trans hft).blk B4 hb4g (by decide)
  have x0 := hmB.cell 0
  have hNi : (N : Int) < (mn : Int) := by omega
  have q0 := hB4.cell 0
  clear c0 c1 c2 c3 c4 c5 c6
  go_wp2_with fail
  go_ret
  exact ⟨by rw [HR1.out, HN.out]; rfl, by rw [HR1.out]; exact hmt, (FrM.of_later HLW.out).trans (hf4.trans hft)⟩
theorem build_any : ∀ x : Rx, BuildAt x
  | .eps => build_eps
  | .set s => build_set s
  | .first => build_first
  | .last => build_last
  | .cat x y => build_cat x y (build_any x) (build_any y)
  | .alt x y => build_alt x y (build_any x) (build_any y)
  | .star x => build_star x (build_any x)
  | .plus x => build_plus x (build_any x)
  | .opt x => build_opt x (build_any x)
end Go.Proofs.YtmkddhkpeiajhaaGreatDoor
namespace Go.Proofs.YtmkddhkpeiajhaaGreatDoor
open Go.RowKit
theorem rxSize_le : ∀ r : Rx, 1 ≤ lvR r ∧ rxSize r ≤ lvR r * dpR r
  | .eps => by unfold rxSize lvR dpR; omega
  | .set _ => by unfold rxSize lvR dpR; omega
  | .first => by unfold rxSize lvR dpR; omega
  | .last => by unfold rxSize lvR dpR; omega
  | .cat a b => by
    have ha := rxSize_le a
    have hb := rxSize_le b
    unfold rxSize lvR dpR
    generalize hD : max (dpR a + 1) (dpR b) = D
    have h1 : lvR a * (dpR a + 1) ≤ lvR a * D := Nat.mul_le_mul_left _ (by omega)
    have h2 : lvR b * dpR b ≤ lvR b * D := Nat.mul_le_mul_left _ (by omega)
    rw [Nat.mul_add, Nat.mul_one] at h1
    rw [Nat.add_mul]
    omega
  | .alt a b => by
    have ha := rxSize_le a
    have hb := rxSize_le b
    unfold rxSize lvR dpR
    generalize hD : max (dpR a + 1) (dpR b) = D
    have h1 : lvR a * (dpR a + 1) ≤ lvR a * D := Nat.mul_le_mul_left _ (by omega)
    have h2 : lvR b * dpR b ≤ lvR b * D := Nat.mul_le_mul_left _ (by omega)
    rw [Nat.mul_add, Nat.mul_one] at h1
    rw [Nat.add_mul]
    omega
  | .star a => by
    have ha := rxSize_le a
    unfold rxSize lvR dpR
    rw [Nat.mul_add, Nat.mul_one]
    omega
  | .plus a => by
    have ha := rxSize_le a
    unfold rxSize lvR dpR
    rw [Nat.mul_add, Nat.mul_one]
    omega
  | .opt a => by
    have ha := rxSize_le a
    unfold rxSize lvR dpR
    rw [Nat.mul_add, Nat.mul_one]
    omega
theorem rxSize_right {r : Rx} (h : rightT (rxT r) = true) : rxSize r ≤ 16000 := by
  obtain ⟨h1, h2⟩ := fit_of_right h
  have := (rxSize_le r).2
  have : lvR r * dpR r ≤ 400 * 40 := Nat.mul_le_mul h2 h1
  omega
theorem mach_len {r : Rx} (h : rightT (rxT r) = true) : (machF r).1.length ≤ 16001 := by
  have := rxSize_right h
  have := (build_facts r 0 [⟨4, z4, 0, 0⟩]).2.1
  simp only [List.length_singleton] at this
  unfold machF
  omega
def MadeM (w : World) (r : Rx) (g : Nat) (w' : World) : Prop := MacW w' w.heap.size g (machF r).1 ((machF r).2 : Nat) ∧ w.heap.size ≤ g ∧ Later w w'
theorem cells6r {w : World} {b : Nat} {t : TypeId} {x0 x1 x2 x3 x4 x5 : Value} (h : Blk w b t #[x0, x1, x2, x3, x4, x5]) :
    w.cell? ⟨b, 0, none⟩ = some x0 ∧ w.cell? ⟨b, 1, none⟩ = some x1 ∧ w.cell? ⟨b, 2, none⟩ = some x2 ∧ w.cell? ⟨b, 3, none⟩ = some x3 ∧ w.cell? ⟨b, 4, none⟩ = some x4 ∧ w.cell? ⟨b, 5, none⟩ = some x5 := ⟨h.cell 0, h.cell 1, h.cell 2, h.cell 3, h.cell 4, h.cell 5⟩
theorem FrM.drew {w w1 : World} {base g : Nat} (h : FrM base g w w1) : FrM base g w w1.drew := Fr.drew h
theorem FrM.alloc {w w1 : World} {base g : Nat} (h : FrM base g w w1) (o : Obj) : FrM base g w (w1.alloc o) := Fr.alloc h o
theorem FrM.setg {w w1 : World} {base g i : Nat} (h : FrM base g w w1) (u : Value) : FrM base g w (w1.setCell ⟨g, i, none⟩ u) := Fr.set (a := ⟨g, i, none⟩) h (fun _ => .inl rfl) u
set_option maxRecDepth 100000 in
set_option maxHeartbeats 4000000 in
theorem compile_yes (r : Rx) (lo : Nat → Prop) (k a b c d : Int) (A : Option Addr) (n cp : Nat) (w : World) (h : ReC w lo (rxT r) ⟨k, a, b, c, d, A, n, cp⟩) (hr : rightT (rxT r) = true) :
    Calls Tryz.prog 56 #[.agg #[.int .i64 k, .int .u64 a, .int .u64 b, .int .u64 c, .int .u64 d, .slice A n cp]] w fun e w' => ∃ g, e = .returned (.tuple #[.pointer (some ⟨g, 0, none⟩), .int .i64 0]) ∧ MadeM w r g w' := by
  have hc : ∀ wx, Later w wx → Calls Tryz.prog 67 #[.agg #[.int .i64 k, .int .u64 a, .int .u64 b, .int .u64 c, .int .u64 d, .slice A n cp]] wx fun e w' => e = .returned (.bool true) ∧ Later wx w' := fun wx hwx => by
    have := right_any (rxT r) lo k a b c d A n cp wx (h.later hwx)
    rw [hr] at this
    exact this
  have HC := Lib.hid hc
  have hsz := rxSize_right hr
  have HT := Lib.hid h
  have HSZ : Hid (rxSize r ≤ 16000) := Lib.hid hsz
  clear hc h hr hsz
  go_enter Tryz.func56, Tryz.ntmps56
  go_wp2_with fail
  refine (HC.out _ ((Later.refl _).alloc _)).mono ?_
  rintro e w1 ⟨rfl, hl1⟩
  go_upto_region 4 with fail
  obtain ⟨g, hg⟩ : ∃ g, g = w1.heap.size := ⟨_, rfl⟩
  obtain ⟨W1, hW1⟩ : ∃ W1, W1 = w1.alloc (.cells #[.slice none 0 0, .int .i64 0] 123) := ⟨_, rfl⟩
  have hB1 := blkL hl1 (Blk.new w 98 #[.int .i64 k, .int .u64 a, .int .u64 b, .int .u64 c, .int .u64 d, .slice A n cp])
  have hlw : Later w w1 := ((Later.refl w).alloc _).trans hl1
  have hl2 : Later w1 W1 := by rw [hW1]; exact (Later.refl w1).alloc _
  have hlW : Later w W1 := hlw.trans hl2
  have hB2 := blkL hl2 hB1
  have hM0 : MacW W1 w.heap.size g [] 0 := ⟨none, 0, 0, by rw [hW1, hg]; exact Blk.new w1 _ _, OwnN.nil⟩
  have hgw : w.heap.size ≤ g := by rw [hg]; exact hlw.size
  have hgl : w.heap.size ≠ g := by have := hB1.lt; omega
  have hT := HT.out.later hlW
  have hbase : w.heap.size ≤ W1.heap.size := hlW.size
  have had : ∀ wx, Later W1 wx → Calls Tryz.prog 69 #[.pointer (some ⟨g, 0, none⟩), .agg #[.int .i64 4, .int .u64 0, .int .u64 0, .int .u64 0, .int .u64 0, .int .i64 0, .int .i64 0]] wx fun e w' => e = .returned (.int .i64 0) ∧ MacW w' w.heap.size g [⟨4, z4, 0, 0⟩] 0 ∧ FrM w.heap.size g W1 w' :=
    fun wx hwx => (madd_any 4 0 0 0 0 0 0 wx w.heap.size g [] 0 (hM0.later hwx) (Nat.le_trans hbase hwx.size) (by simp)).mono fun e w' h => ⟨h.1, h.2.1, (FrM.of_later hwx).trans h.2.2⟩
  have hbu : ∀ w3 wx, MacW w3 w.heap.size g [⟨4, z4, 0, 0⟩] 0 → FrM w.heap.size g W1 w3 → Later w3 wx → Calls Tryz.prog 68 #[.pointer (some ⟨g, 0, none⟩), .agg #[.int .i64 k, .int .u64 a, .int .u64 b, .int .u64 c, .int .u64 d, .slice A n cp], .int .i64 0] wx fun e w' => e = .returned (.int .i64 ((machF r).2 : Nat)) ∧ MacW w' w.heap.size g (machF r).1 0 ∧ FrM w.heap.size g W1 w' :=
    fun w3 wx hm3 hf3 hwx => (build_any r 0 lo k a b c d A n cp wx w.heap.size g [⟨4, z4, 0, 0⟩] 0 ((FrM.tree hf3 (hM0.choose_spec.choose_spec.choose_spec.1) hT).later hwx) (hm3.later hwx) (Nat.le_trans hbase (Nat.le_trans hf3.size hwx.size)) (by omega) (by have := HSZ.out; simp only [List.length_singleton]; omega)).mono fun e w' h => ⟨h.1, h.2.1, hf3.trans ((FrM.of_later hwx).trans h.2.2)⟩
  have HAD := Lib.hid had
  have HBU := Lib.hid hbu
  have hkf : ∀ wx, FrM w.heap.size g W1 wx → wx.cell? ⟨w.heap.size, 0, none⟩ = some (.int .i64 k) ∧ wx.cell? ⟨w.heap.size, 1, none⟩ = some (.int .u64 a) ∧ wx.cell? ⟨w.heap.size, 2, none⟩ = some (.int .u64 b) ∧ wx.cell? ⟨w.heap.size, 3, none⟩ = some (.int .u64 c) ∧ wx.cell? ⟨w.heap.size, 4, none⟩ = some (.int .u64 d) ∧ wx.cell? ⟨w.heap.size, 5, none⟩ = some (.slice A n cp) :=
    fun wx hf => cells6r (hf.blk hB2 hgl (by decide))
  have KF := Lib.hid hkf
  have hph : FrM w.heap.size g W1 W1 := FrM.refl _ _ _
  obtain ⟨c0, c1, c2, c3, c4, c5⟩ := KF.out W1 hph
  have HLW := Lib.hid hlW
  have HMF : Hid (∀ wx, MacW wx w.heap.size g (machF r).1 0 → ∃ A n c, Blk wx g 123 #[.slice A n c, .int .i64 0] ∧ MacW (wx.setCell ⟨g, 1, none⟩ (.int .i64 ((machF r).2 : Nat))) w.heap.size g (machF r).1 ((machF r).2 : Nat) ∧ FrM w.heap.size g wx (wx.setCell ⟨g, 1, none⟩ (.int .i64 ((machF r).2 : Nat)))) := by
    rintro wx ⟨A, n, c, hB, ho⟩
    have hne : ∀ k, ob A = some k → ¬ k = g := fun k hk e => by
      obtain ⟨_, _, cs, hB'⟩ := ho.blk hk
      subst e
      exact Blk.ne_ hB hB' (by decide) rfl
    exact ⟨A, n, c, hB, ⟨A, n, c, by simpa using hB.set_ 1 (.int .i64 ((machF r).2 : Nat)), ho.fr (Fr.set (Fr.refl wx (fun k => k = g)) (a := ⟨g, 1, none⟩) (fun _ => rfl) _) hne⟩, Fr.set (a := ⟨g, 1, none⟩) (Fr.refl wx _) (fun _ => .inl rfl) _⟩
  obtain ⟨R2, hR2⟩ : ∃ R2, R2 = (machF r).2 := ⟨_, rfl⟩
  rw [← hR2] at HBU HMF
  have HR2 := Lib.hid hR2
  rw [← hW1, ← hg]
  clear hW1 hg hB1 hl1 hl2 hB2 hM0 hgl hT had hbu hkf hbase hlw hlW hR2
  go_region_held_law (fun w' => w'.cell? ⟨w.heap.size, 0, none⟩ = some (.int .i64 k) ∧ w'.cell? ⟨w.heap.size, 1, none⟩ = some (.int .u64 a) ∧ w'.cell? ⟨w.heap.size, 2, none⟩ = some (.int .u64 b) ∧ w'.cell? ⟨w.heap.size, 3, none⟩ = some (.int .u64 c) ∧ w'.cell? ⟨w.heap.size, 4, none⟩ = some (.int .u64 d) ∧ w'.cell? ⟨w.heap.size, 5, none⟩ = some (.slice A n cp)) (exact KF.out _ (by repeat (first | (with_reducible exact hph) | (with_reducible apply FrM.drew) | (with_reducible apply FrM.alloc) | (with_reducible apply FrM.setg))))
    ((first
      | (((go_at_call 69; (with_reducible refine (HAD.out _ (by repeat (first | (with_reducible exact Later.refl _) | (with_reducible apply Later.drew) | (with_reducible apply Later.alloc)))).mono ?_)); rintro e w3 ⟨rfl, hm3, hf3⟩); have hph := hf3)
      | (((go_at_call 68; (with_reducible refine (HBU.out _ _ hm3 hf3 (by repeat (first | (with_reducible exact Later.refl _) | (with_reducible apply Later.drew) | (with_reducible apply Later.alloc)))).mono ?_)); rintro e w5 ⟨rfl, hm5, hf5⟩); have hph := hf5; obtain ⟨mA, mn, mc, hmB, hm6, hf6⟩ := HMF.out _ hm5; have y1 := hmB.cell 1; have g1 := hmB.frozen 1)))
  all_goals
    go_wp2_with fail
    go_ret2
    exact ⟨g, rfl, by rw [← HR2.out]; exact hm6, hgw, (hf5.trans hf6).below (w2 := w) (Nat.le_refl _) hgw HLW.out⟩
theorem own_base {w : World} {b1 b2 size n : Nat} {e : TypeId} {v : Value} {xs : List Value} (h : w.ownsRow b1 e size v n xs) (hb : b2 ≤ b1) : w.ownsRow b2 e size v n xs :=
  ⟨h.1, h.2.imp id fun ⟨g, cap, cur, h1, h2, h3⟩ => ⟨g, cap, cur, h1, Nat.le_trans hb h2, h3⟩⟩
def NewM (w : World) (R : Tree × Nat × Nat) (e : Ending) (w' : World) : Prop :=
  (R.2.2 ≠ 0 ∧ e = .returned (.tuple #[.pointer none, .int .i64 (R.2.1 : Int), .int .i64 (R.2.2 : Int)]) ∧ Later w w') ∨
  (∃ g r, R = (rxT r, 0, 0) ∧ rightT (rxT r) = true ∧ e = .returned (.tuple #[.pointer (some ⟨g, 0, none⟩), .int .i64 0, .int .i64 0]) ∧ MadeM w r g w')
theorem parse_right (s : List UInt8) (h : (parseF s).2.2 = 0) : ∃ r, parseF s = (rxT r, 0, 0) ∧ rightT (rxT r) = true := by
  by_cases hz : s.length = 0
  · exact ⟨.eps, parse_nil hz, by decide⟩
  · cases ha : altF s 11 st0 with
    | mk p st =>
      by_cases hb : st.bad = 0
      · by_cases hm : st.at_ < s.length
        · rw [parse_more hz ha hb hm] at h; cases h
        · by_cases hq : p.big = true ∨ rightT p.re = false
          · rw [parse_no hz ha hb hm hq] at h; cases h
          · simp only [not_or, Bool.not_eq_true, Bool.not_eq_false] at hq
            obtain ⟨r, hr⟩ := rx_of_right hq.2
            exact ⟨r, by rw [parse_yes hz ha hb hm hq.1 hq.2, hr], by rw [← hr]; exact hq.2⟩
      · rw [parse_bad hz ha hb] at h; exact absurd h hb
set_option maxRecDepth 100000 in
set_option maxHeartbeats 4000000 in
theorem new_any (S : ByteArray) [Txt S] (w : World) (hs : S.size ≤ 999999990) :
    Calls Tryz.prog 43 #[.string S] w (NewM w (parseF S.data.toList)) := by
  obtain ⟨R, hR⟩ : ∃ R, R = parseF S.data.toList := ⟨_, rfl⟩
  have hp := parse_any S (fun _ => True) w hs (fun _ _ => trivial)
  have hpr := parse_right S.data.toList
  rw [← hR] at hp hpr ⊢
  have HP := Lib.hid hp
  by_cases h0 : R.2.2 = 0
  · obtain ⟨r, hr, hrr⟩ := hpr h0
    subst hr
    have HRR := Lib.hid hrr
    clear hp hR hpr h0 hrr
    go_enter Tryz.func43, Tryz.ntmps43
    go_wp2_with fail
    refine HP.out.mono ?_
    rintro e w1 ⟨k, a, b, c, d, A, n, cp, rfl, hC, hl1⟩
    have hC : ReC w1 (fun _ => True) (rxT r) ⟨k, a, b, c, d, A, n, cp⟩ := hC
    have hco := compile_yes r (fun _ => True) k a b c d A n cp _ (hC.later ((Later.refl w1).alloc (.cells #[.int .i64 k, .int .u64 a, .int .u64 b, .int .u64 c, .int .u64 d, .slice A n cp] 98))) HRR.out
    have HCO := Lib.hid hco
    clear hco hC
    simp only
    go_wp2_with fail
    refine HCO.out.mono ?_
    rintro e w2 ⟨g, rfl, hm2, hg2, hl2⟩
    go_wp2_with fail
    go_ret3
    have hlw := hl1.trans ((Later.refl w1).alloc (.cells #[.int .i64 k, .int .u64 a, .int .u64 b, .int .u64 c, .int .u64 d, .slice A n cp] 98))
    have hsz := hlw.size
    refine .inr ⟨g, r, rfl, HRR.out, rfl, ?_, Nat.le_trans hsz hg2, hlw.trans hl2⟩
    obtain ⟨A', n', c', h1, h2⟩ := hm2
    exact ⟨A', n', c', h1, h2.1, own_base h2.2 hsz⟩
  · have h0i : ((R.2.2 : Int) != 0) = true := by rw [bne_iff_ne]; omega
    have H0 := Lib.hid h0
    clear hp hR hpr h0
    go_enter Tryz.func43, Tryz.ntmps43
    go_wp2_with fail
    refine HP.out.mono ?_
    rintro e w1 ⟨k, a, b, c, d, A, n, cp, rfl, hC, hl1⟩
    go_wp2_with fail
    go_ret3
    exact .inl ⟨H0.out, rfl, hl1.alloc _⟩
end Go.Proofs.YtmkddhkpeiajhaaGreatDoor
