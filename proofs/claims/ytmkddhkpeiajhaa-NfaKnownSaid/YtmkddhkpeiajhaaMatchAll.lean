import Derived.Test.YtmkddhkpeiajhaaFind
import Derived.Test.YtmkddhkpeiajhaaNfaPlain
/-
  The contracts of nfa's At, Find, Is.
-/
namespace Go.Proofs.Ytmkddhkpeiajhaa
open Go.RowKit

/-- a machine that may be run: its states, its begin -/
structure RunsM (w : World) (mb g : Nat) (L : List NSt) (B : Nat) : Prop where
  mem : MacW w mb g L (B : Int)
  wf : WfM L
  beg : B < L.length
  sets : ∀ (s : Nat) (n : NSt), L[s]? = some n → okW n.set
  len : L.length ≤ 20000
theorem RunsM.later {w w' : World} {mb g : Nat} {L : List NSt} {B : Nat} (h : RunsM w mb g L B) (hl : Later w w') : RunsM w' mb g L B := ⟨h.mem.later hl, h.wf, h.beg, h.sets, h.len⟩

theorem build_sets : ∀ (r : Rx) (q : Nat) (l : List NSt), okR r → (∀ (s : Nat) (n : NSt), l[s]? = some n → okW n.set) → ∀ (s : Nat) (n : NSt), (buildF r q l).1[s]? = some n → okW n.set
  | .eps, q, l, _, hl, s, n, h => hl s n h
  | .set x, q, l, hk, hl, s, n, h => by unfold buildF at h; exact snoc_ok (m := ⟨0, x, q, 0⟩) hl hk s n h
  | .first, q, l, _, hl, s, n, h => by unfold buildF at h; exact snoc_ok hl z4_ok s n h
  | .last, q, l, _, hl, s, n, h => by unfold buildF at h; exact snoc_ok hl z4_ok s n h
  | .cat a b, q, l, hk, hl, s, n, h => by unfold buildF at h; exact build_sets a _ _ hk.1 (build_sets b q l hk.2 hl) s n h
  | .alt a b, q, l, hk, hl, s, n, h => by unfold buildF at h; exact snoc_ok (build_sets b q _ hk.2 (build_sets a q l hk.1 hl)) z4_ok s n h
  | .opt a, q, l, hk, hl, s, n, h => by unfold buildF at h; exact snoc_ok (build_sets a q l hk hl) z4_ok s n h
  | .star a, q, l, hk, hl, s, n, h => by unfold buildF at h; exact setNA_ok (build_sets a _ _ hk (snoc_ok hl z4_ok)) s n h
  | .plus a, q, l, hk, hl, s, n, h => by unfold buildF at h; exact setNA_ok (build_sets a _ _ hk (snoc_ok hl z4_ok)) s n h
where
  z4_ok : okW z4 := by unfold okW z4; simp
  snoc_ok {l : List NSt} {m : NSt} (hl : ∀ (s : Nat) (n : NSt), l[s]? = some n → okW n.set) (hm : okW m.set) : ∀ (s : Nat) (n : NSt), (l ++ [m])[s]? = some n → okW n.set := fun s n h => by
    by_cases hs : s < l.length
    · rw [List.getElem?_append_left hs] at h; exact hl s n h
    · rw [List.getElem?_append_right (by omega)] at h
      have : s - l.length = 0 := by have := (List.getElem?_eq_some_iff.1 h).1; simp at this; omega
      rw [this] at h; injection h with h; subst h; exact hm
  setNA_ok {l : List NSt} {i a : Nat} (hl : ∀ (s : Nat) (n : NSt), l[s]? = some n → okW n.set) : ∀ (s : Nat) (n : NSt), (setNA l i a)[s]? = some n → okW n.set := fun s n h => by
    by_cases hs : i = s
    · subst hs
      rw [setNA_eq] at h
      cases hq : l[i]? with
      | none => rw [hq] at h; cases h
      | some m => rw [hq] at h; injection h with h; subst h; exact hl i m hq
    · rw [setNA_ne _ hs] at h; exact hl s n h
/-- a machine that Compile has made may be run -/
theorem MadeM.runs {w w' : World} {r : Rx} {g : Nat} (h : MadeM w r g w') (hk : okR r) (hr : rightT (rxT r) = true) : RunsM w' w.heap.size g (machF r).1 (machF r).2 :=
  ⟨h.1, (mach_wf r).1, (mach_wf r).2, build_sets r 0 _ hk (fun s n hn => by
    have hs : s = 0 := by have := (List.getElem?_eq_some_iff.1 hn).1; simp at this; omega
    subst hs; injection hn with hn; subst hn; exact build_sets.z4_ok), by have := mach_len hr; omega⟩

theorem find_at (S : ByteArray) (lo most : Nat) (w : World) (mb g : Nat) (L : List NSt) (B : Nat) (h : RunsM w mb g L B) (hlo : lo ≤ S.size) (hmo : most ≤ S.size) (hS : S.size ≤ 1000000) :
    Calls Try.prog 30 #[.pointer (some ⟨g, 0, none⟩), .string S, .int .i64 (lo : Int), .int .i64 (most : Int)] w (Found w (findF (L, B) S.data.toList lo most)) :=
  find_yes S lo most w mb g L B h.mem h.wf h.beg h.sets hlo hmo hS h.len
set_option maxRecDepth 100000 in
theorem find_no (S : ByteArray) (lo most : Int) (p : Value) (w : World) (hlo : lo < 0 ∨ (S.size : Int) < lo) :
    Calls Try.prog 30 #[p, .string S, .int .i64 lo, .int .i64 most] w (Found w none) := by
  rcases hlo with h | h
  · go_enter Try.func30, Try.ntmps30
    go_wp2_with fail
    refine wp_scope_rank 0 (fun _ _ _ => False) rfl (fun _ => ?_) (fun _ _ _ h => h.elim)
    go_wp2_with fail
    simp only [Exit.jump]
    go_ret2
    exact ⟨by rw [show fl (stN none : Int) = 0 from fl_0.symm, show fl (enN none : Int) = 0 from fl_0.symm]; rfl, Later.refl _⟩
  · have h1 : ¬ lo < 0 := by omega
    have h2 : decide (lo < 0) = false := decide_eq_false h1
    go_enter Try.func30, Try.ntmps30
    go_wp2_with fail
    refine wp_scope_rank 0 (fun _ _ _ => False) rfl (fun _ => ?_) (fun _ _ _ h => h.elim)
    go_wp2_with fail
    simp only [Exit.jump]
    go_ret2
    exact ⟨by rw [show fl (stN none : Int) = 0 from fl_0.symm, show fl (enN none : Int) = 0 from fl_0.symm]; rfl, Later.refl _⟩

theorem conv_fi (n : Nat) (hn : n ≤ 1000000) (W : World) : (convert 78 3 (.float .f64 (fl (n : Int)))).run Try.prog W = .ok (.int .i64 (n : Int)) W :=
  run_convert_float_int W _ _ .f64 .i64 _ n (by kernel_rfl) Try.underlying3 (fl_toI64 n (by omega))

theorem found_b {r : Rx} {x : List UInt8} {lo most : Nat} (hlo : lo ≤ x.length) (hm : most ≤ x.length) : stN (findF (machF r) x lo most) ≤ x.length ∧ enN (findF (machF r) x lo most) ≤ x.length := by
  have h := find_law r x lo most hlo hm
  cases ho : findF (machF r) x lo most with
  | none => exact ⟨Nat.zero_le _, Nat.zero_le _⟩
  | some u =>
    rw [ho] at h
    obtain ⟨h1, h2, h3, _⟩ := h
    have := Mt.mono x r h3 (by omega)
    exact ⟨by show u.1 ≤ _; omega, this.2⟩

set_option maxRecDepth 100000 in
set_option maxHeartbeats 4000000 in
theorem at_any (R : Option (Nat × Nat)) (S : ByteArray) (fr : Int) (p : Value) (w : World) (hR : enN R ≤ 1000000)
    (hc : ∀ wx, Later w wx → Calls Try.prog 30 #[p, .string S, .int .i64 fr, .int .i64 fr] wx (Found wx R)) :
    Calls Try.prog 15 #[p, .string S, .int .i64 fr] w fun e w' => e = .returned (.tuple #[.int .i64 (enN R : Int), .bool R.isSome]) ∧ Later w w' := by
  have HC := Lib.hid hc
  have ht := conv_fi (enN R) hR
  clear hc
  cases R with
  | none =>
    go_enter Try.func15, Try.ntmps15
    go_wp2_with fail
    refine (HC.out _ (Later.refl _)).mono ?_
    rintro e w1 ⟨rfl, hl1⟩
    simp only [Option.isSome]
    go_wp2_with fail
    go_ret2
    exact ⟨rfl, hl1⟩
  | some h =>
    go_enter Try.func15, Try.ntmps15
    go_wp2_with fail
    refine (HC.out _ (Later.refl _)).mono ?_
    rintro e w1 ⟨rfl, hl1⟩
    simp only [Option.isSome]
    go_wp2_with fail
    go_ret2
    exact ⟨rfl, hl1⟩

end Go.Proofs.Ytmkddhkpeiajhaa

/-
  The contracts of nfa's Find, Is, All.
-/
namespace Go.Proofs.Ytmkddhkpeiajhaa
open Go.RowKit

set_option maxRecDepth 100000 in
set_option maxHeartbeats 4000000 in
theorem find3_any (R : Option (Nat × Nat)) (S : ByteArray) (fr : Nat) (p : Value) (w : World) (hR : stN R ≤ 1000000 ∧ enN R ≤ 1000000) (hfr : fr ≤ 1000000)
    (hc : ∀ wx, Later w wx → Calls Try.prog 30 #[p, .string S, .int .i64 (fr : Int), .int .i64 (S.size : Int)] wx (Found wx R)) :
    Calls Try.prog 14 #[p, .string S, .int .i64 (fr : Int)] w fun e w' => e = .returned (.tuple #[.int .i64 (stN R : Int), .int .i64 (enN R : Int), .bool R.isSome]) ∧ Later w w' := by
  have HC := Lib.hid hc
  have ht := conv_fi (enN R) hR.2
  have ht2 := conv_fi (stN R) hR.1
  have hf0 : ¬ (fr : Int) < 0 := by omega
  have hf1 : decide ((fr : Int) < 0) = false := decide_eq_false hf0
  clear hc
  cases R with
  | none =>
    go_enter Try.func14, Try.ntmps14
    go_wp2_with fail
    all_goals
      refine (HC.out _ (Later.refl _)).mono ?_
      rintro e w1 ⟨rfl, hl1⟩
      simp only [Option.isSome]
      go_wp2_with fail
      go_ret3
      exact ⟨rfl, hl1⟩
  | some h =>
    go_enter Try.func14, Try.ntmps14
    go_wp2_with fail
    all_goals
      refine (HC.out _ (Later.refl _)).mono ?_
      rintro e w1 ⟨rfl, hl1⟩
      simp only [Option.isSome]
      go_wp2_with fail
      go_ret3
      exact ⟨rfl, hl1⟩

set_option maxRecDepth 100000 in
set_option maxHeartbeats 4000000 in
theorem is_m (R : Option (Nat × Nat)) (S : ByteArray) (p : Value) (w : World)
    (hc : ∀ wx, Later w wx → Calls Try.prog 30 #[p, .string S, .int .i64 0, .int .i64 (S.size : Int)] wx (Found wx R)) :
    Calls Try.prog 28 #[p, .string S] w fun e w' => e = .returned (.bool R.isSome) ∧ Later w w' := by
  have HC := Lib.hid hc
  clear hc
  go_enter Try.func28, Try.ntmps28
  go_wp2_with fail
  refine (HC.out _ (Later.refl _)).mono ?_
  rintro e w1 ⟨rfl, hl1⟩
  go_wp2_with fail
  go_ret
  exact ⟨rfl, hl1⟩

/-! ### All -/
def cV (u : Nat × Nat) : Value := .complex .f64 (fl (u.1 : Int)) (fl (u.2 : Int))
/-- matches that a call gathers in a row of its own -/
def OwnC (w : World) (base : Nat) (A : Option Addr) (n c : Nat) (l : List (Nat × Nat)) : Prop := l.length = n ∧ w.ownsRow base 73 1 (.slice A n c) n (l.map cV)
theorem complex_info : (Try.prog.info? 73).map (fun i => (i.zero, i.size, i.bytes)) = some (some (.complex .f64 0 0), 1, 16) := by kernel_rfl
theorem OwnC.nil {w : World} {base : Nat} : OwnC w base none 0 0 [] := ⟨rfl, World.ownsRow_nil _ _ _ _⟩
theorem OwnC.later {w w' : World} {base n c : Nat} {A : Option Addr} {l : List (Nat × Nat)} (h : OwnC w base A n c l) (hl : Later w w') : OwnC w' base A n c l := ⟨h.1, ownsRow_fr h.2 (Fr.laterF hl) (fun _ _ h => h)⟩
theorem OwnC.blk {w : World} {base n c : Nat} {A : Option Addr} {l : List (Nat × Nat)} (h : OwnC w base A n c l) {k : Nat} (hk : ob A = some k) : k < w.heap.size ∧ base ≤ k ∧ ∃ cs, Blk w k 73 cs := own_row_blk h.2 hk
theorem OwnC.at_ {w : World} {base n c : Nat} {A : Option Addr} {l : List (Nat × Nat)} (h : OwnC w base A n c l) {k : Nat} {x : Nat × Nat} (hx : l[k]? = some x) : ∃ g, A = some ⟨g, 0, none⟩ ∧ g < w.heap.size ∧ base ≤ g ∧ w.cell? ⟨g, k, none⟩ = some (cV x) := by
  have hk : k < n := by have := (List.getElem?_eq_some_iff.1 hx).1; have := h.1; omega
  obtain ⟨g, cap, hv, hb, hlt⟩ := World.ownsRow.form h.2 (by omega)
  injection hv with hA
  subst hA
  refine ⟨g, rfl, hlt, hb, ?_⟩
  rw [World.ownsRow.cellAt h.2 k (by omega), List.getElem?_map, hx]
  rfl
theorem reads_c (w : World) (x y : Nat) (t : TypeId) {b : Nat} (hb : b = w.heap.size) : Reads (w.alloc (.cells #[.complex .f64 (fl (x : Int)) (fl (y : Int))] t)) (w.heap.size + 1) 1 (some ⟨b, 0, none⟩) 1 [cV (x, y)] := by
  subst hb
  refine ⟨rfl, fun _ => ⟨_, rfl, Nat.lt_succ_self _, fun j u hu => ?_⟩⟩
  rw [Addr.add_lit, Nat.zero_add, cell_of_row _ _ _ _ _ _ (heap_alloc_new w _), ← Array.getElem?_toList]
  exact hu
theorem wpList_append_c (w : World) {ops : Array Oper} {rest : List Oper} {o : Oper} {a : Act} {Q : Exit → Act → World → Prop} (hgd : o.guard = none) (s x : Operand)
    (ho : o.op = .call { callee := .builtin .append, args := #[s, x], argTypes := #[70, 70] })
    (base : Nat) (A : Option Addr) (n c : Nat) (l : List (Nat × Nat)) (hs : a.eval s = .slice A n c) (hown : OwnC w base A n c l) (y : Nat × Nat)
    (B : Nat) (A2 : Option Addr) (hx : a.eval x = .slice A2 1 1) (hr : Reads w B 1 A2 1 [cV y]) (hbd : n < 1000000000) (hbase : base ≤ w.heap.size)
    (h : ∀ A' n' c' w', n' = n + 1 → OwnC w' base A' n' c' (l ++ [y]) → w.grownBy w' (ob A) → wpList Try.prog ops Q rest (a.put o.dst (.slice A' n' c')) w') :
    wpList Try.prog ops Q (o :: rest) a w := by
  obtain ⟨i0, hi, hz0, hz1, hz2⟩ := info_parts complex_info
  refine wpList_append_any w hgd s x 70 ho base 73 i0 _ 1 16 Try.underlying70 hi hz0 hz1 hz2 rfl (by decide) (.slice A n c) n _ hs hown.2 B A2 1 1 [cV y] hx hr (by intro u hu; rw [List.mem_singleton.1 hu]; rfl) (by unfold maxLen; omega) (by omega) hbase ?_
  intro v' w' h2 h3 h4
  have hv : ∃ A' c', v' = .slice A' (n + 1) c' := by
    rcases h2.2 with ⟨_, e⟩ | ⟨g, cap, cur, rfl, _⟩
    · omega
    · exact ⟨_, _, rfl⟩
  obtain ⟨A', c', rfl⟩ := hv
  rw [ob_own] at h3
  exact h A' _ c' w' rfl ⟨by rw [List.length_append, hown.1]; rfl, by rw [List.map_append]; exact h2⟩ h3

/-- all of them, one behind the other -/
def allF (fd : Nat → Option (Nat × Nat)) (len : Nat) : Nat → Nat → Int → List (Nat × Nat) → List (Nat × Nat)
  | 0, _, _, out => out
  | f + 1, p, bh, out =>
    match (if p ≤ len then fd p else none) with
    | none => out
    | some h =>
      if h.1 < h.2 then allF fd len f h.2 (h.2 : Int) (out ++ [h])
      else if (h.1 : Int) = bh then allF fd len f (h.2 + 1) bh out
      else allF fd len f (h.2 + 1) bh (out ++ [h])
def allFr (g : Nat) (S : ByteArray) (A : Option Addr) (n c p : Nat) (bh : Int) (u : Nat → Value) : Act := { tmps := #[.pointer (some ⟨g, 0, none⟩), .string S, u 2, u 3, u 4, .slice A n c, .int .i64 (p : Int), .int .i64 bh, u 8, u 9, u 10, u 11, u 12, u 13, u 14, u 15, u 16, u 17, u 18, u 19, u 20, u 21, u 22, u 23, u 24, u 25, u 26, u 27, u 28, u 29, u 30, u 31, u 32, u 33, u 34, u 35, u 36, u 37, u 38, u 39, u 40, u 41, u 42, u 43, u 44, u 45, u 46, u 47, u 48, u 49, u 50, u 51], defers := [] }
def AllJ (w : World) (mb g : Nat) (L : List NSt) (B : Nat) (S : ByteArray) (R : List (Nat × Nat)) (f : Nat) (a' : Act) (w' : World) : Prop :=
  ∃ (p : Nat) (bh : Int) (out : List (Nat × Nat)) (A : Option Addr) (n c : Nat), a' = allFr g S A n c p bh (fun i => a'.tmps.getD i undef) ∧ OwnC w' w.heap.size A n c out ∧ RunsM w' mb g L B ∧ Later w w' ∧
    Hid (allF (fun p => findF (L, B) S.data.toList p S.size) S.size f p bh out = R) ∧ S.size + 2 ≤ f + p ∧ p ≤ S.size + 1 ∧ n ≤ p ∧ -1 ≤ bh ∧ bh ≤ 1000000
/-- what All returns -/
def RetAll (w : World) (R : List (Nat × Nat)) (e : Ending) (w' : World) : Prop := ∃ A n c, e = .returned (.slice A n c) ∧ OwnC w' w.heap.size A n c R ∧ Later w w'

set_option maxRecDepth 100000 in
set_option maxHeartbeats 8000000 in
theorem all_m (S : ByteArray) (w : World) (mb g : Nat) (L : List NSt) (B : Nat) (hM : RunsM w mb g L B) (hS : S.size ≤ 100000)
    (hb : ∀ lo, lo ≤ S.size → ∀ h, findF (L, B) S.data.toList lo S.size = some h → lo ≤ h.1 ∧ h.1 ≤ h.2 ∧ h.2 ≤ S.size) :
    Calls Try.prog 27 #[.pointer (some ⟨g, 0, none⟩), .string S] w (RetAll w (allF (fun p => findF (L, B) S.data.toList p S.size) S.size (S.size + 2) 0 (-1) [])) := by
  obtain ⟨R, hR⟩ : ∃ R, R = allF (fun p => findF (L, B) S.data.toList p S.size) S.size (S.size + 2) 0 (-1) [] := ⟨_, rfl⟩
  rw [← hR]
  have HR := Lib.hid hR.symm
  have HB := Lib.hid hb
  have HM := Lib.hid hM
  clear hR hb hM
  go_enter Try.func27, Try.ntmps27
  go_wp2_with fail
  refine wp_scope_rank 0 (AllJ w mb g L B S R) rfl ?_ ?_
  · intro hpass
    go_wp2_with fail
    go_step3
    rename_i kk
    exact kk _ _ (hpass _ _ _ ⟨0, -1, [], none, 0, 0, rfl, OwnC.nil, HM.out, Later.refl w, HR, Nat.le_refl _, Nat.zero_le _, Nat.le_refl _, by omega, by omega⟩)
  · clear HR HM
    rintro f a' w' ⟨p, bh, out, A, n, c, ha, hown, hM, hlw, hres, hfp, hpS, hnp, hb1, hb2⟩
    generalize (fun i => a'.tmps.getD i undef) = u at ha
    subst ha
    unfold allFr
    rcases f with _ | f
    · exact absurd hfp (by omega)
    · have hres' := hres.out
      rw [allF] at hres'
      have hfd : ∀ wx, Later w' wx → Calls Try.prog 30 #[.pointer (some ⟨g, 0, none⟩), .string S, .int .i64 (p : Int), .int .i64 (S.size : Int)] wx (Found wx (if p ≤ S.size then findF (L, B) S.data.toList p S.size else none)) := fun wx hwx => by
        by_cases hp : p ≤ S.size
        · rw [if_pos hp]; exact find_at S p S.size wx mb g L B (hM.later hwx) hp (Nat.le_refl _) (by omega)
        · rw [if_neg hp]; exact find_no S _ _ _ wx (.inr (by omega))
      have HFD := Lib.hid hfd
      obtain ⟨o, ho⟩ : ∃ o, o = (if p ≤ S.size then findF (L, B) S.data.toList p S.size else none) := ⟨_, rfl⟩
      have hbo : ∀ h, o = some h → p ≤ h.1 ∧ h.1 ≤ h.2 ∧ h.2 ≤ S.size := fun h e => by
        rw [ho] at e
        split at e
        · exact HB.out p (by assumption) h e
        · cases e
      rw [← ho] at hres' HFD
      have HM2 := Lib.hid hM
      have HG : Hid (∀ wx : World, Later w' wx → ∀ {w9 : World}, RunsM wx mb g L B → wx.grownBy w9 (ob A) → RunsM w9 mb g L B) := by
        intro wx hlx w9 hx hg
        refine ⟨hx.mem.fr (Fr.of_grown hg) (fun k hk => ?_), hx.wf, hx.beg, hx.sets, hx.len⟩
        obtain ⟨_, _, cs, hB⟩ := (hown.later hlx).blk hk
        exact ⟨_, cs, hB, by decide, by decide⟩
      have HLW := Lib.hid hlw
      clear hfd ho hM hlw hres
      cases o with
      | none =>
        have HRR : Hid (R = out) := Lib.hid hres'.symm
        clear hres' hbo
        go_wp2_with fail
        refine (HFD.out _ (Later.refl _)).mono ?_
        rintro e w1 ⟨rfl, hl1⟩
        simp only [Option.isSome]
        go_wp2_with fail
        simp only [Exit.jump]
        go_ret
        exact ⟨A, n, c, rfl, by rw [HRR.out]; exact hown.later hl1, HLW.out.trans hl1⟩
      | some h =>
        obtain ⟨hb3, hb4, hb5⟩ := hbo h rfl
        obtain ⟨h0, h1⟩ := h
        simp only at hb3 hb4 hb5 hres'
        have ht1 := conv_fi h0 (by omega)
        have ht2 := conv_fi h1 (by omega)
        clear hbo
        by_cases hlt : h0 < h1
        · have hlti : (h0 : Int) < (h1 : Int) := by omega
          have HRR : Hid (allF (fun p => findF (L, B) S.data.toList p S.size) S.size f h1 (h1 : Int) (out ++ [(h0, h1)]) = R) := by rw [if_pos hlt] at hres'; exact Lib.hid hres'
          clear hres'
          go_wp2_with fail
          refine (HFD.out _ (Later.refl _)).mono ?_
          rintro e w1 ⟨rfl, hl1⟩
          simp only [Option.isSome, stN, enN]
          have hsz1 := (HLW.out.trans hl1).size
          go_wp2_with (at_builtin; go_loud (refine wpList_append_c _ rfl (.tmp 40) (.tmp 42) rfl w.heap.size A n c out rfl ((hown.later hl1).later ((Later.refl w1).alloc _)) (h0, h1) _ _ rfl (reads_c _ _ _ _ (by simp)) (by omega) (by simp; omega) ?_); intro A9 n9 c9 w9 hn9 hown9 hg9; have hn9 := Lib.hid hn9)
          go_step3
          have hn9' := hn9.out
          subst hn9'
          have hl9 : Later w w9 := ((HLW.out.trans hl1).alloc _).grown hg9 (fun k hk => (hown.blk hk).2.1)
          have hm9 : RunsM w9 mb g L B := HG.out _ (hl1.alloc _) ((HM2.out.later hl1).later ((Later.refl w1).alloc _)) hg9
          exact ⟨rfl, f, Nat.lt_succ_self _, h1, (h1 : Int), out ++ [(h0, h1)], A9, n + 1, c9, rfl, hown9, hm9, hl9, HRR, by omega, by omega, by omega, by omega, by omega⟩
        · have hlti : ¬ (h0 : Int) < (h1 : Int) := by omega
          have hltd : decide ((h0 : Int) < (h1 : Int)) = false := decide_eq_false hlti
          by_cases hbh : (h0 : Int) = bh
          · have hbi : ((h0 : Int) == bh) = true := by rw [beq_iff_eq]; exact hbh
            have HRR : Hid (allF (fun p => findF (L, B) S.data.toList p S.size) S.size f (h1 + 1) bh out = R) := by rw [if_neg hlt, if_pos hbh] at hres'; exact Lib.hid hres'
            clear hres' hbh
            go_wp2_with fail
            refine (HFD.out _ (Later.refl _)).mono ?_
            rintro e w1 ⟨rfl, hl1⟩
            simp only [Option.isSome, stN, enN]
            go_wp2_with fail
            go_step3
            exact ⟨rfl, f, Nat.lt_succ_self _, h1 + 1, bh, out, A, n, c, rfl, hown.later hl1, HM2.out.later hl1, HLW.out.trans hl1, HRR, by omega, by omega, by omega, by omega, by omega⟩
          · have hbi : ((h0 : Int) == bh) = false := by rw [beq_eq_false_iff_ne]; exact hbh
            have HRR : Hid (allF (fun p => findF (L, B) S.data.toList p S.size) S.size f (h1 + 1) bh (out ++ [(h0, h1)]) = R) := by rw [if_neg hlt, if_neg hbh] at hres'; exact Lib.hid hres'
            clear hres' hbh
            go_wp2_with fail
            refine (HFD.out _ (Later.refl _)).mono ?_
            rintro e w1 ⟨rfl, hl1⟩
            simp only [Option.isSome, stN, enN]
            have hsz1 := (HLW.out.trans hl1).size
            go_wp2_with (at_builtin; go_loud (refine wpList_append_c _ rfl (.tmp 30) (.tmp 32) rfl w.heap.size A n c out rfl ((hown.later hl1).later ((Later.refl w1).alloc _)) (h0, h1) _ _ rfl (reads_c _ _ _ _ (by simp)) (by omega) (by simp; omega) ?_); intro A9 n9 c9 w9 hn9 hown9 hg9; have hn9 := Lib.hid hn9)
            go_step3
            have hn9' := hn9.out
            subst hn9'
            have hl9 : Later w w9 := ((HLW.out.trans hl1).alloc _).grown hg9 (fun k hk => (hown.blk hk).2.1)
            have hm9 : RunsM w9 mb g L B := HG.out _ (hl1.alloc _) ((HM2.out.later hl1).later ((Later.refl w1).alloc _)) hg9
            exact ⟨rfl, f, Nat.lt_succ_self _, h1 + 1, bh, out ++ [(h0, h1)], A9, n + 1, c9, rfl, hown9, hm9, hl9, HRR, by omega, by omega, by omega, by omega, by omega⟩

end Go.Proofs.Ytmkddhkpeiajhaa

/-
  Chapter 10's examples, by the contracts.
-/
namespace Go.Proofs.Ytmkddhkpeiajhaa
open Go.RowKit

set_option maxRecDepth 100000 in
set_option maxHeartbeats 4000000 in
/-- New of a text that is a right term's -/
theorem new_yes (S : ByteArray) (r : Rx) (w : World) (hs : S.size ≤ 999999990) (hp : parseF S.data.toList = (rxT r, 0, 0)) (hrr : rightT (rxT r) = true) :
    Calls Try.prog 13 #[.string S] w fun e w' => ∃ g, e = .returned (.tuple #[.pointer (some ⟨g, 0, none⟩), .int .i64 0, .int .i64 0]) ∧ MadeM w r g w' := by
  have hpp := parse_any S (fun _ => True) w hs (fun _ _ => trivial)
  rw [hp] at hpp
  have HP := Lib.hid hpp
  have HRR := Lib.hid hrr
  clear hpp hp hrr
  go_enter Try.func13, Try.ntmps13
  go_wp2_with fail
  refine HP.out.mono ?_
  rintro e w1 ⟨k, a, b, c, d, A, n, cp, rfl, hC, hl1⟩
  have hC : ReC w1 (fun _ => True) (rxT r) ⟨k, a, b, c, d, A, n, cp⟩ := hC
  have hco := compile_yes r (fun _ => True) k a b c d A n cp _ (hC.later ((Later.refl w1).alloc (.cells #[.int .i64 k, .int .u64 a, .int .u64 b, .int .u64 c, .int .u64 d, .slice A n cp] 30))) HRR.out
  have HCO := Lib.hid hco
  clear hco hC
  simp only
  go_wp2_with fail
  refine HCO.out.mono ?_
  rintro e w2 ⟨g, rfl, hm2, hg2, hl2⟩
  go_wp2_with fail
  go_ret3
  have hlw := hl1.trans ((Later.refl w1).alloc (.cells #[.int .i64 k, .int .u64 a, .int .u64 b, .int .u64 c, .int .u64 d, .slice A n cp] 30))
  have hsz := hlw.size
  refine ⟨g, rfl, ?_, Nat.le_trans hsz hg2, hlw.trans hl2⟩
  obtain ⟨A', n', c', h1, h2⟩ := hm2
  exact ⟨A', n', c', h1, h2.1, own_base h2.2 hsz⟩

theorem new_at (S : ByteArray) (r : Rx) (w : World) (hs : S.size ≤ 999999990) (hp : parseF S.data.toList = (rxT r, 0, 0)) (hrr : rightT (rxT r) = true) (hk : okR r) :
    Calls Try.prog 13 #[.string S] w fun e w' => ∃ g, e = .returned (.tuple #[.pointer (some ⟨g, 0, none⟩), .int .i64 0, .int .i64 0]) ∧ RunsM w' w.heap.size g (machF r).1 (machF r).2 ∧ Later w w' :=
  (new_yes S r w hs hp hrr).mono fun e w' ⟨g, h1, h2⟩ => ⟨g, h1, h2.runs hk hrr, h2.2.2⟩

theorem ok_byte (c : UInt8) : okR (byteRx c) := ⟨word_lt _ _, word_lt _ _, word_lt _ _, word_lt _ _⟩
def rK1 : Rx := .alt (byteRx 97) (.cat (byteRx 97) (byteRx 98))
def rK2 : Rx := .star (byteRx 120)
theorem nk1 : parseF [97, 124, 97, 98] = (rxT rK1, 0, 0) := by kernel_rfl
theorem nk2 : parseF [120, 42] = (rxT rK2, 0, 0) := by kernel_rfl
theorem nr1 : rightT (rxT rK1) = true := by kernel_rfl
theorem nr2 : rightT (rxT rK2) = true := by kernel_rfl
theorem nf1 : findF (machF rK1) [120, 97, 98] 0 3 = some (1, 3) := by kernel_rfl
theorem nf2 : findF (machF rK1) [120, 97] 0 2 = some (1, 2) := by kernel_rfl
theorem nf3 : findF (machF rK1) [120, 98] 0 2 = none := by kernel_rfl
theorem nf4 : allF (fun p => findF (machF rK2) [97, 120, 98] p 3) 3 5 0 (-1) [] = [(0, 0), (1, 2), (3, 3)] := by kernel_rfl
theorem fl_2 : (4611686018427387904 : Nat) = fl 2 := by decide +kernel

/-- Find of a machine, by its law -/
theorem find3_at (S : ByteArray) (fr : Nat) (w : World) (mb g : Nat) (r : Rx) (h : RunsM w mb g (machF r).1 (machF r).2) (hfr : fr ≤ S.size) (hS : S.size ≤ 1000000) (R : Option (Nat × Nat)) (hR : findF (machF r) S.data.toList fr S.size = R) :
    Calls Try.prog 14 #[.pointer (some ⟨g, 0, none⟩), .string S, .int .i64 (fr : Int)] w fun e w' => e = .returned (.tuple #[.int .i64 (stN R : Int), .int .i64 (enN R : Int), .bool R.isSome]) ∧ Later w w' := by
  subst hR
  have hb := found_b (r := r) (x := S.data.toList) (lo := fr) (most := S.size) (by rw [len_eq]; exact hfr) (by rw [len_eq]; exact Nat.le_refl _)
  rw [len_eq] at hb
  exact find3_any _ S fr _ w (by omega) (by omega) (fun wx hl => find_at S fr S.size wx mb g _ _ (h.later hl) hfr (Nat.le_refl _) hS)
theorem ism_at (S : ByteArray) (w : World) (mb g : Nat) (r : Rx) (h : RunsM w mb g (machF r).1 (machF r).2) (hS : S.size ≤ 1000000) (R : Option (Nat × Nat)) (hR : findF (machF r) S.data.toList 0 S.size = R) :
    Calls Try.prog 28 #[.pointer (some ⟨g, 0, none⟩), .string S] w fun e w' => e = .returned (.bool R.isSome) ∧ Later w w' := by
  subst hR
  exact is_m _ S _ w (fun wx hl => find_at S 0 S.size wx mb g _ _ (h.later hl) (Nat.zero_le _) (Nat.le_refl _) hS)
theorem at_at (S : ByteArray) (fr : Nat) (w : World) (mb g : Nat) (r : Rx) (h : RunsM w mb g (machF r).1 (machF r).2) (hfr : fr ≤ S.size) (hS : S.size ≤ 1000000) (R : Option (Nat × Nat)) (hR : findF (machF r) S.data.toList fr fr = R) :
    Calls Try.prog 15 #[.pointer (some ⟨g, 0, none⟩), .string S, .int .i64 (fr : Int)] w fun e w' => e = .returned (.tuple #[.int .i64 (enN R : Int), .bool R.isSome]) ∧ Later w w' := by
  subst hR
  have hb := found_b (r := r) (x := S.data.toList) (lo := fr) (most := fr) (by rw [len_eq]; exact hfr) (by rw [len_eq]; exact hfr)
  rw [len_eq] at hb
  exact at_any _ S _ _ w (by omega) (fun wx hl => find_at S fr fr wx mb g _ _ (h.later hl) hfr hfr hS)
theorem at_no (S : ByteArray) (fr : Int) (p : Value) (w : World) (hfr : fr < 0 ∨ (S.size : Int) < fr) :
    Calls Try.prog 15 #[p, .string S, .int .i64 fr] w fun e w' => e = .returned (.tuple #[.int .i64 0, .bool false]) ∧ Later w w' :=
  at_any none S fr p w (Nat.zero_le _) (fun wx _ => find_no S fr fr p wx hfr)
theorem all_at (S : ByteArray) (w : World) (mb g : Nat) (r : Rx) (h : RunsM w mb g (machF r).1 (machF r).2) (hS : S.size ≤ 100000) (R : List (Nat × Nat)) (hR : allF (fun p => findF (machF r) S.data.toList p S.size) S.size (S.size + 2) 0 (-1) [] = R) :
    Calls Try.prog 27 #[.pointer (some ⟨g, 0, none⟩), .string S] w (RetAll w R) := by
  subst hR
  refine all_m S w mb g _ _ h hS (fun lo hlo u hu => ?_)
  have hl := find_law r S.data.toList lo S.size (by rw [len_eq]; exact hlo) (by rw [len_eq]; exact Nat.le_refl _)
  have hu : findF (machF r) S.data.toList lo S.size = some u := hu
  rw [hu] at hl
  obtain ⟨h1, h2, h3, _⟩ := hl
  have := Mt.mono S.data.toList r h3 (by rw [len_eq]; exact h2)
  rw [len_eq] at this
  exact ⟨h1, this.1, this.2⟩

set_option maxRecDepth 100000 in
set_option maxHeartbeats 8000000 in
theorem nfaKnown_any (w : World) : Calls Try.prog 12 #[] w fun e w' => e = .returned (.bool true) ∧ Later w w' := by
  have kk1 : okR rK1 := ⟨ok_byte 97, ok_byte 97, ok_byte 98⟩
  have kk2 : okR rK2 := ok_byte 120
  have HK1 := Lib.hid kk1
  have HK2 := Lib.hid kk2
  clear kk1 kk2
  go_enter Try.func12, Try.ntmps12
  go_wp2_with fail
  refine (new_at ⟨#[97, 124, 97, 98]⟩ rK1 _ (by decide) nk1 nr1 HK1.out).mono ?_
  rintro e w1 ⟨g1, rfl, hM1, hl1⟩
  go_wp2_with fail
  refine (find3_at ⟨#[120, 97, 98]⟩ 0 _ _ _ rK1 hM1 (by decide) (by decide) _ nf1).mono ?_
  rintro e w2 ⟨rfl, hl2⟩
  have hM2 := hM1.later hl2
  clear hM1
  simp only [stN, enN, Option.isSome]
  go_wp2_with fail
  refine (new_at ⟨#[120, 42]⟩ rK2 _ (by decide) nk2 nr2 HK2.out).mono ?_
  rintro e w3 ⟨g3, rfl, hM3, hl3⟩
  have hM4 := hM2.later hl3
  clear hM2
  go_wp2_with fail
  refine (all_at ⟨#[97, 120, 98]⟩ _ _ _ rK2 hM3 (by decide) _ nf4).mono ?_
  rintro e w4 ⟨A, n, c, rfl, hown, hl4⟩
  have hM5 := hM4.later hl4
  clear hM3 hM4
  have hn3 : n = 3 := hown.1.symm
  subst hn3
  obtain ⟨ga, rfl, _, _, x0⟩ := hown.at_ (k := 0) (x := (0, 0)) rfl
  obtain ⟨gb, hgb, _, _, x1⟩ := hown.at_ (k := 1) (x := (1, 2)) rfl
  obtain ⟨gc, hgc, _, _, x2⟩ := hown.at_ (k := 2) (x := (3, 3)) rfl
  injection hgb with hgb
  injection hgb with hgb
  subst hgb
  injection hgc with hgc
  injection hgc with hgc
  subst hgc
  have HM := Lib.hid hM5
  have HO := Lib.hid hown
  clear hM5 hown
  go_wp2_with fail
  refine (ism_at ⟨#[120, 97]⟩ _ _ _ rK1 HM.out (by decide) _ nf2).mono ?_
  rintro e w5 ⟨rfl, hl5⟩
  simp only [Option.isSome]
  go_wp2_with fail
  refine (ism_at ⟨#[120, 98]⟩ _ _ _ rK1 (HM.out.later hl5) (by decide) _ nf3).mono ?_
  rintro e w6 ⟨rfl, hl6⟩
  simp only [Option.isSome]
  have hl46 := hl5.trans hl6
  have y0 : w6.cell? ⟨ga, 0, none⟩ = some (.complex .f64 0 0) := by
    rw [Later.cell hl46 (World.block_lt_of_cell? _ _ x0), x0]
    show some (Value.complex .f64 (fl 0) (fl 0)) = _
    rw [← fl_0]
  have y1 : w6.cell? ⟨ga, 1, none⟩ = some (.complex .f64 4607182418800017408 4611686018427387904) := by
    rw [Later.cell hl46 (World.block_lt_of_cell? _ _ x1), x1]
    show some (Value.complex .f64 (fl 1) (fl 2)) = _
    rw [← fl_1, ← fl_2]
  have y2 : w6.cell? ⟨ga, 2, none⟩ = some (.complex .f64 4613937818241073152 4613937818241073152) := by
    rw [Later.cell hl46 (World.block_lt_of_cell? _ _ x2), x2]
    show some (Value.complex .f64 (fl 3) (fl 3)) = _
    rw [← fl_3]
  have HLL := Lib.hid hl46
  clear x0 x1 x2 hl46 HO HM
  go_wp2_with fail
  go_ret
  refine ⟨?_, hl1.trans (hl2.trans (hl3.trans (hl4.trans HLL.out)))⟩
  show Ending.returned (Value.bool (FloatKind.f64.format.order 4613937818241073152 4613937818241073152 == some Ordering.eq)) = _
  rw [show (FloatKind.f64.format.order 4613937818241073152 4613937818241073152 == some Ordering.eq) = true by decide +kernel]

end Go.Proofs.Ytmkddhkpeiajhaa
