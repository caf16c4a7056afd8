/-
  The contract of package class's Bracket.
-/
import Derived.Test.YtmkddhkpeiajhaaDoorBrk4
import Derived.RegionTactic
namespace Go.Proofs.YtmkddhkpeiajhaaDoor
open Go.RowKit

theorem closeF_bd (l : List UInt8) : ∀ (fuel k k' : Nat), closeF l fuel k = some k' → k ≤ k' ∧ k' + 1 < l.length
  | 0, _, _, h => by cases h
  | f + 1, k, k', h => by
    rw [closeF] at h
    by_cases h1 : k + 1 < l.length
    · rw [if_pos h1] at h
      by_cases h2 : l[k]? = some 58 ∧ l[k + 1]? = some 93
      · rw [if_pos h2] at h
        injection h with h
        omega
      · rw [if_neg h2] at h
        have := closeF_bd l f (k + 1) k' h
        omega
    · rw [if_neg h1] at h
      cases h
theorem namedF_bd (l : List UInt8) (p q : Nat) (m : Mem) (h : namedF l p = some (m, q)) : p < q ∧ q ≤ l.length := by
  unfold namedF at h
  cases h1 : closeF l l.length (p + 2) with
  | none => rw [h1] at h; cases h
  | some k =>
    rw [h1] at h
    simp only at h
    have hb := closeF_bd l _ _ _ h1
    cases h2 : classOf ((l.take k).drop (p + 2)) with
    | none => rw [h2] at h; cases h
    | some m' =>
      rw [h2] at h
      injection h with h
      injection h with _ h
      omega
theorem itemF_bd (l : List UInt8) (p q : Nat) (m : Mem) (h : itemF l p = some (m, q)) : p < q ∧ q ≤ l.length := by
  unfold itemF at h
  by_cases ho : opensF l p = true
  · rw [if_pos ho] at h
    exact namedF_bd l p q m h
  · rw [if_neg ho] at h
    cases he : endF l p with
    | none => rw [he] at h; cases h
    | some r =>
      obtain ⟨a, a1⟩ := r
      have b1 := endF_bd l p a a1 he
      rw [he] at h
      simp only at h
      by_cases hc : l[a1]? = some 45 ∧ a1 + 1 < l.length ∧ l[a1 + 1]? ≠ some 93
      · rw [if_pos hc] at h
        by_cases ho2 : opensF l (a1 + 1) = true
        · rw [if_pos ho2] at h; cases h
        · rw [if_neg ho2] at h
          cases he2 : endF l (a1 + 1) with
          | none => rw [he2] at h; cases h
          | some r2 =>
            obtain ⟨b, b2⟩ := r2
            have b3 := endF_bd l (a1 + 1) b b2 he2
            rw [he2] at h
            simp only at h
            by_cases hle : a ≤ b
            · rw [if_pos hle] at h; injection h with h; injection h with _ h; omega
            · rw [if_neg hle] at h; cases h
      · rw [if_neg hc] at h; injection h with h; injection h with _ h; omega

theorem item_yes (g p q : Nat) (m : Mem) (s : ByteArray) (w : World) (hb : BrOk w g s p) (hs : s.size ≤ 140737488355328) (hp : p ≤ s.size) (h : itemF s.data.toList p = some (m, q)) :
    Calls Tryd.prog 82 #[.pointer (some ⟨g, 0, none⟩)] w fun e w' => e = .returned (.tuple #[.agg #[.int .u64 (word (m) 0 : Nat), .int .u64 (word (m) 1 : Nat), .int .u64 (word (m) 2 : Nat), .int .u64 (word (m) 3 : Nat)], .bool true]) ∧ Fr w w' (fun k => k = g) ∧ BrOk w' g s q :=
  (item_any g p s w hb hs hp).mono fun e w' he => by
    rw [h] at he
    exact ⟨he.2.1, he.1, he.2.2⟩
theorem item_nope (g p : Nat) (s : ByteArray) (w : World) (hb : BrOk w g s p) (hs : s.size ≤ 140737488355328) (hp : p ≤ s.size) (h : itemF s.data.toList p = none) :
    Calls Tryd.prog 82 #[.pointer (some ⟨g, 0, none⟩)] w fun e w' => ∃ (m : Mem) (q : Nat), e = .returned (.tuple #[.agg #[.int .u64 (word (m) 0 : Nat), .int .u64 (word (m) 1 : Nat), .int .u64 (word (m) 2 : Nat), .int .u64 (word (m) 3 : Nat)], .bool false]) ∧ Fr w w' (fun k => k = g) ∧ BrOk w' g s q :=
  (item_any g p s w hb hs hp).mono fun e w' he => by
    rw [h] at he
    obtain ⟨hF, ⟨m, h1⟩, q, h2⟩ := he
    exact ⟨m, q, h1, hF, h2⟩

theorem not_at (p : Mem) (w : World) :
    Calls Tryd.prog 75 #[.agg #[.int .u64 (word (p) 0 : Nat), .int .u64 (word (p) 1 : Nat), .int .u64 (word (p) 2 : Nat), .int .u64 (word (p) 3 : Nat)]] w fun e w' => e = .returned (.agg #[.int .u64 (word ((mNot p)) 0 : Nat), .int .u64 (word ((mNot p)) 1 : Nat), .int .u64 (word ((mNot p)) 2 : Nat), .int .u64 (word ((mNot p)) 3 : Nat)]) ∧ Later w w' := not_any p w

/-- in the midst of 'Bracket' -/
def Bk (w0 w : World) (g : Nat) (s : ByteArray) (p : Nat) (m : Mem) : Prop := BrOk w g s p ∧ Blk w w0.heap.size 57 (setC m) ∧ Later w0 w ∧ g = w0.heap.size + 1
section
variable {w0 w w' : World} {g p : Nat} {s : ByteArray} {m : Mem}
theorem Bk.later (h : Bk w0 w g s p m) (hl : Later w w') : Bk w0 w' g s p m := ⟨h.1.later hl, blkLater hl h.2.1, h.2.2.1.trans hl, h.2.2.2⟩
theorem Bk.fr {q : Nat} (h : Bk w0 w g s p m) (hf : Fr w w' (fun k => k = g)) (hb : BrOk w' g s q) : Bk w0 w' g s q m :=
  ⟨hb, h.2.1.fr hf (fun e => by have := h.2.2.2; omega), Fr.none_ (p := fun k => k = g) ((Fr.later h.2.2.1).trans hf (fun _ _ h => h)) (fun k hk e => by have := h.2.2.2; omega), h.2.2.2⟩
theorem Bk.alloc (h : Bk w0 w g s p m) (o : Obj) : Bk w0 (w.alloc o) g s p m := h.later ((Later.refl w).alloc o)
theorem Bk.move (h : Bk w0 w g s p m) (q : Nat) (x : Int) (hx : x = (q : Int)) : Bk w0 (w.setCell ⟨g, 1, none⟩ (.int .i64 x)) g s q m :=
  ⟨h.1.move q x hx, h.2.1.far (by have := h.2.2.2; show _ ≠ g; omega) _, h.2.2.1.setCell (by have := h.2.2.2; show _ ≤ g; omega) _, h.2.2.2⟩
theorem Bk.cells (h : Bk w0 w g s p m) : w.cell? ⟨g, 0, none⟩ = some (.string s) ∧ w.cell? ⟨g, 1, none⟩ = some (.int .i64 (p : Int)) ∧ w.frozen? ⟨g, 1, none⟩ = false ∧ w.cell? ⟨w0.heap.size, 0, none⟩ = some (.int .u64 (word m 0 : Nat)) ∧ w.cell? ⟨w0.heap.size, 1, none⟩ = some (.int .u64 (word m 1 : Nat)) ∧ w.cell? ⟨w0.heap.size, 2, none⟩ = some (.int .u64 (word m 2 : Nat)) ∧ w.cell? ⟨w0.heap.size, 3, none⟩ = some (.int .u64 (word m 3 : Nat)) ∧ w.frozen? ⟨w0.heap.size, 0, none⟩ = false ∧ w.frozen? ⟨w0.heap.size, 1, none⟩ = false ∧ w.frozen? ⟨w0.heap.size, 2, none⟩ = false ∧ w.frozen? ⟨w0.heap.size, 3, none⟩ = false ∧ g < w.heap.size ∧ w0.heap.size < w.heap.size :=
  ⟨h.1.c0, h.1.c1, h.1.f1, h.2.1.cell 0, h.2.1.cell 1, h.2.1.cell 2, h.2.1.cell 3, h.2.1.frozen 0, h.2.1.frozen 1, h.2.1.frozen 2, h.2.1.frozen 3, Blk.lt h.1, Blk.lt h.2.1⟩
theorem Bk.set4 (h : Bk w0 w g s p m) (m' : Mem) : Bk w0 ((((w.setCell ⟨w0.heap.size, 0, none⟩ (.int .u64 (word m' 0 : Nat))).setCell ⟨w0.heap.size, 1, none⟩ (.int .u64 (word m' 1 : Nat))).setCell ⟨w0.heap.size, 2, none⟩ (.int .u64 (word m' 2 : Nat))).setCell ⟨w0.heap.size, 3, none⟩ (.int .u64 (word m' 3 : Nat))) g s p m' := by
  have hne : g ≠ w0.heap.size := by have := h.2.2.2; omega
  exact ⟨brFar (brFar (brFar (brFar h.1 hne _ _) hne _ _) hne _ _) hne _ _, (((h.2.1.set_ 0 _).set_ 1 _).set_ 2 _).set_ 3 _, (((h.2.2.1.setCell (Nat.le_refl _) _).setCell (Nat.le_refl _) _).setCell (Nat.le_refl _) _).setCell (Nat.le_refl _) _, h.2.2.2⟩
theorem Bk.setL (h : Bk w0 w g s p m) (x0 x1 x2 x3 : Value) : Later w0 ((((w.setCell ⟨w0.heap.size, 0, none⟩ x0).setCell ⟨w0.heap.size, 1, none⟩ x1).setCell ⟨w0.heap.size, 2, none⟩ x2).setCell ⟨w0.heap.size, 3, none⟩ x3) :=
  (((h.2.2.1.setCell (Nat.le_refl _) _).setCell (Nat.le_refl _) _).setCell (Nat.le_refl _) _).setCell (Nat.le_refl _) _
end

/-- what Bracket answers -/
def brkV (o : Option (Mem × Nat)) : Value :=
  match o with
  | some (m, e) => .tuple #[setV m, .int .i64 (e : Int), .bool true]
  | none => .tuple #[.agg #[.int .u64 0, .int .u64 0, .int .u64 0, .int .u64 0], .int .i64 0, .bool false]

theorem itemsF_stop (l : List UInt8) (fuel p : Nat) (m : Mem) (h : l[p]? = some 93) : itemsF l (fuel + 1) p false m = some (m, p) := by
  rw [itemsF, h]
  rfl
theorem itemsF_none (l : List UInt8) (fuel p : Nat) (first : Bool) (m : Mem) (h : first = true ∨ (l[p]? == some 93) = false) (hi : itemF l p = none) : itemsF l (fuel + 1) p first m = none := by
  rw [itemsF, if_neg (by rcases h with h | h <;> rw [h] <;> simp), hi]
theorem itemsF_next (l : List UInt8) (fuel p q : Nat) (first : Bool) (m x : Mem) (h : first = true ∨ (l[p]? == some 93) = false) (hi : itemF l p = some (x, q)) : itemsF l (fuel + 1) p first m = itemsF l fuel q false (mOr m x) := by
  rw [itemsF, if_neg (by rcases h with h | h <;> rw [h] <;> simp), hi]

theorem bracket_out (s : ByteArray) (a : Int) (w : World) (hs : s.size ≤ 140737488355328) (ha : a < 0 ∨ (s.size : Int) < a) :
    Calls Tryd.prog 76 #[.string s, .int .i64 a] w fun e w' => e = .returned (.tuple #[.agg #[.int .u64 0, .int .u64 0, .int .u64 0, .int .u64 0], .int .i64 0, .bool false]) ∧ Later w w' := by
  have hs2 : s.size ≤ 9223372036854775807 := by omega
  by_cases h0 : a < 0
  · go_enter Tryd.func76, Tryd.ntmps76
    go_wp2
    exact bodyPost_ret (v := .tuple #[.agg #[.int .u64 0, .int .u64 0, .int .u64 0, .int .u64 0], .int .i64 0, .bool false]) (by simp [results, Tryd.results76, go_sem]) rfl ⟨rfl, (Later.refl w).alloc _⟩
  · have h1 : (s.size : Int) < a := by omega
    go_enter Tryd.func76, Tryd.ntmps76
    go_wp2
    exact bodyPost_ret (v := .tuple #[.agg #[.int .u64 0, .int .u64 0, .int .u64 0, .int .u64 0], .int .i64 0, .bool false]) (by simp [results, Tryd.results76, go_sem]) rfl ⟨rfl, (Later.refl w).alloc _⟩

set_option maxHeartbeats 2000000 in
theorem bracket_pos (s : ByteArray) (a : Nat) (w : World) (hs : s.size ≤ 140737488355328) (ha : a ≤ s.size) (hn : isB s a 94 = false) :
    Calls Tryd.prog 76 #[.string s, .int .i64 (a : Int)] w fun e w' => e = .returned (brkV (bracketF s.data.toList a)) ∧ Later w w' := by
  have hs2 : s.size ≤ 9223372036854775807 := by omega
  have hlen : s.data.toList.length = s.size := Array.length_toList
  obtain ⟨R, hR⟩ : ∃ R, R = itemsF s.data.toList (s.data.toList.length + 1) a true mNone := ⟨_, rfl⟩
  have hS : Hid (bracketF s.data.toList a = R.map fun r => (r.1, r.2 + 1)) := by
    show _ = _
    unfold bracketF
    rw [if_neg (by rw [hlen]; omega)]
    have h2 : (s.data.toList[a]? == some 94) = false := by rw [← isB_eq s a 94 94 rfl]; exact hn
    simp only [Int.toNat_natCast, h2, Bool.false_eq_true, ↓reduceIte]
    rw [hR]
    cases itemsF s.data.toList (s.data.toList.length + 1) a true mNone <;> rfl
  have ha0 : ¬ (a : Int) < 0 := by omega
  have ha1 : ¬ (s.size : Int) < (a : Int) := by omega
  have HN : Hid (isB s a 94 = false) := hn
  have HR := Lib.hid hR
  have HL := Lib.hid hlen
  clear hn hR hlen
  obtain ⟨v, hv⟩ : ∃ v, v = brkV (bracketF s.data.toList a) := ⟨_, rfl⟩
  rw [← hv]
  have HV := Lib.hid hv
  clear hv
  go_enter Tryd.func76, Tryd.ntmps76
  go_wp2_with fail
  obtain ⟨g, hg⟩ : ∃ g, g = w.heap.size + 1 := ⟨_, rfl⟩
  have hB : Bk w ((w.alloc (.cells #[.int .u64 0, .int .u64 0, .int .u64 0, .int .u64 0] 57)).alloc (.cells #[.string s, .int .i64 (a : Int)] 141)) g s a mNone := ⟨by rw [hg]; exact blk_at (by simp), by rw [setC_none]; exact (Blk.new w _ _).alloc _, ((Later.refl w).alloc _).alloc _, hg⟩
  rw [← hg]
  clear hg
  refine (is_at g a a 0 94 s _ false hB.1 (by omega) HN.out hs2 (by omega)).mono ?_
  rintro e w1 ⟨rfl, hl1⟩
  have hB := hB.later hl1
  clear hl1
  go_wp2_with fail
  go_loopw [9] (fun x wr => ∃ (p fuel : Nat) (first : Bool) (m : Mem), x = .bool first ∧ p ≤ s.size ∧ s.size + 1 ≤ fuel + p ∧ Hid (itemsF s.data.toList fuel p first m = R) ∧ Bk w wr g s p m) (fun _ wr => s.size + 1 - (match wr.cell? ⟨g, 1, none⟩ with | some (.int _ i) => i.toNat | _ => 0))
  case atStart => exact ⟨a, s.data.toList.length + 1, true, mNone, rfl, by omega, by rw [HL.out]; omega, HR.out.symm, hB⟩
  case round =>
    obtain ⟨p, fuel, first, m, rfl, hp, hfu, HO, hB⟩ := hrel
    obtain ⟨fu, rfl⟩ : ∃ fu, fuel = fu + 1 := ⟨fuel - 1, by omega⟩
    have hgo : (first = false ∧ isB s p 93 = true) ∨ (first = true ∨ (first = false ∧ isB s p 93 = false)) := by cases first <;> cases isB s p 93 <;> simp
    rcases hgo with ⟨h1, h2⟩ | hgo
    · subst h1
      have hRe : R = some (m, p) := HO.out.symm.trans (itemsF_stop _ _ _ _ (by rw [isB_eq s p 93 93 rfl, beq_iff_eq] at h2; exact h2))
      have H2 := Lib.hid h2
      have HRe := Lib.hid hRe
      clear h2 hRe HO
      go_wp2_with fail
      refine (is_at g p p 0 93 s _ true hB.1 (by omega) H2.out hs2 (by omega)).mono ?_
      rintro e w1 ⟨rfl, hl1⟩
      have hB := hB.later hl1
      clear hl1
      obtain ⟨c0, c1, f1, z0, z1, z2, z3, y0, y1, y2, y3, gl, gl2⟩ := hB.cells
      go_wp2_with fail
      have hne1 : ¬ w.heap.size = g := by have := hB.2.2.2; omega
      have hne2 : ¬ g = w.heap.size := by omega
      go_region
      all_goals
        go_wp2_with fail
        exact bodyPost_ret (v := .tuple #[.agg #[.int .u64 (word (m) 0 : Nat), .int .u64 (word (m) 1 : Nat), .int .u64 (word (m) 2 : Nat), .int .u64 (word (m) 3 : Nat)], .int .i64 ((p : Int) + 1), .bool true]) (by simp [results, Tryd.results76, go_sem, z0, z1, z2, z3]) rfl ⟨by rw [HV.out, hS.out, HRe.out]; rfl, (hB.setL _ _ _ _).drew⟩
    · have hfi : first = true ∨ (s.data.toList[p]? == some 93) = false := by
        rcases hgo with h | ⟨_, h⟩
        · exact .inl h
        · exact .inr (by rw [← isB_eq s p 93 93 rfl]; exact h)
      cases hit : itemF s.data.toList p with
      | none =>
        have hRe : R = none := HO.out.symm.trans (itemsF_none _ _ _ _ _ hfi hit)
        have HI := Lib.hid hit
        have HRe := Lib.hid hRe
        clear hit hRe HO hfi
        rcases hgo with rfl | ⟨rfl, h2⟩
        case' inl => go_wp2_with fail
        case' inr =>
          have H2 := Lib.hid h2
          clear h2
          go_wp2_with fail
          refine (is_at g p p 0 93 s _ false hB.1 (by omega) H2.out hs2 (by omega)).mono ?_
          rintro e w1 ⟨rfl, hl1⟩
          have hB := hB.later hl1
          clear hl1
          go_wp2_with fail
        all_goals
          refine (item_nope g p s _ hB.1 hs hp HI.out).mono ?_
          rintro e w2 ⟨mm, q, rfl, hF, hq⟩
          have hB := hB.fr hF hq
          clear hF hq
          obtain ⟨c0, c1, f1, z0, z1, z2, z3, y0, y1, y2, y3, gl, gl2⟩ := hB.cells
          go_wp2_with fail
          exact bodyPost_ret (v := .tuple #[.agg #[.int .u64 0, .int .u64 0, .int .u64 0, .int .u64 0], .int .i64 0, .bool false]) (by simp [results, Tryd.results76, go_sem, z0, z1, z2, z3, gl2]) rfl ⟨by rw [HV.out, hS.out, HRe.out]; rfl, (hB.setL _ _ _ _).alloc _⟩
      | some r =>
        obtain ⟨x, q⟩ := r
        have hbd := itemF_bd _ _ _ _ hit
        rw [HL.out] at hbd
        obtain ⟨hpq, hqs⟩ := hbd
        have HO2 : Hid (itemsF s.data.toList fu q false (mOr m x) = R) := (itemsF_next _ _ _ _ _ _ _ hfi hit).symm.trans HO.out
        have HI := Lib.hid hit
        have e1 := Lib.hid hB.1.c1
        clear hit HO hfi
        rcases hgo with rfl | ⟨rfl, h2⟩
        case' inl => go_wp2_with fail
        case' inr =>
          have H2 := Lib.hid h2
          clear h2
          go_wp2_with fail
          refine (is_at g p p 0 93 s _ false hB.1 (by omega) H2.out hs2 (by omega)).mono ?_
          rintro e w1 ⟨rfl, hl1⟩
          have hB := hB.later hl1
          clear hl1
          go_wp2_with fail
        all_goals
          refine (item_yes g p q x s _ hB.1 hs hp HI.out).mono ?_
          rintro e w2 ⟨rfl, hF, hq⟩
          have hB := hB.fr hF hq
          clear hF hq
          obtain ⟨c0, c1, f1, z0, z1, z2, z3, y0, y1, y2, y3, gl, gl2⟩ := hB.cells
          go_wp2_with fail
          refine (or_at m x _).mono ?_
          rintro e w3 ⟨rfl, hl3⟩
          have hB := (hB.alloc _).later hl3
          clear hl3
          clear c0 c1 f1 z0 z1 z2 z3 y0 y1 y2 y3 gl gl2
          obtain ⟨c0, c1, f1, z0, z1, z2, z3, y0, y1, y2, y3, gl, gl2⟩ := hB.cells
          go_wp2_with fail
          have hB := hB.set4 (mOr m x)
          have e2 := hB.1.c1
          go_roundw
          case rel => exact ⟨q, fu, false, mOr m x, rfl, hqs, by omega, HO2, hB⟩
          case measure => rw [e1.out, e2]; simp; omega

set_option maxHeartbeats 2000000 in
theorem bracket_neg (s : ByteArray) (a : Nat) (w : World) (hs : s.size ≤ 140737488355328) (ha : a ≤ s.size) (hn : isB s a 94 = true) :
    Calls Tryd.prog 76 #[.string s, .int .i64 (a : Int)] w fun e w' => e = .returned (brkV (bracketF s.data.toList a)) ∧ Later w w' := by
  have hs2 : s.size ≤ 9223372036854775807 := by omega
  have hlen : s.data.toList.length = s.size := Array.length_toList
  obtain ⟨R, hR⟩ : ∃ R, R = itemsF s.data.toList (s.data.toList.length + 1) (a + 1) true mNone := ⟨_, rfl⟩
  have hS : Hid (bracketF s.data.toList a = R.map fun r => (mNot r.1, r.2 + 1)) := by
    show _ = _
    unfold bracketF
    rw [if_neg (by rw [hlen]; omega)]
    have h2 : (s.data.toList[a]? == some 94) = true := by rw [← isB_eq s a 94 94 rfl]; exact hn
    simp only [Int.toNat_natCast, h2, ↓reduceIte]
    rw [hR]
    cases itemsF s.data.toList (s.data.toList.length + 1) (a + 1) true mNone <;> rfl
  have ha0 : ¬ (a : Int) < 0 := by omega
  have ha1 : ¬ (s.size : Int) < (a : Int) := by omega
  have ha2 : a + 1 ≤ s.size := by
    rw [isB_eq s a 94 94 rfl, beq_iff_eq] at hn
    have := (str_get s a 94 hn).1
    omega
  have HN : Hid (isB s a 94 = true) := hn
  have HR := Lib.hid hR
  have HL := Lib.hid hlen
  clear hn hR hlen
  obtain ⟨v, hv⟩ : ∃ v, v = brkV (bracketF s.data.toList a) := ⟨_, rfl⟩
  rw [← hv]
  have HV := Lib.hid hv
  clear hv
  go_enter Tryd.func76, Tryd.ntmps76
  go_wp2_with fail
  obtain ⟨g, hg⟩ : ∃ g, g = w.heap.size + 1 := ⟨_, rfl⟩
  have hB : Bk w ((w.alloc (.cells #[.int .u64 0, .int .u64 0, .int .u64 0, .int .u64 0] 57)).alloc (.cells #[.string s, .int .i64 (a : Int)] 141)) g s a mNone := ⟨by rw [hg]; exact blk_at (by simp), by rw [setC_none]; exact (Blk.new w _ _).alloc _, ((Later.refl w).alloc _).alloc _, hg⟩
  rw [← hg]
  clear hg
  refine (is_at g a a 0 94 s _ true hB.1 (by omega) HN.out hs2 (by omega)).mono ?_
  rintro e w1 ⟨rfl, hl1⟩
  have hB := hB.later hl1
  clear hl1
  obtain ⟨c0, c1, f1, z0, z1, z2, z3, y0, y1, y2, y3, gl, gl2⟩ := hB.cells
  go_wp2_with fail
  clear c0 c1 f1 z0 z1 z2 z3 y0 y1 y2 y3 gl gl2
  have hB := hB.move (a + 1) ((a : Int) + 1) (by omega)
  obtain ⟨wl, hwl⟩ : ∃ wl, wl = w1.setCell ⟨g, 1, none⟩ (.int .i64 ((a : Int) + 1)) := ⟨_, rfl⟩
  rw [← hwl] at hB ⊢
  clear hwl
  go_loopw [9] (fun x wr => ∃ (p fuel : Nat) (first : Bool) (m : Mem), x = .bool first ∧ p ≤ s.size ∧ s.size + 1 ≤ fuel + p ∧ Hid (itemsF s.data.toList fuel p first m = R) ∧ Bk w wr g s p m) (fun _ wr => s.size + 1 - (match wr.cell? ⟨g, 1, none⟩ with | some (.int _ i) => i.toNat | _ => 0))
  case atStart => exact ⟨(a + 1), s.data.toList.length + 1, true, mNone, rfl, by omega, by rw [HL.out]; omega, HR.out.symm, hB⟩
  case round =>
    obtain ⟨p, fuel, first, m, rfl, hp, hfu, HO, hB⟩ := hrel
    obtain ⟨fu, rfl⟩ : ∃ fu, fuel = fu + 1 := ⟨fuel - 1, by omega⟩
    have hgo : (first = false ∧ isB s p 93 = true) ∨ (first = true ∨ (first = false ∧ isB s p 93 = false)) := by cases first <;> cases isB s p 93 <;> simp
    rcases hgo with ⟨h1, h2⟩ | hgo
    · subst h1
      have hRe : R = some (m, p) := HO.out.symm.trans (itemsF_stop _ _ _ _ (by rw [isB_eq s p 93 93 rfl, beq_iff_eq] at h2; exact h2))
      have H2 := Lib.hid h2
      have HRe := Lib.hid hRe
      clear h2 hRe HO
      go_wp2_with fail
      refine (is_at g p p 0 93 s _ true hB.1 (by omega) H2.out hs2 (by omega)).mono ?_
      rintro e w1 ⟨rfl, hl1⟩
      have hB := hB.later hl1
      clear hl1
      obtain ⟨c0, c1, f1, z0, z1, z2, z3, y0, y1, y2, y3, gl, gl2⟩ := hB.cells
      go_wp2_with fail
      refine (not_at m _).mono ?_
      rintro e w2 ⟨rfl, hl2⟩
      have hB := hB.later hl2
      clear c0 c1 f1 z0 z1 z2 z3 y0 y1 y2 y3 gl gl2
      obtain ⟨c0, c1, f1, z0, z1, z2, z3, y0, y1, y2, y3, gl, gl2⟩ := hB.cells
      go_wp2_with fail
      have hB := hB.set4 (mNot m)
      clear c0 c1 f1 z0 z1 z2 z3 y0 y1 y2 y3 gl gl2
      obtain ⟨w3, hw3⟩ : ∃ w3, w3 = ((((w2.setCell ⟨w.heap.size, 0, none⟩ (.int .u64 (word (mNot m) 0 : Nat))).setCell ⟨w.heap.size, 1, none⟩ (.int .u64 (word (mNot m) 1 : Nat))).setCell ⟨w.heap.size, 2, none⟩ (.int .u64 (word (mNot m) 2 : Nat))).setCell ⟨w.heap.size, 3, none⟩ (.int .u64 (word (mNot m) 3 : Nat))) := ⟨_, rfl⟩
      rw [← hw3] at hB ⊢
      clear hw3
      obtain ⟨c0, c1, f1, z0, z1, z2, z3, y0, y1, y2, y3, gl, gl2⟩ := hB.cells
      have hne1 : ¬ w.heap.size = g := by have := hB.2.2.2; omega
      have hne2 : ¬ g = w.heap.size := by omega
      go_region
      all_goals
        go_wp2_with fail
        exact bodyPost_ret (v := .tuple #[.agg #[.int .u64 (word ((mNot m)) 0 : Nat), .int .u64 (word ((mNot m)) 1 : Nat), .int .u64 (word ((mNot m)) 2 : Nat), .int .u64 (word ((mNot m)) 3 : Nat)], .int .i64 ((p : Int) + 1), .bool true]) (by simp [results, Tryd.results76, go_sem, z0, z1, z2, z3]) rfl ⟨by rw [HV.out, hS.out, HRe.out]; rfl, (hB.setL _ _ _ _).drew⟩
    · have hfi : first = true ∨ (s.data.toList[p]? == some 93) = false := by
        rcases hgo with h | ⟨_, h⟩
        · exact .inl h
        · exact .inr (by rw [← isB_eq s p 93 93 rfl]; exact h)
      cases hit : itemF s.data.toList p with
      | none =>
        have hRe : R = none := HO.out.symm.trans (itemsF_none _ _ _ _ _ hfi hit)
        have HI := Lib.hid hit
        have HRe := Lib.hid hRe
        clear hit hRe HO hfi
        rcases hgo with rfl | ⟨rfl, h2⟩
        case' inl => go_wp2_with fail
        case' inr =>
          have H2 := Lib.hid h2
          clear h2
          go_wp2_with fail
          refine (is_at g p p 0 93 s _ false hB.1 (by omega) H2.out hs2 (by omega)).mono ?_
          rintro e w1 ⟨rfl, hl1⟩
          have hB := hB.later hl1
          clear hl1
          go_wp2_with fail
        all_goals
          refine (item_nope g p s _ hB.1 hs hp HI.out).mono ?_
          rintro e w2 ⟨mm, q, rfl, hF, hq⟩
          have hB := hB.fr hF hq
          clear hF hq
          obtain ⟨c0, c1, f1, z0, z1, z2, z3, y0, y1, y2, y3, gl, gl2⟩ := hB.cells
          go_wp2_with fail
          exact bodyPost_ret (v := .tuple #[.agg #[.int .u64 0, .int .u64 0, .int .u64 0, .int .u64 0], .int .i64 0, .bool false]) (by simp [results, Tryd.results76, go_sem, z0, z1, z2, z3, gl2]) rfl ⟨by rw [HV.out, hS.out, HRe.out]; rfl, (hB.setL _ _ _ _).alloc _⟩
      | some r =>
        obtain ⟨x, q⟩ := r
        have hbd := itemF_bd _ _ _ _ hit
        rw [HL.out] at hbd
        obtain ⟨hpq, hqs⟩ := hbd
        have HO2 : Hid (itemsF s.data.toList fu q false (mOr m x) = R) := (itemsF_next _ _ _ _ _ _ _ hfi hit).symm.trans HO.out
        have HI := Lib.hid hit
        have e1 := Lib.hid hB.1.c1
        clear hit HO hfi
        rcases hgo with rfl | ⟨rfl, h2⟩
        case' inl => go_wp2_with fail
        case' inr =>
          have H2 := Lib.hid h2
          clear h2
          go_wp2_with fail
          refine (is_at g p p 0 93 s _ false hB.1 (by omega) H2.out hs2 (by omega)).mono ?_
          rintro e w1 ⟨rfl, hl1⟩
          have hB := hB.later hl1
          clear hl1
          go_wp2_with fail
        all_goals
          refine (item_yes g p q x s _ hB.1 hs hp HI.out).mono ?_
          rintro e w2 ⟨rfl, hF, hq⟩
          have hB := hB.fr hF hq
          clear hF hq
          obtain ⟨c0, c1, f1, z0, z1, z2, z3, y0, y1, y2, y3, gl, gl2⟩ := hB.cells
          go_wp2_with fail
          refine (or_at m x _).mono ?_
          rintro e w3 ⟨rfl, hl3⟩
          have hB := (hB.alloc _).later hl3
          clear hl3
          clear c0 c1 f1 z0 z1 z2 z3 y0 y1 y2 y3 gl gl2
          obtain ⟨c0, c1, f1, z0, z1, z2, z3, y0, y1, y2, y3, gl, gl2⟩ := hB.cells
          go_wp2_with fail
          have hB := hB.set4 (mOr m x)
          have e2 := hB.1.c1
          go_roundw
          case rel => exact ⟨q, fu, false, mOr m x, rfl, hqs, by omega, HO2, hB⟩
          case measure => rw [e1.out, e2]; simp; omega

theorem bracket_any (s : ByteArray) (a : Int) (w : World) (hs : s.size ≤ 140737488355328) :
    Calls Tryd.prog 76 #[.string s, .int .i64 a] w fun e w' => e = .returned (brkV (bracketF s.data.toList a)) ∧ Later w w' := by
  by_cases ha : a < 0 ∨ (s.size : Int) < a
  · have h : bracketF s.data.toList a = none := by
      unfold bracketF
      rw [if_pos (by rw [show s.data.toList.length = s.size from Array.length_toList]; exact ha)]
    rw [h]
    exact bracket_out s a w hs ha
  · obtain ⟨n, rfl⟩ := Int.eq_ofNat_of_zero_le (show 0 ≤ a by omega)
    cases hn : isB s n 94 with
    | true => exact bracket_neg s n w hs (by omega) hn
    | false => exact bracket_pos s n w hs (by omega) hn

end Go.Proofs.YtmkddhkpeiajhaaDoor

