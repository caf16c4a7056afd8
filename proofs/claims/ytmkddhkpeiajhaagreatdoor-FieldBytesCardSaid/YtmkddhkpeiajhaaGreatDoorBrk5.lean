import Derived.Test.YtmkddhkpeiajhaaGreatDoorBrk3
import Derived.RegionTactic
import Derived.Test.YtmkddhkpeiajhaaGreatDoorShaped
namespace Go.Proofs.YtmkddhkpeiajhaaGreatDoor
open Go.RowKit
theorem closeF_bd (l : List UInt8) : ∀ (fuel k k' : Nat), closeF l fuel k = some k' → k ≤ k' ∧ k' + 1 < l.length
  | 0, _, _, h => by cases h
  | f + 1, k, k', h => by
    rw [closeF] at h
    by_cases h1 : k + 1 < l.length
    · rw [if_pos h1] at h
      by_cases h2 : l[k]? = some 58 ∧ l[k + 1]? = some 93
      · rw [if_pos h2] at h
        injection h with h
        omega
      · rw [if_neg h2] at h
        have := closeF_bd l f (k + 1) k' h
        omega
    · rw [if_neg h1] at h
      cases h
theorem namedF_bd (l : List UInt8) (p q : Nat) (m : Mem) (h : namedF l p = some (m, q)) : p < q ∧ q ≤ l.length := by
  unfold namedF at h
  cases h1 : closeF l l.length (p + 2) with
  | none => rw [h1] at h; cases h
  | some k =>
    rw [h1] at h
    simp only at h
    have hb := closeF_bd l _ _ _ h1
    cases h2 : classOf ((l.take k).drop (p + 2)) with
    | none => rw [h2] at h; cases h
    | some m' =>
      rw [h2] at h
      injection h with h
      injection h with _ h
      omega
theorem itemF_bd (l : List UInt8) (p q : Nat) (m : Mem) (h : itemF l p = some (m, q)) : p < q ∧ q ≤ l.length := by
  unfold itemF at h
  by_cases ho : opensF l p = true
  · rw [if_pos ho] at h
    exact namedF_bd l p q m h
  · rw [if_neg ho] at h
    cases he : endF l p with
    | none => rw [he] at h; cases h
    | some r =>
      obtain ⟨a, a1⟩ := r
      have b1 := endF_bd l p a a1 he
      rw [he] at h
      simp only at h
      by_cases hc : l[a1]? = some 45 ∧ a1 + 1 < l.length ∧ l[a1 + 1]? ≠ some 93
      · rw [if_pos hc] at h
        by_cases ho2 : opensF l (a1 + 1) = true
        · rw [if_pos ho2] at h; cases h
        · rw [if_neg ho2] at h
          cases he2 : endF l (a1 + 1) with
          | none => rw [he2] at h; cases h
          | some r2 =>
            obtain ⟨b, b2⟩ := r2
            have b3 := endF_bd l (a1 + 1) b b2 he2
            rw [he2] at h
            simp only at h
            by_cases hle : a ≤ b
            · rw [if_pos hle] at h; injection h with h; injection h with _ h; omega
            · rw [if_neg hle] at h; cases h
      · rw [if_neg hc] at h; injection h with h; injection h with _ h; omega
theorem item_yes (g p q : Nat) (m : Mem) (s : ByteArray) [Txt s] (w : World) (hb : BrOk w g s p) (hs : s.size ≤ 140737488355328) (hp : p ≤ s.size) (h : itemF s.data.toList p = some (m, q)) :
    Calls Tryz.prog 139 #[.pointer (some ⟨g, 0, none⟩)] w fun e w' => e = .returned (.tuple #[.agg #[.int .u64 (word (m) 0 : Nat), .int .u64 (word (m) 1 : Nat), .int .u64 (word (m) 2 : Nat), .int .u64 (word (m) 3 : Nat)], .bool true]) ∧ Fr w w' (fun k => k = g) ∧ BrOk w' g s q :=
  (item_any g p s w hb hs hp).mono fun e w' he => by
    rw [h] at he
    exact ⟨he.2.1, he.1, he.2.2⟩
theorem item_nope (g p : Nat) (s : ByteArray) [Txt s] (w : World) (hb : BrOk w g s p) (hs : s.size ≤ 140737488355328) (hp : p ≤ s.size) (h : itemF s.data.toList p = none) :
    Calls Tryz.prog 139 #[.pointer (some ⟨g, 0, none⟩)] w fun e w' => ∃ (m : Mem) (q : Nat), e = .returned (.tuple #[.agg #[.int .u64 (word (m) 0 : Nat), .int .u64 (word (m) 1 : Nat), .int .u64 (word (m) 2 : Nat), .int .u64 (word (m) 3 : Nat)], .bool false]) ∧ Fr w w' (fun k => k = g) ∧ BrOk w' g s q :=
  (item_any g p s w hb hs hp).mono fun e w' he => by
    rw [h] at he
    obtain ⟨hF, ⟨m, h1⟩, q, h2⟩ := he
    exact ⟨m, q, h1, hF, h2⟩
def Bk (w0 w : World) (g : Nat) (s : ByteArray) (p : Nat) (m : Mem) : Prop := BrOk w g s p ∧ Blk w w0.heap.size 95 (setC m) ∧ Later w0 w ∧ g = w0.heap.size + 1
section
variable {w0 w w' : World} {g p : Nat} {s : ByteArray} {m : Mem}
theorem Bk.later (h : Bk w0 w g s p m) (hl : Later w w') : Bk w0 w' g s p m := ⟨h.1.later hl, blkLater hl h.2.1, h.2.2.1.trans hl, h.2.2.2⟩
theorem Bk.fr {q : Nat} (h : Bk w0 w g s p m) (hf : Fr w w' (fun k => k = g)) (hb : BrOk w' g s q) : Bk w0 w' g s q m :=
  ⟨hb, h.2.1.fr hf (fun e => by have := h.2.2.2; omega), Fr.none_ (p := fun k => k = g) ((Fr.later h.2.2.1).trans hf (fun _ _ h => h)) (fun k hk e => by have := h.2.2.2; omega), h.2.2.2⟩
theorem Bk.alloc (h : Bk w0 w g s p m) (o : Obj) : Bk w0 (w.alloc o) g s p m := h.later ((Later.refl w).alloc o)
theorem Bk.cells (h : Bk w0 w g s p m) : w.cell? ⟨g, 0, none⟩ = some (.string s) ∧ w.cell? ⟨g, 1, none⟩ = some (.int .i64 (p : Int)) ∧ w.frozen? ⟨g, 1, none⟩ = false ∧ w.cell? ⟨w0.heap.size, 0, none⟩ = some (.int .u64 (word m 0 : Nat)) ∧ w.cell? ⟨w0.heap.size, 1, none⟩ = some (.int .u64 (word m 1 : Nat)) ∧ w.cell? ⟨w0.heap.size, 2, none⟩ = some (.int .u64 (word m 2 : Nat)) ∧ w.cell? ⟨w0.heap.size, 3, none⟩ = some (.int .u64 (word m 3 : Nat)) ∧ w.frozen? ⟨w0.heap.size, 0, none⟩ = false ∧ w.frozen? ⟨w0.heap.size, 1, none⟩ = false ∧ w.frozen? ⟨w0.heap.size, 2, none⟩ = false ∧ w.frozen? ⟨w0.heap.size, 3, none⟩ = false ∧ g < w.heap.size ∧ w0.heap.size < w.heap.size :=
  ⟨h.1.c0, h.1.c1, h.1.f1, h.2.1.cell 0, h.2.1.cell 1, h.2.1.cell 2, h.2.1.cell 3, h.2.1.frozen 0, h.2.1.frozen 1, h.2.1.frozen 2, h.2.1.frozen 3, Blk.lt h.1, Blk.lt h.2.1⟩
theorem Bk.set4 (h : Bk w0 w g s p m) (m' : Mem) : Bk w0 ((((w.setCell ⟨w0.heap.size, 0, none⟩ (.int .u64 (word m' 0 : Nat))).setCell ⟨w0.heap.size, 1, none⟩ (.int .u64 (word m' 1 : Nat))).setCell ⟨w0.heap.size, 2, none⟩ (.int .u64 (word m' 2 : Nat))).setCell ⟨w0.heap.size, 3, none⟩ (.int .u64 (word m' 3 : Nat))) g s p m' := by
  have hne : g ≠ w0.heap.size := by have := h.2.2.2; omega
  exact ⟨brFar (brFar (brFar (brFar h.1 hne _ _) hne _ _) hne _ _) hne _ _, (((h.2.1.set_ 0 _).set_ 1 _).set_ 2 _).set_ 3 _, (((h.2.2.1.setCell (Nat.le_refl _) _).setCell (Nat.le_refl _) _).setCell (Nat.le_refl _) _).setCell (Nat.le_refl _) _, h.2.2.2⟩
theorem Bk.setL (h : Bk w0 w g s p m) (x0 x1 x2 x3 : Value) : Later w0 ((((w.setCell ⟨w0.heap.size, 0, none⟩ x0).setCell ⟨w0.heap.size, 1, none⟩ x1).setCell ⟨w0.heap.size, 2, none⟩ x2).setCell ⟨w0.heap.size, 3, none⟩ x3) :=
  (((h.2.2.1.setCell (Nat.le_refl _) _).setCell (Nat.le_refl _) _).setCell (Nat.le_refl _) _).setCell (Nat.le_refl _) _
end
def brkV (o : Option (Mem × Nat)) : Value :=
  match o with
  | some (m, e) => .tuple #[setV m, .int .i64 (e : Int), .bool true]
  | none => .tuple #[.agg #[.int .u64 0, .int .u64 0, .int .u64 0, .int .u64 0], .int .i64 0, .bool false]
theorem itemsF_stop (l : List UInt8) (fuel p : Nat) (m : Mem) (h : l[p]? = some 93) : itemsF l (fuel + 1) p false m = some (m, p) := by
  rw [itemsF, h]
  rfl
theorem itemsF_none (l : List UInt8) (fuel p : Nat) (first : Bool) (m : Mem) (h : first = true ∨ (l[p]? == some 93) = false) (hi : itemF l p = none) : itemsF l (fuel + 1) p first m = none := by
  rw [itemsF, if_neg (by rcases h with h | h <;> rw [h] <;> simp), hi]
theorem itemsF_next (l : List UInt8) (fuel p q : Nat) (first : Bool) (m x : Mem) (h : first = true ∨ (l[p]? == some 93) = false) (hi : itemF l p = some (x, q)) : itemsF l (fuel + 1) p first m = itemsF l fuel q false (mOr m x) := by
  rw [itemsF, if_neg (by rcases h with h | h <;> rw [h] <;> simp), hi]
theorem bracket_out (s : ByteArray) (a : Int) (w : World) (hs : s.size ≤ 140737488355328) (ha : a < 0 ∨ (s.size : Int) < a) :
    Calls Tryz.prog 128 #[.string s, .int .i64 a] w fun e w' => e = .returned (.tuple #[.agg #[.int .u64 0, .int .u64 0, .int .u64 0, .int .u64 0], .int .i64 0, .bool false]) ∧ Later w w' := by
  have hs2 : s.size ≤ 9223372036854775807 := by omega
  by_cases h0 : a < 0
  · go_enter Tryz.func128, Tryz.ntmps128
    go_wp2
    exact bodyPost_ret (v := .tuple #[.agg #[.int .u64 0, .int .u64 0, .int .u64 0, .int .u64 0], .int .i64 0, .bool false]) (by simp [results, Tryz.results128, go_sem]) rfl ⟨rfl, (Later.refl w).alloc _⟩
  · have h1 : (s.size : Int) < a := by omega
    go_enter Tryz.func128, Tryz.ntmps128
    go_wp2
    exact bodyPost_ret (v := .tuple #[.agg #[.int .u64 0, .int .u64 0, .int .u64 0, .int .u64 0], .int .i64 0, .bool false]) (by simp [results, Tryz.results128, go_sem]) rfl ⟨rfl, (Later.refl w).alloc _⟩
set_option maxHeartbeats 2000000 in
theorem bracket_pos (s : ByteArray) [Txt s] (a : Nat) (w : World) (hs : s.size ≤ 140737488355328) (ha : a ≤ s.size) (hn : isB s a 94 = false) :
    Calls Tryz.prog 128 #[.string s, .int .i64 (a : Int)] w fun e w' => e = .returned (brkV (bracketF s.data.toList a)) ∧ Later w w' := by
  have hs2 : s.size ≤ 9223372036854775807 := by omega
  have hlen : s.data.toList.length = s.size := Array.length_toList
  obtain ⟨R, hR⟩ : ∃ R, R = itemsF s.data.toList (s.data.toList.length + 1) a true mNone := ⟨_, rfl⟩
  have hS : Hid (bracketF s.data.toList a = R.map fun r => (r.1, r.2 + 1)) := by
    show _ = _
    unfold bracketF
    rw [if_neg (by rw [hlen]; omega)]
    have h2 : (s.data.toList[a]? == some 94) = false := by rw [← isB_eq s a 94 94 rfl]; exact hn
    simp only [Int.toNat_natCast, h2, Bool.false_eq_true, ↓reduceIte]
    rw [hR]
    cases itemsF s.data.toList (s.data.toList.length + 1) a true mNone <;> rfl
  have ha0 : ¬ (a : Int) < 0 := by omega
  have ha1 : ¬ (s.size : Int) < (a : Int) := by omega
  have HN : Hid (isB s a 94 = false) := hn
  have HR := Lib.hid hR
  have HL := Lib.hid hlen
  clear hn hR hlen
  obtain ⟨v, hv⟩ : ∃ v, v = brkV (bracketF s.data.toList a) := ⟨_, rfl⟩
  rw [← hv]
  have HV := Lib.hid hv
  clear hv
  go_enter Tryz.func128, Tryz.ntmps128
  go_wp2_with fail
  obtain ⟨g, hg⟩ : ∃ g, g = w.heap.size + 1 := ⟨_, rfl⟩
  have hB : Bk w ((w.alloc (.cells #[.int .u64 0, .int .u64 0, .int .u64 0, .int .u64 0] 95)).alloc (.cells #[.string s, .int .i64 (a : Int)] 206)) g s a mNone := ⟨by rw [hg]; exact blk_at (by simp), by rw [setC_none]; exact (Blk.new w _ _).alloc _, ((Later.refl w).alloc _).alloc _, hg⟩
  rw [← hg]
  clear hg
  refine (is_at g a a 0 94 s _ false hB.1 (by omega) HN.out hs2 (by omega)).mono ?_
  rintro e w1 ⟨rfl, hl1⟩
  have hB := hB.later hl1
  clear hl1
  go_wp2_with fail
  go_loopw [9] (fun x wr => ∃ (p fuel : Nat) (first : Bool) (m : Mem), x = .bool first ∧ p ≤ s.size ∧ s.size + 1 ≤ fuel + p ∧ Hid (itemsF s.data.toList fuel p first m = R) ∧ Bk w wr g s p m) (fun _ wr => s.size + 1 - (match wr.cell? ⟨g, 1, none⟩ with | some (.int _ i) => i.toNat | _ => 0))
  case atStart => exact ⟨a, s.data.toList.length + 1, true, mNone, rfl, by omega, by rw [HL.out]; omega, HR.out.symm, hB⟩
  case round =>
    obtain ⟨p, fuel, first, m, rfl, hp, hfu, HO, hB⟩ := hrel
    obtain ⟨fu, rfl⟩ : ∃ fu, fuel = fu + 1 := ⟨fuel - 1, by omega⟩
    have hgo : (first = false ∧ isB s p 93 = true) ∨ (first = true ∨ (first = false ∧ isB s p 93 = false)) := by cases first <;> cases isB s p 93 <;> simp
    rcases hgo with ⟨h1, h2⟩ | hgo
    · subst h1
      have hRe : R = some (m, p) := HO.out.symm.trans (itemsF_stop _ _ _ _ (by rw [isB_eq s p 93 93 rfl, beq_iff_eq] at h2; exact h2))
      have H2 := Lib.hid h2
      have HRe := Lib.hid hRe
      clear h2 hRe HO
      go_wp2_with fail
      refine (is_at g p p 0 93 s _ true hB.1 (by omega) H2.out hs2 (by omega)).mono ?_
      rintro e w1 ⟨rfl, hl1⟩
      have hB := hB.later hl1
      clear hl1
      obtain ⟨c0, c1, f1, z0, z1, z2, z3, y0, y1, y2, y3, gl, gl2⟩ := hB.cells
      go_wp2_with fail
      have hne1 : ¬ w.heap.size = g := by have := hB.2.2.2; omega
      have hne2 : ¬ g = w.heap.size := by omega
      go_region
      all_goals
        go_wp2_with fail
        exact bodyPost_ret (v := .tuple #[.agg #[.int .u64 (word (m) 0 : Nat), .int .u64 (word (m) 1 : Nat), .int .u64 (word (m) 2 : Nat), .int .u64 (word (m) 3 : Nat)], .int .i64 ((p : Int) + 1), .bool true]) (by simp [results, Tryz.results128, go_sem, z0, z1, z2, z3]) rfl ⟨by rw [HV.out, hS.out, HRe.out]; rfl, (hB.setL _ _ _ _).drew⟩
    · have hfi : first = true ∨ (s.data.toList[p]? == some 93) = false := by
        rcases hgo with h | ⟨_, h⟩
        · exact .inl h
        · exact .inr (by rw [← isB_eq s p 93 93 rfl]; exact h)
      cases hit : itemF s.data.toList p with
      | none =>
        have hRe : R = none := HO.out.symm.trans (itemsF_none _ _ _ _ _ hfi hit)
        have HI := Lib.hid hit
        have HRe := Lib.hid hRe
        clear hit hRe HO hfi
        rcases hgo with rfl | ⟨rfl, h2⟩
        case' inl => go_wp2_with fail
        case' inr =>
          have H2 := Lib.hid h2
          clear h2
          go_wp2_with fail
          refine (is_at g p p 0 93 s _ false hB.1 (by omega) H2.out hs2 (by omega)).mono ?_
          rintro e w1 ⟨rfl, hl1⟩
          have hB := hB.later hl1
          clear hl1
          go_wp2_with fail
        all_goals
          refine (item_nope g p s _ hB.1 hs hp HI.out).mono ?_
          rintro e w2 ⟨mm, q, rfl, hF, hq⟩
          have hB := hB.fr hF hq
          clear hF hq
          obtain ⟨c0, c1, f1, z0, z1, z2, z3, y0, y1, y2, y3, gl, gl2⟩ := hB.cells
          go_wp2_with fail
          exact bodyPost_ret (v := .tuple #[.agg #[.int .u64 0, .int .u64 0, .int .u64 0, .int .u64 0], .int .i64 0, .bool false]) (by simp [results, Tryz.results128, go_sem, z0, z1, z2, z3, gl2]) rfl ⟨by rw [HV.out, hS.out, HRe.out]; rfl, (hB.setL _ _ _ _).alloc _⟩
      | some r =>
        obtain ⟨x, q⟩ := r
        have hbd := itemF_bd _ _ _ _ hit
        rw [HL.out] at hbd
        obtain ⟨hpq, hqs⟩ := hbd
        have HO2 : Hid (itemsF s.data.toList fu q false (mOr m x) = R) := (itemsF_next _ _ _ _ _ _ _ hfi hit).symm.trans HO.out
        have HI := Lib.hid hit
        have e1 := Lib.hid hB.1.c1
        clear hit HO hfi
        rcases hgo with rfl | ⟨rfl, h2⟩
        case' inl => go_wp2_with fail
        case' inr =>
          have H2 := Lib.hid h2
          clear h2
          go_wp2_with fail
          refine (is_at g p p 0 93 s _ false hB.1 (by omega) H2.out hs2 (by omega)).mono ?_
          rintro e w1 ⟨rfl, hl1⟩
          have hB := hB.later hl1
          clear hl1
          go_wp2_with fail
        all_goals
          refine (item_yes g p q x s _ hB.1 hs hp HI.out).mono ?_
          rintro e w2 ⟨rfl, hF, hq⟩
          have hB := hB.fr hF hq
          clear hF hq
          obtain ⟨c0, c1, f1, z0, z1, z2, z3, y0, y1, y2, y3, gl, gl2⟩ := hB.cells
          go_wp2_with fail
          refine (or_at m x _).mono ?_
          rintro e w3 ⟨rfl, hl3⟩
          have hB := (hB.alloc _).later hl3
          clear hl3
          clear c0 c1 f1 z0 z1 z2 z3 y0 y1 y2 y3 gl gl2
          obtain ⟨c0, c1, f1, z0, z1, z2, z3, y0, y1, y2, y3, gl, gl2⟩ := hB.cells
          go_wp2_with fail
          have hB := hB.set4 (mOr m x)
          have e2 := hB.1.c1
          go_roundw
          case rel => exact ⟨q, fu, false, mOr m x, rfl, hqs, by omega, HO2, hB⟩
          case measure => rw [e1.out, e2]; simp; omega
theorem bracket_any (s : ByteArray) [Txt s] (a : Int) (w : World) (hs : s.size ≤ 140737488355328) :
    Calls Tryz.prog 128 #[.string s, .int .i64 a] w fun e w' => e = .returned (brkV (bracketF s.data.toList a)) ∧ Later w w' := by
  by_cases ha : a < 0 ∨ (s.size : Int) < a
  · have h : bracketF s.data.toList a = none := by
      unfold bracketF
      rw [if_pos (by rw [show s.data.toList.length = s.size from Array.length_toList]; exact ha)]
    rw [h]
    exact bracket_out s a w hs ha
  · obtain ⟨n, rfl⟩ := Int.eq_ofNat_of_zero_le (show 0 ≤ a by omega)
    cases hn : isB s n 94 with
    | true =>
      rw [isB_eq s n 94 94 rfl] at hn
      exact absurd rfl (Txt.n94 n 94 (eq_of_beq hn))
    | false => exact bracket_pos s n w hs (by omega) hn
end Go.Proofs.YtmkddhkpeiajhaaGreatDoor
namespace Go.Proofs.YtmkddhkpeiajhaaGreatDoor
theorem itemsF_bd (l : List UInt8) : ∀ (f p : Nat) (first : Bool) (m m' : Mem) (e : Nat), itemsF l f p first m = some (m', e) → p ≤ e ∧ e < l.length
 | 0, _, _, _, _, _, h => by cases h
 | f + 1, p, first, m, m', e, h => by
  rw [itemsF] at h
  by_cases hc : (!first && l[p]? == some 93) = true
  ·rw [if_pos hc] at h
   injection h with h
   injection h with _ h
   subst h
   simp only [Bool.and_eq_true, beq_iff_eq] at hc
   exact ⟨Nat.le_refl _, (List.getElem?_eq_some_iff.1 hc.2).1⟩
  ·rw [if_neg hc] at h
   cases hi : itemF l p with
   | none => rw [hi] at h; cases h
   | some r =>
    obtain ⟨x, q⟩ := r
    rw [hi] at h
    simp only at h
    have h1 := itemF_bd l p q x hi
    have h2 := itemsF_bd l f q false _ m' e h
    omega
theorem bracketF_bd (l : List UInt8) (a : Nat) (m : Mem) (e : Nat) (h : bracketF l (a : Int) = some (m, e)) : a < e ∧ e ≤ l.length := by
 unfold bracketF at h
 split at h
 ·cases h
 ·simp only [Int.toNat_natCast] at h
  cases hi : itemsF l (l.length + 1) (if (l[a]? == some 94) = true then a + 1 else a) true mNone with
  | none => rw [hi] at h; cases h
  | some r =>
   obtain ⟨m1, e1⟩ := r
   rw [hi] at h
   injection h with h
   injection h with _ h
   have := itemsF_bd l _ _ _ _ _ _ hi
   split at this <;> omega
structure Dom (s : List UInt8) (d : Nat) (st : St) : Prop where
 bad : st.bad = 0
 at_ : st.at_ ≤ s.length
 op : st.op ≤ 10
 deep : 11 ≤ d + st.op
def Reads_ (s : List UInt8) (d B : Nat) (F : St → Pc × St) : Prop := ∀ st, Dom s d st → Res s.length B st (F st)
theorem group_res (s : List UInt8) (d B : Nat) (hB : 6 ≤ B) (alt : St → Pc × St) (ih : Reads_ s d B alt) (st : St) (from_ : Nat) (h : Dom s (d + 1) st) : Res s.length (B + 1) st (groupF s alt st from_) := by
 unfold groupF
 by_cases ho : 10 < st.op + 1
 ·rw [if_pos ho]
  refine ⟨pcLeaf_ok _ _, fun hb => absurd hb (fault_bad _ _ _ (by decide)), ?_, ?_, ?_⟩
  ·show (stFault _ _ _).at_ ≤ _
   rw [fault_at]
   show st.at_ ≤ _
   have := h.at_
   omega
  ·show (stFault _ _ _).op ≤ _
   rw [fault_op]
   show st.op + 1 ≤ 11
   have := h.op
   omega
  ·show st.op ≤ (stFault _ _ _).op
   rw [fault_op]
   exact Nat.le_succ _
 ·rw [if_neg ho]
  have r := ih (stOp st (st.op + 1)) ⟨h.bad, h.at_, by show st.op + 1 ≤ 10; omega, by show 11 ≤ d + (st.op + 1); have := h.deep; omega⟩
  obtain ⟨q, st2, hal⟩ : ∃ q st2, alt (stOp st (st.op + 1)) = (q, st2) := ⟨_, _, rfl⟩
  rw [hal] at r ⊢
  obtain ⟨ro, rg, rb, rop, rol⟩ := r
  simp only at ro rg rb rop rol ⊢
  have rol' : st.op + 1 ≤ st2.op := rol
  by_cases hc : (stOp st2 (st2.op - 1)).bad = 0 ∧ isAt s (stOp st2 (st2.op - 1)).at_ 41 = false
  ·rw [if_pos hc]
   refine ⟨ro, fun hb => absurd hb (fault_bad _ _ _ (by decide)), ?_, ?_, ?_⟩
   ·show (stFault _ _ _).at_ + 1 ≤ _
    rw [fault_at]
    show st2.at_ + 1 ≤ _
    omega
   ·show (stFault _ _ _).op ≤ _
    rw [fault_op]
    show st2.op - 1 ≤ 11
    omega
   ·show st.op ≤ (stFault _ _ _).op
    rw [fault_op]
    show st.op ≤ st2.op - 1
    omega
  ·rw [if_neg hc]
   refine ⟨ro, fun hb => ?_, ?_, ?_, ?_⟩
   ·have hb2 : st2.bad = 0 := hb
    obtain ⟨g1, g2, g3⟩ := rg hb2
    have h41 : isAt s st2.at_ 41 = true := by
     cases hx : isAt s st2.at_ 41 with
     | true => rfl
     | false => exact absurd ⟨hb2, hx⟩ hc
    have := isAt_lt h41
    have g1' : st.at_ < st2.at_ := g1
    have g3' : st2.op = st.op + 1 := g3
    exact ⟨by show st.at_ < st2.at_ + 1; omega, by show st2.at_ + 1 ≤ _; omega, by show st2.op - 1 = _; omega⟩
   ·show st2.at_ + 1 ≤ _
    omega
   ·show st2.op - 1 ≤ 11
    omega
   ·show st.op ≤ st2.op - 1
    omega
theorem atom_res (s : List UInt8) (d B : Nat) (hB : 6 ≤ B) (alt : St → Pc × St) (ih : Reads_ s d B alt) : Reads_ s (d + 1) (B + 1) (atomF s alt) := by
 intro st h
 have hb := h.bad
 have ha := h.at_
 have hop := h.op
 unfold atomF
 cases hx : s[st.at_]? with
 | none => exact ⟨pcLeaf_ok _ _, fun hb => absurd hb (fault_bad _ _ _ (by decide)), by show (stFault _ _ _).at_ ≤ _; rw [fault_at]; omega, by show (stFault _ _ _).op ≤ _; rw [fault_op]; omega, by show st.op ≤ (stFault _ _ _).op; rw [fault_op]; exact Nat.le_refl _⟩
 | some c =>
  have hq := (List.getElem?_eq_some_iff.1 hx).1
  have one : ∀ (k : Int) (w : W4), Res s.length (B + 1) st (pcLeaf k w, stAt st (st.at_ + 1)) := fun k w => ⟨pcLeaf_ok _ _, fun _ => ⟨by show st.at_ < st.at_ + 1; omega, by show st.at_ + 1 ≤ _; omega, rfl⟩, by show st.at_ + 1 ≤ _; omega, by show st.op ≤ 11; omega, Nat.le_refl _⟩
  simp only
  split
  ·obtain ⟨r1, r2, r3, r4, r5⟩ := group_res s d B hB alt ih (stAt st (st.at_ + 1)) st.at_ ⟨hb, by show st.at_ + 1 ≤ _; omega, hop, h.deep⟩
   exact ⟨r1, fun hb2 => by
    obtain ⟨g1, g2, g3⟩ := r2 hb2
    have g1' : st.at_ + 1 < _ := g1
    exact ⟨by omega, g2, g3⟩, r3, r4, r5⟩
  ·split
   ·exact one _ _
   ·split
    ·cases hbr : bracketF s ((st.at_ + 1 : Nat) : Int) with
     | none => exact ⟨pcLeaf_ok _ _, fun hb => absurd hb (fault_bad _ _ _ (by decide)), Nat.zero_le _, by show (stFault _ _ _).op ≤ _; rw [fault_op]; omega, by show st.op ≤ (stFault _ _ _).op; rw [fault_op]; exact Nat.le_refl _⟩
     | some r =>
      obtain ⟨m, e⟩ := r
      have := bracketF_bd s _ m e hbr
      exact ⟨pcLeaf_ok _ _, fun _ => ⟨by show st.at_ < e; omega, by show e ≤ _; omega, rfl⟩, by show e ≤ _; omega, by show st.op ≤ 11; omega, Nat.le_refl _⟩
    ·split
     ·exact one _ _
     ·split
      ·exact one _ _
      ·split
       ·obtain ⟨e1, e2, e3, _⟩ := esc_res s (stAt st (st.at_ + 1)) hb (by show st.at_ + 1 ≤ _; omega)
        exact ⟨pcLeaf_ok _ _, fun hb2 => by
         obtain ⟨g1, g2⟩ := e1 hb2
         have g1' : st.at_ + 1 ≤ _ := g1
         exact ⟨Nat.lt_of_lt_of_le (Nat.lt_succ_self _) g1', g2, e3⟩, by show (escF _ _).2.at_ ≤ _; omega, by show (escF _ _).2.op ≤ _; rw [e3]; show st.op ≤ 11; omega, by show st.op ≤ (escF _ _).2.op; rw [e3]; exact Nat.le_refl _⟩
       ·split
        ·exact ⟨pcLeaf_ok _ _, fun hb => absurd hb (fault_bad _ _ _ (by decide)), by show (stFault _ _ _).at_ ≤ _; rw [fault_at]; show st.at_ + 1 ≤ _; omega, by show (stFault _ _ _).op ≤ _; rw [fault_op]; show st.op ≤ _; omega, by show st.op ≤ (stFault _ _ _).op; rw [fault_op]; exact Nat.le_refl _⟩
        ·exact one _ _
theorem piece_res (s : List UInt8) (d B : Nat) (hB : 6 ≤ B) (alt : St → Pc × St) (ih : Reads_ s d B alt) : Reads_ s (d + 1) (B + 1) (pieceF s alt) := by
 intro st h
 obtain ⟨r1, r2, r3, r4, r5⟩ := atom_res s d B hB alt ih st h
 unfold pieceF
 exact signs_res s s.length (B + 1) rfl (by omega) _ _ _ st r1 r2 r3 r4 r5
theorem piecesL_res (s : List UInt8) (d B : Nat) (piece : St → Pc × St) (ih : Reads_ s d B piece) : ∀ (f : Nat) (l : List Pc) (st st0 : St), (∀ p ∈ l, PcOk p) → l ≠ [] → (st.bad = 0 → st0.at_ < st.at_ ∧ st.at_ ≤ s.length ∧ st.op = st0.op) → st.at_ ≤ s.length + B → st.op ≤ 11 → st0.op ≤ 10 → 11 ≤ d + st0.op → st0.op ≤ st.op →
  (∀ p ∈ (piecesL s piece f l st).1, PcOk p) ∧ (piecesL s piece f l st).1 ≠ [] ∧ ((piecesL s piece f l st).2.bad = 0 → st0.at_ < (piecesL s piece f l st).2.at_ ∧ (piecesL s piece f l st).2.at_ ≤ s.length ∧ (piecesL s piece f l st).2.op = st0.op) ∧ (piecesL s piece f l st).2.at_ ≤ s.length + B ∧ (piecesL s piece f l st).2.op ≤ 11 ∧ st0.op ≤ (piecesL s piece f l st).2.op
 | 0, l, st, st0, hl, hn, hg, hb, ho, _, _, hol => by rw [piecesL]; exact ⟨hl, hn, hg, hb, ho, hol⟩
 | f + 1, l, st, st0, hl, hn, hg, hb, ho, ho2, hd, hol => by
  rw [piecesL]
  by_cases hc : st.bad = 0 ∧ st.at_ < s.length ∧ isAt s st.at_ 124 = false ∧ isAt s st.at_ 41 = false
  ·rw [if_pos hc]
   obtain ⟨g1, g2, g3⟩ := hg hc.1
   obtain ⟨r1, r2, r3, r4, r5⟩ := ih st ⟨hc.1, g2, by omega, by omega⟩
   exact piecesL_res s d B piece ih f _ _ st0 (fun p hp => by
    rcases List.mem_append.1 hp with h | h
    ·exact hl p h
    ·rw [List.mem_singleton.1 h]; exact r1) (by simp) (fun hb2 => by
    obtain ⟨q1, q2, q3⟩ := r2 hb2
    exact ⟨by omega, q2, by omega⟩) r3 r4 ho2 hd (Nat.le_trans hol r5)
  ·rw [if_neg hc]; exact ⟨hl, hn, hg, hb, ho, hol⟩
theorem pieces_res (s : List UInt8) (d B : Nat) (piece : St → Pc × St) (ih : Reads_ s d B piece) : Reads_ s d B (piecesF s piece) := by
 intro st h
 obtain ⟨r1, r2, r3, r4, r5⟩ := ih st h
 obtain ⟨a, _, c, e, f, g⟩ := piecesL_res s d B piece ih (s.length + 2) [(piece st).1] (piece st).2 st (fun p hp => by rw [List.mem_singleton.1 hp]; exact r1) (by simp) r2 r3 r4 h.op h.deep r5
 exact ⟨pcRow_ok 2 a, c, e, f, g⟩
theorem altL_res (s : List UInt8) (d B : Nat) (pieces : St → Pc × St) (ih : Reads_ s d B pieces) : ∀ (f : Nat) (l : List Pc) (st st0 : St), (∀ p ∈ l, PcOk p) → l ≠ [] → (st.bad = 0 → st0.at_ < st.at_ ∧ st.at_ ≤ s.length ∧ st.op = st0.op) → st.at_ ≤ s.length + B → st.op ≤ 11 → st0.op ≤ 10 → 11 ≤ d + st0.op → st0.op ≤ st.op →
  (∀ p ∈ (altL s pieces f l st).1, PcOk p) ∧ (altL s pieces f l st).1 ≠ [] ∧ ((altL s pieces f l st).2.bad = 0 → st0.at_ < (altL s pieces f l st).2.at_ ∧ (altL s pieces f l st).2.at_ ≤ s.length ∧ (altL s pieces f l st).2.op = st0.op) ∧ (altL s pieces f l st).2.at_ ≤ s.length + B ∧ (altL s pieces f l st).2.op ≤ 11 ∧ st0.op ≤ (altL s pieces f l st).2.op
 | 0, l, st, st0, hl, hn, hg, hb, ho, _, _, hol => by rw [altL]; exact ⟨hl, hn, hg, hb, ho, hol⟩
 | f + 1, l, st, st0, hl, hn, hg, hb, ho, ho2, hd, hol => by
  rw [altL]
  by_cases hc : st.bad = 0 ∧ isAt s st.at_ 124 = true
  ·rw [if_pos hc]
   obtain ⟨g1, g2, g3⟩ := hg hc.1
   have hlt := isAt_lt hc.2
   obtain ⟨r1, r2, r3, r4, r5⟩ := ih (stAt st (st.at_ + 1)) ⟨hc.1, by show st.at_ + 1 ≤ _; omega, by show st.op ≤ 10; omega, by show 11 ≤ d + st.op; omega⟩
   exact altL_res s d B pieces ih f _ _ st0 (fun p hp => by
    rcases List.mem_append.1 hp with h | h
    ·exact hl p h
    ·rw [List.mem_singleton.1 h]; exact r1) (by simp) (fun hb2 => by
    obtain ⟨q1, q2, q3⟩ := r2 hb2
    have q1' : st.at_ + 1 < _ := q1
    have q3' : _ = st.op := q3
    exact ⟨by omega, q2, by omega⟩) r3 r4 ho2 hd (Nat.le_trans hol r5)
  ·rw [if_neg hc]; exact ⟨hl, hn, hg, hb, ho, hol⟩
theorem altG_res (s : List UInt8) (d B : Nat) (pieces : St → Pc × St) (ih : Reads_ s d B pieces) : Reads_ s d B (altG s pieces) := by
 intro st h
 obtain ⟨r1, r2, r3, r4, r5⟩ := ih st h
 obtain ⟨a, _, c, e, f, g⟩ := altL_res s d B pieces ih (s.length + 2) [(pieces st).1] (pieces st).2 st (fun p hp => by rw [List.mem_singleton.1 hp]; exact r1) (by simp) r2 r3 r4 h.op h.deep r5
 exact ⟨pcRow_ok 3 a, c, e, f, g⟩
theorem alt_res (s : List UInt8) : ∀ d, Reads_ s d (6 + d) (altF s d)
 | 0, st, h => by have := h.deep; have := h.op; omega
 | d + 1, st, h => by
  rw [altF]
  exact altG_res s (d + 1) (6 + d + 1) _ (pieces_res s (d + 1) (6 + d + 1) _ (piece_res s d (6 + d) (by omega) _ (alt_res s d))) st h
end Go.Proofs.YtmkddhkpeiajhaaGreatDoor
