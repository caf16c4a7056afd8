/-
  The contract of nfa's reach: a state, and all that it leads to without a byte.
-/
import Derived.Test.YtmkddhkpeiajhaaRunW
namespace Go.Proofs.Ytmkddhkpeiajhaa
open Go.RowKit

section
variable {w w' w1 : World} {base g gr gs : Nat} {S : ByteArray} {vn : Value} {seen : List Nat} {A : Option Addr} {n c : Nat} {next : List (Nat × Nat)}
theorem RunW.fr {p : Nat → Prop} (h : RunW w base g gr gs S vn seen A n c next) (hf : Fr w w' p) (h1 : ¬ p gr) (h2 : ¬ p gs) (h3 : ∀ k, ob A = some k → ¬ p k) : RunW w' base g gr gs S vn seen A n c next := by
  obtain ⟨⟨ns, cs, hB, ho⟩, hr⟩ := h
  exact ⟨⟨ns, cs, hB.fr hf h1, ho.fr hf (fun k hk => by injection hk with hk; subst hk; exact h2)⟩, hr.fr hf h3⟩
theorem RunW.later (h : RunW w base g gr gs S vn seen A n c next) (hl : Later w w') : RunW w' base g gr gs S vn seen A n c next := h.fr (Fr.laterF hl) (fun h => h) (fun h => h) (fun _ _ h => h)
theorem RunW.ty (h : RunW w base g gr gs S vn seen A n c next) : (∃ cs, Blk w gr 94 cs) ∧ (∃ cs, Blk w gs 3 cs) ∧ (∀ k, ob A = some k → ∃ cs, Blk w k 97 cs) := by
  obtain ⟨⟨ns, cs, hB, ho⟩, hr⟩ := h
  exact ⟨⟨_, hB⟩, (ho.blk (k := gs) rfl).2.2, fun k hk => (hr.blk hk).2.2⟩
/-- a block of numbers that is not the marks' is not the run's -/
theorem RunW.grown (h : RunW w base g gr gs S vn seen A n c next) {A8 : Option Addr} (hg : w.grownBy w' (ob A8)) (h8 : ∀ k, ob A8 = some k → k ≠ gs ∧ ∃ cs, Blk w k 3 cs) : RunW w' base g gr gs S vn seen A n c next := by
  obtain ⟨⟨c1, hB1⟩, _, h3⟩ := h.ty
  refine h.fr (Fr.of_grown hg) (fun e => ?_) (fun e => (h8 _ e).1 rfl) (fun k hk e => ?_)
  · obtain ⟨_, cs, hB⟩ := h8 _ e
    exact Blk.ne_ hB1 hB (by decide) rfl
  · obtain ⟨_, cs, hB⟩ := h8 _ e
    obtain ⟨cs', hB'⟩ := h3 k hk
    exact Blk.ne_ hB' hB (by decide) rfl
/-- a state is marked -/
theorem RunW.mark (h : RunW w base g gr gs S vn seen A n c next) {s : Nat} (hs : s < seen.length) (v : Nat) : RunW (w.setCell ⟨gs, s, none⟩ (.int .i64 (v : Int))) base g gr gs S vn (seen.set s v) A n c next := by
  obtain ⟨⟨c1, hB1⟩, ⟨c2, hB2⟩, h3⟩ := h.ty
  obtain ⟨⟨ns, cs, hB, ho⟩, hr⟩ := h
  have hne : gr ≠ gs := fun e => by subst e; exact Blk.ne_ hB1 hB2 (by decide) rfl
  refine ⟨⟨ns, cs, hB.far (p := ⟨gs, s, none⟩) hne _, ho.set_ (by rw [← ho.1]; exact hs)⟩, hr.fr (Fr.set (Fr.refl w (fun k => k = gs)) (a := ⟨gs, s, none⟩) (fun _ => rfl) _) (fun k hk e => ?_)⟩
  obtain ⟨cs', hB'⟩ := h3 k hk
  subst e
  exact Blk.ne_ hB' hB2 (by decide) rfl
/-- the list is longer -/
theorem RunW.put (h : RunW w base g gr gs S vn seen A n c next) {A' : Option Addr} {n' c' : Nat} {next' : List (Nat × Nat)} (hg : w.grownBy w1 (ob A)) (ho : OwnW w1 base A' n' c' next') :
    (∃ cs, cs[4]? = some (Value.slice A n c) ∧ Blk w1 gr 94 cs) ∧ RunW (w1.setCell ⟨gr, 4, none⟩ (.slice A' n' c')) base g gr gs S vn seen A' n' c' next' := by
  obtain ⟨⟨c1, hB1⟩, ⟨c2, hB2⟩, h3⟩ := h.ty
  obtain ⟨⟨ns, cs, hB, hs⟩, hr⟩ := h
  have hn1 : ob A ≠ some gr := fun e => by obtain ⟨cs', hB'⟩ := h3 _ e; exact Blk.ne_ hB' hB1 (by decide) rfl
  have hn2 : ob A ≠ some gs := fun e => by obtain ⟨cs', hB'⟩ := h3 _ e; exact Blk.ne_ hB' hB2 (by decide) rfl
  have hne : gs ≠ gr := fun e => by subst e; exact Blk.ne_ hB1 hB2 (by decide) rfl
  have hB' := hB.grown hg (fun e => hn1 e.symm)
  have hs' : OwnS w1 base (some ⟨gs, 0, none⟩) ns cs seen := hs.fr (Fr.of_grown hg) (fun k hk e => by injection hk with hk; subst hk; exact hn2 e)
  have hset : Fr w1 (w1.setCell ⟨gr, 4, none⟩ (.slice A' n' c')) (fun k => k = gr) := Fr.set (Fr.refl w1 (fun k => k = gr)) (a := ⟨gr, 4, none⟩) (fun _ => rfl) _
  refine ⟨⟨_, rfl, hB'⟩, ⟨ns, cs, by simpa using hB'.set_ 4 (.slice A' n' c'), hs'.fr hset (fun k hk e => by injection hk with hk; exact hne (hk.trans e))⟩, ho.fr hset (fun k hk e => ?_)⟩
  obtain ⟨_, _, cs', hB''⟩ := ho.blk hk
  subst e
  exact Blk.ne_ hB'' hB' (by decide) rfl
end

/-- the frame at the label -/
def reachFr (gr p fr : Nat) (A8 : Option Addr) (n8 c8 : Nat) (u : Nat → Value) : Act := { tmps := #[.pointer (some ⟨gr, 0, none⟩), u 1, .int .i64 (p : Int), .int .i64 (fr : Int), u 4, u 5, u 6, u 7, .slice A8 n8 c8, u 9, u 10, u 11, u 12, u 13, u 14, u 15, u 16, u 17, u 18, u 19, u 20, u 21, u 22, u 23, u 24, u 25, u 26, u 27, u 28, u 29, u 30, u 31, u 32, u 33, u 34, u 35, u 36, u 37, u 38, u 39, u 40, u 41, u 42, u 43, u 44, u 45, u 46, u 47, u 48, u 49, u 50, u 51, u 52, u 53, u 54, u 55, u 56, u 57, u 58, u 59, u 60, u 61, u 62, u 63, u 64, u 65, u 66, u 67, u 68, u 69, u 70, u 71, u 72, u 73, u 74, u 75, u 76, u 77, u 78, u 79, u 80, u 81, u 82, u 83, u 84, u 85, u 86, u 87, u 88, u 89, u 90, u 91, u 92, u 93, u 94, u 95, u 96, u 97, u 98, u 99], defers := [] }
/-- what holds at the label -/
def ReachJ (w : World) (base g gr gs mb : Nat) (L : List NSt) (bg : Int) (S : ByteArray) (vn : Value) (p fr : Nat) (A : Option Addr) (R : List Nat × List (Nat × Nat)) (f : Nat) (a' : Act) (w' : World) : Prop :=
  ∃ (st seen : List Nat) (next : List (Nat × Nat)) (A8 : Option Addr) (n8 c8 : Nat) (Ax : Option Addr) (nx cx : Nat), a' = reachFr gr p fr A8 n8 c8 (fun i => a'.tmps.getD i undef) ∧
    OwnS w' w.heap.size A8 n8 c8 st.reverse ∧ RunW w' base g gr gs S vn seen Ax nx cx next ∧ MacW w' mb g L bg ∧ Fr w w' (InR gr gs A) ∧ NewOb w A Ax ∧
    Hid (reachF L S.size p fr f st seen next = R) ∧ 3 * unmk p seen + st.length < f ∧ f ≤ 100000 ∧ (∀ s ∈ st, s < L.length) ∧ seen.length = L.length ∧ next.length + unmk p seen ≤ 100000
theorem rev_last (s : Nat) (st : List Nat) : (s :: st).reverse[st.length]? = some s := by rw [List.reverse_cons, List.getElem?_append_right (by simp)]; simp
theorem rev_take (s : Nat) (st : List Nat) : (s :: st).reverse.take st.length = st.reverse := by rw [List.reverse_cons, List.take_append_of_le_length (by simp)]; rw [List.take_of_length_le (by simp)]
theorem inR_ty {w : World} {base g gr gs : Nat} {S : ByteArray} {vn : Value} {seen : List Nat} {A : Option Addr} {n c : Nat} {next : List (Nat × Nat)} (h : RunW w base g gr gs S vn seen A n c next) : ∀ k, InR gr gs A k → ∃ t cs, Blk w k t cs ∧ t ≠ 63 ∧ t ≠ 67 := by
  obtain ⟨⟨c1, hB1⟩, ⟨c2, hB2⟩, h3⟩ := h.ty
  rintro k (rfl | rfl | hk)
  · exact ⟨_, _, hB1, by decide, by decide⟩
  · exact ⟨_, _, hB2, by decide, by decide⟩
  · obtain ⟨cs, hB⟩ := h3 k hk
    exact ⟨_, _, hB, by decide, by decide⟩
theorem unmk_le (p : Nat) (seen : List Nat) : unmk p seen ≤ seen.length := List.countP_le_length


set_option maxRecDepth 100000 in
set_option maxHeartbeats 8000000 in
theorem reach_any (w : World) (base g gr gs mb : Nat) (L : List NSt) (bg : Int) (S : ByteArray) (vn : Value) (p fr s0 : Nat) (seen0 : List Nat) (A : Option Addr) (n c : Nat) (next0 : List (Nat × Nat)) (R : List Nat × List (Nat × Nat))
    (hM0 : MacW w mb g L bg) (hW : WfM L) (hR0 : RunW w base g gr gs S vn seen0 A n c next0) (hs0 : s0 < L.length) (hlen0 : seen0.length = L.length) (hp : p ≤ 1000000000) (hfr : fr ≤ 1000000000) (hL : L.length ≤ 20000) (hN0 : next0.length + unmk p seen0 ≤ 100000) (hbase : base ≤ w.heap.size)
    (hS : S.size ≤ 1000000000) (hres : reachF L S.size p fr (fuelF L) [s0] seen0 next0 = R) :
    Calls Try.prog 37 #[.pointer (some ⟨gr, 0, none⟩), .int .i64 (s0 : Int), .int .i64 (p : Int), .int .i64 (fr : Int)] w fun e w' => e = .returned (.tuple #[]) ∧ Reached w base g gr gs S vn A R w' := by
  have hgs : gs < w.heap.size := by obtain ⟨_, ⟨cs, h⟩, _⟩ := hR0.ty; exact h.lt
  have HW := Lib.hid hW
  have HRES := Lib.hid hres
  have hfu : fuelF L ≤ 100000 := by unfold fuelF; omega
  have hfu2 : 3 * unmk p seen0 + 1 < fuelF L := by have := unmk_le p seen0; unfold fuelF; omega
  clear hW hres
  go_enter Try.func37, Try.ntmps37
  go_wp2_with fail
  refine wp_scope_rank 0 (ReachJ w base g gr gs mb L bg S vn p fr A R) rfl ?_ ?_
  · intro hpass
    go_wp2_with fail
    go_step3
    rename_i kk
    refine kk _ _ (hpass _ _ _ ⟨[s0], seen0, next0, _, _, _, A, n, c, rfl, OwnS.one w (Nat.le_refl _) s0, hR0.later ((Later.refl w).alloc _), hM0.later ((Later.refl w).alloc _), (Fr.refl w _).alloc _, fun k hk => .inl hk, HRES, hfu2, hfu, fun s hs => by rw [List.mem_singleton] at hs; omega, hlen0, hN0⟩)
  · clear hM0 hR0 hlen0 hN0 HRES hfu hfu2 hs0
    rintro f a' w' ⟨st, seen, next, A8, n8, c8, Ax, nx, cx, ha, hst, hrun, hM, hF, hnew, hres, hf1, hf2, hin, hlen, hnx⟩
    generalize (fun i => a'.tmps.getD i undef) = u at ha
    subst ha
    unfold reachFr
    obtain ⟨f, rfl⟩ : ∃ f', f = f' + 1 := ⟨f - 1, by omega⟩
    rcases st with _ | ⟨s, st⟩
    · have hn8 : n8 = 0 := by have := hst.1; simpa using this.symm
      subst hn8
      have HR : Hid (R = (seen, next)) := Lib.hid (by rw [← hres.out, reachF])
      clear hres hf1 hf2
      go_wp2_with fail
      simp only [Exit.jump]
      refine bodyPost_ret (v := .tuple #[]) (by simp [results, Try.results37, go_sem]) rfl ⟨rfl, ?_⟩
      rw [HR.out]
      exact ⟨Ax, nx, cx, hrun, hF, hnew⟩
    · have hn8 : n8 = st.length + 1 := by have := hst.1; simp at this; omega
      obtain ⟨m, hm⟩ : ∃ m, m = st.length := ⟨_, rfl⟩
      subst hn8
      obtain ⟨g8, rfl, hg8, hg8b, hc8, _⟩ := hst.at_ (rev_last s st)
      have hcap := hst.cap
      have hst1 : OwnS w' w.heap.size (some ⟨g8, 0, none⟩) m c8 st.reverse := by
        have := hst.cut (m := st.length) (by omega) (by simp)
        rw [rev_take, ← hm] at this
        exact this
      rw [← hm] at hc8 hcap ⊢
      have hs : s < L.length := hin s (List.mem_cons_self ..)
      have hin' : ∀ t ∈ st, t < L.length := fun t ht => hin t (List.mem_cons_of_mem _ ht)
      have hm1 : m ≤ 100000 := by simp only [List.length_cons] at hf1; omega
      obtain ⟨⟨ns, cs, hB, ho⟩, hrw⟩ := id hrun
      obtain ⟨v, hv⟩ : ∃ v, seen[s]? = some v := ⟨_, List.getElem?_eq_getElem (by omega)⟩
      obtain ⟨_, hgs', _, _, hsv, hsf⟩ := ho.at_ hv
      injection hgs' with hgs'
      injection hgs' with hgs'
      subst hgs'
      have hns : seen.length = ns := ho.1
      have hsn : s < ns := by omega
      have k0 := hB.cell 0
      have k1 := hB.cell 1
      have k2 := hB.cell 2
      have hsni : (s : Int) < (ns : Int) := by omega
      have hf1' := hf1
      simp only [List.length_cons] at hf1'
      have hm' : st.length = m := hm.symm
      rw [hm'] at hf1'
      have HM := Lib.hid hm
      clear hst hin hm hm' hf1
      by_cases hk : v = p + 1
      · have hvi : ((v : Int) == (p : Int) + 1) = true := by rw [beq_iff_eq]; omega
        have HR : Hid (reachF L S.size p fr f st seen next = R) := by
          show _ = _
          rw [← hres.out, reachF, if_pos (by rw [hv, hk])]
        clear hres hk hv
        go_wp2_with fail
        go_step3
        refine ⟨rfl, f, Nat.lt_succ_self _, st, seen, next, _, _, _, Ax, nx, cx, rfl, hst1, hrun, hM, hF, hnew, HR, by rw [← HM.out]; omega, by omega, hin', hlen, hnx⟩
      · have hvi : ((v : Int) == (p : Int) + 1) = false := by rw [beq_eq_false_iff_ne]; omega
        obtain ⟨nd, hnd⟩ : ∃ nd, L[s]? = some nd := ⟨_, List.getElem?_eq_getElem hs⟩
        have hwf := HW.out s nd hnd
        have hnk : ¬ seen[s]? = some (p + 1) := by rw [hv]; intro h; injection h with h; exact hk h
        have hst' : reachF L S.size p fr (f + 1) (s :: st) seen next = R := hres.out
        rw [reachF, if_neg hnk, hnd] at hst'
        simp only at hst'
        have hu : unmk p (seen.set s (p + 1)) + 1 = unmk p seen := unmk_set hv hk
        have hslt : s < seen.length := by omega
        obtain ⟨W2, hW2⟩ : ∃ W2, W2 = w'.setCell ⟨gs, s, none⟩ (.int .i64 ((p : Int) + 1)) := ⟨_, rfl⟩
        have hFset : Fr w' W2 (fun k => k = gs) := by rw [hW2]; exact Fr.set (Fr.refl w' (fun k => k = gs)) (a := ⟨gs, s, none⟩) (fun _ => rfl) _
        have hrun2 : RunW W2 base g gr gs S vn (seen.set s (p + 1)) Ax nx cx next := by rw [hW2]; exact hrun.mark hslt (p + 1)
        have hst2 : OwnS W2 w.heap.size (some ⟨g8, 0, none⟩) m c8 st.reverse := hst1.fr hFset (fun k hk' e => by injection hk' with hk'; have hk' : g8 = k := hk'; omega)
        have hM2 : MacW W2 mb g L bg := hM.fr hFset (fun k e => by obtain ⟨_, ⟨cs', hB'⟩, _⟩ := hrun.ty; subst e; exact ⟨_, cs', hB', by decide, by decide⟩)
        have hF2 : Fr w W2 (InR gr gs A) := hF.trans hFset (fun k _ e => .inr (.inl e))
        obtain ⟨MA, MN, MC, hMB, hMo⟩ := id hM2
        obtain ⟨bm, om, hMA, hbm, e0, e1, e2, e3, e4, e5, e6⟩ := hMo.seven hnd
        have hMn : L.length = MN := hMo.1
        have hMni : (s : Int) < (MN : Int) := by omega
        have q0 := hMB.cell 0
        obtain ⟨⟨ns2, cs2, hB2, ho2⟩, hrw2⟩ := id hrun2
        have j0 := hB2.cell 0
        have hgrW : gr < W2.heap.size := hB2.lt
        have j1 := hB2.cell 1
        have j4 := hB2.cell 4
        have hlen2 : (seen.set s (p + 1)).length = L.length := by rw [List.length_set]; exact hlen
        have hnx2 : next.length + unmk p (seen.set s (p + 1)) ≤ 100000 := by omega
        have hnx3 : next.length + 1 + unmk p (seen.set s (p + 1)) ≤ 100000 := by omega
        have hb2 : w.heap.size ≤ W2.heap.size := hF2.size
        have hg8W : g8 < W2.heap.size := by have := hFset.size; omega
        have HU := Lib.hid hu
        have hnxl : nx ≤ 100000 := by have := hrw2.1; omega
        have hbsW : base ≤ W2.heap.size := Nat.le_trans hbase hb2
        obtain ⟨kd, ⟨w0, w1, w2, w3⟩, na, nb⟩ := nd
        simp only at hst' hwf e0 e1 e2 e3 e4 e5 e6
        subst hMA
        clear hnk hnd hv hk hres hrun hst1 hM hF hMo hMB hlen hnx hns hslt
        go_upto_region 6 with fail
        rw [← hW2]
        clear hW2 k0 k1 k2 hsv hsf hB ho hrw
        by_cases h1 : kd = 1
        · subst h1
          have HR : Hid (reachF L S.size p fr f (na :: nb :: st) (seen.set s (p + 1)) next = R) := by rw [if_pos rfl] at hst'; exact Lib.hid hst'
          clear hst'
          go_wp2_with (at_builtin; go_loud (refine wpList_append_s _ rfl (.tmp 70) (.tmp 75) rfl w.heap.size _ m c8 st.reverse rfl (hst2.later (((Later.refl W2).alloc _).alloc _)) 2 [nb, na] _ _ (by decide) rfl (reads_nat2 _ _ _ _ (by simp)) (by omega) (by omega) (by simp; omega) ?_); intro A9 n9 c9 w9 hn9 hown9 hg9 hob9; have hn9 := Lib.hid hn9)
          go_step3
          have hl2 : Later W2 ((W2.alloc (.cells #[.int .i64 1, .int .u64 (w0 : Int), .int .u64 (w1 : Int), .int .u64 (w2 : Int), .int .u64 (w3 : Int), .int .i64 (na : Int), .int .i64 (nb : Int)] 67)).alloc (.cells #[.int .i64 (nb : Int), .int .i64 (na : Int)] 3)) := ((Later.refl W2).alloc _).alloc _
          have h8t : ∀ k, ob (some ⟨g8, 0, none⟩ : Option Addr) = some k → k ≠ gs ∧ ∃ cs, Blk ((W2.alloc (.cells #[.int .i64 1, .int .u64 (w0 : Int), .int .u64 (w1 : Int), .int .u64 (w2 : Int), .int .u64 (w3 : Int), .int .i64 (na : Int), .int .i64 (nb : Int)] 67)).alloc (.cells #[.int .i64 (nb : Int), .int .i64 (na : Int)] 3)) k 3 cs := fun k hk => ⟨by injection hk with hk; have hk : g8 = k := hk; omega, (hst2.later hl2).blk hk |>.2.2⟩
          refine ⟨rfl, f, Nat.lt_succ_self _, na :: nb :: st, seen.set s (p + 1), next, _, _, _, Ax, nx, cx, rfl, ?_, (hrun2.later hl2).grown hg9 h8t, (hM2.later hl2).fr (Fr.of_grown hg9) (fun k hk => ?_), ((hF2.trans (Fr.laterF hl2) (fun _ _ h => h.elim)).grown hg9 (fun k hk e => ?_)), hnew, HR, ?_, by omega, fun t ht => ?_, hlen2, hnx2⟩
          · rw [List.reverse_cons, List.reverse_cons, List.append_assoc]; rw [← hn9.out]; exact hown9
          · obtain ⟨_, cs, hB⟩ := h8t k hk; exact ⟨_, cs, hB, by decide, by decide⟩
          · injection e with e; have e : g8 = k := e; omega
          · simp only [List.length_cons]; have := HU.out; have := HM.out; omega
          · rcases List.mem_cons.1 ht with rfl | ht
            · exact hwf.1
            · rcases List.mem_cons.1 ht with rfl | ht
              · exact hwf.2.1
              · exact hin' t ht
        · by_cases h2 : kd = 2
          · subst h2
            rw [if_neg (by omega), if_pos rfl] at hst'
            rcases Nat.eq_zero_or_pos p with hp0 | hp0
            · subst hp0
              have HR : Hid (reachF L S.size 0 fr f (na :: st) (seen.set s (0 + 1)) next = R) := by rw [if_pos rfl] at hst'; exact Lib.hid hst'
              clear hst'
              go_wp2_with (at_builtin; go_loud (refine wpList_append_s _ rfl (.tmp 81) (.tmp 84) rfl w.heap.size _ m c8 st.reverse rfl (hst2.later (((Later.refl W2).alloc _).alloc _)) 1 [na] _ _ (by decide) rfl (reads_nat1 _ _ _ (by simp)) (by omega) (by omega) (by simp; omega) ?_); intro A9 n9 c9 w9 hn9 hown9 hg9 hob9; have hn9 := Lib.hid hn9)
              go_step3
              have hl2 : Later W2 ((W2.alloc (.cells #[.int .i64 2, .int .u64 (w0 : Int), .int .u64 (w1 : Int), .int .u64 (w2 : Int), .int .u64 (w3 : Int), .int .i64 (na : Int), .int .i64 (nb : Int)] 67)).alloc (.cells #[.int .i64 (na : Int)] 3)) := ((Later.refl W2).alloc _).alloc _
              have h8t : ∀ k, ob (some ⟨g8, 0, none⟩ : Option Addr) = some k → k ≠ gs ∧ ∃ cs, Blk ((W2.alloc (.cells #[.int .i64 2, .int .u64 (w0 : Int), .int .u64 (w1 : Int), .int .u64 (w2 : Int), .int .u64 (w3 : Int), .int .i64 (na : Int), .int .i64 (nb : Int)] 67)).alloc (.cells #[.int .i64 (na : Int)] 3)) k 3 cs := fun k hk => ⟨by injection hk with hk; have hk : g8 = k := hk; omega, (hst2.later hl2).blk hk |>.2.2⟩
              refine ⟨rfl, f, Nat.lt_succ_self _, na :: st, seen.set s (0 + 1), next, _, _, _, Ax, nx, cx, rfl, ?_, (hrun2.later hl2).grown hg9 h8t, (hM2.later hl2).fr (Fr.of_grown hg9) (fun k hk => ?_), ((hF2.trans (Fr.laterF hl2) (fun _ _ h => h.elim)).grown hg9 (fun k hk e => ?_)), hnew, HR, ?_, by omega, fun t ht => ?_, hlen2, hnx2⟩
              · rw [List.reverse_cons]; rw [← hn9.out]; exact hown9
              · obtain ⟨_, cs, hB⟩ := h8t k hk; exact ⟨_, cs, hB, by decide, by decide⟩
              · injection e with e; have e : g8 = k := e; omega
              · simp only [List.length_cons]; have := HU.out; have := HM.out; omega
              · rcases List.mem_cons.1 ht with rfl | ht
                · exact hwf.1
                · exact hin' t ht
            · have hp0i : ((p : Int) == 0) = false := by rw [beq_eq_false_iff_ne]; omega
              have HR : Hid (reachF L S.size p fr f st (seen.set s (p + 1)) next = R) := by rw [if_neg (by omega)] at hst'; exact Lib.hid hst'
              clear hst'
              go_wp2_with fail
              go_step3
              have hl2 : Later W2 (W2.alloc (.cells #[.int .i64 2, .int .u64 (w0 : Int), .int .u64 (w1 : Int), .int .u64 (w2 : Int), .int .u64 (w3 : Int), .int .i64 (na : Int), .int .i64 (nb : Int)] 67)) := (Later.refl W2).alloc _
              exact ⟨rfl, f, Nat.lt_succ_self _, st, seen.set s (p + 1), next, _, _, _, Ax, nx, cx, rfl, hst2.later hl2, hrun2.later hl2, hM2.later hl2, hF2.trans (Fr.laterF hl2) (fun _ _ h => h.elim), hnew, HR, by have := HU.out; have := HM.out; omega, by omega, hin', hlen2, hnx2⟩
          · by_cases h3 : kd = 3
            · subst h3
              rw [if_neg (by omega), if_neg (by omega), if_pos rfl] at hst'
              by_cases hpS : p = S.size
              · have hpSi : ((p : Int) == (S.size : Int)) = true := by rw [beq_iff_eq]; omega
                have HR : Hid (reachF L S.size p fr f (na :: st) (seen.set s (p + 1)) next = R) := by rw [if_pos hpS] at hst'; exact Lib.hid hst'
                clear hst' hpS
                go_wp2_with (at_builtin; go_loud (refine wpList_append_s _ rfl (.tmp 95) (.tmp 98) rfl w.heap.size _ m c8 st.reverse rfl (hst2.later (((Later.refl W2).alloc _).alloc _)) 1 [na] _ _ (by decide) rfl (reads_nat1 _ _ _ (by simp)) (by omega) (by omega) (by simp; omega) ?_); intro A9 n9 c9 w9 hn9 hown9 hg9 hob9; have hn9 := Lib.hid hn9)
                go_step3
                have hl2 : Later W2 ((W2.alloc (.cells #[.int .i64 3, .int .u64 (w0 : Int), .int .u64 (w1 : Int), .int .u64 (w2 : Int), .int .u64 (w3 : Int), .int .i64 (na : Int), .int .i64 (nb : Int)] 67)).alloc (.cells #[.int .i64 (na : Int)] 3)) := ((Later.refl W2).alloc _).alloc _
                have h8t : ∀ k, ob (some ⟨g8, 0, none⟩ : Option Addr) = some k → k ≠ gs ∧ ∃ cs, Blk ((W2.alloc (.cells #[.int .i64 3, .int .u64 (w0 : Int), .int .u64 (w1 : Int), .int .u64 (w2 : Int), .int .u64 (w3 : Int), .int .i64 (na : Int), .int .i64 (nb : Int)] 67)).alloc (.cells #[.int .i64 (na : Int)] 3)) k 3 cs := fun k hk => ⟨by injection hk with hk; have hk : g8 = k := hk; omega, (hst2.later hl2).blk hk |>.2.2⟩
                refine ⟨rfl, f, Nat.lt_succ_self _, na :: st, seen.set s (p + 1), next, _, _, _, Ax, nx, cx, rfl, ?_, (hrun2.later hl2).grown hg9 h8t, (hM2.later hl2).fr (Fr.of_grown hg9) (fun k hk => ?_), ((hF2.trans (Fr.laterF hl2) (fun _ _ h => h.elim)).grown hg9 (fun k hk e => ?_)), hnew, HR, ?_, by omega, fun t ht => ?_, hlen2, hnx2⟩
                · rw [List.reverse_cons]; rw [← hn9.out]; exact hown9
                · obtain ⟨_, cs, hB⟩ := h8t k hk; exact ⟨_, cs, hB, by decide, by decide⟩
                · injection e with e; have e : g8 = k := e; omega
                · simp only [List.length_cons]; have := HU.out; have := HM.out; omega
                · rcases List.mem_cons.1 ht with rfl | ht
                  · exact hwf.1
                  · exact hin' t ht
              · have hpSi : ((p : Int) == (S.size : Int)) = false := by rw [beq_eq_false_iff_ne]; omega
                have HR : Hid (reachF L S.size p fr f st (seen.set s (p + 1)) next = R) := by rw [if_neg hpS] at hst'; exact Lib.hid hst'
                clear hst' hpS
                go_wp2_with fail
                go_step3
                have hl2 : Later W2 (W2.alloc (.cells #[.int .i64 3, .int .u64 (w0 : Int), .int .u64 (w1 : Int), .int .u64 (w2 : Int), .int .u64 (w3 : Int), .int .i64 (na : Int), .int .i64 (nb : Int)] 67)) := (Later.refl W2).alloc _
                exact ⟨rfl, f, Nat.lt_succ_self _, st, seen.set s (p + 1), next, _, _, _, Ax, nx, cx, rfl, hst2.later hl2, hrun2.later hl2, hM2.later hl2, hF2.trans (Fr.laterF hl2) (fun _ _ h => h.elim), hnew, HR, by have := HU.out; have := HM.out; omega, by omega, hin', hlen2, hnx2⟩
            · have hk1 : ((kd : Int) == 1) = false := by rw [beq_eq_false_iff_ne]; omega
              have hk2 : ((kd : Int) == 2) = false := by rw [beq_eq_false_iff_ne]; omega
              have hk3 : ((kd : Int) == 3) = false := by rw [beq_eq_false_iff_ne]; omega
              have HR : Hid (reachF L S.size p fr f st (seen.set s (p + 1)) (next ++ [(s, fr)]) = R) := by rw [if_neg h1, if_neg h2, if_neg h3] at hst'; exact Lib.hid hst'
              clear hst' h1 h2 h3
              have hl2 : Later W2 ((W2.alloc (.cells #[.int .i64 (kd : Int), .int .u64 (w0 : Int), .int .u64 (w1 : Int), .int .u64 (w2 : Int), .int .u64 (w3 : Int), .int .i64 (na : Int), .int .i64 (nb : Int)] 67)).alloc (.cells #[.int .i64 (s : Int), .int .i64 (fr : Int)] 97)) := ((Later.refl W2).alloc _).alloc _
              have hrwl := hrw2.later hl2
              go_wp2_with (at_builtin; go_loud (refine wpList_append_w _ rfl (.tmp 60) (.tmp 64) rfl base Ax nx cx next rfl hrwl (s, fr) _ _ rfl (reads_wk _ _ _ _ (by simp)) (by omega) (by simp; omega) ?_); intro A9 n9 c9 w9 hn9 hown9 hg9 hob9; have hput := (hrun2.later hl2).put hg9 hown9; have hn9 := Lib.hid hn9; obtain ⟨⟨cs9, hc9, hB9⟩, hput2⟩ := hput; have y9 := hB9.frozen 4; have y8 := (hB9.cell 4).trans hc9)
              go_step3
              have hn9' := hn9.out
              subst hn9'
              have hsto := hst2.later hl2
              have hMl := hM2.later hl2
              have hwt : ∀ k, ob Ax = some k → ∃ cs, Blk ((W2.alloc (.cells #[.int .i64 (kd : Int), .int .u64 (w0 : Int), .int .u64 (w1 : Int), .int .u64 (w2 : Int), .int .u64 (w3 : Int), .int .i64 (na : Int), .int .i64 (nb : Int)] 67)).alloc (.cells #[.int .i64 (s : Int), .int .i64 (fr : Int)] 97)) k 97 cs := fun k hk => (hrwl.blk hk).2.2
              have hset : Fr w9 (w9.setCell ⟨gr, 4, none⟩ (.slice A9 (nx + 1) c9)) (fun k => k = gr) := Fr.set (Fr.refl w9 (fun k => k = gr)) (a := ⟨gr, 4, none⟩) (fun _ => rfl) _
              have hst9 : OwnS w9 w.heap.size (some ⟨g8, 0, none⟩) m c8 st.reverse := hsto.fr (Fr.of_grown hg9) (fun k hk e => by
                obtain ⟨_, _, cs, hB⟩ := hsto.blk hk
                obtain ⟨cs', hB'⟩ := hwt k e
                exact Blk.ne_ hB hB' (by decide) rfl)
              have hM9 : MacW w9 mb g L bg := hMl.fr (Fr.of_grown hg9) (fun k hk => by obtain ⟨cs, hB⟩ := hwt k hk; exact ⟨_, cs, hB, by decide, by decide⟩)
              have hF9 : Fr w w9 (InR gr gs A) := (hF2.trans (Fr.laterF hl2) (fun _ _ h => h.elim)).grown hg9 (fun k hk e => (hnew k e).elim (fun h => .inr (.inr h)) (fun h => by omega))
              have hsz9 := hl2.size
              refine ⟨rfl, f, Nat.lt_succ_self _, st, seen.set s (p + 1), next ++ [(s, fr)], _, _, _, A9, nx + 1, c9, rfl, hst9.fr hset (fun k hk e => ?_), hput2, hM9.fr hset (fun k hk => by subst hk; exact ⟨_, cs9, hB9, by decide, by decide⟩), hF9.trans hset (fun _ _ e => .inl e), fun k hk => ?_, HR, by have := HU.out; have := HM.out; omega, by omega, hin', hlen2, by rw [List.length_append, List.length_singleton]; exact hnx3⟩
              · obtain ⟨_, _, cs, hB⟩ := hst9.blk hk
                subst e
                exact Blk.ne_ hB hB9 (by decide) rfl
              · rcases hob9 k hk with h | h
                · exact hnew k h
                · exact .inr (Nat.le_trans hb2 (Nat.le_trans hsz9 h))
end Go.Proofs.Ytmkddhkpeiajhaa
