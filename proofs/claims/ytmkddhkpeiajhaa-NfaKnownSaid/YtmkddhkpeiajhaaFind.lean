/-
  The contract of nfa's find.
-/
import Derived.Test.YtmkddhkpeiajhaaReach
import Derived.Test.YtmkddhkpeiajhaaFl
namespace Go.Proofs.Ytmkddhkpeiajhaa
open Go.RowKit

/-! ### plain -/
def stN (h : Option (Nat × Nat)) : Nat := match h with | some x => x.1 | none => 0
def enN (h : Option (Nat × Nat)) : Nat := match h with | some x => x.2 | none => 0
def HitB (m : Nat) (h : Option (Nat × Nat)) : Prop := stN h ≤ m ∧ enN h ≤ m
def InL (L : List NSt) (m : Nat) (next : List (Nat × Nat)) : Prop := ∀ u ∈ next, u.1 < L.length ∧ u.2 ≤ m
theorem reach_in (L : List NSt) (len p fr m : Nat) (hW : WfM L) (hfr : fr ≤ m) : ∀ (f : Nat) (st seen : List Nat) (next : List (Nat × Nat)), (∀ s ∈ st, s < L.length) → seen.length = L.length → InL L m next →
    (reachF L len p fr f st seen next).1.length = L.length ∧ InL L m (reachF L len p fr f st seen next).2
  | 0, _, _, _, _, h, h2 => ⟨h, h2⟩
  | f + 1, [], _, _, _, h, h2 => ⟨h, h2⟩
  | f + 1, s :: st, seen, next, hs, h, h2 => by
    unfold reachF
    have hs0 := hs s (List.mem_cons_self ..)
    have hst : ∀ t ∈ st, t < L.length := fun t ht => hs t (List.mem_cons_of_mem _ ht)
    have hl : (seen.set s (p + 1)).length = L.length := by rw [List.length_set, h]
    split
    · exact reach_in L len p fr m hW hfr f st seen next hst h h2
    · obtain ⟨n, hn⟩ : ∃ n, L[s]? = some n := ⟨_, List.getElem?_eq_getElem hs0⟩
      have hw := hW s n hn
      rw [hn]
      simp only
      split
      · exact reach_in L len p fr m hW hfr f _ _ next (fun t ht => by
          rcases List.mem_cons.1 ht with rfl | ht
          · exact hw.1
          · rcases List.mem_cons.1 ht with rfl | ht
            · exact hw.2.1
            · exact hst t ht) hl h2
      · split
        · exact reach_in L len p fr m hW hfr f _ _ next (fun t ht => by
            split at ht
            · rcases List.mem_cons.1 ht with rfl | ht
              · exact hw.1
              · exact hst t ht
            · exact hst t ht) hl h2
        · split
          · exact reach_in L len p fr m hW hfr f _ _ next (fun t ht => by
              split at ht
              · rcases List.mem_cons.1 ht with rfl | ht
                · exact hw.1
                · exact hst t ht
              · exact hst t ht) hl h2
          · refine reach_in L len p fr m hW hfr f st _ _ hst hl (fun u hu => ?_)
            rcases List.mem_append.1 hu with hu | hu
            · exact h2 u hu
            · rw [List.mem_singleton] at hu
              subst hu
              exact ⟨hs0, hfr⟩
/-- what reach leaves, in numbers -/
theorem reach_facts {L : List NSt} {len p fr m s0 N : Nat} {seen : List Nat} {next : List (Nat × Nat)} (hW : WfM L) (hfr : fr ≤ m) (hs : s0 < L.length) (hl : seen.length = L.length) (hi : InL L m next) (hN : next.length + unmk p seen ≤ N) :
    (reachF L len p fr (fuelF L) [s0] seen next).1.length = L.length ∧ InL L m (reachF L len p fr (fuelF L) [s0] seen next).2 ∧ (reachF L len p fr (fuelF L) [s0] seen next).2.length + unmk p (reachF L len p fr (fuelF L) [s0] seen next).1 ≤ N := by
  have hs' : ∀ s ∈ [s0], s < L.length := fun s h => by rw [List.mem_singleton] at h; rw [h]; exact hs
  have h1 := reach_in L len p fr m hW hfr (fuelF L) [s0] seen next hs' hl hi
  have h2 := reach_count L len p fr (fuelF L) [s0] seen next (fun s h => by rw [hl]; exact hs' s h) hW hl
  exact ⟨h1.1, h1.2, by omega⟩
theorem begin_facts {L : List NSt} {B m p most N : Nat} {x : List UInt8} {hit : Option (Nat × Nat)} {seen : List Nat} {next : List (Nat × Nat)} (hW : WfM L) (hp : p ≤ m) (hB : B < L.length) (hl : seen.length = L.length) (hi : InL L m next) (hN : next.length + unmk p seen ≤ N) :
    (beginF L B x most p hit seen next).1.length = L.length ∧ InL L m (beginF L B x most p hit seen next).2 ∧ (beginF L B x most p hit seen next).2.length + unmk p (beginF L B x most p hit seen next).1 ≤ N := by
  unfold beginF
  split
  · exact reach_facts hW hp hB hl hi hN
  · exact ⟨hl, hi, hN⟩
theorem hitF_b {L : List NSt} {p m : Nat} (hp : p ≤ m) : ∀ (l : List (Nat × Nat)) (h : Option (Nat × Nat)), (∀ u ∈ l, u.2 ≤ m) → HitB m h → HitB m (hitF L p l h)
  | [], h, _, hh => hh
  | u :: l, h, hu, hh => by
    rw [hitF]
    refine hitF_b hp l _ (fun v hv => hu v (List.mem_cons_of_mem _ hv)) ?_
    split
    · exact ⟨hu u (List.mem_cons_self ..), hp⟩
    · exact hh

/-! ### memory -/
theorem made_nats (n : Nat) (hn : n ≤ 1000000) : ∃ Z : Array Value, (∀ (w : World) (base : Nat), base ≤ w.heap.size → OwnS (w.alloc (.cells Z 3)) base (some ⟨w.heap.size, 0, none⟩) n n (List.replicate n 0)) ∧
    ∀ w : World, (Instr.makeSlice 91 (.int .i64 (n : Int)) (.int .i64 (n : Int))).run Try.prog w = .ok (.slice (some ⟨w.heap.size, 0, none⟩) n n) (w.alloc (.cells Z 3)) := by
  obtain ⟨i0, hi, hz0, hz1, hz2⟩ := info_parts num_info
  have hz : madeCells (Value.int .i64 0).cells n = (natL (List.replicate n 0)).toArray := by
    apply Array.ext'
    simp [madeCells, Value.cells, natL]
    refine List.ext_getElem (by simp) fun i h1 h2 => ?_
    simp [Nat.mod_one]
  refine ⟨madeCells (Value.int .i64 0).cells n, fun w base hb => ⟨List.length_replicate .., ?_⟩, fun w => ?_⟩
  · refine ⟨by unfold natL; simp, .inr ⟨w.heap.size, n, _, rfl, hb, Blk.new w _ _, Nat.le_refl _, by unfold maxLen; omega, ?_, ?_⟩⟩
    · rw [hz]; simp [natL]
    · rw [hz]; simp [natL]
  · have hr := run_make (P := Try.prog) w 91 3 i0 (.int .i64 0) Try.underlying91 hi hz0 .i64 .i64 n n (by omega) (Int.le_refl _) (by rw [hz2]; omega) (by omega)
    rw [hz1] at hr
    simpa using hr
theorem Later.inR {w w1 w2 : World} {g gr gs : Nat} {S : ByteArray} {vn : Value} {seen : List Nat} {A : Option Addr} {n c : Nat} {next : List (Nat × Nat)} (h : Later w w1) (hr : RunW w1 w.heap.size g gr gs S vn seen A n c next) (h1 : w.heap.size ≤ gr) (h2 : w.heap.size ≤ gs) (hf : Fr w1 w2 (InR gr gs A)) : Later w w2 :=
  Fr.none_ (Fr.trans (p := fun k => w.heap.size ≤ k) ((Fr.laterF h).mono fun _ _ h => h.elim) hf (by
    rintro k hk (rfl | rfl | e)
    · exact h1
    · exact h2
    · exact (hr.row.blk e).2.1)) (fun k hk h => by omega)

/-- now is next, next is nothing -/
theorem RunW.turn {w : World} {base g gr gs : Nat} {S : ByteArray} {vn : Value} {seen : List Nat} {A : Option Addr} {n c : Nat} {next : List (Nat × Nat)} (h : RunW w base g gr gs S vn seen A n c next) :
    RunW ((w.setCell ⟨gr, 3, none⟩ (.slice A n c)).setCell ⟨gr, 4, none⟩ (.slice none 0 0)) base g gr gs S (.slice A n c) seen none 0 0 [] ∧ OwnW ((w.setCell ⟨gr, 3, none⟩ (.slice A n c)).setCell ⟨gr, 4, none⟩ (.slice none 0 0)) base A n c next ∧ Fr w ((w.setCell ⟨gr, 3, none⟩ (.slice A n c)).setCell ⟨gr, 4, none⟩ (.slice none 0 0)) (fun k => k = gr) := by
  obtain ⟨⟨c1, hB1⟩, ⟨c2, hB2⟩, h3⟩ := h.ty
  obtain ⟨⟨ns, cs, hB, ho⟩, hr⟩ := h
  have hf : Fr w ((w.setCell ⟨gr, 3, none⟩ (.slice A n c)).setCell ⟨gr, 4, none⟩ (.slice none 0 0)) (fun k => k = gr) := Fr.set (a := ⟨gr, 4, none⟩) (Fr.set (Fr.refl w (fun k => k = gr)) (a := ⟨gr, 3, none⟩) (fun _ => rfl) _) (fun _ => rfl) _
  refine ⟨⟨⟨ns, cs, by simpa using (hB.set_ 3 (.slice A n c)).set_ 4 (.slice none 0 0), ho.fr hf (fun k hk e => ?_)⟩, OwnW.nil⟩, hr.fr hf (fun k hk e => ?_), hf⟩
  · injection hk with hk
    have hk : gs = k := hk
    subst hk
    subst e
    exact Blk.ne_ hB1 hB2 (by decide) rfl
  · obtain ⟨cs', hB'⟩ := h3 k hk
    subst e
    exact Blk.ne_ hB1 hB' (by decide) rfl

theorem has_w4 (s : W4) (hs : okW s) (b : Nat) (hb : b < 256) (w : World) :
    Calls Try.prog 38 #[.agg #[.int .u64 (s.1 : Int), .int .u64 (s.2.1 : Int), .int .u64 (s.2.2.1 : Int), .int .u64 (s.2.2.2 : Int)], .int .u8 (b : Int)] w fun e w' => e = .returned (.bool (w4has s b)) ∧ Later w w' := by
  have e := w4_mem hs
  have h := has_any (memW s) b hb w
  rw [← w4has_w4 (memW s) hb, e] at h
  have ev : setV (memW s) = .agg #[.int .u64 (s.1 : Int), .int .u64 (s.2.1 : Int), .int .u64 (s.2.2.1 : Int), .int .u64 (s.2.2.2 : Int)] := by
    have e0 : word (memW s) 0 = s.1 := congrArg (·.1) e
    have e1 : word (memW s) 1 = s.2.1 := congrArg (·.2.1) e
    have e2 : word (memW s) 2 = s.2.2.1 := congrArg (·.2.2.1) e
    have e3 : word (memW s) 3 = s.2.2.2 := congrArg (·.2.2.2) e
    unfold setV setC
    rw [e0, e1, e2, e3]
  rw [ev] at h
  exact h

/-- the frame at the label -/
def findFr (g : Nat) (S : ByteArray) (lo most gr : Nat) (hit : Option (Nat × Nat)) (p : Nat) (u : Nat → Value) : Act := { tmps := #[.pointer (some ⟨g, 0, none⟩), .string S, .int .i64 (lo : Int), .int .i64 (most : Int), u 4, u 5, u 6, u 7, u 8, u 9, .pointer (some ⟨gr, 0, none⟩), .int .i64 (stN hit : Int), .int .i64 (enN hit : Int), .bool hit.isSome, .int .i64 (p : Int), u 15, u 16, u 17, u 18, u 19, u 20, u 21, u 22, u 23, u 24, u 25, u 26, u 27, u 28, u 29, u 30, u 31, u 32, u 33, u 34, u 35, u 36, u 37, u 38, u 39, u 40, u 41, u 42, u 43, u 44, u 45, u 46, u 47, u 48, u 49, u 50, u 51, u 52, u 53, u 54, u 55, u 56, u 57, u 58, u 59, u 60, u 61, u 62, u 63, u 64, u 65, u 66, u 67, u 68, u 69, u 70, u 71, u 72, u 73, u 74, u 75, u 76, u 77, u 78, u 79, u 80, u 81, u 82, u 83, u 84, u 85, u 86, u 87, u 88, u 89, u 90, u 91, u 92, u 93, u 94, u 95, u 96, u 97, u 98, u 99, u 100, u 101, u 102, u 103, u 104, u 105, u 106, u 107, u 108, u 109, u 110, u 111, u 112, u 113, u 114, u 115, u 116, u 117, u 118, u 119, u 120, u 121, u 122, u 123, u 124, u 125, u 126, u 127, u 128, u 129, u 130, u 131, u 132, u 133, u 134, u 135, u 136, u 137, u 138, u 139, u 140, u 141, u 142, u 143, u 144, u 145, u 146, u 147, u 148, u 149, u 150, u 151, u 152, u 153, u 154, u 155, u 156, u 157, u 158, u 159, u 160, u 161, u 162, u 163, u 164, u 165, u 166, u 167, u 168, u 169, u 170, u 171], defers := [] }
/-- the run behind its begin -/
def FindC (w : World) (g gr gs mb : Nat) (L : List NSt) (B : Nat) (S : ByteArray) (R1 : List Nat × List (Nat × Nat)) (wx : World) : Prop :=
  ∃ (A : Option Addr) (n c : Nat) (vn : Value), RunW wx w.heap.size g gr gs S vn R1.1 A n c R1.2 ∧ MacW wx mb g L (B : Int) ∧ Later w wx
/-- what holds at the label -/
def FindJ (w : World) (g mb : Nat) (L : List NSt) (B : Nat) (S : ByteArray) (lo most : Nat) (R : Option (Nat × Nat)) (f : Nat) (a' : Act) (w' : World) : Prop :=
  ∃ (p gr gs : Nat) (hit : Option (Nat × Nat)) (Q : List Nat × List (Nat × Nat)), a' = findFr g S lo most gr hit p (fun i => a'.tmps.getD i undef) ∧ FindC w g gr gs mb L B S Q w' ∧ w.heap.size ≤ gr ∧ w.heap.size ≤ gs ∧
    Hid (placeF L B S.data.toList most f p Q.2 Q.1 hit = R) ∧ p ≤ S.size ∧ f + p = S.size + 1 ∧ Q.1.length = L.length ∧ InL L S.size Q.2 ∧ Q.2.length + unmk p Q.1 ≤ 20000 ∧ HitB S.size hit
/-- what find returns -/
def Found (w : World) (R : Option (Nat × Nat)) (e : Ending) (w' : World) : Prop := e = .returned (.tuple #[.complex .f64 (fl (stN R : Int)) (fl (enN R : Int)), .bool R.isSome]) ∧ Later w w'

set_option maxRecDepth 100000 in
set_option maxHeartbeats 8000000 in
theorem find_yes (S : ByteArray) (lo most : Nat) (w : World) (mb g : Nat) (L : List NSt) (B : Nat) (hM : MacW w mb g L (B : Int)) (hW : WfM L) (hB : B < L.length) (hok : ∀ (s : Nat) (n : NSt), L[s]? = some n → okW n.set) (hlo : lo ≤ S.size) (hmo : most ≤ S.size) (hS : S.size ≤ 1000000) (hL : L.length ≤ 20000) :
    Calls Try.prog 30 #[.pointer (some ⟨g, 0, none⟩), .string S, .int .i64 (lo : Int), .int .i64 (most : Int)] w (Found w (findF (L, B) S.data.toList lo most)) := by
  obtain ⟨R, hR⟩ : ∃ R, R = findF (L, B) S.data.toList lo most := ⟨_, rfl⟩
  have hR0 : placeF L B S.data.toList most (S.size + 1 - lo) lo [] (List.replicate L.length 0) none = R := by rw [hR]; unfold findF; rw [len_eq]
  rw [← hR]
  clear hR
  have HR0 := Lib.hid hR0
  have HW := Lib.hid hW
  have HOK := Lib.hid hok
  obtain ⟨MA, MN, MC, hMB, hMo⟩ := id hM
  have q0 := hMB.cell 0
  have hMn : L.length = MN := hMo.1
  have hMN : MN ≤ 20000 := by omega
  obtain ⟨Z, hZ, hmk⟩ := made_nats MN (by omega)
  have hlo1 : ¬ (S.size : Int) < (lo : Int) := by omega
  have hlo2 : decide ((lo : Int) < 0) = false := decide_eq_false (by omega)
  have hlo3 : decide ((S.size : Int) < (lo : Int)) = false := decide_eq_false (by omega)
  have HM := Lib.hid hM
  have HMN := Lib.hid hMn
  clear hR0 hW hok hM hMo hMB hMn
  go_enter Try.func30, Try.ntmps30
  go_wp2_with fail
  refine wp_scope_rank 0 (FindJ w g mb L B S lo most R) rfl ?_ ?_
  · intro hpass
    go_wp2_with fail
    go_step3
    rename_i kk
    refine kk _ _ (hpass _ _ _ ⟨lo, w.heap.size + 1, w.heap.size, none, (List.replicate L.length 0, []), rfl, ?_, by omega, by omega, HR0, hlo, by omega, List.length_replicate .., fun u hu => (by cases hu), ?_, Nat.zero_le _, Nat.zero_le _⟩)
    · have hl1 : Later w (w.alloc (.cells Z 3)) := (Later.refl w).alloc _
      have hl2 := hl1.alloc (.cells #[.pointer (some ⟨g, 0, none⟩), .string S, .slice (some ⟨w.heap.size, 0, none⟩) MN MN, .slice none 0 0, .slice none 0 0] 94)
      exact ⟨none, 0, 0, _, ⟨⟨MN, MN, blk_at (w := w.alloc (.cells Z 3)) (by simp), by rw [HMN.out]; exact (hZ w _ (Nat.le_refl _)).later ((Later.refl _).alloc _)⟩, OwnW.nil⟩, HM.out.later hl2, hl2⟩
    · have := unmk_le lo (List.replicate L.length 0)
      rw [List.length_replicate] at this
      show 0 + unmk lo (List.replicate L.length 0) ≤ 20000
      omega
  · clear HR0 hZ hmk hlo1 hlo2 hlo3 q0 HM HMN hMN
    rintro f a' w' ⟨p, gr, gs, hit, Q, ha, hC, hgr, hgs, hres, hp, hfp, hlen, hin, hcnt, hhit⟩
    generalize (fun i => a'.tmps.getD i undef) = u at ha
    subst ha
    unfold findFr
    obtain ⟨f, rfl⟩ : ∃ f', f = f' + 1 := ⟨f - 1, by omega⟩
    obtain ⟨R1, hR1⟩ : ∃ R1, R1 = beginF L B S.data.toList most p hit Q.1 Q.2 := ⟨_, rfl⟩
    obtain ⟨H, hH⟩ : ∃ H, H = hitF L p R1.2 hit := ⟨_, rfl⟩
    have hb1 := begin_facts (B := B) (most := most) (x := S.data.toList) (hit := hit) HW.out hp hB hlen hin hcnt
    rw [← hR1] at hb1
    obtain ⟨hlen1, hin1, hcnt1⟩ := hb1
    have hres' : placeF L B S.data.toList most (f + 1) p Q.2 Q.1 hit = R := hres.out
    rw [placeF, ← hR1, ← hH, len_eq] at hres'
    have HRES := Lib.hid hres'
    have HH : Hid (hitF L p (R1.2.drop 0) hit = H) := Lib.hid hH.symm
    have hhb : HitB S.size H := by rw [hH]; exact hitF_b hp _ _ (fun u hu => (hin1 u hu).2) hhit
    have hpi : (p : Int) ≤ 1000000 := by omega
    clear hres hres' hH
    obtain ⟨b45, hb45⟩ : ∃ b : Bool, b = decide (hit = none ∧ p ≤ most) := ⟨_, rfl⟩
    go_upto_region 6 with fail
    simp only [List.append_eq, List.cons_append, List.nil_append]
    go_cut [45] (fun s45 wx => s45 = .bool b45 ∧ wx = w')
    case first =>
      clear hC HRES HH hhb hlen1 hin1 hcnt1
      cases hit with
      | some h =>
        have hb : b45 = false := by rw [hb45]; exact decide_eq_false (fun h => by cases h.1)
        subst hb
        clear hb45 hR1
        go_wp2_with fail
        go_meet
        exact ⟨rfl, rfl⟩
      | none =>
        by_cases hpm : p ≤ most
        · have hb : b45 = true := by rw [hb45]; exact decide_eq_true ⟨rfl, hpm⟩
          have hpmi : (p : Int) ≤ (most : Int) := by omega
          subst hb
          clear hb45 hR1
          go_wp2_with fail
          go_meet
          exact ⟨rfl, rfl⟩
        · have hb : b45 = false := by rw [hb45]; exact decide_eq_false (fun h => hpm h.2)
          have hpmi : ¬ (p : Int) ≤ (most : Int) := by omega
          have hpmd : decide ((p : Int) ≤ (most : Int)) = false := decide_eq_false hpmi
          subst hb
          clear hb45 hR1
          go_wp2_with fail
          go_meet
          exact ⟨rfl, rfl⟩
    case rest =>
    obtain ⟨rfl, rfl⟩ := hcut
    go_upto_if 45 with fail
    go_cut [] (fun wx => FindC w g gr gs mb L B S R1 wx)
    case first =>
      obtain ⟨A, n, c, vn, hrun, hM, hlw⟩ := hC
      cases b45 with
      | true =>
        have hc := of_decide_eq_true hb45.symm
        obtain ⟨rfl, hpm⟩ := hc
        have hre : ∀ wx, Later wc wx → Calls Try.prog 37 #[.pointer (some ⟨gr, 0, none⟩), .int .i64 (B : Int), .int .i64 (p : Int), .int .i64 (p : Int)] wx fun e w2 => e = .returned (.tuple #[]) ∧ FindC w g gr gs mb L B S R1 w2 := fun wx hwx => by
          have hrunx := hrun.later hwx
          refine (reach_any wx w.heap.size g gr gs mb L (B : Int) S vn p p B Q.1 A n c Q.2 R1 (hM.later hwx) HW.out hrunx hB hlen (by omega) (by omega) hL (by omega) (Nat.le_trans hlw.size hwx.size) (by omega) ?_).mono ?_
          · rw [hR1]
            unfold beginF
            rw [if_pos ⟨rfl, hpm⟩, len_eq]
          · rintro e w2 ⟨he, A', n', c', hr2, hf2, _⟩
            exact ⟨he, A', n', c', vn, hr2, (hM.later hwx).fr hf2 (inR_ty hrunx), (hlw.trans hwx).inR hrunx hgr hgs hf2⟩
        have HRE := Lib.hid hre
        obtain ⟨MA, MN, MC, hMB, hMo⟩ := id hM
        have q1 := hMB.cell 1
        clear hre hrun hM hR1 hpm hMB hMo hb45
        go_wp2_with fail
        refine (HRE.out _ (Later.refl _)).mono ?_
        rintro e w2 ⟨rfl, hC2⟩
        go_wp2_with fail
        go_meet
        exact hC2
      | false =>
        have hc := of_decide_eq_false hb45.symm
        have hR2 : R1 = (Q.1, Q.2) := by rw [hR1]; unfold beginF; rw [if_neg hc]
        have hC1 : FindC w g gr gs mb L B S R1 wc := by rw [hR2]; exact ⟨A, n, c, vn, hrun, hM, hlw⟩
        clear hc hR2 hR1 hrun hM hb45
        go_wp2_with fail
        go_meet
        exact hC1
    case rest =>
    clear hC hR1 hb45
    obtain ⟨A, n, c, vn, hrun, hM, hlw⟩ := hcut
    have hnl : R1.2.length = n := hrun.row.1
    have hturn := hrun.turn
    obtain ⟨⟨ns, cs, hB, ho⟩, hrw⟩ := id hrun
    have c4 := hB.cell 4
    have f3 := hB.frozen 3
    have f4 := hB.frozen 4
    have c3 := hB.cell 3
    obtain ⟨W3, hW3⟩ : ∃ W3, W3 = (wc.setCell ⟨gr, 3, none⟩ (.slice A n c)).setCell ⟨gr, 4, none⟩ (.slice none 0 0) := ⟨_, rfl⟩
    rw [← hW3] at hturn
    obtain ⟨hrun3, hnow3, hf3⟩ := hturn
    have hM3 : MacW W3 mb g L (B : Int) := hM.fr hf3 (fun k hk => by subst hk; exact ⟨_, _, hB, by decide, by decide⟩)
    have hl3 : Later w W3 := Fr.none_ (Fr.trans (p := fun k => k = gr) ((Fr.laterF hlw).mono fun _ _ h => h.elim) hf3 (fun k _ h => h)) (fun k hk h => by omega)
    obtain ⟨⟨ns3, cs3, hB3, ho3⟩, hrw3⟩ := id hrun3
    have HB3 := Lib.hid hB3
    have e3 := hB3.cell 3
    have HNL := Lib.hid hnl
    have hn20 : n ≤ 20000 := by omega
    clear hrun hM hlw hB ho hrw hf3 hB3 ho3 hrw3 hnl hcnt1
    go_upto_region 9 with fail
    rw [← hW3]
    clear hW3 c3 c4 f3 f4
    go_wp2_with fail
    go_loopw [11, 12, 13, 69] (fun s11 s12 s13 s69 wr => ∃ (j : Nat) (h : Option (Nat × Nat)), j ≤ n ∧ s69 = .int .i64 (j : Int) ∧ s11 = .int .i64 (stN h : Int) ∧ s12 = .int .i64 (enN h : Int) ∧ s13 = .bool h.isSome ∧ Hid (hitF L p (R1.2.drop j) h = H) ∧ Later W3 wr) (fun _ _ _ s69 _ => n - (intOf s69).toNat)
    case atStart => exact ⟨0, hit, Nat.zero_le _, rfl, rfl, rfl, rfl, HH, Later.refl _⟩
    case round =>
      clear e3 HH
      obtain ⟨j, h, hj, rfl, rfl, rfl, rfl, HS, hlr⟩ := hrel
      by_cases hlt : j < n
      · have hlti : (j : Int) < (n : Int) := by omega
        obtain ⟨uu, huu⟩ : ∃ u, R1.2[j]? = some u := ⟨_, List.getElem?_eq_getElem (by rw [HNL.out]; exact hlt)⟩
        have hst := HS.out
        rw [drop_at huu, hitF] at hst
        obtain ⟨u0, u1⟩ := uu
        obtain ⟨g0, hA, hg0, _, x0, x1⟩ := (hnow3.later hlr).at_ huu
        have hub := hin1 _ (List.mem_of_getElem? huu)
        simp only at x0 x1 hub hst
        obtain ⟨nd, hnd⟩ : ∃ nd, L[u0]? = some nd := ⟨_, List.getElem?_eq_getElem hub.1⟩
        obtain ⟨MA, MN, MC, hMB, hMo⟩ := hM3.later hlr
        have hMn : L.length = MN := hMo.1
        obtain ⟨bm, om, hMA, hbm, e0, e1, e2, e4, e5, e6, e7⟩ := hMo.seven hnd
        have hkd : kindAt L u0 = nd.kind := by unfold kindAt; rw [hnd]
        rw [hkd] at hst
        have q0 := hMB.cell 0
        have hu0i : (u0 : Int) < (MN : Int) := by omega
        obtain ⟨kd, ⟨w0, w1, w2, w3⟩, na, nb⟩ := nd
        simp only at e0 hst hkd
        subst hA hMA
        obtain ⟨W4, hW4⟩ : ∃ W4, W4 = wr.alloc (.cells #[.int .i64 (u0 : Int), .int .i64 (u1 : Int)] 97) := ⟨_, rfl⟩
        have B16 : Blk W4 wr.heap.size 97 #[.int .i64 (u0 : Int), .int .i64 (u1 : Int)] := by rw [hW4]; exact Blk.new wr _ _
        have hl4' : Later wr W4 := by rw [hW4]; exact (Later.refl wr).alloc _
        have hl4 : Later W3 W4 := hlr.trans hl4'
        have f0 := fun (q : Addr) (v : Value) (hq : wr.cell? q = some v) => (show W4.cell? q = some v from (Later.cell hl4' (World.block_lt_of_cell? wr q hq)).trans hq)
        have k0 : ∀ x : LW W4, x.val.cell? ⟨g, 0, none⟩ = some (.slice (some ⟨bm, om, none⟩) MN MC) := LW.cell_ (f0 _ _ q0)
        have k1 : ∀ x : LW W4, x.val.cell? ⟨bm, om + u0 * 7, none⟩ = some (.int .i64 (kd : Int)) := LW.cell_ (f0 _ _ e0)
        have k2 : ∀ x : LW W4, x.val.cell? ⟨wr.heap.size, 0, none⟩ = some (.int .i64 (u0 : Int)) := LW.cell_ (B16.cell 0)
        have k3 : ∀ x : LW W4, x.val.cell? ⟨wr.heap.size, 1, none⟩ = some (.int .i64 (u1 : Int)) := LW.cell_ (B16.cell 1)
        clear e0 e1 e2 e4 e5 e6 e7 hMB hMo q0 hkd hnd huu HS f0
        go_upto_region 12 with fail
        rw [← hW4]
        clear hW4 x0 x1
        by_cases hk4 : kd = 4
        · subst hk4
          cases h with
          | none =>
            have HS2 : Hid (hitF L p (R1.2.drop (j + 1)) (some (u1, p)) = H) := by
              show _ = _
              rw [← hst, if_pos (by rfl)]
            clear hst
            refine wp_region_laterq (by kernel_rfl) (by kernel_rfl) ?_
            repeat (go_big_quiet_step (fail))
            refine wpQuiet_nil ?_
            intro _ hwq
            obtain ⟨xz, rfl⟩ := hwq
            have b16 := blkL xz.later B16
            have hlz := hl4.trans xz.later
            clear k0 k1 k2 k3
            obtain ⟨z0, z1⟩ : xz.val.cell? ⟨wr.heap.size, 0, none⟩ = some (.int .i64 (u0 : Int)) ∧ xz.val.cell? ⟨wr.heap.size, 1, none⟩ = some (.int .i64 (u1 : Int)) := ⟨b16.cell 0, b16.cell 1⟩
            go_wp2_with fail
            go_roundw
            case rel => exact ⟨j + 1, some (u1, p), by omega, by go_num, rfl, rfl, rfl, HS2, hlz⟩
            case measure => simp [intOf]; omega
          | some hh =>
            obtain ⟨a0, a1⟩ := hh
            simp only [stN, enN]
            by_cases hle : u1 ≤ a0
            · have HS2 : Hid (hitF L p (R1.2.drop (j + 1)) (some (u1, p)) = H) := by
                show _ = _
                rw [← hst, if_pos (by show (true && decide (u1 ≤ a0)) = true; rw [decide_eq_true hle]; rfl)]
              have hlei : (u1 : Int) ≤ (a0 : Int) := by omega
              clear hst
              refine wp_region_laterq (by kernel_rfl) (by kernel_rfl) ?_
              repeat (go_big_quiet_step (fail))
              refine wpQuiet_nil ?_
              intro _ hwq
              obtain ⟨xz, rfl⟩ := hwq
              have b16 := blkL xz.later B16
              have hlz := hl4.trans xz.later
              clear k0 k1 k2 k3
              obtain ⟨z0, z1⟩ : xz.val.cell? ⟨wr.heap.size, 0, none⟩ = some (.int .i64 (u0 : Int)) ∧ xz.val.cell? ⟨wr.heap.size, 1, none⟩ = some (.int .i64 (u1 : Int)) := ⟨b16.cell 0, b16.cell 1⟩
              go_wp2_with fail
              go_roundw
              case rel => exact ⟨j + 1, some (u1, p), by omega, by go_num, rfl, rfl, rfl, HS2, hlz⟩
              case measure => simp [intOf]; omega
            · have HS2 : Hid (hitF L p (R1.2.drop (j + 1)) (some (a0, a1)) = H) := by
                show _ = _
                rw [← hst, if_neg (by show ¬ (true && decide (u1 ≤ a0)) = true; rw [decide_eq_false hle]; decide)]
              have hlei : ¬ (u1 : Int) ≤ (a0 : Int) := by omega
              have hled : decide ((u1 : Int) ≤ (a0 : Int)) = false := decide_eq_false hlei
              clear hst
              refine wp_region_laterq (by kernel_rfl) (by kernel_rfl) ?_
              repeat (go_big_quiet_step (fail))
              refine wpQuiet_nil ?_
              intro _ hwq
              obtain ⟨xz, rfl⟩ := hwq
              have b16 := blkL xz.later B16
              have hlz := hl4.trans xz.later
              clear k0 k1 k2 k3
              obtain ⟨z0, z1⟩ : xz.val.cell? ⟨wr.heap.size, 0, none⟩ = some (.int .i64 (u0 : Int)) ∧ xz.val.cell? ⟨wr.heap.size, 1, none⟩ = some (.int .i64 (u1 : Int)) := ⟨b16.cell 0, b16.cell 1⟩
              go_wp2_with fail
              go_roundw
              case rel => exact ⟨j + 1, some (a0, a1), by omega, by go_num, rfl, rfl, rfl, HS2, hlz⟩
              case measure => simp [intOf]; omega
        · have HS2 : Hid (hitF L p (R1.2.drop (j + 1)) h = H) := by
            show _ = _
            rw [← hst, if_neg (by rw [show (kd == 4) = false by rw [beq_eq_false_iff_ne]; exact hk4]; simp)]
          have hk4i : ((kd : Int) == 4) = false := by rw [beq_eq_false_iff_ne]; omega
          clear hst hk4
          refine wp_region_laterq (by kernel_rfl) (by kernel_rfl) ?_
          repeat (go_big_quiet_step (fail))
          refine wpQuiet_nil ?_
          intro _ hwq
          obtain ⟨xz, rfl⟩ := hwq
          have b16 := blkL xz.later B16
          have hlz := hl4.trans xz.later
          clear k0 k1 k2 k3
          obtain ⟨z0, z1⟩ : xz.val.cell? ⟨wr.heap.size, 0, none⟩ = some (.int .i64 (u0 : Int)) ∧ xz.val.cell? ⟨wr.heap.size, 1, none⟩ = some (.int .i64 (u1 : Int)) := ⟨b16.cell 0, b16.cell 1⟩
          go_wp2_with fail
          go_roundw
          case rel => exact ⟨j + 1, h, by omega, by go_num, rfl, rfl, rfl, HS2, hlz⟩
          case measure => simp [intOf]; omega
      · obtain rfl : n = j := by omega
        have hH : h = H := by
          have := HS.out
          rw [List.drop_of_length_le (by rw [HNL.out]; exact Nat.le_refl _), hitF] at this
          exact this
        subst hH
        clear HS hj hlt
        have hru := hrun3.later hlr
        have hnow := hnow3.later hlr
        have hMr := hM3.later hlr
        have hlw := hl3.trans hlr
        obtain ⟨⟨ns4, cs4, hB4, ho4⟩, hrw4⟩ := id hru
        have r3 := hB4.cell 3
        have HB4 := Lib.hid hB4
        have HRR : Hid (if p = S.size ∨ (R1.2 = [] ∧ (h.isSome = true ∨ most ≤ p)) then h = R else placeF L B S.data.toList most f (p + 1) (eatF L S.data.toList p h R1.2 R1.1 []).2 (eatF L S.data.toList p h R1.2 R1.1 []).1 h = R) := by
          show if _ then _ else _
          have := HRES.out
          split
          · rename_i hc; rw [if_pos hc] at this; exact this
          · rename_i hc; rw [if_neg hc] at this; exact this
        clear HRES hrun3 hnow3 hM3 hl3 hlr hB4 ho4 hrw4 HB3
        obtain ⟨b116, hb116⟩ : ∃ b : Bool, b = decide (p = S.size ∨ (R1.2 = [] ∧ (h.isSome = true ∨ most ≤ p))) := ⟨_, rfl⟩
        go_upto_region 15 with fail
        go_cut [116] (fun s116 wx => s116 = .bool b116 ∧ wx = wr)
        case first =>
          by_cases hps : p = S.size
          · have hb : b116 = true := by rw [hb116]; exact decide_eq_true (.inl hps)
            have hpsi : ((p : Int) == (S.size : Int)) = true := by rw [beq_iff_eq]; omega
            subst hb
            clear hb116 HRR hps
            go_wp2_with fail
            go_meet
            exact ⟨rfl, rfl⟩
          · have hpsi : ((p : Int) == (S.size : Int)) = false := by rw [beq_eq_false_iff_ne]; omega
            rcases Nat.eq_zero_or_pos n with hn0 | hn0
            · have hnil : R1.2 = [] := List.eq_nil_of_length_eq_zero (by rw [HNL.out]; exact hn0)
              subst hn0
              cases h with
              | some h =>
                have hb : b116 = true := by rw [hb116]; exact decide_eq_true (.inr ⟨hnil, .inl rfl⟩)
                subst hb
                clear hb116 HRR hps hnil
                go_wp2_with fail
                go_meet
                exact ⟨rfl, rfl⟩
              | none =>
                by_cases hmp : most ≤ p
                · have hb : b116 = true := by rw [hb116]; exact decide_eq_true (.inr ⟨hnil, .inr hmp⟩)
                  have hmpi : (most : Int) ≤ (p : Int) := by omega
                  subst hb
                  clear hb116 HRR hps hnil hmp
                  go_wp2_with fail
                  go_meet
                  exact ⟨rfl, rfl⟩
                · have hb : b116 = false := by rw [hb116]; exact decide_eq_false (by rintro (h | ⟨_, h | h⟩); exact hps h; cases h; exact hmp h)
                  have hmpi : ¬ (most : Int) ≤ (p : Int) := by omega
                  have hmpd : decide ((most : Int) ≤ (p : Int)) = false := decide_eq_false hmpi
                  subst hb
                  clear hb116 HRR hps hnil hmp
                  go_wp2_with fail
                  go_meet
                  exact ⟨rfl, rfl⟩
            · have hnn : ¬ R1.2 = [] := fun h => by have := HNL.out; rw [h] at this; simp at this; omega
              have hn0i : ((n : Int) == 0) = false := by rw [beq_eq_false_iff_ne]; omega
              have hb : b116 = false := by rw [hb116]; exact decide_eq_false (by rintro (h | ⟨h, _⟩); exact hps h; exact hnn h)
              subst hb
              clear hb116 HRR hps hnn
              go_wp2_with fail
              go_meet
              exact ⟨rfl, rfl⟩
        case rest =>
        obtain ⟨rfl, rfl⟩ := hcut
        cases b116 with
        | true =>
          have hRh : Hid (h = R) := by have := HRR.out; rw [if_pos (of_decide_eq_true hb116.symm)] at this; exact Lib.hid this
          clear HRR hb116
          go_wp2_with fail
          simp only [Exit.jump]
          go_ret2
          exact ⟨by rw [← hRh.out]; rfl, hlw⟩
        | false =>
          have HRE : Hid (placeF L B S.data.toList most f (p + 1) (eatF L S.data.toList p h R1.2 R1.1 []).2 (eatF L S.data.toList p h R1.2 R1.1 []).1 h = R) := by have := HRR.out; rw [if_neg (of_decide_eq_false hb116.symm)] at this; exact Lib.hid this
          have hps : p < S.size := by
            have h1 := of_decide_eq_false hb116.symm
            rcases Nat.lt_or_ge p S.size with h2 | h2
            · exact h2
            · exact absurd (.inl (by omega)) h1
          obtain ⟨R2, hR2⟩ : ∃ R2, R2 = eatF L S.data.toList p h R1.2 R1.1 [] := ⟨_, rfl⟩
          rw [← hR2] at HRE
          have HE : Hid (eatF L S.data.toList p h (R1.2.drop 0) R1.1 [] = R2) := Lib.hid hR2.symm
          have hu0 := unmk_le (p + 1) R1.1
          rw [hlen1] at hu0
          clear HRR hb116 hR2
          obtain ⟨o13, ho13⟩ : ∃ o, o = h.isSome := ⟨_, rfl⟩
          obtain ⟨t11, ht11⟩ : ∃ o, o = stN h := ⟨_, rfl⟩
          obtain ⟨t12, ht12⟩ : ∃ o, o = enN h := ⟨_, rfl⟩
          rw [← ho13, ← ht11, ← ht12]
          have HO13 := Lib.hid ho13
          have HT11 := Lib.hid ht11
          have HT12 := Lib.hid ht12
          clear ho13 ht11 ht12
          go_wp2_with fail
          go_loopw [128] (fun s128 wq => ∃ (j : Nat) (seen : List Nat) (next : List (Nat × Nat)) (A5 : Option Addr) (n5 c5 : Nat), j ≤ n ∧ s128 = .int .i64 (j : Int) ∧ RunW wq w.heap.size g gr gs S (.slice A n c) seen A5 n5 c5 next ∧ OwnW wq w.heap.size A n c R1.2 ∧ MacW wq mb g L (B : Int) ∧ Later w wq ∧ (∀ k, ob A5 = some k → ob A ≠ some k) ∧ Hid (eatF L S.data.toList p h (R1.2.drop j) seen next = R2) ∧ seen.length = L.length ∧ InL L S.size next ∧ next.length + unmk (p + 1) seen ≤ 20000) (fun s128 _ => n - (intOf s128).toNat)
          case atStart => exact ⟨0, R1.1, [], none, 0, 0, Nat.zero_le _, rfl, hru, hnow, hMr, hlw, fun k hk => (by cases hk), HE, hlen1, fun u hu => (by cases hu), by simp only [List.length_nil]; omega⟩
          case round =>
            clear r3 HB4 hru hnow hMr hlw HE
            obtain ⟨j, seen, next, A5, n5, c5, hj, rfl, hru, hnow, hMr, hlw, hne5, HS, hlen5, hin5, hcnt5⟩ := hrel
            by_cases hlt : j < n
            · have hlti : (j : Int) < (n : Int) := by omega
              obtain ⟨uu, huu⟩ : ∃ u, R1.2[j]? = some u := ⟨_, List.getElem?_eq_getElem (by rw [HNL.out]; exact hlt)⟩
              have hst := HS.out
              rw [drop_at huu, eatF] at hst
              obtain ⟨u0, u1⟩ := uu
              obtain ⟨g0, hA, hg0, _, x0, x1⟩ := hnow.at_ huu
              have hub := hin1 _ (List.mem_of_getElem? huu)
              simp only at x0 x1 hub hst
              obtain ⟨nd, hnd⟩ : ∃ nd, L[u0]? = some nd := ⟨_, List.getElem?_eq_getElem hub.1⟩
              have hnwf := HW.out u0 nd hnd
              have hnok := HOK.out u0 nd hnd
              have heat : eats L S.data.toList p h (u0, u1) = (nd.kind == 0 && (hasAt S.data.toList nd.set p && aliveF h u1)) := by unfold eats; simp only; rw [hnd]
              have hto : toOf L u0 = nd.a := by unfold toOf; rw [hnd]
              rw [heat, hto] at hst
              obtain ⟨MA, MN, MC, hMB, hMo⟩ := id hMr
              have hMn : L.length = MN := hMo.1
              obtain ⟨bm, om, hMA, hbm, e0, e1, e2, e4, e5, e6, e7⟩ := hMo.seven hnd
              have q0 := hMB.cell 0
              have hu0i : (u0 : Int) < (MN : Int) := by omega
              obtain ⟨kd, ⟨w0, w1, w2, w3⟩, na, nb⟩ := nd
              simp only at e0 e1 e2 e4 e5 e6 e7 hst hnwf hnok
              subst hA hMA
              obtain ⟨W6, hW6⟩ : ∃ W6, W6 = wr.alloc (.cells #[.int .i64 (u0 : Int), .int .i64 (u1 : Int)] 97) := ⟨_, rfl⟩
              have B18 : Blk W6 wr.heap.size 97 #[.int .i64 (u0 : Int), .int .i64 (u1 : Int)] := by rw [hW6]; exact Blk.new wr _ _
              have hl6 : Later wr W6 := by rw [hW6]; exact (Later.refl wr).alloc _
              have hru6 := hru.later hl6
              have hnow6 := hnow.later hl6
              have hM6 := hMr.later hl6
              have hlw6 := hlw.trans hl6
              have ff := fun (q : Addr) (v : Value) (hq : wr.cell? q = some v) => (show W6.cell? q = some v from (Later.cell hl6 (World.block_lt_of_cell? wr q hq)).trans hq)
              have e0 := ff _ _ e0
              have e1 := ff _ _ e1
              have e2 := ff _ _ e2
              have e4 := ff _ _ e4
              have e5 := ff _ _ e5
              have e6 := ff _ _ e6
              have e7 := ff _ _ e7
              have q0 := ff _ _ q0
              obtain ⟨y0, y1⟩ : W6.cell? ⟨wr.heap.size, 0, none⟩ = some (.int .i64 (u0 : Int)) ∧ W6.cell? ⟨wr.heap.size, 1, none⟩ = some (.int .i64 (u1 : Int)) := ⟨B18.cell 0, B18.cell 1⟩
              go_upto_region 20 with fail
              rw [← hW6]
              clear hW6 x0 x1 ff hMB hMo heat hto hnd huu HS hru hnow hMr hlw
              have ks : ∀ wx, Later W6 wx → wx.cell? ⟨g, 0, none⟩ = some (.slice (some ⟨bm, om, none⟩) MN MC) ∧ wx.cell? ⟨wr.heap.size, 0, none⟩ = some (.int .i64 (u0 : Int)) ∧ wx.cell? ⟨bm, om + u0 * 7, none⟩ = some (.int .i64 (kd : Int)) ∧ wx.cell? ⟨bm, om + u0 * 7 + 1, none⟩ = some (.int .u64 (w0 : Int)) ∧ wx.cell? ⟨bm, om + u0 * 7 + 2, none⟩ = some (.int .u64 (w1 : Int)) ∧ wx.cell? ⟨bm, om + u0 * 7 + 3, none⟩ = some (.int .u64 (w2 : Int)) ∧ wx.cell? ⟨bm, om + u0 * 7 + 4, none⟩ = some (.int .u64 (w3 : Int)) ∧ wx.cell? ⟨bm, om + u0 * 7 + 5, none⟩ = some (.int .i64 (na : Int)) ∧ wx.cell? ⟨bm, om + u0 * 7 + 6, none⟩ = some (.int .i64 (nb : Int)) := fun wx hx => by
                have hk := fun (q : Addr) (v : Value) (hq : W6.cell? q = some v) => (show wx.cell? q = some v from (Later.cell hx (World.block_lt_of_cell? W6 q hq)).trans hq)
                exact ⟨hk _ _ q0, hk _ _ y0, hk _ _ e0, hk _ _ e1, hk _ _ e2, hk _ _ e4, hk _ _ e5, hk _ _ e6, hk _ _ e7⟩
              have KS := Lib.hid ks
              clear ks
              go_region_held_law (fun w' => w'.cell? ⟨g, 0, none⟩ = some (.slice (some ⟨bm, om, none⟩) MN MC) ∧ w'.cell? ⟨wr.heap.size, 0, none⟩ = some (.int .i64 (u0 : Int)) ∧ w'.cell? ⟨bm, om + u0 * 7, none⟩ = some (.int .i64 (kd : Int)) ∧ w'.cell? ⟨bm, om + u0 * 7 + 1, none⟩ = some (.int .u64 (w0 : Int)) ∧ w'.cell? ⟨bm, om + u0 * 7 + 2, none⟩ = some (.int .u64 (w1 : Int)) ∧ w'.cell? ⟨bm, om + u0 * 7 + 3, none⟩ = some (.int .u64 (w2 : Int)) ∧ w'.cell? ⟨bm, om + u0 * 7 + 4, none⟩ = some (.int .u64 (w3 : Int)) ∧ w'.cell? ⟨bm, om + u0 * 7 + 5, none⟩ = some (.int .i64 (na : Int)) ∧ w'.cell? ⟨bm, om + u0 * 7 + 6, none⟩ = some (.int .i64 (nb : Int))) (exact KS.out _ (by repeat (first | (with_reducible exact Later.refl _) | (with_reducible apply Later.drew) | (with_reducible apply Later.alloc) | (with_reducible refine Later.setCell ?_ (Nat.le_refl _) _)))) (fail)
              obtain ⟨b18, hb18⟩ : ∃ b, b = wr.heap.size := ⟨_, rfl⟩
              obtain ⟨b19, hb19⟩ : ∃ b, b = W6.heap.size := ⟨_, rfl⟩
              obtain ⟨W7, hW7⟩ : ∃ W7, W7 = (W6.alloc (.cells #[.int .i64 (kd : Int), .int .u64 (w0 : Int), .int .u64 (w1 : Int), .int .u64 (w2 : Int), .int .u64 (w3 : Int), .int .i64 (na : Int), .int .i64 (nb : Int)] 67)).drew := ⟨_, rfl⟩
              have hl7 : Later W6 W7 := by rw [hW7]; exact ((Later.refl W6).alloc _).drew
              have B19 : Blk W7 b19 67 #[.int .i64 (kd : Int), .int .u64 (w0 : Int), .int .u64 (w1 : Int), .int .u64 (w2 : Int), .int .u64 (w3 : Int), .int .i64 (na : Int), .int .i64 (nb : Int)] := by rw [hW7, hb19]; exact (Blk.new W6 _ _).drew
              rw [← hb18] at B18
              have B18 := blkL hl7 B18
              have hru7 := hru6.later hl7
              have hnow7 := hnow6.later hl7
              have hM7 := hM6.later hl7
              have hlw7 := hlw6.trans hl7
              have k0 : ∀ x : LW W7, x.val.cell? ⟨b19, 0, none⟩ = some (.int .i64 (kd : Int)) := LW.cell_ (B19.cell 0)
              have k1 : ∀ x : LW W7, x.val.cell? ⟨b19, 1, none⟩ = some (.int .u64 (w0 : Int)) := LW.cell_ (B19.cell 1)
              have k2 : ∀ x : LW W7, x.val.cell? ⟨b19, 2, none⟩ = some (.int .u64 (w1 : Int)) := LW.cell_ (B19.cell 2)
              have k3 : ∀ x : LW W7, x.val.cell? ⟨b19, 3, none⟩ = some (.int .u64 (w2 : Int)) := LW.cell_ (B19.cell 3)
              have k4 : ∀ x : LW W7, x.val.cell? ⟨b19, 4, none⟩ = some (.int .u64 (w3 : Int)) := LW.cell_ (B19.cell 4)
              have k5 : ∀ x : LW W7, x.val.cell? ⟨b18, 1, none⟩ = some (.int .i64 (u1 : Int)) := LW.cell_ (B18.cell 1)
              obtain ⟨ch, hch⟩ : ∃ ch, S.data.toList[p]? = some ch := ⟨_, List.getElem?_eq_getElem (by rw [len_eq]; exact hps)⟩
              obtain ⟨hpi2, hce⟩ := str_get S p ch hch
              obtain ⟨v, hv⟩ : ∃ v, v = hasAt S.data.toList (w0, w1, w2, w3) p := ⟨_, rfl⟩
              have hvv : v = w4has (w0, w1, w2, w3) ch.toNat := by rw [hv]; unfold hasAt; rw [hch]
              rw [← hv] at hst
              have hhas : ∀ wx, Calls Try.prog 38 #[.agg #[.int .u64 (w0 : Int), .int .u64 (w1 : Int), .int .u64 (w2 : Int), .int .u64 (w3 : Int)], .int .u8 (S[p].toNat : Int)] wx fun e w' => e = .returned (.bool v) ∧ Later wx w' := fun wx => by
                rw [hce, hvv]
                exact has_w4 (w0, w1, w2, w3) hnok ch.toNat ch.toNat_lt wx
              have HHAS := Lib.hid hhas
              have hpS : (p : Int) < (S.size : Int) := by omega
              have hgsz : ∀ wx, Later W7 wx → w.heap.size ≤ wx.heap.size := fun wx hx => Nat.le_trans hlw7.size hx.size
              have hrc : ∀ wx, Later W7 wx → Calls Try.prog 37 #[.pointer (some ⟨gr, 0, none⟩), .int .i64 (na : Int), .int .i64 ((p : Int) + 1), .int .i64 (u1 : Int)] wx fun e w2 => e = .returned (.tuple #[]) ∧ Reached wx w.heap.size g gr gs S (.slice (some ⟨g0, 0, none⟩) n c) A5 (reachF L S.size (p + 1) u1 (fuelF L) [na] seen next) w2 := fun wx hx => by
                have := reach_any wx w.heap.size g gr gs mb L (B : Int) S (.slice (some ⟨g0, 0, none⟩) n c) (p + 1) u1 na seen A5 n5 c5 next _ (hM7.later hx) HW.out (hru7.later hx) hnwf.1 hlen5 (by omega) (by omega) hL (by omega) (hgsz wx hx) (by omega) rfl
                rw [show ((p + 1 : Nat) : Int) = (p : Int) + 1 by omega] at this
                exact this
              have HRC := Lib.hid hrc
              have hrf := reach_facts (len := S.size) (fr := u1) (p := p + 1) HW.out hub.2 hnwf.1 hlen5 hin5 hcnt5
              have HNR : Hid (∀ k, ob (some ⟨g0, 0, none⟩ : Option Addr) = some k → ¬ InR gr gs A5 k) := by
                intro k hk
                rintro (rfl | rfl | e)
                · obtain ⟨⟨_, h1⟩, _⟩ := hru7.ty
                  obtain ⟨_, _, _, h2⟩ := hnow7.blk hk
                  exact Blk.ne_ h1 h2 (by decide) rfl
                · obtain ⟨_, ⟨_, h1⟩, _⟩ := hru7.ty
                  obtain ⟨_, _, _, h2⟩ := hnow7.blk hk
                  exact Blk.ne_ h1 h2 (by decide) rfl
                · exact hne5 k e hk
              have HNE : Hid (∀ wx, Later W7 wx → ∀ k, (ob A5 = some k ∨ wx.heap.size ≤ k) → ob (some ⟨g0, 0, none⟩ : Option Addr) ≠ some k) := by
                intro wx hx k hk e
                rcases hk with hk | hk
                · exact hne5 k hk e
                · have := (hnow7.blk e).1
                  have := hx.size
                  omega
              have HST := Lib.hid hst
              rw [← hW7, ← hb18, ← hb19]
              clear hW7 hb18 hb19 hl7 hl6 hru6 hnow6 hM6 hlw6 hch hce hv hvv hhas hrc hgsz hst y0 y1 e0 e1 e2 e4 e5 e6 e7 q0 KS hnok
              have HN5 := Lib.hid hne5
              have HBIG := Lib.hid (And.intro hlt (And.intro hgr (And.intro hgs (And.intro hrf (And.intro hlen5 (And.intro hin5 hcnt5))))))
              clear hgr hgs hrf hlen5 hin5 hcnt5
              try clear hlo
              try clear hmo
              try clear hS
              try clear hL
              try clear hp
              try clear hlen
              try clear hin
              try clear hcnt
              try clear hhit
              try clear hfp
              try clear hlen1
              try clear hin1
              try clear hhb
              try clear hMn
              try clear hu0i
              try clear hub
              try clear hnwf
              try clear hu0
              try clear hps
              try clear hB
              try clear hne5
              go_upto_region 21 with fail
              by_cases hk0 : kd = 0
              · have hk0i : ((kd : Int) == 0) = true := by rw [hk0]; rfl
                have hst2 := HST.out
                rw [hk0] at hst2
                clear HST
                have HST := Lib.hid hst2
                clear hst2 hk0
                cases v with
                | false =>
                  have HS2 : Hid (eatF L S.data.toList p h (R1.2.drop (j + 1)) seen next = R2) := by
                    show _ = _
                    have := HST.out
                    rw [if_neg (by simp)] at this
                    exact this
                  clear HST
                  refine wp_region_laterq (by kernel_rfl) (by kernel_rfl) ?_
                  repeat (go_big_quiet_step (fail))
                  go_big_quiet_step (((go_at_call 38; (with_reducible refine Calls.laterq (HHAS.out _)))))
                  set_option maxHeartbeats 100000 in
                  go_big_quiet_want
                  set_option maxHeartbeats 200000 in
                  go_big_quiet_op
                  set_option maxHeartbeats 100000 in
                  go_big_quiet_on
                  set_option maxHeartbeats 100000 in
                  go_big_quiet_want
                  set_option maxHeartbeats 100000 in
                  go_big_quiet_op
                  set_option maxHeartbeats 100000 in
                  go_big_quiet_on
                  set_option maxHeartbeats 400000 in
                  repeat (go_big_quiet_step (fail))
                  refine wpQuiet_nil ?_
                  intro _ hwq
                  obtain ⟨xz, rfl⟩ := hwq
                  clear k0 k1 k2 k3 k4 k5
                  have hlz := xz.later
                  go_wp2_with fail
                  go_roundw
                  case rel => exact ⟨j + 1, seen, next, A5, n5, c5, by omega, by go_num, hru7.later hlz, hnow7.later hlz, hM7.later hlz, hlw7.trans hlz, HN5.out, HS2, HBIG.out.2.2.2.2.1, HBIG.out.2.2.2.2.2.1, HBIG.out.2.2.2.2.2.2⟩
                  case measure => simp [intOf]; omega
                | true =>
                  cases o13 with
                  | false =>
                    have hhn : h = none := by have := HO13.out; cases h with | none => rfl | some _ => cases this
                    have HS2 : Hid (eatF L S.data.toList p h (R1.2.drop (j + 1)) (reachF L S.size (p + 1) u1 (fuelF L) [na] seen next).1 (reachF L S.size (p + 1) u1 (fuelF L) [na] seen next).2 = R2) := by
                      show _ = _
                      have := HST.out
                      rw [if_pos (by rw [hhn]; rfl), len_eq] at this
                      exact this
                    clear HST hhn
                    refine wp_region_laterq (by kernel_rfl) (by kernel_rfl) ?_
                    repeat (go_big_quiet_step (fail))
                    go_big_quiet_step (((go_at_call 38; (with_reducible refine Calls.laterq (HHAS.out _)))))
                    set_option maxHeartbeats 100000 in
                    go_big_quiet_want
                    set_option maxHeartbeats 200000 in
                    go_big_quiet_op
                    set_option maxHeartbeats 100000 in
                    go_big_quiet_on
                    set_option maxHeartbeats 100000 in
                    go_big_quiet_want
                    set_option maxHeartbeats 100000 in
                    go_big_quiet_op
                    set_option maxHeartbeats 100000 in
                    go_big_quiet_on
                    set_option maxHeartbeats 400000 in
                    repeat (go_big_quiet_step (fail))
                    refine wpQuiet_nil ?_
                    intro _ hwq
                    obtain ⟨xz, rfl⟩ := hwq
                    clear k0 k1 k2 k3 k4 k5
                    have hlz := xz.later
                    have z5 : xz.val.cell? ⟨b19, 5, none⟩ = some (.int .i64 (na : Int)) := (blkL hlz B19).cell 5
                    have z1 : xz.val.cell? ⟨b18, 1, none⟩ = some (.int .i64 (u1 : Int)) := (blkL hlz B18).cell 1
                    go_wp2_with fail
                    refine (HRC.out _ hlz).mono ?_
                    rintro e w9 ⟨rfl, A9, n9, c9, hru9, hf9, hnew9⟩
                    go_wp2_with fail
                    go_roundw
                    case rel => exact ⟨j + 1, _, _, A9, n9, c9, by omega, by go_num, hru9, (hnow7.later hlz).fr hf9 HNR.out, (hM7.later hlz).fr hf9 (inR_ty (hru7.later hlz)), (hlw7.trans hlz).inR (hru7.later hlz) HBIG.out.2.1 HBIG.out.2.2.1 hf9, fun k hk => HNE.out _ hlz k (hnew9 k hk), HS2, HBIG.out.2.2.2.1.1, HBIG.out.2.2.2.1.2.1, HBIG.out.2.2.2.1.2.2⟩
                    case measure => simp [intOf]; omega
                  | true =>
                    have hal : aliveF h u1 = decide (u1 ≤ t11) := by have h1 := HO13.out; have h2 := HT11.out; cases h with | none => cases h1 | some _ => rw [h2]; rfl
                    have hst3 := HST.out
                    rw [hal] at hst3
                    by_cases hle : u1 ≤ t11
                    · have HS2 : Hid (eatF L S.data.toList p h (R1.2.drop (j + 1)) (reachF L S.size (p + 1) u1 (fuelF L) [na] seen next).1 (reachF L S.size (p + 1) u1 (fuelF L) [na] seen next).2 = R2) := by
                        show _ = _
                        rw [if_pos (by rw [decide_eq_true hle]; rfl), len_eq] at hst3
                        exact hst3
                      have hlei : (u1 : Int) ≤ (t11 : Int) := by omega
                      clear HST hle hst3 hal
                      refine wp_region_laterq (by kernel_rfl) (by kernel_rfl) ?_
                      repeat (go_big_quiet_step (fail))
                      go_big_quiet_step (((go_at_call 38; (with_reducible refine Calls.laterq (HHAS.out _)))))
                      set_option maxHeartbeats 100000 in
                      go_big_quiet_want
                      set_option maxHeartbeats 200000 in
                      go_big_quiet_op
                      set_option maxHeartbeats 100000 in
                      go_big_quiet_on
                      set_option maxHeartbeats 100000 in
                      go_big_quiet_want
                      set_option maxHeartbeats 100000 in
                      go_big_quiet_op
                      set_option maxHeartbeats 100000 in
                      go_big_quiet_on
                      set_option maxHeartbeats 400000 in
                      repeat (go_big_quiet_step (fail))
                      refine wpQuiet_nil ?_
                      intro _ hwq
                      obtain ⟨xz, rfl⟩ := hwq
                      clear k0 k1 k2 k3 k4 k5
                      have hlz := xz.later
                      have z5 : xz.val.cell? ⟨b19, 5, none⟩ = some (.int .i64 (na : Int)) := (blkL hlz B19).cell 5
                      have z1 : xz.val.cell? ⟨b18, 1, none⟩ = some (.int .i64 (u1 : Int)) := (blkL hlz B18).cell 1
                      go_wp2_with fail
                      refine (HRC.out _ hlz).mono ?_
                      rintro e w9 ⟨rfl, A9, n9, c9, hru9, hf9, hnew9⟩
                      go_wp2_with fail
                      go_roundw
                      case rel => exact ⟨j + 1, _, _, A9, n9, c9, by omega, by go_num, hru9, (hnow7.later hlz).fr hf9 HNR.out, (hM7.later hlz).fr hf9 (inR_ty (hru7.later hlz)), (hlw7.trans hlz).inR (hru7.later hlz) HBIG.out.2.1 HBIG.out.2.2.1 hf9, fun k hk => HNE.out _ hlz k (hnew9 k hk), HS2, HBIG.out.2.2.2.1.1, HBIG.out.2.2.2.1.2.1, HBIG.out.2.2.2.1.2.2⟩
                      case measure => simp [intOf]; omega
                    · have HS2 : Hid (eatF L S.data.toList p h (R1.2.drop (j + 1)) seen next = R2) := by
                        show _ = _
                        rw [if_neg (by rw [decide_eq_false hle]; decide)] at hst3
                        exact hst3
                      have hlei : ¬ (u1 : Int) ≤ (t11 : Int) := by omega
                      have hled : decide ((u1 : Int) ≤ (t11 : Int)) = false := decide_eq_false hlei
                      clear HST hle hst3 hal
                      refine wp_region_laterq (by kernel_rfl) (by kernel_rfl) ?_
                      repeat (go_big_quiet_step (fail))
                      go_big_quiet_step (((go_at_call 38; (with_reducible refine Calls.laterq (HHAS.out _)))))
                      set_option maxHeartbeats 100000 in
                      go_big_quiet_want
                      set_option maxHeartbeats 200000 in
                      go_big_quiet_op
                      set_option maxHeartbeats 100000 in
                      go_big_quiet_on
                      set_option maxHeartbeats 100000 in
                      go_big_quiet_want
                      set_option maxHeartbeats 100000 in
                      go_big_quiet_op
                      set_option maxHeartbeats 100000 in
                      go_big_quiet_on
                      set_option maxHeartbeats 400000 in
                      repeat (go_big_quiet_step (fail))
                      refine wpQuiet_nil ?_
                      intro _ hwq
                      obtain ⟨xz, rfl⟩ := hwq
                      clear k0 k1 k2 k3 k4 k5
                      have hlz := xz.later
                      go_wp2_with fail
                      go_roundw
                      case rel => exact ⟨j + 1, seen, next, A5, n5, c5, by omega, by go_num, hru7.later hlz, hnow7.later hlz, hM7.later hlz, hlw7.trans hlz, HN5.out, HS2, HBIG.out.2.2.2.2.1, HBIG.out.2.2.2.2.2.1, HBIG.out.2.2.2.2.2.2⟩
                      case measure => simp [intOf]; omega
              · have HS2 : Hid (eatF L S.data.toList p h (R1.2.drop (j + 1)) seen next = R2) := by
                  show _ = _
                  have := HST.out
                  rw [if_neg (by rw [show (kd == 0) = false by rw [beq_eq_false_iff_ne]; exact hk0]; simp)] at this
                  exact this
                have hk0i : ((kd : Int) == 0) = false := by rw [beq_eq_false_iff_ne]; omega
                clear HST hk0
                refine wp_region_laterq (by kernel_rfl) (by kernel_rfl) ?_
                repeat (go_big_quiet_step (((go_at_call 38; (with_reducible refine Calls.laterq (HHAS.out _))))))
                refine wpQuiet_nil ?_
                intro _ hwq
                obtain ⟨xz, rfl⟩ := hwq
                clear k0 k1 k2 k3 k4 k5
                have hlz := xz.later
                go_wp2_with fail
                go_roundw
                case rel => exact ⟨j + 1, seen, next, A5, n5, c5, by omega, by go_num, hru7.later hlz, hnow7.later hlz, hM7.later hlz, hlw7.trans hlz, HN5.out, HS2, HBIG.out.2.2.2.2.1, HBIG.out.2.2.2.2.2.1, HBIG.out.2.2.2.2.2.2⟩
                case measure => simp [intOf]; omega
            · obtain rfl : n = j := by omega
              have hfin : (seen, next) = R2 := by
                have := HS.out
                rw [List.drop_of_length_le (by rw [HNL.out]; exact Nat.le_refl _), eatF] at this
                exact this
              subst hfin
              clear HS
              go_wp2_with fail
              go_step3
              have ho13 := HO13.out
              have ht11 := HT11.out
              have ht12 := HT12.out
              subst ho13 ht11 ht12
              exact ⟨rfl, f, Nat.lt_succ_self _, p + 1, gr, gs, h, (seen, next), rfl, ⟨A5, n5, c5, _, hru, hMr, hlw⟩, hgr, hgs, HRE, hps, by omega, hlen5, hin5, hcnt5, hhb⟩

end Go.Proofs.Ytmkddhkpeiajhaa
