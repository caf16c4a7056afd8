import Derived.Test.YtmkddhkpeiajhaaGreatDoorBrk
import Derived.Test.YtmkddhkpeiajhaaGreatDoorNamed
import Derived.Lib.Strings
import Derived.Deep.CutBlock
import Derived.Deep.DeepCutAuto
namespace Go.Proofs.YtmkddhkpeiajhaaGreatDoor
open Go.RowKit
theorem named_at (s : ByteArray) (w : World) (hs : s.size ≤ 140737488355328) (m : Mem) (ok : Bool) (hm : namedV (classOf s.data.toList) = .tuple #[setV m, .bool ok]) :
  Calls Tryz.prog 152 #[.string s] w fun e w' => e = .returned (.tuple #[.agg #[.int .u64 (word (m) 0 : Nat), .int .u64 (word (m) 1 : Nat), .int .u64 (word (m) 2 : Nat), .int .u64 (word (m) 3 : Nat)], .bool ok]) ∧ Later w w' := by
 have h := named_any s w hs
 rw [hm] at h
 exact h
def Setted (w : World) (g : Nat) (s : ByteArray) (r : Option (Mem × Nat)) (e : Ending) (w' : World) : Prop :=
 Fr w w' (fun k => k = g) ∧ match r with
 | some (m, p) => e = .returned (.tuple #[setV m, .bool true]) ∧ BrOk w' g s p
 | none => (∃ m, e = .returned (.tuple #[setV m, .bool false])) ∧ ∃ p, BrOk w' g s p
theorem closeF_end (l : List UInt8) (fuel k : Nat) (h : l.length ≤ k + 1) : closeF l fuel k = none := by
 cases fuel with
 | zero => rfl
 | succ f => rw [closeF, if_neg (by omega)]
theorem closeF_hit (l : List UInt8) (fuel k : Nat) (h : k + 1 < l.length) (hf : l.length ≤ fuel + k) (h1 : l[k]? = some 58) (h2 : l[k + 1]? = some 93) : closeF l fuel k = some k := by
 obtain ⟨f, rfl⟩ : ∃ f, fuel = f + 1 := ⟨fuel - 1, by omega⟩
 rw [closeF, if_pos h, if_pos ⟨h1, h2⟩]
theorem closeF_miss (l : List UInt8) (fuel k : Nat) (h : k + 1 < l.length) (hf : l.length ≤ fuel + k) (h1 : ¬ (l[k]? = some 58 ∧ l[k + 1]? = some 93)) : ∃ f, l.length ≤ f + (k + 1) ∧ closeF l f (k + 1) = closeF l fuel k := by
 obtain ⟨f, rfl⟩ : ∃ f, fuel = f + 1 := ⟨fuel - 1, by omega⟩
 exact ⟨f, by omega, by rw [closeF, if_pos h, if_neg h1]⟩
theorem blkLater {w w' : World} {g : Nat} {t : TypeId} {cs : Array Value} (hl : Later w w') (h : Blk w g t cs) : Blk w' g t cs := h.below hl h.lt
theorem blk_at2 {w : World} {o : Obj} {t : TypeId} {cs : Array Value} : Blk ((w.alloc o).drew.alloc (.cells cs t)) (w.heap.size + 1) t cs := blk_at (by simp)
theorem brFar {w : World} {g p g2 : Nat} {s : ByteArray} (h : BrOk w g s p) (hne : g ≠ g2) (i : Nat) (v : Value) : BrOk (w.setCell ⟨g2, i, none⟩ v) g s p := Blk.far h hne v
theorem frNew {w w1 : World} {p : Nat → Prop} (h : Fr w w1 p) (i : Nat) (v : Value) : Fr w (w1.setCell ⟨w.heap.size, i, none⟩ v) p := Fr.set (a := ⟨w.heap.size, i, none⟩) h (fun h => absurd h (Nat.lt_irrefl _)) v
theorem szLater {w w1 w2 : World} (h : Later w2 w1) (h0 : w.heap.size + 1 ≤ w2.heap.size := by simp) : w.heap.size + 1 ≤ w1.heap.size := Nat.le_trans h0 h.size
theorem laterNew {w w1 : World} (h : Later w w1) (i : Nat) (v : Value) : Later w (w1.setCell ⟨w.heap.size + 1, i, none⟩ v) := Later.setCell h (Nat.le_succ _) v
theorem brS {w : World} {g p : Nat} {s : ByteArray} (h : Blk w g 206 #[.string s, .int .i64 (p : Int)]) : w.cell? ⟨g, 0, none⟩ = some (.string s) ∧ w.cell? ⟨g, 1, none⟩ = some (.int .i64 (p : Int)) := ⟨h.cell 0, h.cell 1⟩
set_option maxHeartbeats 4000000 in
theorem rnamed_any (g p : Nat) (s : ByteArray) (w : World) (hb : BrOk w g s p) (hs : s.size ≤ 140737488355328) (hp : p + 1 < s.size) :
  Calls Tryz.prog 148 #[.pointer (some ⟨g, 0, none⟩)] w (Setted w g s (namedF s.data.toList p)) := by
 have hlen : Hid (s.data.toList.length = s.size) := by show _ = _; rw [Array.length_toList]; rfl
 obtain ⟨r, hr⟩ : ∃ r, r = namedF s.data.toList p := ⟨_, rfl⟩
 rw [← hr]
 have HR := Lib.hid hr
 clear hr
 have hc0 := hb.c0
 have hc1 := hb.c1
 have hf1 := hb.f1
 have hgl := Blk.lt hb
 go_enter Tryz.func148, Tryz.ntmps148
 go_wp2_with fail
 go_loop [4] (fun i => ∃ k fuel : Nat, p + 2 ≤ k ∧ k ≤ s.size + 1 ∧ i = .int .i64 (k : Int) ∧ s.size ≤ fuel + k ∧ Hid (closeF s.data.toList fuel k = closeF s.data.toList s.data.toList.length (p + 2))) (fun i => s.size + 1 - (intOf i).toNat)
 case atStart => exact ⟨p + 2, s.data.toList.length, by omega, by omega, by go_num, by rw [hlen.out]; omega, rfl⟩
 case round =>
  obtain ⟨k, fuel, hk, hk2, rfl, hfu, HC⟩ := hrel
  by_cases hlt : k + 1 < s.size
  ·have hki : (k : Int) + 1 < (s.size : Int) := by omega
   have hk0 : k < s.size := by omega
   by_cases hm : s.data.toList[k]? = some 58 ∧ s.data.toList[k + 1]? = some 93
   ·have hC2 : closeF s.data.toList s.data.toList.length (p + 2) = some k := HC.out.symm.trans (closeF_hit _ _ _ (by rw [hlen.out]; omega) (by rw [hlen.out]; omega) hm.1 hm.2)
    obtain ⟨q1, q2⟩ := str_get s k 58 hm.1
    obtain ⟨q3, q4⟩ := str_get s (k + 1) 93 hm.2
    have h1 : ((s[k].toNat : Int) == 58) = true := by rw [q2]; rfl
    have h2 : ((s[k + 1].toNat : Int) == 93) = true := by rw [q4]; rfl
    obtain ⟨m, hmm⟩ : ∃ m : Mem, m = (classOf (s.extract (p + 2) k).data.toList).getD mNone := ⟨_, rfl⟩
    obtain ⟨ok, hok⟩ : ∃ ok : Bool, ok = (classOf (s.extract (p + 2) k).data.toList).isSome := ⟨_, rfl⟩
    have hV : Hid (namedV (classOf (s.extract (p + 2) k).data.toList) = .tuple #[setV m, .bool ok]) := by show _ = _; rw [hmm, hok]; rfl
    have hes : (s.extract (p + 2) k).size ≤ 140737488355328 := by rw [ByteArray.size_extract]; omega
    have hres : ∀ (wz : World), BrOk wz g s (k + 2) → Fr w wz (fun k => k = g) → Setted w g s r (.returned (.tuple #[.agg #[.int .u64 (word (m) 0 : Nat), .int .u64 (word (m) 1 : Nat), .int .u64 (word (m) 2 : Nat), .int .u64 (word (m) 3 : Nat)], .bool ok])) wz := by
     intro wz hz hF
     have hr2 := HR.out
     unfold namedF at hr2
     rw [hC2] at hr2
     simp only at hr2
     have he : (s.data.toList.take k).drop (p + 2) = (s.extract (p + 2) k).data.toList := by rw [Lib.extract_data, List.drop_take]
     rw [he] at hr2
     refine ⟨hF, ?_⟩
     cases hc : classOf (s.extract (p + 2) k).data.toList with
     | none =>
      rw [hc] at hr2 hok
      subst hr2 hok
      exact ⟨⟨m, rfl⟩, _, hz⟩
     | some m' =>
      rw [hc] at hr2 hok hmm
      subst hr2 hok hmm
      exact ⟨rfl, hz⟩
    have HRES := Lib.hid hres
    clear hres hC2 hm q2 q4 hmm hok HC
    have hp2 : (p : Int) + 2 ≤ (k : Int) := by omega
    have hp0 : (0 : Int) ≤ (p : Int) + 2 := by omega
    have hk5 : (k : Int) ≤ (s.size : Int) := by omega
    have hpw : IntKind.i64.wrap ((p : Int) + 2) = (p : Int) + 2 := IntWalk.i64_in _ (by omega)
    have hpt : ((p : Int) + 2).toNat = p + 2 := by omega
    have hpk : p + 2 ≤ k := hk
    have hks : k ≤ s.size := by omega
    have hb0 : Blk w g 206 #[.string s, .int .i64 (p : Int)] := hb
    go_upto_region 5 with fail
    go_cut [5, 6] (fun s5 s6 wx => ∃ g5, s5 = .pointer (some ⟨g5, 0, none⟩) ∧ s6 = .bool ok ∧ Blk wx g5 95 (setC m) ∧ Blk wx w.heap.size 95 #[.int .u64 0, .int .u64 0, .int .u64 0, .int .u64 0] ∧ BrOk wx g s p ∧ w.heap.size < g5 ∧ Later w wx)
    case first =>
     go_wp2_with fail
     go_region_held_law (fun w' => w'.cell? ⟨g, 0, none⟩ = some (.string s) ∧ w'.cell? ⟨g, 1, none⟩ = some (.int .i64 (p : Int))) (exact brS (by repeat (first | (with_reducible assumption) | apply Blk.drew | apply Blk.alloc | (refine Blk.far ?_ (by simp; omega) _))))
      ((go_at_call 152; (refine (named_at (s.extract (p + 2) k) _ hes m ok hV.out).mono ?_); rintro e w1 ⟨rfl, hl1⟩; have hb1 : Blk w1 g 206 #[.string s, .int .i64 (p : Int)] := blkLater hl1 (by repeat (first | (with_reducible assumption) | apply Blk.drew | apply Blk.alloc)); (first | (have z5 : Blk w1 (w.heap.size + 1) 95 #[.int .u64 0, .int .u64 0, .int .u64 0, .int .u64 0] := blkLater hl1 blk_at2; have z0 : w1.cell? ⟨w.heap.size + 1, 0, none⟩ = some (.int .u64 0) := z5.cell 0; have z1 : w1.cell? ⟨w.heap.size + 1, 1, none⟩ = some (.int .u64 0) := z5.cell 1; have z2 : w1.cell? ⟨w.heap.size + 1, 2, none⟩ = some (.int .u64 0) := z5.cell 2; have z3 : w1.cell? ⟨w.heap.size + 1, 3, none⟩ = some (.int .u64 0) := z5.cell 3; have y0 : w1.frozen? ⟨w.heap.size + 1, 0, none⟩ = false := z5.frozen 0; have y1 : w1.frozen? ⟨w.heap.size + 1, 1, none⟩ = false := z5.frozen 1; have y2 : w1.frozen? ⟨w.heap.size + 1, 2, none⟩ = false := z5.frozen 2; have y3 : w1.frozen? ⟨w.heap.size + 1, 3, none⟩ = false := z5.frozen 3) | skip)))
     all_goals
      have hsz : w.heap.size + 1 ≤ w1.heap.size := szLater hl1
      go_wp2_with fail
      go_meet
      first
       | exact ⟨_, rfl, rfl, blk_at rfl, (blkLater hl1 (Blk.new w _ _)).alloc _, Blk.alloc hb1 _, by omega, ((((Later.refl w).alloc _).drew).trans hl1).alloc _⟩
       | exact ⟨_, rfl, rfl, (((z5.set_ 0 _).set_ 1 _).set_ 2 _).set_ 3 _, (((((blkLater hl1 ((Blk.new w _ _).drew.alloc _)).far (by simp) _).far (by simp) _).far (by simp) _).far (by simp) _), brFar (brFar (brFar (brFar hb1 (by omega) _ _) (by omega) _ _) (by omega) _ _) (by omega) _ _, by omega, laterNew (laterNew (laterNew (laterNew (((((Later.refl w).alloc _).drew).alloc _).trans hl1) _ _) _ _) _ _) _ _⟩
    case rest =>
     obtain ⟨g5, rfl, rfl, h5, h2, hb5, l5, hl⟩ := hcut
     have hc0 := hb5.c0
     have hc1 := hb5.c1
     have hf1 := hb5.f1
     have c0 : wc.cell? ⟨w.heap.size, 0, none⟩ = some (.int .u64 0) := h2.cell 0
     have d0 : wc.cell? ⟨g5, 0, none⟩ = some (.int .u64 (word m 0 : Nat)) := h5.cell 0
     have f0 : wc.frozen? ⟨w.heap.size, 0, none⟩ = false := h2.frozen 0
     have c1 : wc.cell? ⟨w.heap.size, 1, none⟩ = some (.int .u64 0) := h2.cell 1
     have d1 : wc.cell? ⟨g5, 1, none⟩ = some (.int .u64 (word m 1 : Nat)) := h5.cell 1
     have f1 : wc.frozen? ⟨w.heap.size, 1, none⟩ = false := h2.frozen 1
     have c2 : wc.cell? ⟨w.heap.size, 2, none⟩ = some (.int .u64 0) := h2.cell 2
     have d2 : wc.cell? ⟨g5, 2, none⟩ = some (.int .u64 (word m 2 : Nat)) := h5.cell 2
     have f2 : wc.frozen? ⟨w.heap.size, 2, none⟩ = false := h2.frozen 2
     have c3 : wc.cell? ⟨w.heap.size, 3, none⟩ = some (.int .u64 0) := h2.cell 3
     have d3 : wc.cell? ⟨g5, 3, none⟩ = some (.int .u64 (word m 3 : Nat)) := h5.cell 3
     have f3 : wc.frozen? ⟨w.heap.size, 3, none⟩ = false := h2.frozen 3
     go_wp2_with fail
     have hne : g ≠ w.heap.size := by omega
     exact bodyPost_ret (v := .tuple #[.agg #[.int .u64 (word (m) 0 : Nat), .int .u64 (word (m) 1 : Nat), .int .u64 (word (m) 2 : Nat), .int .u64 (word (m) 3 : Nat)], .bool ok]) (by simp [results, Tryz.results148, go_sem, c0, c1, c2, c3]) rfl (HRES.out _ (brFar (brFar (brFar (brFar (hb5.move (k + 2) _ (by omega)) hne _ _) hne _ _) hne _ _) hne _ _) (frNew (frNew (frNew (frNew (Fr.moved (Fr.later hl) _) _ _) _ _) _ _) _ _))
   ·obtain ⟨f2, hf2, hC2⟩ := closeF_miss _ fuel k (by rw [hlen.out]; omega) (by rw [hlen.out]; omega) hm
    have HC2 : Hid (closeF s.data.toList f2 (k + 1) = closeF s.data.toList s.data.toList.length (p + 2)) := hC2.trans HC.out
    rw [hlen.out] at hf2
    have hor : ((s[k].toNat : Int) == 58) = false ∨ (((s[k].toNat : Int) == 58) = true ∧ ((s[k + 1].toNat : Int) == 93) = false) := by
     by_cases h1 : s[k].toNat = 58
     ·refine .inr ⟨by rw [h1]; rfl, ?_⟩
      rw [beq_eq_false_iff_ne]
      intro h2
      refine hm ⟨?_, ?_⟩
      ·rw [Array.getElem?_toList, Array.getElem?_eq_getElem hk0]
       exact congrArg some (UInt8.toNat_inj.1 h1)
      ·rw [Array.getElem?_toList, Array.getElem?_eq_getElem hlt]
       exact congrArg some (UInt8.toNat_inj.1 (by show s[k + 1].toNat = 93; omega))
     ·exact .inl (by rw [beq_eq_false_iff_ne]; omega)
    clear hm hC2
    rcases hor with h1 | ⟨h1, h2⟩
    all_goals
     go_wp2_with fail
     go_round
     case rel => exact ⟨k + 1, f2, by omega, by omega, by go_num, by omega, HC2⟩
     case measure => simp [intOf]; omega
  ·have hCn : closeF s.data.toList s.data.toList.length (p + 2) = none := HC.out.symm.trans (closeF_end _ _ _ (by rw [hlen.out]; omega))
   have hrn : r = none := by rw [HR.out]; unfold namedF; rw [hCn]
   subst hrn
   clear HC hCn
   have hki : ¬ (k : Int) + 1 < (s.size : Int) := by omega
   go_wp2_with fail
   exact bodyPost_ret (v := .tuple #[.agg #[.int .u64 0, .int .u64 0, .int .u64 0, .int .u64 0], .bool false]) (by simp [results, Tryz.results148, go_sem]) rfl ⟨Fr.later ((Later.refl w).alloc _), ⟨mNone, by rw [setV, setC_none]⟩, p, Blk.alloc hb _⟩
end Go.Proofs.YtmkddhkpeiajhaaGreatDoor
