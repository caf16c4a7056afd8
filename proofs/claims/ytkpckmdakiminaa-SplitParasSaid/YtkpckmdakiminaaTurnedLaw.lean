/-
  The plain law behind PackTurned: what was sealed and has one byte turned is never unsealed. No program in sight.
-/
import Derived.Test.YtkpckmdakiminaaSeal
import Derived.Test.YtkpckmdakiminaaStepsLaw
namespace Go.Proofs.Ytkpckmdakiminaa

theorem trip_inj {a b : Int} (ha : 0 ≤ a ∧ a < 16777199) (hb : 0 ≤ b ∧ b < 16777199) (h : trip a = trip b) : a = b := by
  unfold trip at h
  injection h with h1 h
  injection h with h2 h
  injection h with h3 _
  have e1 := congrArg (fun x : UInt8 => (x.toNat : Int)) h1
  have e2 := congrArg (fun x : UInt8 => (x.toNat : Int)) h2
  have e3 := congrArg (fun x : UInt8 => (x.toNat : Int)) h3
  rw [byt_toNat (by omega) (by omega), byt_toNat (by omega) (by omega)] at e1 e2 e3
  omega

theorem trips_inj {s t : Int × Int} (hs : 0 ≤ s.1 ∧ s.1 < 16777199 ∧ 0 ≤ s.2 ∧ s.2 < 16777199) (ht : 0 ≤ t.1 ∧ t.1 < 16777199 ∧ 0 ≤ t.2 ∧ t.2 < 16777199) (h : trip s.1 ++ trip s.2 = trip t.1 ++ trip t.2) : s = t := by
  obtain ⟨h1, h2⟩ := List.append_inj h rfl
  have e1 := trip_inj ⟨hs.1, hs.2.1⟩ ⟨ht.1, ht.2.1⟩ h1
  have e2 := trip_inj ⟨hs.2.2.1, hs.2.2.2⟩ ⟨ht.2.2.1, ht.2.2.2⟩ h2
  exact Prod.ext e1 e2

theorem foldl_inj (q : List UInt8) : ∀ s t : Int × Int, (0 ≤ s.1 ∧ s.1 < 16777199 ∧ 0 ≤ s.2 ∧ s.2 < 16777199) → (0 ≤ t.1 ∧ t.1 < 16777199 ∧ 0 ≤ t.2 ∧ t.2 < 16777199) → q.foldl smStep s = q.foldl smStep t → s = t := by
  induction q with
  | nil => intro s t _ _ h; exact h
  | cons x q ih =>
    intro s t hs ht h
    exact smStep_inj hs ht (ih _ _ (smStep_bd s x) (smStep_bd t x) h)

theorem smStep_byte {s : Int × Int} {x y : UInt8} (h : smStep s x = smStep s y) : x = y := by
  have h1 : md _ = md _ := congrArg Prod.fst h
  unfold md at h1
  obtain ⟨k, hk⟩ := diff_of h1 (z := (x.toNat : Int) - (y.toNat : Int)) (by omega)
  have hx := x.toNat_lt
  have hy := y.toNat_lt
  exact UInt8.toNat_inj.1 (by omega)

/-- bytes that part in one byte alone have two sums -/
theorem sm_turned {l : List UInt8} {k : Nat} {y : UInt8} (hk : k < l.length) (hy : y ≠ l[k]) : sm (l.set k y) ≠ sm l := by
  intro h
  have e1 : l.set k y = l.take k ++ y :: l.drop (k + 1) := List.set_eq_take_append_cons_drop.trans (if_pos hk)
  have e2 : l = l.take k ++ l[k] :: l.drop (k + 1) := by rw [← List.drop_eq_getElem_cons hk, List.take_append_drop]
  have f : ∀ x : UInt8, sm (l.take k ++ x :: l.drop (k + 1)) = (l.drop (k + 1)).foldl smStep (smStep (sm (l.take k)) x) := by
    intro x; unfold sm; rw [List.foldl_append, List.foldl_cons]
  have h' : sm (l.take k ++ y :: l.drop (k + 1)) = sm (l.take k ++ l[k] :: l.drop (k + 1)) := by rw [← e1, h, ← e2]
  rw [f, f] at h'
  exact hy (smStep_byte (foldl_inj _ _ _ (smStep_bd _ _) (smStep_bd _ _) h'))

theorem unseal_turned {l : List UInt8} {k : Nat} {y : UInt8} (hk : k < l.length + 6) (hy : y ≠ (sealB l)[k]?.getD 0) : unsealB ((sealB l).set k y) = ([], 13) := by
  have hk2 : k < (sealB l).length := by rw [sealB_len]; exact hk
  rw [List.getElem?_eq_getElem hk2] at hy
  refine unseal_bad (by rw [List.length_set, sealB_len]; omega) fun h => ?_
  rw [List.length_set, sealB_len, Nat.add_sub_cancel] at h
  by_cases hkl : k < l.length
  · have e : ((sealB l).set k y) = l.set k y ++ (trip (sm l).1 ++ trip (sm l).2) := by
      unfold sealB; rw [List.set_append_left _ _ hkl]
    rw [e, List.take_left' (by rw [List.length_set])] at h
    unfold sealB at h
    have h2 := List.append_cancel_left h
    have := trips_inj (sm_bd _) (sm_bd _) h2
    refine sm_turned hkl ?_ this
    have e2 : (sealB l)[k] = l[k] := by
      have := sealB_get hkl
      rw [List.getElem?_eq_getElem hk2, List.getElem?_eq_getElem hkl] at this
      exact Option.some.inj this
    rw [← e2]; exact hy
  · have e : ((sealB l).set k y).take l.length = l := by
      rw [List.take_set_of_le (by omega)]
      unfold sealB
      exact List.take_left
    rw [e] at h
    apply hy
    have := congrArg (fun z => z[k]?) h
    simp only [List.getElem?_set_self hk2, List.getElem?_eq_getElem hk2] at this
    exact (Option.some.inj this).symm

end Go.Proofs.Ytkpckmdakiminaa
