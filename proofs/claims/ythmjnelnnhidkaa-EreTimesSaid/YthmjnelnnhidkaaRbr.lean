import Derived.Test.YthmjnelnnhidkaaRefNamed
import Derived.Test.YthmjnelnnhidkaaBoolRow
import Derived.Test.YthmjnelnnhidkaaRefParse
import Derived.Test.YthmjnelnnhidkaaRrd2
import Derived.Test.YthmjnelnnhidkaaBrk2
import Derived.Test.YthmjnelnnhidkaaRrd6
/-
  The document's brackets: opens, one, named.
-/
namespace Go.Proofs.Ythmjnelnnhidkaa
open Go.RowKit

theorem byte_is (S : ByteArray) (i : Nat) (c : UInt8) (n : Nat) (hi : i < S.size) (he : S[i] = c) (h : c.toNat = n) : ((S[i].toNat : Int) == (n : Int)) = true := by
  rw [he, h]; exact beq_self_eq_true _
theorem byte_no (S : ByteArray) (i : Nat) (c : UInt8) (n : Nat) (hi : i < S.size) (he : S[i] = c) (h : c.toNat ≠ n) : ((S[i].toNat : Int) == (n : Int)) = false := by
  rw [he, beq_eq_false_iff_ne]; omega
theorem u8_ne {c : UInt8} {n : UInt8} (h : ¬ c = n) : c.toNat ≠ n.toNat := fun e => h (UInt8.toNat_inj.1 e)

set_option maxHeartbeats 4000000 in
theorem opens_any (S : ByteArray) (x : Int) (p : Nat) (v : Bool) (w : World) (hx : x = (p : Int)) (hv : opensF S.data.toList p = v) (hs : S.size ≤ 1000000000) (hp : p ≤ 1000000100) :
    Calls Try.prog 92 #[.string S, .int .i64 x] w fun e w' => e = .returned (.bool v) ∧ w = w' := by
  subst hx
  have hpi : (p : Int) ≤ 1000000100 := by omega
  have HV := Lib.hid hv
  clear hv
  by_cases hlt : p + 1 < S.size
  · have hki : (p : Int) + 1 < (S.size : Int) := by omega
    have hk0 : p < S.size := by omega
    by_cases h1 : S[p] = 91
    · by_cases h2 : S[p + 1] = 58
      · have hv : v = true := by
          have := HV.out
          unfold opensF at this
          rw [Array.getElem?_toList, Array.getElem?_toList, Array.getElem?_eq_getElem hk0, Array.getElem?_eq_getElem hlt] at this
          rw [← this]
          show (some S[p] == some 91 && some S[p + 1] == some 58) = true
          rw [h1, h2]
          rfl
        subst hv
        have e1 : ((S[p].toNat : Int) == 91) = true := by rw [h1]; rfl
        have e2 : ((S[p + 1].toNat : Int) == 58) = true := by rw [h2]; rfl
        clear h1 h2 HV
        go_enter Try.func92, Try.ntmps92
        go_wp2_with fail
        go_ret
        exact ⟨rfl, rfl⟩
      · have hv : v = false := by
          have := HV.out
          unfold opensF at this
          rw [Array.getElem?_toList, Array.getElem?_toList, Array.getElem?_eq_getElem hk0, Array.getElem?_eq_getElem hlt] at this
          rw [← this]
          show (some S[p] == some 91 && some S[p + 1] == some 58) = false
          rw [Bool.and_eq_false_iff]
          exact .inr (by rw [beq_eq_false_iff_ne]; intro e; exact h2 (Option.some.inj e))
        subst hv
        have e1 : ((S[p].toNat : Int) == 91) = true := by rw [h1]; rfl
        have e2 : ((S[p + 1].toNat : Int) == 58) = false := by rw [beq_eq_false_iff_ne]; intro e; exact h2 (UInt8.toNat_inj.1 (by show S[p + 1].toNat = 58; omega))
        clear h1 h2 HV
        go_enter Try.func92, Try.ntmps92
        go_wp2_with fail
        go_ret
        exact ⟨rfl, rfl⟩
    · have hv : v = false := by
        have := HV.out
        unfold opensF at this
        rw [Array.getElem?_toList, Array.getElem?_eq_getElem hk0] at this
        rw [← this]
        show (some S[p] == some 91 && _) = false
        rw [Bool.and_eq_false_iff]
        exact .inl (by rw [beq_eq_false_iff_ne]; intro e; exact h1 (Option.some.inj e))
      subst hv
      have e1 : ((S[p].toNat : Int) == 91) = false := by rw [beq_eq_false_iff_ne]; intro e; exact h1 (UInt8.toNat_inj.1 (by show S[p].toNat = 91; omega))
      clear h1 HV
      go_enter Try.func92, Try.ntmps92
      go_wp2_with fail
      go_ret
      exact ⟨rfl, rfl⟩
  · have hv : v = false := by
      have := HV.out
      unfold opensF at this
      rw [Array.getElem?_toList (i := p + 1), Array.getElem?_eq_none (by show S.size ≤ p + 1; omega)] at this
      rw [← this, Bool.and_eq_false_iff]
      exact .inr rfl
    subst hv
    have hki : ¬ (p : Int) + 1 < (S.size : Int) := by omega
    clear HV
    go_enter Try.func92, Try.ntmps92
    go_wp2_with fail
    go_ret
    exact ⟨rfl, rfl⟩

/-- what 'one' hands back -/
def OneR (p : Nat) : Option (Nat × Nat) → Ending → Prop
  | some (a, n), e => e = .returned (.tuple #[.int .u8 (a : Int), .int .i64 (n : Int), .bool true])
  | none, e => e = .returned (.tuple #[.int .u8 0, .int .i64 (p : Int), .bool false])
theorem tuple3_ret {a b x y : Int} {z : Bool} (h1 : a = x) (h2 : b = y) : Ending.returned (.tuple #[.int .u8 a, .int .i64 b, .bool z]) = .returned (.tuple #[.int .u8 x, .int .i64 y, .bool z]) := by rw [h1, h2]

set_option maxRecDepth 100000 in
set_option maxHeartbeats 8000000 in
theorem refEnd_any (S : ByteArray) (x : Int) (p : Nat) (R : Option (Nat × Nat)) (w : World) (hx : x = (p : Int)) (hR : R = endF S.data.toList p) (hs : S.size ≤ 1000000000) (hp : p ≤ 1000000000) :
    Calls Try.prog 94 #[.string S, .int .i64 x] w fun e w' => OneR p R e ∧ w = w' := by
  subst hx
  have hpi : (p : Int) ≤ 1000000000 := by omega
  cases h0 : S.data.toList[p]? with
  | none =>
    have hle := str_none S _ h0
    have HR : Hid (R = none) := by show _ = _; rw [hR]; unfold endF; rw [h0]
    clear hR h0
    go_enter Try.func94, Try.ntmps94
    go_wp2_with fail
    go_ret3
    refine ⟨?_, rfl⟩
    rw [HR.out]
    exact tuple3_ret rfl rfl
  | some c =>
    obtain ⟨hi, he⟩ := str_get S _ c h0
    have hge : decide (S.size ≤ p) = false := by simp; omega
    by_cases h92 : c = 92
    · subst h92
      have hb : ((S[p].toNat : Int) == 92) = true := by rw [he]; rfl
      have hb2 : (S[p].toNat : Int) = 92 := by rw [he]; rfl
      have hR2 : R = match S.data.toList[p + 1]? with
        | none => none
        | some e => if e = 110 then some (10, p + 2) else if e = 116 then some (9, p + 2) else if isOct e then (let r := octF S.data.toList 2 (p + 2) (e.toNat - 48); some (r.1 % 256, r.2)) else some (e.toNat, p + 2) := by
        rw [hR]; unfold endF; rw [h0]; rfl
      clear hR h0
      cases h1 : S.data.toList[p + 1]? with
      | none =>
        have hle := str_none S _ h1
        have hlt : (S.size : Int) ≤ (p : Int) + 1 := by omega
        rw [h1] at hR2
        have HR := Lib.hid hR2
        clear hR2 h1 he
        go_enter Try.func94, Try.ntmps94
        go_wp2_with fail
        go_ret3
        refine ⟨?_, rfl⟩
        rw [HR.out]
        exact tuple3_ret rfl rfl
      | some e =>
        obtain ⟨hj, hje⟩ := str_get S _ e h1
        have hlt : ¬ (S.size : Int) ≤ (p : Int) + 1 := by omega
        have he256 := e.toNat_lt
        rw [h1] at hR2
        simp only at hR2
        by_cases h110 : e = 110
        · subst h110
          have q1 : ((S[p + 1].toNat : Int) == 110) = true := by rw [hje]; rfl
          have HR := Lib.hid hR2
          clear hR2 h1 he hje
          go_enter Try.func94, Try.ntmps94
          go_wp2_with fail
          go_ret3
          refine ⟨?_, rfl⟩
          rw [HR.out]
          exact tuple3_ret rfl (by omega)
        · have q1 : ((S[p + 1].toNat : Int) == 110) = false := byte_no S _ e 110 hj hje (u8_ne h110)
          rw [if_neg h110] at hR2
          by_cases h116 : e = 116
          · subst h116
            have q2 : ((S[p + 1].toNat : Int) == 116) = true := by rw [hje]; rfl
            have HR := Lib.hid hR2
            clear hR2 h1 he hje
            go_enter Try.func94, Try.ntmps94
            go_wp2_with fail
            go_ret3
            refine ⟨?_, rfl⟩
            rw [HR.out]
            exact tuple3_ret rfl (by omega)
          · have q2 : ((S[p + 1].toNat : Int) == 116) = false := byte_no S _ e 116 hj hje (u8_ne h116)
            rw [if_neg h116] at hR2
            by_cases ho : isOct e = true
            · obtain ⟨o1, o2⟩ := (oct_byte e).1 ho
              have o3 : (48 : Int) ≤ (S[p + 1].toNat : Int) := by rw [hje]; omega
              have o4 : (S[p + 1].toNat : Int) ≤ 55 := by rw [hje]; omega
              rw [if_pos ho] at hR2
              have hoc : octF S.data.toList 3 (p + 1) 0 = octF S.data.toList 2 (p + 2) (e.toNat - 48) := by
                rw [octF_some _ 2 _ _ e h1 ho, Nat.mul_zero, Nat.zero_add]
              rw [← hoc] at hR2
              have HR := Lib.hid hR2
              have hrc : ∀ wz, Calls Try.prog 95 #[.string S, .int .i64 ((p : Int) + 1)] wz fun e w' => e = .returned (.tuple #[.int .u8 (((octF S.data.toList 3 (p + 1) 0).1 % 256 : Nat) : Int), .int .i64 ((octF S.data.toList 3 (p + 1) 0).2 : Int)]) ∧ wz = w' := fun wz => by
                have := roctal_any S (p + 1) wz hs (by omega)
                rwa [show ((p + 1 : Nat) : Int) = (p : Int) + 1 by omega] at this
              have HRC := Lib.hid hrc
              clear hR2 h1 he hje hoc ho o1 o2 hrc
              go_enter Try.func94, Try.ntmps94
              go_wp2_with fail
              refine (HRC.out _).mono ?_
              rintro e w1 ⟨rfl, rfl⟩
              go_wp2_with fail
              go_ret3
              refine ⟨?_, rfl⟩
              rw [HR.out]
              exact tuple3_ret rfl rfl
            · rw [if_neg ho] at hR2
              have HR := Lib.hid hR2
              have hor : ((S[p + 1].toNat : Int) < 48) ∨ ((48 : Int) ≤ (S[p + 1].toNat : Int) ∧ (55 : Int) < (S[p + 1].toNat : Int)) := by
                rw [hje]
                have h7 : ¬ (48 ≤ e.toNat ∧ e.toNat ≤ 55) := fun h => ho ((oct_byte e).2 h)
                omega
              have HJ := Lib.hid hje
              clear hR2 h1 he hje ho h110 h116
              rcases hor with h | ⟨g, h⟩
              all_goals
                have g1 : ¬ (48 : Int) ≤ (S[p + 1].toNat : Int) ∨ ¬ (S[p + 1].toNat : Int) ≤ 55 := by omega
                go_enter Try.func94, Try.ntmps94
                go_wp2_with fail
                go_ret3
                refine ⟨?_, rfl⟩
                rw [HR.out]
                exact tuple3_ret (by rw [HJ.out]) (by omega)
    · have hb : ((S[p].toNat : Int) == 92) = false := byte_no S _ c 92 hi he (u8_ne h92)
      have hb2 : ¬ (S[p].toNat : Int) = 92 := by rw [he]; have := u8_ne h92; exact fun e => this (by show c.toNat = 92; omega)
      have HR : Hid (R = some (c.toNat, p + 1)) := by show _ = _; rw [hR]; unfold endF; rw [h0]; simp only; rw [if_pos h92]
      have HJ := Lib.hid he
      clear hR h0 he h92
      go_enter Try.func94, Try.ntmps94
      go_wp2_with fail
      go_ret3
      refine ⟨?_, rfl⟩
      rw [HR.out]
      exact tuple3_ret (by rw [HJ.out]) (by omega)

end Go.Proofs.Ythmjnelnnhidkaa

/-
  The document's brackets: named.
-/
namespace Go.Proofs.Ythmjnelnnhidkaa
open Go.RowKit

/-- what 'named' hands back -/
def NamedR : Option (Mem × Nat) → Ending → Prop
  | some (m, n), e => e = .returned (.tuple #[.agg (boolC m), .int .i64 (n : Int)])
  | none, e => ∃ m, e = .returned (.tuple #[.agg (boolC m), .int .i64 0])

set_option maxRecDepth 1000 in
set_option maxHeartbeats 8000000 in
theorem refNm_any (S : ByteArray) (p : Nat) (r : Option (Mem × Nat)) (w : World) (hr : r = namedF S.data.toList p) (hs : S.size ≤ 1000000000) (hp : p + 1 < S.size) :
    Calls Try.prog 93 #[.string S, .int .i64 (p : Int)] w fun e w' => NamedR r e ∧ Later w w' := by
  obtain ⟨hz, hsz⟩ := zero_set
  have hlen : Hid (S.data.toList.length = S.size) := by show _ = _; rw [Array.length_toList]; rfl
  have HR := Lib.hid hr
  clear hr
  go_enter Try.func93, Try.ntmps93
  go_upto_region 1 with fail
  obtain ⟨W0, hW0⟩ : ∃ W0, W0 = w.alloc (.cells (boolC mNone) 36) := ⟨_, rfl⟩
  have B4 : Blk W0 w.heap.size 36 (boolC mNone) := by rw [hW0]; exact Blk.new w _ _
  have hl0 : Later w W0 := by rw [hW0]; exact (Later.refl w).alloc _
  rw [← hW0]
  clear hW0
  go_wp2_with fail
  go_loop [6] (fun i => ∃ k fuel : Nat, p + 2 ≤ k ∧ k ≤ S.size + 1 ∧ i = .int .i64 (k : Int) ∧ S.size ≤ fuel + k ∧ Hid (closeF S.data.toList fuel k = closeF S.data.toList S.data.toList.length (p + 2))) (fun i => S.size + 1 - (intOf i).toNat)
  case atStart => exact ⟨p + 2, S.data.toList.length, by omega, by omega, by go_num, by rw [hlen.out]; omega, rfl⟩
  case round =>
    obtain ⟨k, fuel, hk, hk2, rfl, hfu, HC⟩ := hrel
    by_cases hlt : k + 1 < S.size
    · have hki : (k : Int) + 1 < (S.size : Int) := by omega
      have hk0 : k < S.size := by omega
      by_cases hm : S.data.toList[k]? = some 58 ∧ S.data.toList[k + 1]? = some 93
      · have hC2 : closeF S.data.toList S.data.toList.length (p + 2) = some k := HC.out.symm.trans (closeF_hit _ _ _ (by rw [hlen.out]; omega) (by rw [hlen.out]; omega) hm.1 hm.2)
        obtain ⟨q1, q2⟩ := str_get S k 58 hm.1
        obtain ⟨q3, q4⟩ := str_get S (k + 1) 93 hm.2
        have h1 : ((S[k].toNat : Int) == 58) = true := by rw [q2]; rfl
        have h2 : ((S[k + 1].toNat : Int) == 93) = true := by rw [q4]; rfl
        obtain ⟨m, hmm⟩ : ∃ m : Mem, m = (classOf (S.extract (p + 2) k).data.toList).getD mNone := ⟨_, rfl⟩
        obtain ⟨ok, hok⟩ : ∃ ok : Bool, ok = (classOf (S.extract (p + 2) k).data.toList).isSome := ⟨_, rfl⟩
        have hN : ∀ wz, Calls Try.prog 97 #[.string (S.extract (p + 2) k)] wz fun e w' => e = .returned (.tuple #[.agg (boolC m), .bool ok]) ∧ Later wz w' := fun wz => by rw [hmm, hok]; exact refNamed_any _ wz
        have HN := Lib.hid hN
        have hres : NamedR r (.returned (.tuple #[.agg (boolC m), .int .i64 (if ok then (k : Int) + 2 else 0)])) := by
          have hr2 := HR.out
          unfold namedF at hr2
          rw [hC2] at hr2
          simp only at hr2
          have he : (S.data.toList.take k).drop (p + 2) = (S.extract (p + 2) k).data.toList := by rw [Lib.extract_data, List.drop_take]
          rw [he] at hr2
          cases hc : classOf (S.extract (p + 2) k).data.toList with
          | none =>
            rw [hc] at hr2 hok
            subst hr2 hok
            exact ⟨m, rfl⟩
          | some m' =>
            rw [hc] at hr2 hok hmm
            subst hr2 hok hmm
            rfl
        have HRES := Lib.hid hres
        clear hres hC2 hm q2 q4 hmm hok HC hN HR
        have hp2 : (p : Int) + 2 ≤ (k : Int) := by omega
        have hp0 : (0 : Int) ≤ (p : Int) + 2 := by omega
        have hk5 : (k : Int) ≤ (S.size : Int) := by omega
        have hpw : IntKind.i64.wrap ((p : Int) + 2) = (p : Int) + 2 := IntWalk.i64_in _ (by omega)
        have hpt : ((p : Int) + 2).toNat = p + 2 := by omega
        have hpk : p + 2 ≤ k := hk
        have hks : k ≤ S.size := by omega
        go_wp2_with fail
        refine (HN.out _).mono ?_
        rintro e wb ⟨rfl, hlb⟩
        have B4 := blkLat hlb B4
        have hl1 := hl0.trans hlb
        have R2 : Hid ((wb.alloc (.cells (boolC mNone) 36)).there wb.heap.size 0 (boolC m).size) := thereB (Blk.new wb _ _)
        clear hl0 hlb HN
        have hwb : Later wb ((wb.alloc (.cells (boolC mNone) 36)).setCells wb.heap.size 0 (boolC m).toList) := laterCells ((Later.refl wb).alloc _) _ _
        have R7 : Hid (World.rangeAt ((wb.alloc (.cells (boolC mNone) 36)).setCells wb.heap.size 0 (boolC m).toList) wb.heap.size 0 (boolC m).toList) := by show World.rangeAt _ _ _ _; exact World.rangeAt_setCells_same _ _ _ _ (by rw [Array.length_toList]; exact R2.out)
        have B4 := blkLat hwb B4
        have hl2 := hl1.trans hwb
        have R4 : Hid (World.there ((wb.alloc (.cells (boolC mNone) 36)).setCells wb.heap.size 0 (boolC m).toList) w.heap.size 0 (boolC m).size) := thereB B4
        have HL2 := Lib.hid hl2
        clear hwb hl1 hl2 B4
        cases ok with
        | false =>
          go_wp2_with (first
            | (refine wpList_store_mid (P := Try.prog) rfl 36 (.tmp 7) (.tmp 36) rfl wb.heap.size 0 (boolC m) rfl rfl (by with_reducible exact R2.out) (sizeB' _) (oneB _) ?_)
            | (refine wpList_load_mid (P := Try.prog) rfl 36 (.tmp 7) rfl wb.heap.size 0 rfl (boolC m).toList _ (by with_reducible exact R7.out) Try.underlying36 rfl (sizeB m) ?_)
            | (refine wpList_store_mid (P := Try.prog) rfl 36 (.tmp 4) (.tmp 40) rfl w.heap.size 0 (boolC m) rfl rfl (by with_reducible exact R4.out) (sizeB' m) (oneB m) ?_))
          have hld := run_loadVar_mid (P := Try.prog) _ w.heap.size 0 36 (boolC m).toList _ (World.rangeAt_setCells_same _ w.heap.size 0 (boolC m).toList (by rw [Array.length_toList]; exact R4.out)) Try.underlying36 rfl (sizeB m)
          rw [Array.toArray_toList] at hld
          refine bodyPost_ret (v := .tuple #[.agg (boolC m), .int .i64 0]) ?_ rfl ⟨HRES.out, laterCells HL2.out _ _⟩
          simp [results, Try.results93, asAddr, hld]
        | true =>
          go_wp2_with (first
            | (refine wpList_store_mid (P := Try.prog) rfl 36 (.tmp 7) (.tmp 36) rfl wb.heap.size 0 (boolC m) rfl rfl (by with_reducible exact R2.out) (sizeB' _) (oneB _) ?_)
            | (refine wpList_load_mid (P := Try.prog) rfl 36 (.tmp 7) rfl wb.heap.size 0 rfl (boolC m).toList _ (by with_reducible exact R7.out) Try.underlying36 rfl (sizeB m) ?_)
            | (refine wpList_store_mid (P := Try.prog) rfl 36 (.tmp 4) (.tmp 41) rfl w.heap.size 0 (boolC m) rfl rfl (by with_reducible exact R4.out) (sizeB' m) (oneB m) ?_))
          have hld := run_loadVar_mid (P := Try.prog) _ w.heap.size 0 36 (boolC m).toList _ (World.rangeAt_setCells_same _ w.heap.size 0 (boolC m).toList (by rw [Array.length_toList]; exact R4.out)) Try.underlying36 rfl (sizeB m)
          rw [Array.toArray_toList] at hld
          refine bodyPost_ret (v := .tuple #[.agg (boolC m), .int .i64 ((k : Int) + 2)]) ?_ rfl ⟨HRES.out, laterCells HL2.out _ _⟩
          simp [results, Try.results93, asAddr, hld]
      · obtain ⟨f2, hf2, hC2⟩ := closeF_miss _ fuel k (by rw [hlen.out]; omega) (by rw [hlen.out]; omega) hm
        have HC2 : Hid (closeF S.data.toList f2 (k + 1) = closeF S.data.toList S.data.toList.length (p + 2)) := hC2.trans HC.out
        rw [hlen.out] at hf2
        have hor : ((S[k].toNat : Int) == 58) = false ∨ (((S[k].toNat : Int) == 58) = true ∧ ((S[k + 1].toNat : Int) == 93) = false) := by
          by_cases h1 : S[k].toNat = 58
          · refine .inr ⟨by rw [h1]; rfl, ?_⟩
            rw [beq_eq_false_iff_ne]
            intro h2
            refine hm ⟨?_, ?_⟩
            · rw [Array.getElem?_toList, Array.getElem?_eq_getElem hk0]
              exact congrArg some (UInt8.toNat_inj.1 h1)
            · rw [Array.getElem?_toList, Array.getElem?_eq_getElem hlt]
              exact congrArg some (UInt8.toNat_inj.1 (by show S[k + 1].toNat = 93; omega))
          · exact .inl (by rw [beq_eq_false_iff_ne]; omega)
        clear hm hC2
        rcases hor with h1 | ⟨h1, h2⟩
        all_goals
          go_wp2_with fail
          go_round
          case rel => exact ⟨k + 1, f2, by omega, by omega, by go_num, by omega, HC2⟩
          case measure => simp [intOf]; omega
    · have hCn : closeF S.data.toList S.data.toList.length (p + 2) = none := HC.out.symm.trans (closeF_end _ _ _ (by rw [hlen.out]; omega))
      have hrn : r = none := by rw [HR.out]; unfold namedF; rw [hCn]
      subst hrn
      clear HC hCn
      have hki : ¬ (k : Int) + 1 < (S.size : Int) := by omega
      have R4 : Hid (W0.there w.heap.size 0 (boolC mNone).size) := thereB B4
      go_wp2_with (refine wpList_store_mid (P := Try.prog) rfl 36 (.tmp 4) (.tmp 44) rfl w.heap.size 0 (boolC mNone) rfl rfl (by with_reducible exact R4.out) (sizeB' _) (oneB _) ?_)
      have hld := run_loadVar_mid (P := Try.prog) _ w.heap.size 0 36 (boolC mNone).toList _ (World.rangeAt_setCells_same W0 w.heap.size 0 (boolC mNone).toList (by rw [Array.length_toList]; exact R4.out)) Try.underlying36 rfl (sizeB mNone)
      rw [Array.toArray_toList] at hld
      refine bodyPost_ret (v := .tuple #[.agg (boolC mNone), .int .i64 0]) ?_ rfl ⟨⟨mNone, rfl⟩, laterCells hl0 _ _⟩
      simp [results, Try.results93, asAddr, hld]

end Go.Proofs.Ythmjnelnnhidkaa

/-
  The document's Bracket.
-/
namespace Go.Proofs.Ythmjnelnnhidkaa
open Go.RowKit

theorem boolC_set (p q : Mem) (k : Nat) (hk : k < 256) (h : ∀ b, b ≠ k → p b = q b) : (boolC p).setIfInBounds k (.bool (q k)) = boolC q := by
  apply Array.ext_getElem?
  intro i
  rw [Array.getElem?_setIfInBounds]
  by_cases hi : i < 256
  · by_cases e : k = i
    · subst e
      rw [if_pos rfl, if_pos (by rw [boolC_size]; exact hk), boolC_get _ hk]
    · rw [if_neg e, boolC_get _ hi, boolC_get _ hi, h i (Ne.symm e)]
  · rw [Array.getElem?_eq_none (xs := boolC q) (by rw [boolC_size]; omega), if_neg (by omega), Array.getElem?_eq_none (by rw [boolC_size]; omega)]
/-- with the bytes from a to below k -/
def rUpto (m : Mem) (a k : Nat) : Mem := fun b => m b || (decide (a ≤ b) && decide (b < k))
theorem rUpto_zero (m : Mem) (a b : Nat) : rUpto m a a b = m b := by
  unfold rUpto
  by_cases h : a ≤ b
  · have : decide (b < a) = false := by simp; omega
    rw [this, Bool.and_false, Bool.or_false]
  · have : decide (a ≤ b) = false := by simp; omega
    rw [this, Bool.false_and, Bool.or_false]
theorem rUpto_step (m : Mem) (a k : Nat) (h : a ≤ k) (hk : k < 256) : (boolC (rUpto m a k)).setIfInBounds k (.bool true) = boolC (rUpto m a (k + 1)) := by
  have := boolC_set (rUpto m a k) (rUpto m a (k + 1)) k hk (fun b hb => by
    unfold rUpto
    have : decide (b < k) = decide (b < k + 1) := by rw [decide_eq_decide]; omega
    rw [this])
  have e : rUpto m a (k + 1) k = true := by
    unfold rUpto
    rw [decide_eq_true h, decide_eq_true (Nat.lt_succ_self k)]
    simp
  rwa [e] at this
theorem rUpto_span (m : Mem) (a z b : Nat) : rUpto m a (z + 1) b = mOr m (mSpan a z) b := by
  unfold rUpto mOr mSpan
  have : decide (b < z + 1) = decide (b ≤ z) := by rw [decide_eq_decide]; omega
  rw [this]
theorem rUpto_one (m : Mem) (a b : Nat) (ha : a < 256) : rUpto m a (a + 1) b = mOr m (mOf [UInt8.ofNat a]) b := by
  unfold rUpto mOr mOf
  have h1 : (UInt8.ofNat a).toNat = a := by rw [UInt8.toNat_ofNat']; omega
  show _ = (m b || ([UInt8.ofNat a].any fun x => b == x.toNat))
  simp only [List.any_cons, List.any_nil, Bool.or_false, h1]
  congr 1
  rw [Bool.eq_iff_iff, Bool.and_eq_true, decide_eq_true_eq, decide_eq_true_eq, beq_iff_eq]
  omega
/-- with another's bytes below k -/
def mWithTo (m c : Mem) (k : Nat) : Mem := fun b => m b || (decide (b < k) && c b)
theorem mWithTo_zero (m c : Mem) (b : Nat) : mWithTo m c 0 b = m b := by unfold mWithTo; simp
theorem mWithTo_at (m c : Mem) (k : Nat) : mWithTo m c k k = m k := by unfold mWithTo; simp
theorem mWithTo_all (m c : Mem) (b : Nat) (hb : b < 256) : mWithTo m c 256 b = mOr m c b := by unfold mWithTo mOr; rw [decide_eq_true hb, Bool.true_and]
theorem mWithTo_step (m c : Mem) (k : Nat) (hk : k < 256) (v : Bool) (hv : v = (m k || c k)) : (boolC (mWithTo m c k)).setIfInBounds k (.bool v) = boolC (mWithTo m c (k + 1)) := by
  have := boolC_set (mWithTo m c k) (mWithTo m c (k + 1)) k hk (fun b hb => by
    unfold mWithTo
    have : decide (b < k) = decide (b < k + 1) := by rw [decide_eq_decide]; omega
    rw [this])
  have e : mWithTo m c (k + 1) k = v := by
    unfold mWithTo
    rw [decide_eq_true (Nat.lt_succ_self k), hv, Bool.true_and]
  rwa [e] at this
/-- turned below k -/
def mTurned (m : Mem) (t : Bool) (k : Nat) : Mem := fun b => if b < k then m b != t else m b
theorem mTurned_zero (m : Mem) (t : Bool) (b : Nat) : mTurned m t 0 b = m b := by unfold mTurned; rw [if_neg (Nat.not_lt_zero _)]
theorem mTurned_at (m : Mem) (t : Bool) (k : Nat) : mTurned m t k k = m k := by unfold mTurned; rw [if_neg (Nat.lt_irrefl _)]
theorem mTurned_all (m : Mem) (t : Bool) (b : Nat) (hb : b < 256) : mTurned m t 256 b = (if t then mNot m else m) b := by
  unfold mTurned
  rw [if_pos hb]
  cases t
  · simp
  · show (m b != true) = mNot m b
    unfold mNot
    cases m b <;> rfl
theorem mTurned_step (m : Mem) (t : Bool) (k : Nat) (hk : k < 256) : (boolC (mTurned m t k)).setIfInBounds k (.bool (m k != t)) = boolC (mTurned m t (k + 1)) := by
  have := boolC_set (mTurned m t k) (mTurned m t (k + 1)) k hk (fun b hb => by
    unfold mTurned
    by_cases h : b < k
    · rw [if_pos h, if_pos (by omega)]
    · rw [if_neg h, if_neg (by omega)])
  have e : mTurned m t (k + 1) k = (m k != t) := by unfold mTurned; rw [if_pos (Nat.lt_succ_self k)]
  rwa [e] at this

theorem endF_lt (l : List UInt8) (p a n : Nat) (h : endF l p = some (a, n)) (hp : p ≤ l.length) : a < 256 ∧ p < n ∧ n ≤ l.length := by
  unfold endF at h
  cases h0 : l[p]? with
  | none => rw [h0] at h; cases h
  | some c =>
    have h1 := (List.getElem?_eq_some_iff.1 h0).1
    have hc := c.toNat_lt
    rw [h0] at h
    simp only at h
    split at h
    · cases h; exact ⟨hc, by omega, by omega⟩
    · cases h2 : l[p + 1]? with
      | none => rw [h2] at h; cases h
      | some e =>
        have h3 := (List.getElem?_eq_some_iff.1 h2).1
        have he := e.toNat_lt
        rw [h2] at h
        simp only at h
        split at h
        · cases h; exact ⟨by omega, by omega, by omega⟩
        · split at h
          · cases h; exact ⟨by omega, by omega, by omega⟩
          · split at h
            · cases h
              have := octF_bd l 2 (p + 2) (e.toNat - 48) (by omega)
              exact ⟨Nat.mod_lt _ (by omega), by omega, by omega⟩
            · cases h; exact ⟨he, by omega, by omega⟩
theorem closeF_lt (l : List UInt8) : ∀ (fuel k i : Nat), closeF l fuel k = some i → k ≤ i ∧ i + 1 < l.length
  | 0, _, _, h => by cases h
  | f + 1, k, i, h => by
    rw [closeF] at h
    split at h
    · split at h
      · cases h; exact ⟨Nat.le_refl _, by assumption⟩
      · have := closeF_lt l f (k + 1) i h; omega
    · cases h
theorem namedF_lt (l : List UInt8) (p n : Nat) (m : Mem) (h : namedF l p = some (m, n)) : p < n ∧ n ≤ l.length ∧ n ≠ 0 := by
  unfold namedF at h
  cases h1 : closeF l l.length (p + 2) with
  | none => rw [h1] at h; cases h
  | some k =>
    have := closeF_lt l _ _ _ h1
    rw [h1] at h
    simp only at h
    split at h
    · cases h
    · cases h; omega
theorem opensF_lt (l : List UInt8) (p : Nat) (h : opensF l p = true) : p + 1 < l.length := by
  unfold opensF at h
  rw [Bool.and_eq_true, beq_iff_eq, beq_iff_eq] at h
  exact (List.getElem?_eq_some_iff.1 h.2).1
theorem itemF_end (l : List UInt8) (p : Nat) (h : l.length ≤ p) : itemF l p = none := by
  have h0 : l[p]? = none := List.getElem?_eq_none h
  have h1 : opensF l p = false := by unfold opensF; rw [h0]; rfl
  unfold itemF
  rw [h1, if_neg (by simp)]
  have : endF l p = none := by unfold endF; rw [h0]
  rw [this]
theorem ritems_end (l : List UInt8) (f p : Nat) (b : Bool) (m : Mem) (h : l.length ≤ p) : itemsF l f p b m = none := by
  cases f with
  | zero => rfl
  | succ f =>
    rw [itemsF, if_neg (by rw [List.getElem?_eq_none h]; simp), itemF_end l p h]
theorem ritems_stop (l : List UInt8) (f p : Nat) (m : Mem) (h : l[p]? = some 93) : itemsF l (f + 1) p false m = some (m, p) := by
  rw [itemsF, h]
  rfl
theorem ritems_item (l : List UInt8) (f p : Nat) (b : Bool) (m : Mem) (h : b = true ∨ l[p]? ≠ some 93) : itemsF l (f + 1) p b m = match itemF l p with
    | none => none
    | some (x, q) => itemsF l f q false (mOr m x) := by
  rw [itemsF, if_neg]
  · rfl
  · intro hh
    rw [Bool.and_eq_true] at hh
    rcases h with rfl | h
    · cases hh.1
    · exact h (beq_iff_eq.1 hh.2)

/-- turned, if asked -/
def finR (nt : Bool) : Option (Mem × Nat) → Option (Mem × Nat)
  | none => none
  | some (m, e) => some (if nt then mNot m else m, e + 1)
/-- what the document's Bracket hands back -/
def BracketR : Option (Mem × Nat) → Ending → Prop
  | some (m, n), e => e = .returned (.tuple #[.agg (boolC m), .int .i64 (n : Int), .bool true])
  | none, e => e = .returned (.tuple #[.agg (boolC mNone), .int .i64 0, .bool false])
/-- the state of the loop over the items -/
def ItemsAt (S : ByteArray) (IR : Option (Mem × Nat)) (w : World) (s1 s9 : Value) (wr : World) : Prop :=
  ∃ (a fuel : Nat) (first : Bool) (m : Mem), s1 = .int .i64 (a : Int) ∧ s9 = .bool first ∧ a ≤ S.size ∧ Blk wr (w.heap.size + 1) 36 (boolC m) ∧ Blk wr w.heap.size 36 (boolC mNone) ∧ Later w wr ∧ S.size < fuel + a ∧ Hid (itemsF S.data.toList fuel a first m = IR)
theorem oneR_some {p a n : Nat} {e : Ending} (h : OneR p (some (a, n)) e) : e = .returned (.tuple #[.int .u8 (a : Int), .int .i64 (n : Int), .bool true]) := h
theorem oneR_none {p : Nat} {e : Ending} (h : OneR p none e) : e = .returned (.tuple #[.int .u8 0, .int .i64 (p : Int), .bool false]) := h
theorem namedR_some {m : Mem} {n : Nat} {e : Ending} (h : NamedR (some (m, n)) e) : e = .returned (.tuple #[.agg (boolC m), .int .i64 (n : Int)]) := h

set_option maxRecDepth 4000 in
set_option maxHeartbeats 16000000 in
theorem refBracket_any (S : ByteArray) (p : Nat) (R : Option (Mem × Nat)) (w : World) (hR : R = bracketF S.data.toList (p : Int)) (hs : S.size ≤ 100000) (hp : p ≤ S.size) :
    Calls Try.prog 89 #[.string S, .int .i64 (p : Int)] w fun e w' => BracketR R e ∧ Later w w' := by
  obtain ⟨hz, hsz⟩ := zero_set
  have hlen : S.data.toList.length = S.size := by rw [Array.length_toList]; rfl
  obtain ⟨nt, hnt⟩ : ∃ nt : Bool, nt = (S.data.toList[p]? == some 94) := ⟨_, rfl⟩
  obtain ⟨q, hq⟩ : ∃ q, q = if nt then p + 1 else p := ⟨_, rfl⟩
  obtain ⟨IR, hIR⟩ : ∃ IR, IR = itemsF S.data.toList (S.data.toList.length + 1) q true mNone := ⟨_, rfl⟩
  have hRI : R = finR nt IR := by
    rw [hR]
    unfold bracketF
    rw [if_neg (by rw [hlen]; omega)]
    simp only [Int.toNat_natCast]
    rw [hIR, hq, hnt]
    cases itemsF S.data.toList (S.data.toList.length + 1) (if (S.data.toList[p]? == some 94) = true then p + 1 else p) true mNone <;> rfl
  have hqs : q ≤ S.size := by
    rw [hq]
    cases nt with
    | false => exact hp
    | true =>
      have := (List.getElem?_eq_some_iff.1 (beq_iff_eq.1 hnt.symm)).1
      show p + 1 ≤ S.size
      omega
  have HNT := Lib.hid hnt
  have HQ := Lib.hid hq
  have HIR := Lib.hid hIR
  have HRI := Lib.hid hRI
  have HLEN := Lib.hid hlen
  have hpi : (p : Int) ≤ 100000 := by omega
  have hpn : ¬ (p : Int) < 0 := by omega
  have hpn2 : decide (S.size < p) = false := by simp; omega
  clear hR hnt hq hIR hRI hlen
  go_enter Try.func89, Try.ntmps89
  go_upto_region 4 with fail
  obtain ⟨W0, hW0⟩ : ∃ W0, W0 = (w.alloc (.cells (boolC mNone) 36)).alloc (.cells (boolC mNone) 36) := ⟨_, rfl⟩
  have B4 : Blk W0 w.heap.size 36 (boolC mNone) := by rw [hW0]; exact (Blk.new w _ _).alloc _
  have B7 : Blk W0 (w.heap.size + 1) 36 (boolC mNone) := by rw [hW0]; exact blk_at (by simp)
  have hl : Later w W0 := by rw [hW0]; exact ((Later.refl w).alloc _).alloc _
  rw [← hW0]
  clear hW0
  go_cut [8] (fun s8 wx => s8 = .bool nt ∧ wx = W0)
  case first =>
    cases h0 : S.data.toList[p]? with
    | none =>
      have hle := str_none S _ h0
      have hd : decide (p < S.size) = false := by simp; omega
      have hn : nt = false := by rw [HNT.out, h0]; rfl
      subst hn
      clear h0 HNT HQ HRI HIR
      go_wp2_with fail
      go_meet
      exact ⟨rfl, rfl⟩
    | some c =>
      obtain ⟨hi, he⟩ := str_get S _ c h0
      by_cases h94 : c = 94
      · have hn : nt = true := by rw [HNT.out, h0, h94]; rfl
        have e1 : ((S[p].toNat : Int) == 94) = true := by rw [he, h94]; rfl
        subst hn
        clear h0 he h94 HNT HQ HRI HIR
        go_wp2_with fail
        go_meet
        exact ⟨rfl, rfl⟩
      · have hn : nt = false := by rw [HNT.out, h0, beq_eq_false_iff_ne]; intro e; exact h94 (Option.some.inj e)
        have e1 : ((S[p].toNat : Int) == 94) = false := byte_no S _ c 94 hi he (u8_ne h94)
        subst hn
        clear h0 he h94 HNT HQ HRI HIR
        go_wp2_with fail
        go_meet
        exact ⟨rfl, rfl⟩
  case rest =>
  obtain ⟨rfl, hwc⟩ := hcut
  subst hwc
  go_upto_if 38 with (fail)
  go_cut [1] (fun s1 wx => s1 = .int .i64 (q : Int) ∧ wx = wc)
  case first =>
    cases nt with
    | true =>
      have hq1 : q = p + 1 := HQ.out
      have HQ1 := Lib.hid hq1
      clear hq1 HQ HNT HRI HIR
      go_wp2_with fail
      go_meet
      exact ⟨by rw [HQ1.out]; go_num, rfl⟩
    | false =>
      have hq1 : q = p := HQ.out
      have HQ1 := Lib.hid hq1
      clear hq1 HQ HNT HRI HIR
      go_wp2_with fail
      go_meet
      exact ⟨by rw [HQ1.out], rfl⟩
  case rest =>
  obtain ⟨rfl, hwd⟩ := hcut
  subst hwd
  clear HQ HNT hpn hpn2 hpi
  go_wp2_with fail
  go_loopw [1, 9] (fun s1 s9 wr => ItemsAt S IR w s1 s9 wr) (fun s1 _ _ => S.size - (intOf s1).toNat)
  case atStart => exact ⟨q, S.data.toList.length + 1, true, mNone, rfl, rfl, hqs, B7, B4, hl, by rw [HLEN.out]; omega, HIR.out.symm⟩
  case round =>
    clear B7 B4 hl HIR hqs
    obtain ⟨a, fuel, first, m, rfl, rfl, hap, B7, B4, hl, hfu, HI⟩ := hrel
    have hai : (a : Int) ≤ 100000 := by omega
    cases h0 : S.data.toList[a]? with
    | none =>
      have hle := str_none S _ h0
      have hd : decide (a < S.size) = false := by simp; omega
      have hle2 : (S.size : Int) ≤ (a : Int) := by omega
      have hRn : R = none := by
        rw [HRI.out, ← HI.out, ritems_end _ _ _ _ _ (by rw [HLEN.out]; exact hle)]; rfl
      subst hRn
      clear HRI HI h0
      have R4 : Hid (World.there wr w.heap.size 0 (boolC mNone).size) := thereB B4
      go_wp2_with (refine wpList_store_mid (P := Try.prog) rfl 36 (.tmp 4) (.tmp 146) rfl w.heap.size 0 (boolC mNone) rfl rfl (by with_reducible exact R4.out) (sizeB' _) (oneB _) ?_)
      have hld := run_loadVar_mid (P := Try.prog) _ w.heap.size 0 36 (boolC mNone).toList _ (World.rangeAt_setCells_same wr w.heap.size 0 (boolC mNone).toList (by rw [Array.length_toList]; exact R4.out)) Try.underlying36 rfl (sizeB mNone)
      rw [Array.toArray_toList] at hld
      refine bodyPost_ret (v := .tuple #[.agg (boolC mNone), .int .i64 0, .bool false]) ?_ rfl ⟨rfl, laterCells hl _ _⟩
      simp [results, Try.results89, asAddr, hld]
    | some c =>
      obtain ⟨hi, he⟩ := str_get S _ c h0
      obtain ⟨f, hf⟩ : ∃ f, fuel = f + 1 := ⟨fuel - 1, by omega⟩
      rw [hf] at HI hfu
      by_cases hstop : first = false ∧ c = 93
      · obtain ⟨hf0, hc⟩ := hstop
        subst hf0
        have e1 : ((S[a].toNat : Int) == 93) = true := by rw [he, hc]; rfl
        have hge : decide (S.size ≤ a) = false := by simp; omega
        have hRs : R = some (if nt then mNot m else m, a + 1) := by
          rw [HRI.out, ← HI.out, ritems_stop _ _ _ _ (by rw [h0, hc])]; rfl
        have HRS := Lib.hid hRs
        clear HRI HI h0 hRs hc he
        go_wp2_with fail
        go_loopw [18] (fun s18 wr => ∃ k : Nat, k ≤ 256 ∧ s18 = .int .i64 (k : Int) ∧ Blk wr (w.heap.size + 1) 36 (boolC (mTurned m nt k)) ∧ Blk wr w.heap.size 36 (boolC mNone) ∧ Later w wr) (fun s18 _ => 256 - (intOf s18).toNat)
        case atStart => exact ⟨0, Nat.zero_le _, rfl, by rw [boolC_ext (mTurned m nt 0) m (fun b _ => mTurned_zero m nt b)]; exact B7, B4, hl⟩
        case round =>
          clear B7 B4 hl
          obtain ⟨k, hk, rfl, B7, B4, hl⟩ := hrel
          by_cases hlt : k < 256
          · have hlti : (k : Int) < 256 := by omega
            have hst := Lib.hid (mTurned_step m nt k hlt)
            have f1 := B7.frozen k
            have c1 : wr.cell? ⟨w.heap.size + 1, k, none⟩ = some (.bool (m k)) := by rw [B7.cell, boolC_get _ hlt, mTurned_at]
            go_wp2_with fail
            go_roundw
            case rel => exact ⟨k + 1, by omega, by go_num, by rw [← hst.out]; exact B7.set_ k _, B4.far (by show w.heap.size ≠ w.heap.size + 1; omega) _, Later.setCell hl (Nat.le_succ _) _⟩
            case measure => simp [intOf]; omega
          · obtain rfl : k = 256 := by omega
            obtain ⟨z, hz9⟩ : ∃ z, z = (if nt then mNot m else m) := ⟨_, rfl⟩
            rw [boolC_ext (mTurned m nt 256) z (fun b hb => by rw [hz9]; exact mTurned_all m nt b hb)] at B7
            rw [← hz9] at HRS
            have R7 : Hid (wr.rangeAt (w.heap.size + 1) 0 (boolC z).toList) := rangeB B7
            have R4 : Hid (wr.there w.heap.size 0 (boolC z).size) := thereB B4
            clear hz9
            go_wp2_with (first
              | (refine wpList_load_mid (P := Try.prog) rfl 36 (.tmp 7) rfl (w.heap.size + 1) 0 rfl (boolC z).toList _ (by with_reducible exact R7.out) Try.underlying36 rfl (sizeB z) ?_)
              | (refine wpList_store_mid (P := Try.prog) rfl 36 (.tmp 4) (.tmp 158) rfl w.heap.size 0 (boolC z) rfl rfl (by with_reducible exact R4.out) (sizeB' z) (oneB z) ?_))
            have hld := run_loadVar_mid (P := Try.prog) _ w.heap.size 0 36 (boolC z).toList _ (World.rangeAt_setCells_same wr w.heap.size 0 (boolC z).toList (by rw [Array.length_toList]; exact R4.out)) Try.underlying36 rfl (sizeB z)
            rw [Array.toArray_toList] at hld
            refine bodyPost_ret (v := .tuple #[.agg (boolC z), .int .i64 ((a : Int) + 1), .bool true]) ?_ rfl ⟨by rw [HRS.out]; rfl, laterCells hl _ _⟩
            simp [results, Try.results89, asAddr, hld]
      · have hgo : first = true ∨ (first = false ∧ ((S[a].toNat : Int) == 93) = false) := by
          cases first with
          | true => exact .inl rfl
          | false => exact .inr ⟨rfl, byte_no S _ c 93 hi he (u8_ne (fun e => hstop ⟨rfl, e⟩))⟩
        have hit : itemsF S.data.toList (f + 1) a first m = match itemF S.data.toList a with
            | none => none
            | some (x, q) => itemsF S.data.toList f q false (mOr m x) := by
          refine ritems_item _ _ _ _ _ ?_
          rcases hgo with h | ⟨h, -⟩
          · exact .inl h
          · exact .inr (by rw [h0]; intro e; exact hstop ⟨h, Option.some.inj e⟩)
        have hIT : Hid (IR = match itemF S.data.toList a with
            | none => none
            | some (x, q) => itemsF S.data.toList f q false (mOr m x)) := HI.out.symm.trans hit
        clear hit HI h0 he hstop hf
        have hs9 : S.size ≤ 1000000000 := by omega
        rcases hgo with rfl | ⟨rfl, e9⟩
        all_goals
          go_wp2_with fail
          cases hop : opensF S.data.toList a with
          | true =>
            have hol := opensF_lt _ _ hop
            rw [HLEN.out] at hol
            refine (opens_any S _ a true _ rfl hop hs9 (by omega)).mono ?_
            rintro e w1 ⟨rfl, rfl⟩
            cases hnm : namedF S.data.toList a with
            | none =>
              have hRn : R = none := by rw [HRI.out, hIT.out]; unfold itemF; rw [hop, if_pos rfl, hnm]; rfl
              have HRN := Lib.hid hRn
              have HNM := Lib.hid hnm
              clear hop hnm hIT HRI hRn
              go_wp2_with fail
              refine (refNm_any S a none _ HNM.out.symm hs9 hol).mono ?_
              rintro e w1 ⟨⟨mx, rfl⟩, hl1⟩
              have B4 := blkLat hl1 B4
              have hl2 := hl.trans hl1
              have R2 : Hid ((w1.alloc (.cells (boolC mNone) 36)).there w1.heap.size 0 (boolC mx).size) := thereB (Blk.new w1 _ _)
              clear hl hl1 B7
              go_upto_region 12 with (refine wpList_store_mid (P := Try.prog) rfl 36 (.tmp 10) (.tmp 61) rfl w1.heap.size 0 (boolC mx) rfl rfl (by with_reducible exact R2.out) (sizeB' _) (oneB _) ?_)
              obtain ⟨wf, hwf⟩ : ∃ wf, wf = (w1.alloc (.cells (boolC mNone) 36)).setCells w1.heap.size 0 (boolC mx).toList := ⟨_, rfl⟩
              have hwb : Later w1 wf := by rw [hwf]; exact laterCells ((Later.refl w1).alloc _) _ _
              have B4 := blkLat hwb B4
              have hl := hl2.trans hwb
              rw [← hwf]
              clear hwf R2 hwb hl2
              have R4 : Hid (World.there wf w.heap.size 0 (boolC mNone).size) := thereB B4
              go_wp2_with (refine wpList_store_mid (P := Try.prog) rfl 36 (.tmp 4) (.tmp 65) rfl w.heap.size 0 (boolC mNone) rfl rfl (by with_reducible exact R4.out) (sizeB' _) (oneB _) ?_)
              have hld := run_loadVar_mid (P := Try.prog) _ w.heap.size 0 36 (boolC mNone).toList _ (World.rangeAt_setCells_same wf w.heap.size 0 (boolC mNone).toList (by rw [Array.length_toList]; exact R4.out)) Try.underlying36 rfl (sizeB mNone)
              rw [Array.toArray_toList] at hld
              refine bodyPost_ret (v := .tuple #[.agg (boolC mNone), .int .i64 0, .bool false]) ?_ rfl ⟨by rw [HRN.out]; rfl, laterCells hl _ _⟩
              simp [results, Try.results89, asAddr, hld]
            | some xn =>
              obtain ⟨x, n⟩ := xn
              obtain ⟨n1, n2, n3⟩ := namedF_lt _ _ _ _ hnm
              rw [HLEN.out] at n2
              have hI2 : itemsF S.data.toList f n false (mOr m x) = IR := by rw [hIT.out]; unfold itemF; rw [hop, if_pos rfl, hnm]
              have HI2 := Lib.hid hI2
              have HNM := Lib.hid hnm
              have hn0 : ((n : Int) == 0) = false := by rw [beq_eq_false_iff_ne]; omega
              clear hop hnm hIT HRI hI2
              go_wp2_with fail
              refine (refNm_any S a (some (x, n)) _ HNM.out.symm hs9 hol).mono ?_
              rintro e w1 ⟨hN, hl1⟩
              obtain rfl := namedR_some hN
              have B4 := blkLat hl1 B4
              have B7 := blkLat hl1 B7
              have hl2 := hl.trans hl1
              have R2 : Hid ((w1.alloc (.cells (boolC mNone) 36)).there w1.heap.size 0 (boolC x).size) := thereB (Blk.new w1 _ _)
              clear hl hl1 hN
              go_upto_region 12 with (refine wpList_store_mid (P := Try.prog) rfl 36 (.tmp 10) (.tmp 61) rfl w1.heap.size 0 (boolC x) rfl rfl (by with_reducible exact R2.out) (sizeB' _) (oneB _) ?_)
              obtain ⟨g, hg⟩ : ∃ g, g = w1.heap.size := ⟨_, rfl⟩
              obtain ⟨wf, hwf⟩ : ∃ wf, wf = (w1.alloc (.cells (boolC mNone) 36)).setCells w1.heap.size 0 (boolC x).toList := ⟨_, rfl⟩
              have hwb : Later w1 wf := by rw [hwf]; exact laterCells ((Later.refl w1).alloc _) _ _
              have B10 : Blk wf g 36 (boolC x) := by rw [hwf, hg]; exact Blk.setBools (Blk.new w1 _ _)
              have hgl : w.heap.size + 1 < g := by have := B7.lt; omega
              have B4 := blkLat hwb B4
              have B7 := blkLat hwb B7
              have hl := hl2.trans hwb
              rw [← hwf, ← hg]
              clear hwf R2 hwb hl2 hg
              go_wp2_with fail
              go_loopw [12] (fun s12 wr => ∃ k : Nat, k ≤ 256 ∧ s12 = .int .i64 (k : Int) ∧ Blk wr (w.heap.size + 1) 36 (boolC (mWithTo m x k)) ∧ Blk wr w.heap.size 36 (boolC mNone) ∧ Blk wr g 36 (boolC x) ∧ Later w wr) (fun s12 _ => 256 - (intOf s12).toNat)
              case atStart => exact ⟨0, Nat.zero_le _, rfl, by rw [boolC_ext (mWithTo m x 0) m (fun b _ => mWithTo_zero m x b)]; exact B7, B4, B10, hl⟩
              case round =>
                clear B7 B4 hl B10
                obtain ⟨k, hk, rfl, B7, B4, B10, hl⟩ := hrel
                by_cases hlt : k < 256
                · have hlti : (k : Int) < 256 := by omega
                  have f1 := B7.frozen k
                  have c1 : wr.cell? ⟨w.heap.size + 1, k, none⟩ = some (.bool (m k)) := by rw [B7.cell, boolC_get _ hlt, mWithTo_at]
                  have c2 : wr.cell? ⟨g, k, none⟩ = some (.bool (x k)) := by rw [B10.cell, boolC_get _ hlt]
                  cases hmk : m k with
                  | true =>
                    have hst := Lib.hid (mWithTo_step m x k hlt true (by rw [hmk]; rfl))
                    rw [hmk] at c1
                    go_wp2_with fail
                    go_roundw
                    case rel => exact ⟨k + 1, by omega, by go_num, by rw [← hst.out]; exact B7.set_ k _, B4.far (by show w.heap.size ≠ w.heap.size + 1; omega) _, B10.far (by show g ≠ w.heap.size + 1; omega) _, Later.setCell hl (Nat.le_succ _) _⟩
                    case measure => simp [intOf]; omega
                  | false =>
                    have hst := Lib.hid (mWithTo_step m x k hlt (x k) (by rw [hmk]; rfl))
                    rw [hmk] at c1
                    go_wp2_with fail
                    go_roundw
                    case rel => exact ⟨k + 1, by omega, by go_num, by rw [← hst.out]; exact B7.set_ k _, B4.far (by show w.heap.size ≠ w.heap.size + 1; omega) _, B10.far (by show g ≠ w.heap.size + 1; omega) _, Later.setCell hl (Nat.le_succ _) _⟩
                    case measure => simp [intOf]; omega
                · have hkz : k = 256 := by omega
                  have hki : ¬ (k : Int) < 256 := by omega
                  rw [hkz, boolC_ext (mWithTo m x 256) (mOr m x) (fun b hb => mWithTo_all m x b hb)] at B7
                  clear hkz
                  go_wp2_with fail
                  go_roundw
                  case rel => exact ⟨n, f, false, mOr m x, rfl, rfl, n2, B7, B4, hl, by omega, HI2⟩
                  case measure => simp [intOf]; omega
          | false =>
            refine (opens_any S _ a false _ rfl hop hs9 (by omega)).mono ?_
            rintro e w1 ⟨rfl, rfl⟩
            cases hen : endF S.data.toList a with
            | none =>
              have hRn : R = none := by rw [HRI.out, hIT.out]; unfold itemF; rw [hop, if_neg (by simp), hen]; rfl
              have HRN := Lib.hid hRn
              have HEN := Lib.hid hen
              clear hop hen hIT HRI hRn
              go_wp2_with fail
              refine (refEnd_any S _ a none _ rfl HEN.out.symm hs9 (by omega)).mono ?_
              rintro e w1 ⟨h1, rfl⟩
              obtain rfl := oneR_none h1
              have R4 : Hid (World.there wr w.heap.size 0 (boolC mNone).size) := thereB B4
              go_wp2_with (refine wpList_store_mid (P := Try.prog) rfl 36 (.tmp 4) (.tmp 90) rfl w.heap.size 0 (boolC mNone) rfl rfl (by with_reducible exact R4.out) (sizeB' _) (oneB _) ?_)
              have hld := run_loadVar_mid (P := Try.prog) _ w.heap.size 0 36 (boolC mNone).toList _ (World.rangeAt_setCells_same wr w.heap.size 0 (boolC mNone).toList (by rw [Array.length_toList]; exact R4.out)) Try.underlying36 rfl (sizeB mNone)
              rw [Array.toArray_toList] at hld
              refine bodyPost_ret (v := .tuple #[.agg (boolC mNone), .int .i64 0, .bool false]) ?_ rfl ⟨by rw [HRN.out]; rfl, laterCells hl _ _⟩
              simp [results, Try.results89, asAddr, hld]
            | some bn =>
              obtain ⟨b0, a1⟩ := bn
              obtain ⟨u1, u2, u3⟩ := endF_lt _ _ _ _ hen (by rw [HLEN.out]; omega)
              rw [HLEN.out] at u3
              have hit : itemF S.data.toList a = if S.data.toList[a1]? = some 45 ∧ a1 + 1 < S.data.toList.length ∧ S.data.toList[a1 + 1]? ≠ some 93 then
                  (if opensF S.data.toList (a1 + 1) then none
                   else match endF S.data.toList (a1 + 1) with
                    | none => none
                    | some (b, at2) => if b0 ≤ b then some (mSpan b0 b, at2) else none)
                else some (mOf [UInt8.ofNat b0], a1) := by
                unfold itemF; rw [hop, if_neg (by simp), hen]; rfl
              rw [hit] at hIT
              have HEN := Lib.hid hen
              clear hop hen hit
              go_wp2_with fail
              refine (refEnd_any S _ a (some (b0, a1)) _ rfl HEN.out.symm hs9 (by omega)).mono ?_
              rintro e w1 ⟨h1, rfl⟩
              obtain rfl := oneR_some h1
              clear h1 HEN
              have hu1 : (b0 : Int) < 256 := by omega
              have hu3 : (a1 : Int) ≤ 100000 := by omega
              by_cases hdash : S.data.toList[a1]? = some 45 ∧ a1 + 1 < S.data.toList.length ∧ S.data.toList[a1 + 1]? ≠ some 93
              · obtain ⟨d1, d2, d3⟩ := hdash
                rw [if_pos ⟨d1, d2, d3⟩] at hIT
                rw [HLEN.out] at d2
                obtain ⟨v1, v2⟩ := str_get S _ 45 d1
                have x1 : (a1 : Int) + 1 < (S.size : Int) := by omega
                have x2 : ((S[a1].toNat : Int) == 45) = true := by rw [v2]; rfl
                have x3 : ((S[a1 + 1].toNat : Int) == 93) = false := by
                  rw [beq_eq_false_iff_ne]
                  intro e
                  apply d3
                  rw [Array.getElem?_toList, Array.getElem?_eq_getElem d2]
                  exact congrArg some (UInt8.toNat_inj.1 (by show S[a1 + 1].toNat = 93; omega))
                have ea : (a1 : Int) + 1 = ((a1 + 1 : Nat) : Int) := by omega
                have EA := Lib.hid ea
                clear d1 d3 v2 ea
                go_wp2_with fail
                cases hop2 : opensF S.data.toList (a1 + 1) with
                | true =>
                  have hRn : R = none := by rw [HRI.out, hIT.out, hop2, if_pos rfl]; rfl
                  have HRN := Lib.hid hRn
                  refine (opens_any S _ (a1 + 1) true _ EA.out hop2 hs9 (by omega)).mono ?_
                  rintro e w1 ⟨rfl, rfl⟩
                  clear hop2 hIT HRI hRn
                  have R4 : Hid (World.there wr w.heap.size 0 (boolC mNone).size) := thereB B4
                  go_wp2_with (refine wpList_store_mid (P := Try.prog) rfl 36 (.tmp 4) (.tmp 115) rfl w.heap.size 0 (boolC mNone) rfl rfl (by with_reducible exact R4.out) (sizeB' _) (oneB _) ?_)
                  have hld := run_loadVar_mid (P := Try.prog) _ w.heap.size 0 36 (boolC mNone).toList _ (World.rangeAt_setCells_same wr w.heap.size 0 (boolC mNone).toList (by rw [Array.length_toList]; exact R4.out)) Try.underlying36 rfl (sizeB mNone)
                  rw [Array.toArray_toList] at hld
                  refine bodyPost_ret (v := .tuple #[.agg (boolC mNone), .int .i64 0, .bool false]) ?_ rfl ⟨by rw [HRN.out]; rfl, laterCells hl _ _⟩
                  simp [results, Try.results89, asAddr, hld]
                | false =>
                  refine (opens_any S _ (a1 + 1) false _ EA.out hop2 hs9 (by omega)).mono ?_
                  rintro e w1 ⟨rfl, rfl⟩
                  rw [hop2, if_neg (by simp)] at hIT
                  clear hop2
                  cases hen2 : endF S.data.toList (a1 + 1) with
                  | none =>
                    have hRn : R = none := by rw [HRI.out, hIT.out, hen2]; rfl
                    have HRN := Lib.hid hRn
                    have HEN := Lib.hid hen2
                    clear hen2 hIT HRI hRn
                    go_wp2_with fail
                    refine (refEnd_any S _ (a1 + 1) none _ EA.out HEN.out.symm hs9 (by omega)).mono ?_
                    rintro e w1 ⟨h1, rfl⟩
                    obtain rfl := oneR_none h1
                    clear h1
                    have R4 : Hid (World.there wr w.heap.size 0 (boolC mNone).size) := thereB B4
                    go_wp2_with (refine wpList_store_mid (P := Try.prog) rfl 36 (.tmp 4) (.tmp 131) rfl w.heap.size 0 (boolC mNone) rfl rfl (by with_reducible exact R4.out) (sizeB' _) (oneB _) ?_)
                    have hld := run_loadVar_mid (P := Try.prog) _ w.heap.size 0 36 (boolC mNone).toList _ (World.rangeAt_setCells_same wr w.heap.size 0 (boolC mNone).toList (by rw [Array.length_toList]; exact R4.out)) Try.underlying36 rfl (sizeB mNone)
                    rw [Array.toArray_toList] at hld
                    refine bodyPost_ret (v := .tuple #[.agg (boolC mNone), .int .i64 0, .bool false]) ?_ rfl ⟨by rw [HRN.out]; rfl, laterCells hl _ _⟩
                    simp [results, Try.results89, asAddr, hld]
                  | some bn2 =>
                    obtain ⟨b1, a2⟩ := bn2
                    obtain ⟨y1, y2, y3⟩ := endF_lt _ _ _ _ hen2 (by rw [HLEN.out]; omega)
                    rw [HLEN.out] at y3
                    have hy1 : (b1 : Int) < 256 := by omega
                    have hy3 : (a2 : Int) ≤ 100000 := by omega
                    rw [hen2] at hIT
                    simp only at hIT
                    have HEN := Lib.hid hen2
                    clear hen2
                    by_cases hba : b0 ≤ b1
                    · have hlt9 : ¬ (b1 : Int) < (b0 : Int) := by omega
                      have hI2 : itemsF S.data.toList f a2 false (mOr m (mSpan b0 b1)) = IR := by rw [hIT.out, if_pos hba]
                      have HI2 := Lib.hid hI2
                      have hN1 : a < a2 := by omega
                      have HN1 := Lib.hid hN1
                      have HN2 := Lib.hid y3
                      have hF2 : S.size < f + a2 := by omega
                      have HF2 := Lib.hid hF2
                      clear hI2 hIT HRI hN1 hF2
                      go_wp2_with fail
                      refine (refEnd_any S _ (a1 + 1) (some (b1, a2)) _ EA.out HEN.out.symm hs9 (by omega)).mono ?_
                      rintro e w1 ⟨h1, rfl⟩
                      obtain rfl := oneR_some h1
                      clear h1 HEN
                      go_wp2_with fail
                      go_loopw [17] (fun s17 wr => ∃ k : Nat, b0 ≤ k ∧ k ≤ b1 + 1 ∧ s17 = .int .i64 (k : Int) ∧ Blk wr (w.heap.size + 1) 36 (boolC (rUpto m b0 k)) ∧ Blk wr w.heap.size 36 (boolC mNone) ∧ Later w wr) (fun s17 _ => 300 - (intOf s17).toNat)
                      case atStart => exact ⟨b0, Nat.le_refl _, by omega, by go_num, by rw [boolC_ext (rUpto m b0 b0) m (fun b _ => rUpto_zero m b0 b)]; exact B7, B4, hl⟩
                      case round =>
                        clear B7 B4 hl
                        obtain ⟨k, hk1, hk2, rfl, B7, B4, hl⟩ := hrel
                        by_cases hlt : k ≤ b1
                        · have hki : (k : Int) ≤ (b1 : Int) := by omega
                          have hk256 : k < 256 := by omega
                          have hst := Lib.hid (rUpto_step m b0 k hk1 hk256)
                          have f1 := B7.frozen k
                          have c1 : wr.cell? ⟨w.heap.size + 1, k, none⟩ = some (.bool (rUpto m b0 k k)) := by rw [B7.cell, boolC_get _ hk256]
                          go_wp2_with fail
                          go_roundw
                          case rel => exact ⟨k + 1, by omega, by omega, by go_num, by rw [← hst.out]; exact B7.set_ k _, B4.far (by show w.heap.size ≠ w.heap.size + 1; omega) _, Later.setCell hl (Nat.le_succ _) _⟩
                          case measure => simp [intOf]; omega
                        · have hkz : k = b1 + 1 := by omega
                          have hki : ¬ (k : Int) ≤ (b1 : Int) := by omega
                          rw [hkz, boolC_ext (rUpto m b0 (b1 + 1)) (mOr m (mSpan b0 b1)) (fun b hb => rUpto_span m b0 b1 b)] at B7
                          clear hkz hk1 hk2 hlt
                          go_wp2_with fail
                          go_roundw
                          case rel => exact ⟨a2, f, false, mOr m (mSpan b0 b1), rfl, rfl, HN2.out, B7, B4, hl, HF2.out, HI2⟩
                          case measure => have := HN1.out; simp [intOf]; omega
                    · have hlt9 : (b1 : Int) < (b0 : Int) := by omega
                      have hRn : R = none := by rw [HRI.out, hIT.out, if_neg hba]; rfl
                      have HRN := Lib.hid hRn
                      clear hIT HRI hRn
                      go_wp2_with fail
                      refine (refEnd_any S _ (a1 + 1) (some (b1, a2)) _ EA.out HEN.out.symm hs9 (by omega)).mono ?_
                      rintro e w1 ⟨h1, rfl⟩
                      obtain rfl := oneR_some h1
                      clear h1 HEN
                      have R4 : Hid (World.there wr w.heap.size 0 (boolC mNone).size) := thereB B4
                      go_wp2_with (refine wpList_store_mid (P := Try.prog) rfl 36 (.tmp 4) (.tmp 131) rfl w.heap.size 0 (boolC mNone) rfl rfl (by with_reducible exact R4.out) (sizeB' _) (oneB _) ?_)
                      have hld := run_loadVar_mid (P := Try.prog) _ w.heap.size 0 36 (boolC mNone).toList _ (World.rangeAt_setCells_same wr w.heap.size 0 (boolC mNone).toList (by rw [Array.length_toList]; exact R4.out)) Try.underlying36 rfl (sizeB mNone)
                      rw [Array.toArray_toList] at hld
                      refine bodyPost_ret (v := .tuple #[.agg (boolC mNone), .int .i64 0, .bool false]) ?_ rfl ⟨by rw [HRN.out]; rfl, laterCells hl _ _⟩
                      simp [results, Try.results89, asAddr, hld]
              · rw [if_neg hdash] at hIT
                have hI2 : itemsF S.data.toList f a1 false (mOr m (mOf [UInt8.ofNat b0])) = IR := hIT.out.symm
                have HI2 := Lib.hid hI2
                have hN1 : a < a1 := u2
                have HN1 := Lib.hid hN1
                have HN2 := Lib.hid u3
                have hF2 : S.size < f + a1 := by omega
                have HF2 := Lib.hid hF2
                have hor : ¬ (a1 : Int) + 1 < (S.size : Int) ∨ ∃ (d1 : a1 < S.size) (d2 : a1 + 1 < S.size), (a1 : Int) + 1 < (S.size : Int) ∧ (((S[a1].toNat : Int) == 45) = false ∨ (((S[a1].toNat : Int) == 45) = true ∧ ((S[a1 + 1].toNat : Int) == 93) = true)) := by
                  by_cases h1 : a1 + 1 < S.size
                  · have h2 : a1 < S.size := by omega
                    refine .inr ⟨h2, h1, by omega, ?_⟩
                    by_cases h3 : S[a1].toNat = 45
                    · refine .inr ⟨by rw [h3]; rfl, ?_⟩
                      by_cases h4 : S[a1 + 1].toNat = 93
                      · rw [h4]; rfl
                      · refine absurd ⟨?_, by rw [HLEN.out]; exact h1, ?_⟩ hdash
                        · rw [Array.getElem?_toList, Array.getElem?_eq_getElem h2]
                          exact congrArg some (UInt8.toNat_inj.1 h3)
                        · rw [Array.getElem?_toList, Array.getElem?_eq_getElem h1]
                          intro e
                          apply h4
                          have := Option.some.inj e
                          show S[a1 + 1].toNat = 93
                          have h5 : S[a1 + 1] = 93 := this
                          rw [h5]; rfl
                    · exact .inl (by rw [beq_eq_false_iff_ne]; omega)
                  · exact .inl (by omega)
                clear hI2 hIT HRI hN1 hF2 hdash
                rcases hor with x1 | ⟨v1, d2, x1, x2 | ⟨x2, x3⟩⟩
                all_goals
                  go_wp2_with fail
                  go_loopw [17] (fun s17 wr => ∃ k : Nat, b0 ≤ k ∧ k ≤ b0 + 1 ∧ s17 = .int .i64 (k : Int) ∧ Blk wr (w.heap.size + 1) 36 (boolC (rUpto m b0 k)) ∧ Blk wr w.heap.size 36 (boolC mNone) ∧ Later w wr) (fun s17 _ => 300 - (intOf s17).toNat)
                  case atStart => exact ⟨b0, Nat.le_refl _, by omega, by go_num, by rw [boolC_ext (rUpto m b0 b0) m (fun b _ => rUpto_zero m b0 b)]; exact B7, B4, hl⟩
                  case round =>
                    clear B7 B4 hl
                    obtain ⟨k, hk1, hk2, rfl, B7, B4, hl⟩ := hrel
                    by_cases hlt : k ≤ b0
                    · have hki : (k : Int) ≤ (b0 : Int) := by omega
                      have hk256 : k < 256 := by omega
                      have hst := Lib.hid (rUpto_step m b0 k hk1 hk256)
                      have f1 := B7.frozen k
                      have c1 : wr.cell? ⟨w.heap.size + 1, k, none⟩ = some (.bool (rUpto m b0 k k)) := by rw [B7.cell, boolC_get _ hk256]
                      go_wp2_with fail
                      go_roundw
                      case rel => exact ⟨k + 1, by omega, by omega, by go_num, by rw [← hst.out]; exact B7.set_ k _, B4.far (by show w.heap.size ≠ w.heap.size + 1; omega) _, Later.setCell hl (Nat.le_succ _) _⟩
                      case measure => simp [intOf]; omega
                    · have hkz : k = b0 + 1 := by omega
                      have hki : ¬ (k : Int) ≤ (b0 : Int) := by omega
                      rw [hkz, boolC_ext (rUpto m b0 (b0 + 1)) (mOr m (mOf [UInt8.ofNat b0])) (fun b hb => rUpto_one m b0 b u1)] at B7
                      clear hkz hk1 hk2 hlt
                      go_wp2_with fail
                      go_roundw
                      case rel => exact ⟨a1, f, false, mOr m (mOf [UInt8.ofNat b0]), rfl, rfl, HN2.out, B7, B4, hl, HF2.out, HI2⟩
                      case measure => have := HN1.out; simp [intOf]; omega

end Go.Proofs.Ythmjnelnnhidkaa

/-
  atom of the document's reader where a bracket opens; its Parse of any text.
-/
namespace Go.Proofs.Ythmjnelnnhidkaa
open Go.RowKit

theorem step_store_mid {P : Program} {ops : Array Oper} {o : Oper} {a : Act} {w : World} {K : Act → World → Prop} {Q : Exit → Act → World → Prop} {E : Prop} (hgd : o.guard = none) (ty : TypeId) (x y : Operand) (ho : o.op = .store ty x y)
    (b off : Nat) (cells : Array Value) (hx : a.eval x = .pointer (some ⟨b, off, none⟩)) (hy : a.eval y = .agg cells)
    (ht : w.there b off cells.size) (hi : (P.info? ty).map (·.size) = some cells.size) (h1 : cells.all (·.oneCell') = true)
    (h : K (a.put o.dst undef) (w.setCells b off cells.toList)) : if Region.wanted o (yielded ops a.tmps) = true then Oper.wp P o a w K Q else E := by
  have hw : Region.wanted o (yielded ops a.tmps) = true := by simp [Region.wanted, hgd]
  rw [if_pos hw]
  exact wp_store_mid ty x y ho b off cells hx hy ht hi h1 h

/-- what Bracket answered, in a variable of its own -/
def AtomR (W : World) (z : Mem) (n : Nat) (ok : Bool) (s6 s7 s8 : Value) (wx : World) : Prop :=
  ∃ g6 : Nat, s6 = .pointer (some ⟨g6, 0, none⟩) ∧ W.heap.size ≤ g6 ∧ Later W wx ∧ s7 = .int .i64 (n : Int) ∧ s8 = .bool ok ∧ Blk wx g6 36 (boolC z)
theorem cells2f {w : World} {b : Nat} {t : TypeId} {x0 x1 x2 x3 x4 x5 : Value} (h : Blk w b t #[x0, x1, x2, x3, x4, x5]) : w.cell? ⟨b, 0, none⟩ = some x0 ∧ w.cell? ⟨b, 1, none⟩ = some x1 := ⟨h.cell 0, h.cell 1⟩
theorem bracket_con (S : ByteArray) (p : Nat) (hs : S.size ≤ 100000) (hp : p ≤ S.size) : ∃ z n ok, (∀ wx, Calls Try.prog 89 #[.string S, .int .i64 (p : Int)] wx fun e w' => e = .returned (.tuple #[.agg (boolC z), .int .i64 ((n : Nat) : Int), .bool ok]) ∧ Later wx w') ∧ ((ok = true ∧ bracketF S.data.toList (p : Int) = some (z, n)) ∨ (ok = false ∧ bracketF S.data.toList (p : Int) = none)) := by
  cases hb : bracketF S.data.toList (p : Int) with
  | none => exact ⟨mNone, 0, false, fun wx => refBracket_any S p none wx hb.symm hs hp, .inr ⟨rfl, rfl⟩⟩
  | some x => exact ⟨x.1, x.2, true, fun wx => refBracket_any S p (some (x.1, x.2)) wx hb.symm hs hp, .inl ⟨rfl, rfl⟩⟩
theorem thereC {w : World} {g : Nat} {t : TypeId} {p z : Mem} {C : Array Value} (h : Blk w g t (boolC p)) (hC : Hid (C = boolC z)) : w.there g 0 C.toList.length := by
  have := (thereB (m := z) h).out
  rw [hC.out, Array.length_toList]
  exact this
theorem packed_t (m : Mem) (w : World) :
    Calls Try.prog 22 #[.agg (boolC m).toList.toArray] w fun e w' => e = .returned (.agg #[.int .u64 (word (m) 0 : Nat), .int .u64 (word (m) 1 : Nat), .int .u64 (word (m) 2 : Nat), .int .u64 (word (m) 3 : Nat)]) ∧ Later w w' := by
  rw [Array.toArray_toList]
  exact packed_any m w

set_option maxRecDepth 4000 in
set_option maxHeartbeats 8000000 in
theorem atom91_any (S : ByteArray) (d : Nat) (hs1 : S.size ≤ 20000) : Atom91 S d := by
  intro lo g st w h hD hlo hbr
  obtain ⟨R, hR⟩ : ∃ R, R = rAtom S.data.toList (rAlt S.data.toList d) st := ⟨_, rfl⟩
  rw [← hR]
  have hat := hD.at_
  rw [len_eq] at hat
  have hati : (st.at_ : Int) ≤ 100000 := by omega
  clear hlo hD
  cases hx : S.data.toList[st.at_]? with
  | none => unfold isAt at hbr; rw [hx] at hbr; cases hbr
  | some x =>
    obtain ⟨hi, he⟩ := str_get S _ x hx
    have hltd : decide (S.size ≤ st.at_) = false := by simp; omega
    have hx1 := x.toNat_lt
    obtain ⟨xn, hxn⟩ : ∃ xn, xn = x.toNat := ⟨_, rfl⟩
    have hei : (S[st.at_].toNat : Int) = (xn : Int) := by rw [he, hxn]
    rw [← hxn] at hx1
    have h91 : xn = 91 := by
      unfold isAt at hbr
      rw [hx] at hbr
      simp at hbr
      omega
    obtain ⟨z, n, ok, hcon, hbk⟩ := bracket_con S (st.at_ + 1) (by omega) (by omega)
    have hRR : R = if ok then (.node 1 (w4 z) [], stAt st n) else (tEmpty, stFault 24 st.at_ (stAt st (st.at_ + 1))) := by
      rw [hR]; unfold rAtom; rw [hx]; simp only; rw [← hxn, h91, if_neg (by omega), if_neg (by omega), if_pos rfl]
      rcases hbk with ⟨rfl, hb⟩ | ⟨rfl, hb⟩
      · rw [hb]; rfl
      · rw [hb]; rfl
    have HRR := Lib.hid hRR
    have hcon2 : ∀ wx, Calls Try.prog 89 #[.string S, .int .i64 ((st.at_ : Int) + 1)] wx fun e w' => e = .returned (.tuple #[.agg (boolC z), .int .i64 ((n : Nat) : Int), .bool ok]) ∧ Later wx w' := fun wx => by
      have := hcon wx
      rwa [show ((st.at_ + 1 : Nat) : Int) = (st.at_ : Int) + 1 by omega] at this
    obtain ⟨C, hC⟩ : ∃ C, C = boolC z := ⟨_, rfl⟩
    have hone : ∀ v, v ∈ C.toList → v.oneCell' = true := by
      rw [hC]
      have := oneB z
      rw [Array.all_eq_true_iff_forall_mem] at this
      exact fun v hv => this v (Array.mem_toList_iff.1 hv)
    have hsomeC : some 256 = some C.toList.length := by rw [hC, Array.length_toList, boolC_size]
    rw [← hC] at hcon2
    have HC := Lib.hid hC
    clear hC
    have HCON := Lib.hid hcon2
    have hxi : (xn : Int) = 91 := by omega
    obtain ⟨hz, hsz⟩ := zero_set
    clear hR hx hbr he hxn hRR hcon hcon2 hbk h91
    go_enter Try.func82, Try.ntmps82
    go_upto_region 1 with fail
    obtain ⟨W0, hW0⟩ : ∃ W0, W0 = w.alloc (.cells #[.int .i64 0, .int .u64 0, .int .u64 0, .int .u64 0, .int .u64 0, .slice none 0 0] 49) := ⟨_, rfl⟩
    have B4 : Blk W0 w.heap.size 49 #[.int .i64 0, .int .u64 0, .int .u64 0, .int .u64 0, .int .u64 0, .slice none 0 0] := by rw [hW0]; exact Blk.new w _ _
    have hl0 : Later w W0 := by rw [hW0]; exact (Later.refl w).alloc _
    have h0 := h.later hl0
    have hF0 : Fr w W0 (fun k => k = g) := Fr.later hl0
    have ne4 : w.heap.size ≠ g := by have := h.lt; omega
    rw [← hW0]
    clear hW0 hl0 h
    have k0 : ∀ x : LW W0, x.val.cell? ⟨g, 0, none⟩ = some (.string S) := LW.cell_ h0.c0
    have k1 : ∀ x : LW W0, x.val.cell? ⟨g, 1, none⟩ = some (.int .i64 (st.at_ : Int)) := LW.cell_ h0.c1
    go_wp2_with fail
    refine wp_region_laterq (by kernel_rfl) (by kernel_rfl) ?_
    repeat (go_big_quiet_step (fail))
    refine wpQuiet_nil ?_
    intro _ hwq
    obtain ⟨xz, rfl⟩ := hwq
    have h1 := h0.later xz.later
    have B4 := blkL xz.later B4
    have hF1 := frL hF0 xz.later
    clear k0 k1
    obtain ⟨W1, hW1⟩ : ∃ W1, W1 = xz.val := ⟨_, rfl⟩
    rw [← hW1] at h1 B4 hF1 ⊢
    clear hW1 h0 hF0 xz
    have c0 := h1.c0
    have c1 := h1.c1
    have f1 := h1.f 1
    go_upto_region 6 with fail
    obtain ⟨W2, hW2⟩ : ∃ W2, W2 = W1.setCell ⟨g, 1, none⟩ (.int .i64 ((st.at_ : Int) + 1)) := ⟨_, rfl⟩
    have h2 : RfC W2 g S (stAt st (st.at_ + 1)) := by rw [hW2]; exact h1.setAt (st.at_ + 1) ((st.at_ : Int) + 1) (by omega)
    have hF2 : Fr w W2 (fun k => k = g) := by rw [hW2]; exact frG (i := 1) hF1 _
    have B5 : Blk W2 w.heap.size 49 #[.int .i64 0, .int .u64 0, .int .u64 0, .int .u64 0, .int .u64 0, .slice none 0 0] := by rw [hW2]; exact B4.far (p := ⟨g, 1, none⟩) ne4 _
    rw [← hW2]
    clear hW2 c0 c1 f1 h1 hF1 B4
    have h1 := h2
    have hF1 := hF2
    have B4 := B5
    clear h2 hF2 B5
    have B2 : Blk W2 g 92 #[.string S, .int .i64 ((st.at_ : Int) + 1), .int .i64 (st.op : Int), .int .i64 (st.bad : Int), .int .i64 (st.fr : Int), .int .i64 0] := by
      have := h1
      unfold RfC at this
      rwa [show (((stAt st (st.at_ + 1)).at_ : Nat) : Int) = (st.at_ : Int) + 1 by show ((st.at_ + 1 : Nat) : Int) = _; omega] at this
    have HB2 := B2
    have lt0 : Later W2 W2 := Later.refl _
    go_upto_region 20 with fail
    go_cut [6, 7, 8] (fun s6 s7 s8 wx => AtomR W2 z n ok s6 s7 s8 wx)
    case first =>
      clear HRR h1 hF1 B4
      go_wp2_with fail
      have hneA : g ≠ W2.heap.size := by have := HB2.lt; omega
      have hneB := hneA
      go_region_held_law (fun w' => w'.cell? ⟨g, 0, none⟩ = some (.string S) ∧ w'.cell? ⟨g, 1, none⟩ = some (.int .i64 ((st.at_ : Int) + 1))) (exact cells2f (t := 92) (by repeat (first | (with_reducible exact HB2) | (with_reducible apply Blk.drew) | (with_reducible apply Blk.alloc) | (with_reducible refine Blk.farCells _ ?_ hneA 0) | (with_reducible refine Blk.farCells _ ?_ hneB 0))))
        ((((go_at_call 89; (with_reducible refine (HCON.out _).mono ?_)); rintro e w3 ⟨rfl, hl3⟩);
              (first
                | (with_reducible have A13 : Blk w3 _ 36 (boolC mNone) := blkNwD hl3; have R6 : w3.there _ 0 C.toList.length := thereC A13 HC)
                | (with_reducible have A13 : Blk w3 _ 36 (boolC mNone) := blkNw hl3; have R6 : w3.there _ 0 C.toList.length := thereC A13 HC)
                | (have R6 : (w3.alloc (.cells (boolC mNone) 36)).there w3.heap.size 0 C.toList.length := thereC (Blk.new w3 _ _) HC));
              have HB2 := blkL hl3 (by repeat (first | (with_reducible exact HB2) | (with_reducible apply Blk.drew) | (with_reducible apply Blk.alloc) | (with_reducible refine Blk.farCells _ ?_ hneA 0) | (with_reducible refine Blk.farCells _ ?_ hneB 0)));
              have hneB : g ≠ w3.heap.size := (by have := HB2.lt; omega);
              have lt0 : Later W2 w3 := Later.trans (by repeat (first | (with_reducible exact lt0) | (with_reducible apply Later.drew) | (with_reducible apply Later.alloc))) hl3))
      all_goals
        have hsz3 := lt0.size
        go_wp2_with fail
        go_meet
        rw [HC.out]
        first
          | (have hA13 := A13
             exact ⟨_, rfl, Nat.le_refl _, laterCellsG lt0 (Nat.le_refl _) _ _, rfl, rfl, Blk.setBools A13⟩)
          | exact ⟨_, rfl, hsz3, laterCellsG (lt0.alloc _) hsz3 _ _, rfl, rfl, Blk.setBools (Blk.new w3 _ _)⟩
    case rest =>
      obtain ⟨g6, rfl, hg6, hlc, rfl, rfl, B6⟩ := hcut
      have h3 := h1.later hlc
      have D4 := blkL hlc B4
      have hF3 := frL hF1 hlc
      have ne6 : g6 ≠ g := by have := HB2.lt; omega
      clear h1 hF1 B4 HB2 lt0 B2 HCON hone HC hsomeC
      cases ok with
      | false =>
        have HR : Hid (R = (tEmpty, stFault 24 st.at_ (stAt st (st.at_ + 1)))) := HRR.out
        clear HRR
        go_wp2_with fail
        refine (fails_any g S _ _ _ st.at_ 24 _ h3 rfl rfl).mono ?_
        rintro e w3 ⟨rfl, h5, hF5⟩
        have hF4 := frF hF3 hF5
        have E4 := blkF hF5 ne4 D4
        clear h3 hF3 D4 hF5
        obtain ⟨z0, z1, z2, z3, z4, z5, y0, y1, y2, y3, y4, y5⟩ := cells6 E4
        go_wp2_with fail
        refine bodyPost_ret (v := .agg #[.int .i64 0, .int .u64 0, .int .u64 0, .int .u64 0, .int .u64 0, .slice none 0 0]) (by simp [results, Try.results82, go_sem, z0, z1, z2, z3, z4, z5]) rfl ?_
        exact RetTS.store6 HR.out (ReC.leaf _ (fun k => lo k ∧ k ≠ w.heap.size) 0 Proofs.Ythmjnelnnhidkaa.z4 none 0) h5 hF4 rfl E4 (fun h => h.2 rfl) (Nat.le_refl _) (fun k h => h.1)
      | true =>
        have HR : Hid (R = (.node 1 (w4 z) [], stAt st n)) := HRR.out
        have c1 := h3.c1
        have f1 := h3.f 1
        clear HRR
        go_upto_region 24 with fail
        obtain ⟨W5, hW5⟩ : ∃ W5, W5 = wc.setCell ⟨g, 1, none⟩ (.int .i64 (n : Int)) := ⟨_, rfl⟩
        have h5 : RfC W5 g S (stAt st n) := by rw [hW5]; exact h3.setAt n _ rfl
        have hF5 : Fr w W5 (fun k => k = g) := by rw [hW5]; exact frG (i := 1) hF3 _
        have E4 : Blk W5 w.heap.size 49 #[.int .i64 0, .int .u64 0, .int .u64 0, .int .u64 0, .int .u64 0, .slice none 0 0] := by rw [hW5]; exact D4.far (p := ⟨g, 1, none⟩) ne4 _
        have B6 : Blk W5 g6 36 (boolC z) := by rw [hW5]; exact B6.far (p := ⟨g, 1, none⟩) ne6 _
        have R6 : Hid (W5.rangeAt g6 0 (boolC z).toList) := rangeB B6
        rw [← hW5]
        clear hW5 c1 f1 h3 hF3 D4
        go_wp2_with (refine wpList_load_mid (P := Try.prog) rfl 36 (.tmp 6) rfl g6 0 rfl (boolC z).toList _ (by with_reducible exact R6.out) Try.underlying36 rfl (sizeB z) ?_)
        refine (packed_t z _).mono ?_
        rintro e w7 ⟨rfl, hl7⟩
        have h7 := h5.later hl7
        have hF7 := frL hF5 hl7
        have G4 := blkL hl7 E4
        clear h5 hF5 E4 hl7 R6 B6
        obtain ⟨z0, z1, z2, z3, z4, z5, y0, y1, y2, y3, y4, y5⟩ := cells6 G4
        go_wp2_with fail
        refine bodyPost_ret (v := .agg #[.int .i64 1, .int .u64 (word z 0 : Nat), .int .u64 (word z 1 : Nat), .int .u64 (word z 2 : Nat), .int .u64 (word z 3 : Nat), .slice none 0 0]) (by simp [results, Try.results82, go_sem, z0, z1, z2, z3, z4, z5]) rfl ?_
        exact RetTS.store6 HR.out (ReC.leaf _ (fun k => lo k ∧ k ≠ w.heap.size) 1 (w4 z) none 0) h7 hF7 rfl G4 (fun h => h.2 rfl) (Nat.le_refl _) (fun k h => h.1)

end Go.Proofs.Ythmjnelnnhidkaa
