/-
  Contracts of pack.Seal and pack.Unseal, and of the document's Sum, Seal, Unseal: the sum's two parts behind the bytes, three bytes each.
-/
import Derived.Test.YtkpckmdakiminaaSum
import Derived.Deep.QuietTactic
import Derived.BigQuiet
namespace Go.Proofs.Ytkpckmdakiminaa
open Go.RowKit

/-- a part's three bytes -/
def trip (n : Int) : List UInt8 := [byt (n % 256), byt (n / 256 % 256), byt (n / 65536)]
/-- bytes with their sum behind -/
def sealB (l : List UInt8) : List UInt8 := l ++ (trip (sm l).1 ++ trip (sm l).2)
theorem trip_len (n : Int) : (trip n).length = 3 := rfl
theorem sealB_len (l : List UInt8) : (sealB l).length = l.length + 6 := by unfold sealB; simp [trip_len]

/-- the sum's first parts that a round of Seal's loop has laid -/
def trips (a b : Int) : Nat → List UInt8
  | 0 => []
  | 1 => trip a
  | _ => trip a ++ trip b

theorem u32_fl (n : Int) (h0 : 0 ≤ n) (h1 : n < 16777199) (w : World) : (convert 62 50 (.float .f64 (fl n))).run Try.prog w = .ok (.int .u32 n) w :=
  run_convert_float_int w _ _ .f64 .u32 _ n (by kernel_rfl) Try.underlying50 (fl_toU32 n h0 (by omega))

set_option maxRecDepth 100000 in
set_option maxHeartbeats 1000000 in
theorem seal_any (A : Option Addr) (n c : Nat) (l : List UInt8) (w : World) (hr : RdB w w.heap.size A n l) (hn : n ≤ 140737488355200) :
    Calls Try.prog 28 #[.slice A n c] w fun e w' => ∃ A' n' c', e = .returned (.slice A' n' c') ∧ OwnB w' w.heap.size A' n' c' (sealB l) ∧ Below w.heap.size w w' := by
  have hln := hr.len
  obtain ⟨a, b, hab, ha, ha', hb, hb'⟩ : ∃ p q : Int, Hid ((p, q) = sm l) ∧ 0 ≤ p ∧ p < 16777199 ∧ 0 ≤ q ∧ q < 16777199 := ⟨(sm l).1, (sm l).2, rfl, sm_bd l⟩
  have HL : Hid (l.length = n) := hln
  clear hln
  go_enter Try.func28, Try.ntmps28
  go_wp2_with (at_builtin; refine wpList_append_b _ rfl (.tmp 8) (.tmp 9) rfl w.heap.size _ 0 0 [] rfl (OwnB.made (Nat.le_refl _)) _ A n c l rfl (hr.alloc (Nat.le_refl _) _) (by omega) (by simp) ?_; intro A1 n1 c1 w1 hown1 hg1 hob1; have hb1 := below_grown (Below.refl w.heap.size w) hg1 (Nat.le_refl _) (by simp); have hs1 := hb1.size)
  rw [List.nil_append] at hown1
  refine (sum_at _ _ _ _ _ _ (hr.below hb1) (by omega) hab).mono ?_
  rintro e w' ⟨rfl, rfl⟩
  go_wp2_with fail
  go_loopw [3, 19] (fun v i wr => ∃ (k : Int) (n' c' : Nat) (A' : Option Addr), (k = 0 ∨ k = 1 ∨ k = 2) ∧ i = .int .i64 k ∧ v = .slice A' n' c' ∧ OwnB wr w.heap.size A' n' c' (l ++ trips a b k.toNat) ∧
      Blk wr w1.heap.size 62 #[.float .f64 (fl a), .float .f64 (fl b)] ∧ Below w.heap.size w wr) (fun _ i _ => 2 - (intOf i).toNat)
  case atStart => exact ⟨0, n1, c1, A1, .inl rfl, rfl, rfl, by simpa [trips] using hown1.alloc _, Blk.new _ _ _, hb1.alloc (by omega) _⟩
  case round =>
    obtain ⟨k, n', c', A', hk, rfl, rfl, hown, hblk, hbw⟩ := hrel
    have hsw := hbw.size
    have hne : ob A' ≠ some w1.heap.size := hown.ne_blk hblk (by decide)
    rcases hk with rfl | rfl | rfl
    · have hcell := hblk.cell 0
      simp only [List.getElem?_toArray, List.getElem?_cons_zero] at hcell
      have hcv := u32_fl a ha ha'
      have hn' : n' ≤ 140737488355200 := by have := hown.len; rw [List.length_append, HL.out] at this; simp [trips] at this; omega
      go_wp2_with (at_builtin; refine wpList_append_b _ rfl (.tmp 25) (.tmp 34) rfl w.heap.size A' n' c' _ rfl (hown.alloc _) _ _ 3 3 _ rfl (rd3 wr _ _ _ ⟨by omega, by omega⟩ ⟨by omega, by omega⟩ ⟨by omega, by omega⟩) (by omega) (by simp; omega) ?_; intro A2 n2 c2 w2 hown2 hg2 hob2)
      have hb2 := below_grown hbw hg2 hsw (fun k hk => (hown.lt k hk).1)
      go_roundw
      case rel => exact ⟨1, n2, c2, A2, .inr (.inl rfl), by go_num, rfl, by simpa [trips, trip] using hown2, (hblk.alloc _).grown hg2 (Ne.symm hne), hb2⟩
      case measure => simp [intOf]
    · have hcell := hblk.cell 1
      simp only [List.getElem?_toArray, List.getElem?_cons_succ, List.getElem?_cons_zero] at hcell
      have hcv := u32_fl b hb hb'
      have hn' : n' ≤ 140737488355203 := by have := hown.len; rw [List.length_append, HL.out] at this; simp [trips, trip_len] at this; omega
      go_wp2_with (at_builtin; refine wpList_append_b _ rfl (.tmp 25) (.tmp 34) rfl w.heap.size A' n' c' _ rfl (hown.alloc _) _ _ 3 3 _ rfl (rd3 wr _ _ _ ⟨by omega, by omega⟩ ⟨by omega, by omega⟩ ⟨by omega, by omega⟩) (by omega) (by simp; omega) ?_; intro A2 n2 c2 w2 hown2 hg2 hob2)
      have hb2 := below_grown hbw hg2 hsw (fun k hk => (hown.lt k hk).1)
      go_roundw
      case rel => exact ⟨2, n2, c2, A2, .inr (.inr rfl), by go_num, rfl, by rw [List.append_assoc] at hown2; exact hown2, (hblk.alloc _).grown hg2 (Ne.symm hne), hb2⟩
      case measure => simp [intOf]
    · go_wp2
      go_ret
      refine ⟨_, _, _, rfl, ?_, hbw⟩
      have e : sealB l = l ++ trips a b 2 := by
        show l ++ (trip (sm l).1 ++ trip (sm l).2) = l ++ (trip a ++ trip b)
        rw [← hab.out]
      rw [e]
      exact hown

/-- what bytes are unsealed as: the bytes, and an error's number -/
def unsealB (l : List UInt8) : List UInt8 × Int :=
  if l.length < 6 then ([], 10) else if sealB (l.take (l.length - 6)) = l then (l.take (l.length - 6), 0) else ([], 13)

theorem unseal_short {l : List UInt8} (h : l.length < 6) : unsealB l = ([], 10) := by unfold unsealB; rw [if_pos h]
theorem unseal_good {l : List UInt8} (h : ¬ l.length < 6) (hs : sealB (l.take (l.length - 6)) = l) : unsealB l = (l.take (l.length - 6), 0) := by unfold unsealB; rw [if_neg h, if_pos hs]
theorem unseal_bad {l : List UInt8} (h : ¬ l.length < 6) (hs : ¬ sealB (l.take (l.length - 6)) = l) : unsealB l = ([], 13) := by unfold unsealB; rw [if_neg h, if_neg hs]

theorem sealB_get {l : List UInt8} {j : Nat} (h : j < l.length) : (sealB l)[j]? = l[j]? := by
  unfold sealB; exact List.getElem?_append_left h
/-- bytes that part from their sum at a place -/
theorem unseal_at {l : List UInt8} {k n : Nat} (hl : l.length = n) (h6 : 6 ≤ n) (hk : k < n) (hne : ¬ (sealB (l.take (n - 6)))[k]?.getD 0 = l[k]?.getD 0) : unsealB l = ([], 13) := by
  subst hl
  exact unseal_bad (by omega) fun e => hne (by rw [e])
/-- bytes that part from their sum nowhere behind their first ones -/
theorem unseal_all {l : List UInt8} {n : Nat} (hl : l.length = n) (h6 : 6 ≤ n) (h : ∀ j, n - 6 ≤ j → j < n → (sealB (l.take (n - 6)))[j]?.getD 0 = l[j]?.getD 0) : unsealB l = (l.take (n - 6), 0) := by
  subst hl
  refine unseal_good (by omega) ?_
  have hlen : (sealB (l.take (l.length - 6))).length = l.length := by rw [sealB_len, List.length_take]; omega
  refine List.ext_getElem? fun j => ?_
  by_cases hj : j < l.length - 6
  · rw [sealB_get (by rw [List.length_take]; omega), List.getElem?_take, if_pos hj]
  · by_cases hj2 : j < l.length
    · have := h j (by omega) hj2
      rw [List.getElem?_eq_getElem (by omega), List.getElem?_eq_getElem hj2] at this
      rw [List.getElem?_eq_getElem (by omega), List.getElem?_eq_getElem hj2]
      exact congrArg some this
    · rw [List.getElem?_eq_none (by omega), List.getElem?_eq_none (by omega)]

/-- what Unseal returns: a row of the call's own, and the error's number -/
def Unsealed (w : World) (l : List UInt8) (e : Ending) (w' : World) : Prop :=
  ∃ A n c, e = .returned (.tuple #[.slice A n c, .int .i64 (unsealB l).2]) ∧ OwnB w' w.heap.size A n c (unsealB l).1 ∧ Below w.heap.size w w'

theorem unsealed_nil {w w' : World} {l : List UInt8} {x : Int} (h : unsealB l = ([], x)) (hb : Below w.heap.size w w') : Unsealed w l (.returned (.tuple #[.slice none 0 0, .int .i64 x])) w' := by
  refine ⟨none, 0, 0, by rw [h], by rw [h]; exact OwnB.nil, hb⟩

theorem unsealed_ok {w w' : World} {l x : List UInt8} {e : Int} {A : Option Addr} {n c : Nat} (h : unsealB l = (x, e)) (ho : OwnB w' w.heap.size A n c x) (hb : Below w.heap.size w w') :
    Unsealed w l (.returned (.tuple #[.slice A n c, .int .i64 e])) w' := by
  refine ⟨A, n, c, by rw [h], by rw [h]; exact ho, hb⟩

theorem all_step {p : Nat → Prop} {m k : Nat} (h : Hid (∀ j, m ≤ j → j < k → p j)) (hk : Hid (p k)) : Hid (∀ j, m ≤ j → j < k + 1 → p j) := by
  intro j h1 h2
  by_cases e : j = k
  · subst e; exact hk
  · exact h.out j h1 (by omega)

set_option maxRecDepth 100000 in
set_option maxHeartbeats 1000000 in
theorem unseal_any (A : Option Addr) (n c : Nat) (l : List UInt8) (w : World) (hr : RdB w w.heap.size A n l) (hn : n ≤ 140737488355200) (hc : n ≤ c) :
    Calls Try.prog 36 #[.slice A n c] w (Unsealed w l) := by
  have HL : Hid (l.length = n) := hr.len
  by_cases h6 : n < 6
  · go_enter Try.func36, Try.ntmps36
    go_wp2
    go_ret2
    exact unsealed_nil (unseal_short (by rw [HL.out]; exact h6)) (Below.refl _ _)
  · have hslice := hr.upto (k := n - 6) (by omega)
    go_enter Try.func36, Try.ntmps36
    go_wp2_with fail
    refine (seal_any A (n - 6) c _ w hslice (by omega)).mono ?_
    rintro e w1 ⟨A', n', c', rfl, hown, hb1⟩
    have hn' : n' = n := by have := hown.len; rw [sealB_len, hslice.len] at this; omega
    subst hn'
    have hs1 := hb1.size
    go_wp2_with fail
    go_loopw [6] (fun i wr => ∃ (k q : Nat), n' - 6 ≤ k ∧ k ≤ n' ∧ i = .int .i64 k ∧ wr = w1.drewN q ∧ Hid (∀ j, n' - 6 ≤ j → j < k → (sealB (l.take (n' - 6)))[j]?.getD 0 = l[j]?.getD 0)) (fun i _ => n' - (intOf i).toNat)
    case atStart => exact ⟨n' - 6, 0, by omega, by omega, by congr 1; omega, rfl, fun j h1 h2 => by omega⟩
    case round =>
      obtain ⟨k, q, hk6, hk, rfl, rfl, hall⟩ := hrel
      by_cases hlt : k < n'
      · obtain ⟨g1, o1, rfl, _, hc1⟩ := hown.rd.at_ hlt
        obtain ⟨g2, o2, rfl, _, hc2⟩ := (hr.below hb1).at_ hlt
        have hk0 : (0 : Int) ≤ (k : Int) := by omega
        have hkn : (k : Int) < (n' : Int) := by omega
        by_cases heq : (sealB (l.take (n' - 6)))[k]?.getD 0 = l[k]?.getD 0
        · have HE := Lib.hid heq
          clear heq
          have h1 : ((((sealB (l.take (n' - 6)))[k]?.getD 0).toNat : Int) != ((l[k]?.getD 0).toNat : Int)) = false := by rw [HE.out]; simp
          go_wp2_with fail
          go_quiet (fail)
          go_wp2_with fail
          go_roundw
          case rel => exact ⟨k + 1, _, by omega, by omega, by go_num, rfl, all_step hall HE⟩
          case measure => simp [intOf]; omega
        · have HE := Lib.hid heq
          clear heq
          have h1 : ((((sealB (l.take (n' - 6)))[k]?.getD 0).toNat : Int) != ((l[k]?.getD 0).toNat : Int)) = true := by
            rw [bne_iff_ne]; exact fun e => HE.out (UInt8.toNat_inj.1 (by omega))
          go_wp2_with fail
          go_quiet (fail)
          go_wp2_with fail
          go_ret2
          exact unsealed_nil (unseal_at HL.out (by omega) hlt HE.out) (below_drewN (below_drewN hb1 _) _)
      · obtain rfl : k = n' := by omega
        have hbq := below_drewN (n := q) hb1
        have hsq := hbq.size
        go_wp2_with (at_builtin; refine wpList_append_b _ rfl (.tmp 33) (.tmp 36) rfl w.heap.size _ 0 0 [] rfl (OwnB.made hsq) _ A (k - 6) c _ rfl ((hslice.below hbq).alloc hsq _) (by omega) (by simp; omega) ?_; intro A2 n2 c2 w2 hown2 hg2 hob2)
        go_ret2
        exact unsealed_ok (unseal_all HL.out (by omega) hall.out) hown2 ((hbq.alloc hsq _).grown hg2 (by simp; omega) (by intro g hg; injection hg with hg; simp at hg; omega))

end Go.Proofs.Ytkpckmdakiminaa
