/-
  EreQuotes: a text that is quoted is a row of its bytes.
-/
import Derived.Test.YthmjnelnnhidkaaQuoteLaw
import Derived.Test.YthmjnelnnhidkaaRefRight
import Derived.Test.YthmjnelnnhidkaaEreKn
import Derived.Test.YthmjnelnnhidkaaAsB
import Derived.Deep.DeepCutAuto
import Derived.Deep.RegionHeldLaw
namespace Go.Proofs.Ythmjnelnnhidkaa
open Go.RowKit

theorem tByte_one (c : UInt8) : tOne c.toNat = tByte c := by unfold tOne tByte; rw [UInt8.ofNat_toNat]
theorem q_last (L : List UInt8) (i : Nat) (c : UInt8) (h : L[i]? = some c) (hl : i + 1 = L.length) : qTree (L.drop i) = tByte c := by
  obtain ⟨hq, e⟩ := List.getElem?_eq_some_iff.1 h
  rw [List.drop_eq_getElem_cons hq, e, List.drop_of_length_le (by omega)]
  rfl
theorem q_more (L : List UInt8) (i : Nat) (c : UInt8) (h : L[i]? = some c) (hl : i + 1 < L.length) : qTree (L.drop i) = .node 2 z4 [tByte c, qTree (L.drop (i + 1))] := by
  obtain ⟨hq, e⟩ := List.getElem?_eq_some_iff.1 h
  rw [List.drop_eq_getElem_cons hq, e, List.drop_eq_getElem_cons hl]
  rfl
theorem thin_byte (c : UInt8) : thinT (tByte c) := thin0 _ _
theorem cells6t {w : World} {b : Nat} {t : TypeId} {x0 x1 x2 x3 x4 x5 : Value} (h : Blk w b t #[x0, x1, x2, x3, x4, x5]) :
    w.cell? ⟨b, 0, none⟩ = some x0 ∧ w.cell? ⟨b, 1, none⟩ = some x1 ∧ w.cell? ⟨b, 2, none⟩ = some x2 ∧ w.cell? ⟨b, 3, none⟩ = some x3 ∧ w.cell? ⟨b, 4, none⟩ = some x4 ∧ w.cell? ⟨b, 5, none⟩ = some x5 :=
  ⟨h.cell 0, h.cell 1, h.cell 2, h.cell 3, h.cell 4, h.cell 5⟩
theorem Blk.set6q {w : World} {g : Nat} {t : TypeId} {y0 y1 y2 y3 y4 y5 x0 x1 x2 x3 x4 x5 : Value} (h : Blk w g t #[y0, y1, y2, y3, y4, y5]) : Blk (Proofs.Ythmjnelnnhidkaa.set6 w g x0 x1 x2 x3 x4 x5) g t #[x0, x1, x2, x3, x4, x5] := by
  unfold Proofs.Ythmjnelnnhidkaa.set6
  have h0 := (h.set_ 0 x0).set_ 1 x1
  simp only [List.setIfInBounds_toArray, List.set_cons_zero, List.set_cons_succ] at h0
  have h1 := (h0.set_ 2 x2).set_ 3 x3
  simp only [List.setIfInBounds_toArray, List.set_cons_zero, List.set_cons_succ] at h1
  have h2 := (h1.set_ 4 x4).set_ 5 x5
  simp only [List.setIfInBounds_toArray, List.set_cons_zero, List.set_cons_succ] at h2
  exact h2
theorem Later.of_lt {w w1 : World} (h : Later w w1) {lo : Nat → Prop} {t : Tree} {x : ReX} (hc : ReC w lo t x) : ReC w1 lo t x := hc.later h

theorem same_q (x : UInt8) (k a b c d : Int) (A : Option Addr) (m p : Nat) (k1 a1 b1 c1 d1 : Int) (A1 : Option Addr) (n1 p1 : Nat) (W : World) (h1 : ReC W loT (tByte x) ⟨k, a, b, c, d, A, m, p⟩) (h2 : ReC W loT (tOne x.toNat) ⟨k1, a1, b1, c1, d1, A1, n1, p1⟩) :
    Calls Try.prog 31 #[.agg #[.int .i64 k, .int .u64 a, .int .u64 b, .int .u64 c, .int .u64 d, .slice A m p], .agg #[.int .i64 k1, .int .u64 a1, .int .u64 b1, .int .u64 c1, .int .u64 d1, .slice A1 n1 p1]] W fun e w' => e = .returned (.bool true) ∧ Later W w' :=
  same_any _ (tByte x) loT loT k a b c d A m p k1 a1 b1 c1 d1 A1 n1 p1 W (Nat.le_refl _) (thin_byte x) h1 (by rw [← tByte_one]; exact h2)
/-- the row that is left, in its variable -/
def QuAt (w : World) (b4 : Nat) (L : List UInt8) (i : Nat) (wr : World) : Prop :=
  ∃ (t : Tree) (k a b c d : Int) (A : Option Addr) (n p : Nat), Blk wr b4 49 #[.int .i64 k, .int .u64 a, .int .u64 b, .int .u64 c, .int .u64 d, .slice A n p] ∧ ReC wr (fun k => k ≠ b4) t ⟨k, a, b, c, d, A, n, p⟩ ∧ Hid (i < L.length → t = qTree (L.drop i)) ∧ Hid (L = [] → t = tEmpty) ∧ Later w wr
/-- the first of the row, in a variable of its own, and what is left -/
def QuB (w : World) (b4 : Nat) (L : List UInt8) (i : Nat) (x : UInt8) (s8 : Value) (wr : World) : Prop :=
  ∃ (g : Nat) (k a b c d : Int) (A : Option Addr) (n p : Nat), s8 = .pointer (some ⟨g, 0, none⟩) ∧ Blk wr g 49 #[.int .i64 k, .int .u64 a, .int .u64 b, .int .u64 c, .int .u64 d, .slice A n p] ∧ ReC wr loT (tByte x) ⟨k, a, b, c, d, A, n, p⟩ ∧ QuAt w b4 L (i + 1) wr
theorem QuAt.later {w wr w' : World} {b4 i : Nat} {L : List UInt8} (h : QuAt w b4 L i wr) (hl : Later wr w') : QuAt w b4 L i w' := by
  obtain ⟨t, k, a, b, c, d, A, n, p, h1, h2, h3, h4, h5⟩ := h
  exact ⟨t, k, a, b, c, d, A, n, p, blkL hl h1, h2.later hl, h3, h4, h5.trans hl⟩

set_option maxRecDepth 100000 in
set_option maxHeartbeats 16000000 in
theorem quotes_any (S : ByteArray) (L : List UInt8) (hL : L.length ≤ 200) (w : World) (hS : ((S.size : Int) ≤ 200 ∧ S = bstr L) ∨ (¬ (S.size : Int) ≤ 200 ∧ S.extract 0 200 = bstr L)) (hsz : S.size ≤ 140737488355328) :
    Calls Try.prog 11 #[.string S] w fun e w' => e = .returned (.bool true) ∧ Later w w' := by
  go_enter Try.func11, Try.ntmps11
  go_upto_region 1 with fail
  go_cut [0] (fun s0 wx => s0 = .string (bstr L) ∧ wx = w)
  case first =>
    rcases hS with ⟨h1, h2⟩ | ⟨h1, h2⟩
    · have H2 := Lib.hid h2
      clear h2
      go_wp2_with fail
      all_goals
        go_meet
        exact ⟨by rw [← H2.out], rfl⟩
    · have H2 := Lib.hid h2
      clear h2
      go_wp2_with fail
      all_goals
        go_meet
        exact ⟨by rw [← H2.out]; try rfl, rfl⟩
  case rest =>
    obtain ⟨rfl, hwc⟩ := hcut
    have hwc := hwc.symm
    subst hwc
    clear hS hsz
    obtain ⟨n, hn⟩ : ∃ n, (bstr L).size = n := ⟨_, rfl⟩
    have hnL : L.length = n := hn
    obtain ⟨Q, hQ⟩ : ∃ Q, bstr (quoteL L) = Q := ⟨_, rfl⟩
    have hQs : Q.size = 4 * n := by rw [← hQ, bstr_size, quoteL_len, hnL]
    have HQC : Hid (∀ wx : World, Calls Try.prog 39 #[.string (bstr L)] wx fun e w' => e = .returned (.string Q) ∧ Later wx w') := fun wx => by rw [← hQ]; exact quote_any L (by omega) wx
    have HPC : Hid (∀ wx : World, Calls Try.prog 28 #[.string Q] wx (RetParse wx loT (qTree L, 0, 0))) := fun wx => parse_at Q _ (by rw [← hQ]; exact parse_quote L (by omega)) (by omega) wx
    have HN := Lib.hid hnL
    have hn200 : n ≤ 200 := by omega
    have hq1 : ((4 : Int) * (n : Int) != 4 * (n : Int)) = false := by rw [bne, beq_self_eq_true]; rfl
    clear hQ hL hnL
    go_wp2_with fail
    refine (HQC.out _).mono ?_
    rintro e w1 ⟨rfl, hl1⟩
    go_wp2_with fail
    refine (HPC.out _).mono ?_
    rintro e w2 ⟨k, a, b, c, d, A, m, p, rfl, hC, hl2⟩
    go_upto_region 4 with fail
    obtain ⟨b4, hb4⟩ : ∃ b4, b4 = w2.heap.size := ⟨_, rfl⟩
    obtain ⟨W3, hW3⟩ : ∃ W3, W3 = w2.alloc (.cells #[.int .i64 k, .int .u64 a, .int .u64 b, .int .u64 c, .int .u64 d, .slice A m p] 49) := ⟨_, rfl⟩
    have hl3 : Later w2 W3 := by rw [hW3]; exact (Later.refl w2).alloc _
    have hst : QuAt w b4 L 0 W3 := ⟨qTree L, k, a, b, c, d, A, m, p, by rw [hW3, hb4]; exact Blk.new w2 _ _, (ReC.weaken (fun k hk _ => by omega) _ hC).later hl3, fun _ => by rw [List.drop_zero], fun h => by rw [h]; rfl, (hl1.trans hl2).trans hl3⟩
    have hbw : w.heap.size ≤ b4 := by rw [hb4]; have := (hl1.trans hl2).size; exact this
    rw [← hW3, ← hb4]
    clear hW3 hb4 hC hl1 hl2 hl3
    go_wp2_with fail
    refine (ereKnown_any _).mono ?_
    rintro e w4 ⟨rfl, hl4⟩
    have hst := hst.later hl4
    clear hl4
    go_wp2_with fail
    go_loopw [7, 8] (fun s7 _ wr => ∃ i : Nat, s7 = .int .i64 (i : Int) ∧ i ≤ n ∧ QuAt w b4 L i wr) (fun s7 _ _ => n - (intOf s7).toNat)
    case atStart => exact ⟨0, rfl, Nat.zero_le _, hst⟩
    case round =>
      clear hst
      obtain ⟨i, rfl, hi, hst⟩ := hrel
      by_cases hlt : i < n
      · have hlti : (i : Int) < (n : Int) := by omega
        obtain ⟨x, hx⟩ : ∃ x, L[i]? = some x := ⟨_, List.getElem?_eq_getElem (by rw [HN.out]; exact hlt)⟩
        obtain ⟨hxi, hxe⟩ := str_get (bstr L) i x hx
        have hx256 := x.toNat_lt
        have HX := Lib.hid hx
        have HXE := Lib.hid hxe
        obtain ⟨t, k, a, b, c, d, A, m, p, B4, hC, ht, hE, hlw⟩ := hst
        have htq := ht.out (by rw [HN.out]; exact hlt)
        subst htq
        obtain ⟨u0, u1, u2, u3, u4, u5, -⟩ := cells6 B4
        clear hx hxe ht
        go_upto_region 10 with fail
        obtain ⟨b8, hb8⟩ : ∃ b8, b8 = wr.heap.size := ⟨_, rfl⟩
        obtain ⟨W1, hW1⟩ : ∃ W1, W1 = wr.alloc (.cells #[.int .i64 k, .int .u64 a, .int .u64 b, .int .u64 c, .int .u64 d, .slice A m p] 49) := ⟨_, rfl⟩
        have hl1 : Later wr W1 := by rw [hW1]; exact (Later.refl wr).alloc _
        have B8 : Blk W1 b8 49 #[.int .i64 k, .int .u64 a, .int .u64 b, .int .u64 c, .int .u64 d, .slice A m p] := by rw [hW1, hb8]; exact Blk.new wr _ _
        have hC1 : ReC W1 (fun k => k ≠ b4 ∧ k ≠ b8) (qTree (L.drop i)) ⟨k, a, b, c, d, A, m, p⟩ := (ReC.weaken (fun k hk h => ⟨h, by omega⟩) _ hC).later hl1
        have ne84 : b8 ≠ b4 := by have := B4.lt; omega
        have ne48 : b4 ≠ b8 := fun e => ne84 e.symm
        have hbw8 : w.heap.size ≤ b8 := by have := hlw.size; omega
        have B4 := blkL hl1 B4
        have hlw := hlw.trans hl1
        rw [← hW1, ← hb8]
        clear hW1 hb8 hC hl1 u0 u1 u2 u3 u4 u5
        go_upto_if 47 with fail
        go_cut [8] (fun s8 wx => QuB w b4 L i x s8 wx)
        case first =>
          by_cases hmore : i + 1 < n
          · have hmi : (i : Int) < (n : Int) - 1 := by omega
            have hqm := q_more L i x HX.out (by rw [HN.out]; exact hmore)
            rw [hqm] at hC1
            unfold ReC at hC1
            obtain ⟨hk, hset, hm, hcp, xs, hLo, hKs⟩ := hC1
            obtain rfl : k = 2 := hk
            obtain rfl : 2 = m := hm
            obtain ⟨y0, hy0, hCa⟩ := hKs.get 0 _ rfl
            obtain ⟨y1, hy1, hCb⟩ := hKs.get 1 _ rfl
            obtain ⟨jk, ja, jb, jc, jd, jA, jn, jp⟩ := y0
            obtain ⟨ik, ia, ib, ic, id, iA, im, ip⟩ := y1
            obtain ⟨p0, off, hA, e0, e1, e2, e3, e4, e5⟩ := hLo.six (by omega : 0 < 2) hy0
            obtain ⟨p2, off2, hA2, g0, g1, g2, g3, g4, g5⟩ := hLo.six (by omega : 1 < 2) hy1
            simp only at hA hA2 hLo
            rw [hA] at hA2
            injection hA2 with hA2
            injection hA2 with h3 h4
            subst h3 h4
            have hp0 := (hLo.2 (by omega) _ hA).1
            have np4 : p0 ≠ b4 := hp0.1
            have np8 : p0 ≠ b8 := hp0.2
            rw [Nat.zero_mul, Nat.add_zero] at e0 e1 e2 e3 e4 e5
            rw [Nat.one_mul] at g0 g1 g2 g3 g4 g5
            simp only at e0 e1 e2 e3 e4 e5 g0 g1 g2 g3 g4 g5
            subst hA
            obtain ⟨v0, v1, v2, v3, v4, v5, w0, w1, w2, w3, w4, w5⟩ := cells6 B4
            obtain ⟨z0, z1, z2, z3, z4, z5, f0, f1, f2, f3, f4, f5⟩ := cells6 B8
            clear hset hcp hLo hKs hy0 hy1 hqm
            go_upto_region 14 with fail
            obtain ⟨W2, hW2⟩ : ∃ W2, W2 = set6 W1 b8 (.int .i64 jk) (.int .u64 ja) (.int .u64 jb) (.int .u64 jc) (.int .u64 jd) (.slice jA jn jp) := ⟨_, rfl⟩
            have fr2 : Fr W1 W2 (fun k => k = b8) := by rw [hW2]; exact Fr.set6 b8 _ _ _ _ _ _
            have D8 : Blk W2 b8 49 #[.int .i64 jk, .int .u64 ja, .int .u64 jb, .int .u64 jc, .int .u64 jd, .slice jA jn jp] := by rw [hW2]; exact B8.set6q
            have D4 := blkF fr2 ne48 B4
            have hCa2 := ReC.fr fr2 (spares_not _ (fun hh => hh.2 rfl)) _ hCa
            have hCb2 := ReC.fr fr2 (spares_not _ (fun hh => hh.2 rfl)) _ hCb
            have hlw2 : Later w W2 := by rw [hW2]; exact hlw.set6 hbw8
            have tr := fun (o : Nat) (v : Value) (hq : W1.cell? ⟨p0, o, none⟩ = some v) => (show W2.cell? ⟨p0, o, none⟩ = some v from (cell_fr fr2 ⟨p0, o, none⟩ (World.block_lt_of_cell? W1 _ hq) np8).trans hq)
            have g0 := tr _ _ g0
            have g1 := tr _ _ g1
            have g2 := tr _ _ g2
            have g3 := tr _ _ g3
            have g4 := tr _ _ g4
            have g5 := tr _ _ g5
            unfold set6 at hW2
            rw [← hW2]
            clear hW2 tr fr2 B8 B4 hCa hCb hlw v0 v1 v2 v3 v4 v5 w0 w1 w2 w3 w4 w5 z0 z1 z2 z3 z4 z5 f0 f1 f2 f3 f4 f5 e0 e1 e2 e3 e4 e5
            obtain ⟨v0, v1, v2, v3, v4, v5, w0, w1, w2, w3, w4, w5⟩ := cells6 D4
            go_wp2_with fail
            go_meet
            have fr3 := Fr.set6 (w := W2) b4 (.int .i64 ik) (.int .u64 ia) (.int .u64 ib) (.int .u64 ic) (.int .u64 id) (.slice iA im ip)
            refine ⟨b8, jk, ja, jb, jc, jd, jA, jn, jp, rfl, blkF fr3 ne84 D8, ReC.weaken (fun _ _ _ => trivial) _ (ReC.fr fr3 (spares_not _ (fun hh => hh.1 rfl)) _ hCa2), qTree (L.drop (i + 1)), ik, ia, ib, ic, id, iA, im, ip, D4.set6q, ReC.weaken (fun _ _ hh => hh.1) _ (ReC.fr fr3 (spares_not _ (fun hh => hh.1 rfl)) _ hCb2), fun _ => rfl, fun h => ?_, hlw2.set6 hbw⟩
            have := HX.out
            rw [h] at this
            cases this
          · have hmi : ¬ (i : Int) < (n : Int) - 1 := by omega
            have hql := q_last L i x HX.out (by rw [HN.out]; omega)
            go_wp2_with fail
            go_meet
            refine ⟨b8, k, a, b, c, d, A, m, p, rfl, B8, by rw [← hql]; exact ReC.weaken (fun _ _ _ => trivial) _ hC1, qTree (L.drop i), k, a, b, c, d, A, m, p, B4, ReC.weaken (fun _ _ hh => hh.1) _ hC1, fun h => ?_, fun h => ?_, hlw⟩
            · have := HN.out; omega
            · have := HX.out
              rw [h] at this
              cases this
        case rest =>
          clear B8 B4 hC1 hlw hE
          obtain ⟨g8, k, a, b, c, d, A, m, p, rfl, B8, hC, hst⟩ := hcut
          have HXE2 : Hid ((((bstr L)[i]'hxi).toNat : Int) = (x.toNat : Int)) := by show _ = _; rw [HXE.out]
          have lt : Later wc wc := Later.refl _
          go_wp2_with fail
          go_region_held_law (fun w' => w'.cell? ⟨g8, 0, none⟩ = some (.int .i64 k) ∧ w'.cell? ⟨g8, 1, none⟩ = some (.int .u64 a) ∧ w'.cell? ⟨g8, 2, none⟩ = some (.int .u64 b) ∧ w'.cell? ⟨g8, 3, none⟩ = some (.int .u64 c) ∧ w'.cell? ⟨g8, 4, none⟩ = some (.int .u64 d) ∧ w'.cell? ⟨g8, 5, none⟩ = some (.slice A m p)) (exact cells6t (t := 49) (by repeat (first | (with_reducible exact B8) | (with_reducible apply Blk.drew) | (with_reducible apply Blk.alloc))))
            ((first
              | ((((go_at_call 38; (with_reducible refine (refOne_at x.toNat _ HXE2.out hx256 _).mono ?_)); rintro e w1 ⟨k1, a1, b1, c1, d1, A1, n1, p1, rfl, hC1, hl1⟩);
                  have B8 := blkL hl1 (by repeat (first | (with_reducible exact B8) | (with_reducible apply Blk.drew) | (with_reducible apply Blk.alloc)));
                  have lt : Later wc w1 := Later.trans (by repeat (first | (with_reducible exact lt) | (with_reducible apply Later.drew) | (with_reducible apply Later.alloc))) hl1))
              | ((((go_at_call 31; (with_reducible refine (same_q x k a b c d A m p k1 a1 b1 c1 d1 A1 n1 p1 _ (hC.later (by repeat (first | (with_reducible exact lt) | (with_reducible apply Later.drew) | (with_reducible apply Later.alloc)))) (hC1.later (by repeat (first | (with_reducible exact Later.refl _) | (with_reducible apply Later.drew)))) ).mono ?_)); rintro e w1 ⟨rfl, hl1⟩);
                  have B8 := blkL hl1 (by repeat (first | (with_reducible exact B8) | (with_reducible apply Blk.drew) | (with_reducible apply Blk.alloc)));
                  have lt : Later wc w1 := Later.trans (by repeat (first | (with_reducible exact lt) | (with_reducible apply Later.drew) | (with_reducible apply Later.alloc))) hl1))))
          all_goals
            go_wp2_with fail
            go_roundw
            case rel => exact ⟨i + 1, by go_num, by omega, hst.later (by repeat (first | (with_reducible exact lt) | (with_reducible apply Later.drew) | (with_reducible apply Later.alloc)))⟩
            case measure => simp [intOf]; omega
      · obtain rfl : n = i := by omega
        by_cases hE0 : n = 0
        · have hnil : L = [] := List.eq_nil_of_length_eq_zero (by rw [HN.out]; exact hE0)
          obtain ⟨t, k, a, b, c, d, A, m, p, B4, hC, ht, hE, hlw⟩ := hst
          have hte := hE.out hnil
          subst hte
          have hk : k = 0 := by unfold tEmpty ReC at hC; exact hC.1
          subst hk hE0
          have c0 := B4.cell 0
          have hs1 : ((bstr L).toList == []) = true := by rw [bstr_toList, hnil]; rfl
          have hs2 : (bstr L).toList.isEmpty = true := by rw [bstr_toList, hnil]; rfl
          clear hnil hE ht hC
          go_wp2_with fail
          go_ret
          exact ⟨rfl, hlw⟩
        · have hne : L ≠ [] := fun h => by have := HN.out; rw [h] at this; exact hE0 this.symm
          obtain ⟨t, k, a, b, c, d, A, m, p, B4, hC, ht, hE, hlw⟩ := hst
          have hs1 : ((bstr L).toList == []) = false := by rw [bstr_toList, beq_eq_false_iff_ne]; exact hne
          have hs2 : (bstr L).toList.isEmpty = false := by
            rw [bstr_toList]
            cases L with
            | nil => exact absurd rfl hne
            | cons _ _ => rfl
          clear hC ht hE
          go_wp2_with fail
          go_ret
          exact ⟨rfl, hlw⟩

theorem ereQuotes_any (S : ByteArray) (w : World) (hsz : S.size ≤ 140737488355328) : Calls Try.prog 11 #[.string S] w fun e w' => e = .returned (.bool true) ∧ Later w w' := by
  by_cases h : S.size ≤ 200
  · exact quotes_any S S.data.toList (by rw [len_eq]; exact h) w (.inl ⟨by omega, rfl⟩) hsz
  · refine quotes_any S (S.extract 0 200).data.toList ?_ w (.inr ⟨by omega, rfl⟩) hsz
    rw [len_eq, ByteArray.size_extract]
    omega

end Go.Proofs.Ythmjnelnnhidkaa
