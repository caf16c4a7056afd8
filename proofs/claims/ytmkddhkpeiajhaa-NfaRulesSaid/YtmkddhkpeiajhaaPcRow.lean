/-
  Rows of pieces in memory; the contract of row.
-/
import Derived.Test.YtmkddhkpeiajhaaPc
import Derived.Deep.RegionLaw
namespace Go.Proofs.Ytmkddhkpeiajhaa
open Go.RowKit

def pcL (p : Pc) (x : ReX) : List Value := reL x ++ [.int .i64 (p.deep : Int), .int .i64 (p.leaves : Int), .bool p.big]
def pcsL : List Pc → List ReX → List Value
  | p :: ps, x :: xs => pcL p x ++ pcsL ps xs
  | _, _ => []
theorem pcL_len (p : Pc) (x : ReX) : (pcL p x).length = 9 := rfl
theorem pcsL_len : ∀ (ps : List Pc) (xs : List ReX), xs.length = ps.length → (pcsL ps xs).length = ps.length * 9
  | [], _, _ => by simp [pcsL]
  | p :: ps, [], h => by simp at h
  | p :: ps, x :: xs, h => by
    have := pcsL_len ps xs (by simpa using h)
    rw [pcsL, List.length_append, this, pcL_len, List.length_cons]
    omega
theorem pcsL_get : ∀ (ps : List Pc) (xs : List ReX) (i j : Nat) (p : Pc) (x : ReX) (u : Value), ps[i]? = some p → xs[i]? = some x → (pcL p x)[j]? = some u → (pcsL ps xs)[i * 9 + j]? = some u
  | [], _, _, _, _, _, _, h, _, _ => by cases h
  | _ :: _, [], _, _, _, _, _, _, h, _ => by cases h
  | p :: ps, x :: xs, 0, j, _, _, u, h, h2, hu => by
    injection h with h
    injection h2 with h2
    subst h h2
    have hj : j < 9 := by have := (List.getElem?_eq_some_iff.1 hu).1; rw [pcL_len] at this; exact this
    rw [pcsL, Nat.zero_mul, Nat.zero_add, List.getElem?_append_left (by rw [pcL_len]; exact hj)]
    exact hu
  | p :: ps, x :: xs, i + 1, j, _, _, u, h, h2, hu => by
    rw [pcsL, List.getElem?_append_right (by rw [pcL_len]; omega), pcL_len, show (i + 1) * 9 + j - 9 = i * 9 + j by omega]
    exact pcsL_get ps xs i j _ _ u h h2 hu
theorem pcsL_snoc : ∀ (ps : List Pc) (xs : List ReX) (p : Pc) (x : ReX), xs.length = ps.length → pcsL (ps ++ [p]) (xs ++ [x]) = pcsL ps xs ++ pcL p x
  | [], [], p, x, _ => by simp [pcsL]
  | [], _ :: _, _, _, h => by simp at h
  | _ :: _, [], _, _, h => by simp at h
  | q :: ps, y :: ys, p, x, h => by
    show pcL q y ++ pcsL (ps ++ [p]) (ys ++ [x]) = _
    rw [pcsL_snoc ps ys p x (by simpa using h), pcsL, List.append_assoc]

/-- a row of pieces that reads so -/
def RdP (w : World) (lo : Nat → Prop) (A : Option Addr) (n : Nat) (ps : List Pc) : Prop :=
  ps.length = n ∧ ∃ xs : List ReX, ReCs w lo (ps.map Pc.re) xs ∧ Reads w w.heap.size 9 A n (pcsL ps xs)
theorem RdP.later {w w' : World} {lo : Nat → Prop} {n : Nat} {A : Option Addr} {ps : List Pc} (h : RdP w lo A n ps) (hl : Later w w') : RdP w' lo A n ps := by
  obtain ⟨h1, xs, h2, h3⟩ := h
  exact ⟨h1, xs, h2.later hl, (h3.below hl).more hl.size⟩
theorem RdP.at_ {w : World} {lo : Nat → Prop} {n : Nat} {A : Option Addr} {ps : List Pc} (h : RdP w lo A n ps) {i : Nat} {p : Pc} (hp : ps[i]? = some p) :
    ∃ b off k a0 a1 a2 a3 rA rn rc, A = some ⟨b, off, none⟩ ∧ ReC w lo p.re ⟨k, a0, a1, a2, a3, rA, rn, rc⟩ ∧ w.cell? ⟨b, off + i * 9, none⟩ = some (.int .i64 k) ∧ w.cell? ⟨b, off + i * 9 + 1, none⟩ = some (.int .u64 a0) ∧ w.cell? ⟨b, off + i * 9 + 2, none⟩ = some (.int .u64 a1) ∧
      w.cell? ⟨b, off + i * 9 + 3, none⟩ = some (.int .u64 a2) ∧ w.cell? ⟨b, off + i * 9 + 4, none⟩ = some (.int .u64 a3) ∧ w.cell? ⟨b, off + i * 9 + 5, none⟩ = some (.slice rA rn rc) ∧ w.cell? ⟨b, off + i * 9 + 6, none⟩ = some (.int .i64 (p.deep : Int)) ∧
      w.cell? ⟨b, off + i * 9 + 7, none⟩ = some (.int .i64 (p.leaves : Int)) ∧ w.cell? ⟨b, off + i * 9 + 8, none⟩ = some (.bool p.big) := by
  obtain ⟨h1, xs, h2, h3⟩ := h
  have hi : i < n := by have := (List.getElem?_eq_some_iff.1 hp).1; omega
  obtain ⟨x, hx, hr⟩ := h2.get i p.re (by rw [List.getElem?_map, hp]; rfl)
  have hlen := h2.len
  rw [List.length_map] at hlen
  obtain ⟨ad, rfl, hb, hc⟩ := h3.2 (by omega)
  have hl : 0 < xs.length := by omega
  have hl2 : 0 < ps.length := by omega
  have h0 := hc 0 _ (pcsL_get ps xs 0 0 ps[0] xs[0] _ (List.getElem?_eq_getElem hl2) (List.getElem?_eq_getElem hl) rfl)
  obtain ⟨b, off, sp⟩ := ad
  have hsp : sp = none := by simpa [Addr.add] using World.cell?_spot h0
  subst hsp
  have g : ∀ j u, (pcL p x)[j]? = some u → w.cell? ⟨b, off + i * 9 + j, none⟩ = some u := fun j u hu => by
    have := hc _ _ (pcsL_get ps xs i j p x u hp hx hu)
    rw [Addr.add_lit] at this
    rw [Nat.add_assoc]
    exact this
  obtain ⟨k, a0, a1, a2, a3, rA, rn, rc⟩ := x
  exact ⟨b, off, k, a0, a1, a2, a3, rA, rn, rc, rfl, hr, g 0 _ rfl, g 1 _ rfl, g 2 _ rfl, g 3 _ rfl, g 4 _ rfl, g 5 _ rfl, g 6 _ rfl, g 7 _ rfl, g 8 _ rfl⟩

theorem pcFold_step (k : Int) (ps : List Pc) (q p : Pc) {j : Nat} (hp : ps[j]? = some p) : pcFold k (ps.take (j + 1)).reverse q = pcFold k (ps.take j).reverse (pcTwo k p q) := by
  obtain ⟨hl, e⟩ := List.getElem?_eq_some_iff.1 hp
  rw [List.take_succ_eq_append_getElem hl, e, List.reverse_append]
  rfl
theorem pcRow_last (k : Int) (ps : List Pc) (p : Pc) {j : Nat} (hj : ps.length = j + 1) (hp : ps[j]? = some p) : pcRow k ps = pcFold k (ps.take j).reverse p := by
  have e : ps.reverse = p :: (ps.take j).reverse := by
    obtain ⟨hl, e⟩ := List.getElem?_eq_some_iff.1 hp
    have h2 : ps = ps.take j ++ [p] := by
      have := List.take_succ_eq_append_getElem hl
      rw [e, ← hj, List.take_length] at this
      exact this
    rw [h2, List.reverse_append, List.take_left' (by rw [List.length_take]; omega)]
    rfl
  unfold pcRow
  rw [e]

/-- in the midst of 'row' -/
def RowAt (lo : Nat → Prop) (kind : Int) (ps : List Pc) (Q : Pc) (w : World) (s6 : Value) (wr : World) : Prop :=
  ∃ (j : Nat) (q : Pc) (k a b c d : Int) (A : Option Addr) (n cp : Nat), j ≤ ps.length ∧ s6 = .int .i64 ((j : Int) - 1) ∧ PcOk q ∧ ReC wr lo q.re ⟨k, a, b, c, d, A, n, cp⟩ ∧
    Blk wr (w.heap.size + 1) 87 #[.int .i64 k, .int .u64 a, .int .u64 b, .int .u64 c, .int .u64 d, .slice A n cp, .int .i64 (q.deep : Int), .int .i64 (q.leaves : Int), .bool q.big] ∧
    Blk wr w.heap.size 87 #[.int .i64 0, .int .u64 0, .int .u64 0, .int .u64 0, .int .u64 0, .slice none 0 0, .int .i64 0, .int .i64 0, .bool false] ∧ Later w wr ∧ pcFold kind (ps.take j).reverse q = Q

set_option maxHeartbeats 2000000 in
theorem row_any (lo : Nat → Prop) (kind : Int) (A : Option Addr) (n c : Nat) (ps : List Pc) (w : World) (hr : RdP w lo A n ps) (hok : ∀ p ∈ ps, PcOk p) (hn : 0 < n) (hn2 : n ≤ 1000000000) (hlo : Up w lo) :
    Calls Try.prog 42 #[.int .i64 kind, .slice A n c] w (RetPc w lo (pcRow kind ps)) := by
  have hlen := hr.1
  obtain ⟨m, hm⟩ : ∃ m, n = m + 1 := ⟨n - 1, by omega⟩
  subst hm
  obtain ⟨p, hp⟩ : ∃ p, ps[m]? = some p := ⟨_, List.getElem?_eq_getElem (by omega)⟩
  obtain ⟨b, off, k0, a0, a1, a2, a3, rA, rn, rc, rfl, hre, c0, c1, c2, c3, c4, c5, c6, c7, c8⟩ := (hr.later ((Later.refl w).alloc (.cells #[.int .i64 0, .int .u64 0, .int .u64 0, .int .u64 0, .int .u64 0, .slice none 0 0, .int .i64 0, .int .i64 0, .bool false] 87))).at_ hp
  have hpo := hok p (List.mem_of_getElem? hp)
  have hQ := pcRow_last kind ps p hlen hp
  obtain ⟨Q, hQe⟩ : ∃ Q, Q = pcRow kind ps := ⟨_, rfl⟩
  rw [← hQe] at hQ ⊢
  have HQ := Lib.hid hQ
  have HL := Lib.hid hlen
  have e1 : IntKind.i64.wrap (((m + 1 : Nat) : Int) - 1) = (m : Int) := by rw [show ((m + 1 : Nat) : Int) - 1 = (m : Int) by omega]; exact IntWalk.i64_in _ (by omega)
  clear hQ hQe hlen hp
  go_enter Try.func42, Try.ntmps42
  go_wp2_with fail
  go_loopw [6] (fun s6 wr => RowAt lo kind ps Q w s6 wr) (fun s6 _ => (intOf s6 + 1).toNat)
  case atStart => exact ⟨m, p, k0, a0, a1, a2, a3, rA, rn, rc, by have := HL.out; omega, by go_num, hpo, hre.later ((Later.refl _).alloc _), blk_at (by simp), (Blk.new w _ _).alloc _, ((Later.refl w).alloc _).alloc _, HQ.out.symm⟩
  case round =>
    clear c0 c1 c2 c3 c4 c5 c6 c7 c8 hre HQ hpo e1
    obtain ⟨j, q, k, a, b', c', d, A', n', cp, hj, rfl, hqo, hq, B5, B4, hl, hQ⟩ := hrel
    have HQ := Lib.hid hQ
    clear hQ
    cases j with
    | zero =>
      have e : ((0 : Nat) : Int) - 1 = -1 := rfl
      rw [e]
      have hqQ : q = Q := HQ.out
      subst hqQ
      obtain ⟨u0, u1, u2, u3, u4, u5, u6, u7, u8, -⟩ := cells9 B5
      obtain ⟨z0, z1, z2, z3, z4, z5, z6, z7, z8, y0, y1, y2, y3, y4, y5, y6, y7, y8⟩ := cells9 B4
      clear e HQ
      go_wp2_with fail
      refine bodyPost_ret (v := .agg #[.int .i64 k, .int .u64 a, .int .u64 b', .int .u64 c', .int .u64 d, .slice A' n' cp, .int .i64 (q.deep : Int), .int .i64 (q.leaves : Int), .bool q.big]) (by simp [results, Try.results42, go_sem, z0, z1, z2, z3, z4, z5, z6, z7, z8]) rfl ?_
      exact RetPc.store9 (by decide) B4 hq hl (Nat.le_refl _)
    | succ i =>
      have e : ((i + 1 : Nat) : Int) - 1 = (i : Int) := by omega
      rw [e]
      clear e
      have hlen := HL.out
      obtain ⟨pi, hpi⟩ : ∃ pi, ps[i]? = some pi := ⟨_, List.getElem?_eq_getElem (by omega)⟩
      have hpio := hok pi (List.mem_of_getElem? hpi)
      have hst := pcFold_step kind ps q pi hpi
      have HST := Lib.hid hst
      obtain ⟨b2, off2, ik, i0, i1, i2, i3, iA, inn, ic, hA, hire, v0, v1, v2, v3, v4, v5, v6, v7, v8⟩ := (hr.later hl).at_ hpi
      injection hA with hA
      injection hA with hA1 hA2
      subst hA1 hA2
      obtain ⟨u0, u1, u2, u3, u4, u5, u6, u7, u8, -⟩ := cells9 B5
      have hi1 : (i : Int) < ((m + 1 : Nat) : Int) := by omega
      have hi2 : (i : Int) < (m : Int) + 1 := by omega
      have hi3 : (i : Int) ≤ 1000000000 := by omega
      clear hlen hpi hst
      go_wp2_with fail
      go_region_law ((go_simp; go_at_call 44; refine (two_any lo kind ik i0 i1 i2 i3 iA inn ic k a b' c' d A' n' cp pi q _ (hire.later (Later.drew (Later.refl _))) (hq.later (Later.drew (Later.refl _))) hpio hqo (hlo.later hl.drew)).mono ?_; rintro e w1 ⟨k1, a1, b1, c1, d1, A1, n1, cp1, rfl, h1, hl1⟩; have D5 := blkL hl1 B5.drew; have D4 := blkL hl1 B4.drew; have hl1 := hl.drew.trans hl1; obtain ⟨z0, z1, z2, z3, z4, z5, z6, z7, z8, y0, y1, y2, y3, y4, y5, y6, y7, y8⟩ := cells9 D5; go_simp))
      all_goals
        go_wp2_with fail
        go_roundw
        case rel => exact ⟨i, pcTwo kind pi q, k1, a1, b1, c1, d1, A1, n1, cp1, by omega, by go_num, pcTwo_ok kind hpio hqo, ReC.fr (Fr.set9 (w.heap.size + 1) _ _ _ _ _ _ _ _ _) (spares_blk lo D5 (by decide)) _ h1, D5.set9, Blk.fr D4 (Fr.set9 (w.heap.size + 1) _ _ _ _ _ _ _ _ _) (by show ¬ w.heap.size = w.heap.size + 1; omega), hl1.set9 (Nat.le_succ _), HST.out ▸ HQ.out⟩
        case measure => simp [intOf]

end Go.Proofs.Ytmkddhkpeiajhaa
