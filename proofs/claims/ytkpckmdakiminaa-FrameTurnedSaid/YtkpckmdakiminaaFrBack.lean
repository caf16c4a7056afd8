/-
  The walk of FrameBack: what was framed is told again.
-/
import Derived.Test.YtkpckmdakiminaaFrKnown
namespace Go.Proofs.Ytkpckmdakiminaa
open Go.RowKit

theorem frames_len {M : Nat} : ∀ ps : List (List UInt8), (∀ p ∈ ps, p.length ≤ M) → (ps.flatMap frameB).length ≤ (M + 10) * ps.length
  | [], _ => by simp
  | p :: ps, h => by
    have h1 := frames_len ps (fun q hq => h q (List.mem_cons_of_mem _ hq))
    have h2 := frameB_le p
    have h3 := h p (List.mem_cons_self ..)
    rw [List.flatMap_cons, List.length_append, List.length_cons, Nat.mul_succ]
    omega
/-- rows that were cut off -/
def Shorts (rs : List RowV) (m k : Nat) : Prop := rs.length ≤ m ∧ ∀ p ∈ bytesOf rs, p.length ≤ k
theorem shorts_of {rs rs0 : List RowV} {m k : Nat} (h : bytesOf rs = ((bytesOf rs0).take m).map (·.take k)) : Shorts rs m k := by
  refine ⟨?_, fun p hp => ?_⟩
  · have := congrArg List.length h
    rw [List.length_map, List.length_take] at this
    unfold bytesOf at this
    rw [List.length_map] at this
    omega
  · rw [h] at hp
    obtain ⟨q, _, rfl⟩ := List.mem_map.1 hp
    exact List.length_take_le _ _
theorem shorts_take {rs : List RowV} {m k : Nat} (h : Shorts rs m k) (j : Nat) : (((bytesOf rs).take j).flatMap frameB).length ≤ (k + 10) * m := by
  have h1 := frames_len (M := k) ((bytesOf rs).take j) (fun p hp => h.2 p (List.mem_of_mem_take hp))
  have h2 : ((bytesOf rs).take j).length ≤ m := by
    rw [List.length_take]
    have : (bytesOf rs).length ≤ m := by unfold bytesOf; rw [List.length_map]; exact h.1
    omega
  exact Nat.le_trans h1 (Nat.mul_le_mul_left _ h2)
theorem frames_snoc {rs : List RowV} {j : Nat} {r : RowV} (hr : rs[j]? = some r) : ((bytesOf rs).take (j + 1)).flatMap frameB = ((bytesOf rs).take j).flatMap frameB ++ frameB r.l := by
  obtain ⟨hj, e⟩ := List.getElem?_eq_some_iff.1 hr
  unfold bytesOf
  rw [← List.map_take, ← List.map_take, List.take_succ_eq_append_getElem hj, e, List.map_append, List.flatMap_append]
  simp

set_option maxRecDepth 100000 in
set_option maxHeartbeats 2000000 in
theorem frBack_any (A : Option Addr) (n c : Nat) (rs : List RowV) (w : World) (hr : RdR w w.heap.size A n rs) :
    Calls Try.prog 5 #[.slice A n c] w fun e w' => e = .returned (.bool true) ∧ Below w.heap.size w w' := by
  go_enter Try.func5, Try.ntmps5
  go_wp2_with fail
  refine (short_any A n c rs 50 2000 w hr (by omega) (by omega)).mono ?_
  rintro e w1 ⟨A1, n1, c1, rs1, rfl, hown1, hbs, hb1⟩
  have hsh := shorts_of hbs
  have hz1 := hb1.size
  have HL : Hid (rs1.length = n1) := hown1.len
  have hn1 : n1 ≤ 50 := by have := hsh.1; have := HL.out; omega
  clear hbs
  go_wp2_with fail
  go_loopw [3, 4] (fun v i wr => ∃ (j n9 c9 : Nat) (A9 : Option Addr), j ≤ n1 ∧ i = .int .i64 (j : Int) ∧ v = .slice A9 n9 c9 ∧ OwnB wr w1.heap.size A9 n9 c9 (((bytesOf rs1).take j).flatMap frameB) ∧ Below w1.heap.size w1 wr) (fun _ i _ => n1 - (intOf i).toNat)
  case atStart => exact ⟨0, 0, 0, none, by omega, rfl, rfl, OwnB.nil, Below.refl _ _⟩
  case round =>
    obtain ⟨j, n9, c9, A9, hj, rfl, rfl, hown, hbw⟩ := hrel
    have hsz := hbw.size
    have hn9 : n9 ≤ 100500 := by have h := shorts_take hsh j; have := hown.len; omega
    by_cases hlt : j < n1
    · obtain ⟨b, off, r, rfl, hbB, hry, d0, d1, d2⟩ := (hown1.rd.below hbw).at_ hlt
      have hrl : r.l.length ≤ 2000 := hsh.2 r.l (List.mem_map.2 ⟨r, List.mem_of_getElem? hry, rfl⟩)
      have hrn : r.n ≤ 2000 := by have := d1.len; omega
      have hnx := frames_snoc hry
      have HN := Lib.hid hnx
      clear hnx
      go_wp2_with fail
      refine (frame_any r.A r.n r.c r.l wr (d1.more hsz) (by omega)).mono ?_
      rintro e w2 ⟨A2, n2, c2, rfl, hown2, hb2⟩
      have hn2 : n2 = r.n + 10 := by rw [← hown2.len, frameB_len (by omega), d1.len]
      subst hn2
      have hz2 := hb2.size
      have e0 := (hb2.cell (p := ⟨b, off + j, none⟩) (by show b < _; omega)).trans d0
      have hnb : (((r.n + 10 : Nat) : Int) != (r.n : Int) + 10) = false := by rw [bne_eq_false_iff_eq]; omega
      have hown' := hown.below hb2 (fun k hk => (hown.lt k hk).2)
      go_wp2_with (at_builtin; go_loud (refine wpList_append_b _ rfl (.tmp 30) (.tmp 31) rfl w1.heap.size A9 n9 c9 _ rfl hown' _ A2 (r.n + 10) c2 _ rfl hown2.rd (by omega) (by omega) ?_); intro A3 n3 c3 w3 hown3 hg3 hob3)
      go_roundw
      case rel => exact ⟨j + 1, n3, c3, A3, by omega, by go_num, rfl, by rw [HN.out]; exact hown3, (hbw.trans (hb2.mono hsz)).grown hg3 (by omega) (fun k hk => (hown.lt k hk).1)⟩
      case measure => simp [intOf]; omega
    · obtain rfl : j = n1 := by omega
      have e1 : (bytesOf rs1).take j = bytesOf rs1 := List.take_of_length_le (by unfold bytesOf; rw [List.length_map, HL.out]; exact Nat.le_refl _)
      rw [e1] at hown
      have hlb := listB_frames [] (whole_short (by decide)) (bytesOf rs1) (fun p hp => by have := hsh.2 p hp; omega)
      rw [List.append_nil] at hlb
      have hln := hown.len
      rw [hln] at hlb
      have H5 := Lib.hid (list_any A9 n9 c9 _ wr hown.rd (by omega) hown.cap)
      rw [hlb] at H5
      unfold Listed at H5
      clear hlb hln e1
      go_wp2_with fail
      refine H5.out.mono ?_
      rintro e w5 ⟨A5, n5, c5, rs5, rfl, hown5, hbs5, hb5⟩
      have hbs5 := Lib.hid hbs5
      have hz5 := hb5.size
      go_wp2_with fail
      refine (known_any _).mono ?_
      rintro e w6 ⟨rfl, hb6⟩
      have hz6 := hb6.size
      have q5 := (hown5.below hb6 (Nat.le_refl _)).rd
      have q1 := (((hown1.rd.below hbw).below (hb5.mono hsz)).below (hb6.mono (by omega))).more (B' := w6.heap.size) (by omega)
      have hn5 : n5 ≤ 140737488355328 := by have h := rows_len hbs5.out; rw [hown5.len, HL.out] at h; omega
      go_wp2_with fail
      refine (same_true A5 n5 c5 rs5 A1 j c1 rs1 _ w6 q5 q1 hbs5.out hn5).mono ?_
      rintro e w7 ⟨rfl, m, rfl⟩
      go_wp2_with fail
      go_ret
      exact ⟨rfl, below_drewN (((hb1.trans (hbw.mono hz1)).trans (hb5.mono (by omega))).trans (hb6.mono (by omega))) _⟩

end Go.Proofs.Ytkpckmdakiminaa
