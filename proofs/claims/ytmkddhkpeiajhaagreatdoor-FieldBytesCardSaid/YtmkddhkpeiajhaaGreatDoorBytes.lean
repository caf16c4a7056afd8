import Derived.Test.YtmkddhkpeiajhaaGreatDoorProg
import Derived.Test.YtmkddhkpeiajhaaGreatDoorSetLaw
import Derived.Lib.AppendStr
import Derived.Laws.BytesArg
import Derived.Deep.QuietTactic
import Derived.BigQuiet
import Derived.Deep.MidRow
namespace Go.Proofs.YtmkddhkpeiajhaaGreatDoor
open Go.RowKit
def bv (l : List UInt8) : List Value := l.map fun x => .int .u8 (x.toNat : Int)
theorem bv_append (a b : List UInt8) : bv (a ++ b) = bv a ++ bv b := List.map_append
theorem bv_length (a : List UInt8) : (bv a).length = a.length := List.length_map _
theorem bv_get (l : List UInt8) (k : Nat) (h : k < l.length) : (bv l)[k]? = some (.int .u8 (l[k].toNat : Int)) := by
 unfold bv; rw [List.getElem?_map, List.getElem?_eq_getElem h]; rfl
theorem bv_one (l : List UInt8) : ∀ u ∈ bv l, u.oneCell' = true := by
 intro u hu; unfold bv at hu; obtain ⟨x, _, rfl⟩ := List.mem_map.1 hu; rfl
def RdB (w : World) (B : Nat) (A : Option Addr) (n : Nat) (l : List UInt8) : Prop := Reads w B 1 A n (bv l)
def OwnB (w : World) (base : Nat) (A : Option Addr) (n c : Nat) (l : List UInt8) : Prop := w.ownsRow base 5 1 (.slice A n c) n (bv l)
def ob (A : Option Addr) : Option Nat := A.map (·.block)
theorem ob_own (A : Option Addr) (n c : Nat) : (Value.slice A n c).ownBlock = ob A := by cases A <;> rfl
@[simp] theorem ob_none : ob none = none := rfl
@[simp] theorem ob_some (a : Addr) : ob (some a) = some a.block := rfl
section
variable {w w' : World} {B B' n c base : Nat} {A : Option Addr} {l : List UInt8}
theorem RdB.len (h : RdB w B A n l) : l.length = n := by have := h.1; rw [bv_length] at this; omega
theorem RdB.nil : RdB w B A 0 [] := ⟨by simp [bv], fun h => absurd h (by omega)⟩
theorem RdB.at_ (h : RdB w B A n l) {k : Nat} (hk : k < n) : ∃ b off, A = some ⟨b, off, none⟩ ∧ b < B ∧ w.cell? ⟨b, off + k, none⟩ = some (.int .u8 ((l[k]?.getD 0).toNat : Int)) := by
 obtain ⟨ad, rfl, hb, hall⟩ := h.2 (by omega)
 have hl : k < l.length := by rw [h.len]; exact hk
 have hc := hall k _ (bv_get l k hl)
 have h0 := hall 0 _ (bv_get l 0 (by omega))
 obtain ⟨b, off, sp⟩ := ad
 have hsp : sp = none := by simpa [Addr.add] using World.cell?_spot h0
 subst hsp
 refine ⟨b, off, rfl, hb, ?_⟩
 rw [Addr.add_lit] at hc
 rw [List.getElem?_eq_getElem hl]
 exact hc
theorem RdB.more (h : RdB w B A n l) (hB : B ≤ B') : RdB w B' A n l := Reads.more h hB
theorem RdB.below (h : RdB w B A n l) (hb : Below B w w') : RdB w' B A n l := Reads.below h hb
theorem RdB.drewN (h : RdB w B A n l) (k : Nat) : RdB (w.drewN k) B A n l := h
theorem RdB.alloc (h : RdB w B A n l) (hB : B ≤ w.heap.size) (o : Obj) : RdB (w.alloc o) B A n l := Reads.alloc h hB o
theorem RdB.upto (h : RdB w B A n l) {k : Nat} (hk : k ≤ n) : RdB w B A k (l.take k) := by
 refine ⟨by rw [bv_length, List.length_take, h.len]; omega, fun hn => ?_⟩
 obtain ⟨ad, e, hb, hc⟩ := h.2 (by omega)
 refine ⟨ad, e, hb, fun j u hu => hc j u ?_⟩
 unfold bv at hu ⊢
 rw [List.getElem?_map, List.getElem?_take] at hu
 rw [List.getElem?_map]
 split at hu
 ·exact hu
 ·cases hu
theorem RdB.from (h : RdB w B A n l) {k cap : Nat} (hk : k ≤ n) (hc : n ≤ cap) : RdB w B (if cap = k then A else A.map (·.add k)) (n - k) (l.drop k) := by
 have := Reads.cut h hk hc
 simp only [Nat.mul_one] at this
 unfold RdB
 rw [show bv (l.drop k) = (bv l).drop k from List.map_drop]
 exact this
theorem OwnB.len (h : OwnB w base A n c l) : l.length = n := by have := h.1; rw [bv_length] at this; omega
theorem OwnB.rd (h : OwnB w base A n c l) : RdB w w.heap.size A n l := Reads.of_own h
theorem OwnB.cap (h : OwnB w base A n c l) : n ≤ c := by
 rcases h.2 with ⟨e, rfl⟩ | ⟨g, cap, cur, e, _, _, h3, _⟩
 ·omega
 ·injection e with _ _ e; omega
theorem OwnB.nil : OwnB w base none 0 0 [] := World.ownsRow_nil _ _ _ _
theorem OwnB.made (hb : base ≤ w.heap.size) : OwnB (w.alloc (.cells #[] 5)) base (some ⟨w.heap.size, 0, none⟩) 0 0 [] :=
 World.ownsRow_made w #[] 0 hb (Nat.zero_le _) rfl
theorem OwnB.alloc (h : OwnB w base A n c l) (o : Obj) : OwnB (w.alloc o) base A n c l := World.ownsRow.alloc h o
theorem OwnB.drewN (h : OwnB w base A n c l) (k : Nat) : OwnB (w.drewN k) base A n c l := h
theorem OwnB.lt (h : OwnB w base A n c l) : ∀ k, ob A = some k → base ≤ k ∧ k < w.heap.size := by
 have := World.ownsRow.lt h; rw [ob_own] at this; exact this
theorem OwnB.below (h : OwnB w base A n c l) (hb : Below B w w') (hB : ∀ k, ob A = some k → k < B) : OwnB w' base A n c l := by
 refine ⟨h.1, ?_⟩
 rcases h.2 with h2 | ⟨g, cap, cur, e, h1, h2, h3⟩
 ·exact .inl h2
 ·refine .inr ⟨g, cap, cur, e, h1, ?_, h3⟩
  rw [hb.block g (hB g (by injection e with e; rw [e]; rfl))]
  exact h2
theorem OwnB.base_le (h : OwnB w base A n c l) (hb : ∀ k, ob A = some k → base ≤ k → B ≤ k) : OwnB w B A n c l := by
 refine ⟨h.1, ?_⟩
 rcases h.2 with h2 | ⟨g, cap, cur, e, h1, h3⟩
 ·exact .inl h2
 ·exact .inr ⟨g, cap, cur, e, hb g (by injection e with e; rw [e]; rfl) h1, h3⟩
theorem rd_one (w : World) (x : UInt8) : RdB (w.alloc (.cells #[.int .u8 (x.toNat : Int)] 5)) (w.heap.size + 1) (some ⟨w.heap.size, 0, none⟩) 1 [x] := by
 refine ⟨rfl, fun _ => ⟨_, rfl, Nat.lt_succ_self _, fun j u hu => ?_⟩⟩
 match j, hu with
 | 0, hu => simp [bv] at hu; subst hu; simp [Addr.add]
end
theorem u8_info : (Tryz.prog.info? 5).map (fun i => (i.zero, i.size, i.bytes)) = some (some (.int .u8 0), 1, 1) := by kernel_rfl
theorem run_append_b (w : World) (ty : TypeId) (base : Nat) (A : Option Addr) (n c : Nat) (l : List UInt8) (hown : OwnB w base A n c l)
  (B : Nat) (A2 : Option Addr) (m c2 : Nat) (l2 : List UInt8) (hr : RdB w B A2 m l2) (hbd : n + m ≤ 140737488355328) (hbase : base ≤ w.heap.size) :
  ∃ A' c' w', (Builtin.append_ #[31, 31] ty #[.slice A n c, .slice A2 m c2]).run Tryz.prog w = .ok (.slice A' (n + m) c') w' ∧
   OwnB w' base A' (n + m) c' (l ++ l2) ∧ w.grownBy w' (ob A) ∧ (ob A' = ob A ∨ ob A' = some w.heap.size) := by
 obtain ⟨i0, hi, hz0, hz1, hz2⟩ := info_parts u8_info
 obtain ⟨v', w', hrun, h2, h3, h4⟩ := run_append_any (P := Tryz.prog) w base 31 ty 5 i0 (.int .u8 0) 1 1 Tryz.underlying31 hi hz0 hz1 hz2 rfl (by decide)
  (.slice A n c) n (bv l) hown B A2 m c2 (bv l2) hr (bv_one l2) (by unfold maxLen; omega) (by omega) hbase
 rw [ob_own] at h3 h4
 obtain ⟨A', c', rfl⟩ : ∃ A' c', v' = .slice A' (n + m) c' := by
  rcases h2.2 with ⟨rfl, e⟩ | ⟨g, cap, cur, rfl, _⟩
  ·exact ⟨none, 0, by rw [e]⟩
  ·exact ⟨_, _, rfl⟩
 rw [ob_own] at h4
 exact ⟨A', c', w', hrun, by unfold OwnB; rw [bv_append]; exact h2, h3, h4⟩
theorem wp_append_b (w : World) {o : Oper} {a : Act} {K : Act → World → Prop} {Q : Exit → Act → World → Prop} (s x : Operand)
  (ho : o.op = .call { callee := .builtin .append, args := #[s, x], argTypes := #[31, 31] })
  (base : Nat) (A : Option Addr) (n c : Nat) (l : List UInt8) (hs : a.eval s = .slice A n c) (hown : OwnB w base A n c l)
  (B : Nat) (A2 : Option Addr) (m c2 : Nat) (l2 : List UInt8) (hx : a.eval x = .slice A2 m c2) (hr : RdB w B A2 m l2) (hbd : n + m ≤ 140737488355328) (hbase : base ≤ w.heap.size)
  (h : ∀ A' n' c' w', OwnB w' base A' n' c' (l ++ l2) → w.grownBy w' (ob A) → (ob A' = ob A ∨ ob A' = some w.heap.size) → K (a.put o.dst (.slice A' n' c')) w') : o.wp Tryz.prog a w K Q := by
 obtain ⟨A', c', w', hrun, h2, h3, h4⟩ := run_append_b w o.type base A n c l hown B A2 m c2 l2 hr hbd hbase
 unfold Oper.wp execOp
 simp only [ho, resolve, invoke, builtin, Sem.run_bind, Sem.run_pure, Result.andThen_ok, List.map_toArray, List.map_cons, List.map_nil, hs, hx, hrun]
 exact h A' _ c' w' h2 h3 h4
theorem wpList_append_b (w : World) {ops : Array Oper} {rest : List Oper} {o : Oper} {a : Act} {Q : Exit → Act → World → Prop} (hgd : o.guard = none) (s x : Operand)
  (ho : o.op = .call { callee := .builtin .append, args := #[s, x], argTypes := #[31, 31] })
  (base : Nat) (A : Option Addr) (n c : Nat) (l : List UInt8) (hs : a.eval s = .slice A n c) (hown : OwnB w base A n c l)
  (B : Nat) (A2 : Option Addr) (m c2 : Nat) (l2 : List UInt8) (hx : a.eval x = .slice A2 m c2) (hr : RdB w B A2 m l2) (hbd : n + m ≤ 140737488355328) (hbase : base ≤ w.heap.size)
  (h : ∀ A' n' c' w', OwnB w' base A' n' c' (l ++ l2) → w.grownBy w' (ob A) → (ob A' = ob A ∨ ob A' = some w.heap.size) → wpList Tryz.prog ops Q rest (a.put o.dst (.slice A' n' c')) w') :
  wpList Tryz.prog ops Q (o :: rest) a w :=
 wpList_plain hgd fun _ hK => wp_append_b w s x ho base A n c l hs hown B A2 m c2 l2 hx hr hbd hbase fun A' n' c' w' h2 h3 h4 => hK _ _ (h A' n' c' w' h2 h3 h4)
theorem step_append_b (w : World) {ops : Array Oper} {o : Oper} {a : Act} {K : Act → World → Prop} {Q : Exit → Act → World → Prop} {E : Prop} (hgd : o.guard = none) (s x : Operand)
  (ho : o.op = .call { callee := .builtin .append, args := #[s, x], argTypes := #[31, 31] })
  (base : Nat) (A : Option Addr) (n c : Nat) (l : List UInt8) (hs : a.eval s = .slice A n c) (hown : OwnB w base A n c l)
  (B : Nat) (A2 : Option Addr) (m c2 : Nat) (l2 : List UInt8) (hx : a.eval x = .slice A2 m c2) (hr : RdB w B A2 m l2) (hbd : n + m ≤ 140737488355328) (hbase : base ≤ w.heap.size)
  (h : ∀ A' n' c' w', OwnB w' base A' n' c' (l ++ l2) → w.grownBy w' (ob A) → (ob A' = ob A ∨ ob A' = some w.heap.size) → K (a.put o.dst (.slice A' n' c')) w') :
  if Region.wanted o (yielded ops a.tmps) = true then Oper.wp Tryz.prog o a w K Q else E := by
 have hw : Region.wanted o (yielded ops a.tmps) = true := by simp [Region.wanted, hgd]
 rw [if_pos hw]
 exact wp_append_b w s x ho base A n c l hs hown B A2 m c2 l2 hx hr hbd hbase h
theorem RdB.fr {w w' : World} {p : Nat → Prop} {B n : Nat} {A : Option Addr} {l : List UInt8} (h : RdB w B A n l) (hf : Fr w w' p) (hB : B ≤ w.heap.size) (hp : ∀ k, k < B → ¬ p k) : RdB w' B A n l := Reads.fr h hf hB hp
theorem OwnB.fr {w w' : World} {p : Nat → Prop} {base n c : Nat} {A : Option Addr} {l : List UInt8} (h : OwnB w base A n c l) (hf : Fr w w' p) (hp : ∀ k, ob A = some k → ¬ p k) : OwnB w' base A n c l :=
 ownsRow_fr h hf (by rw [ob_own]; exact hp)
theorem OwnB.ne_blk {w : World} {base n c : Nat} {A : Option Addr} {l : List UInt8} {g : Nat} {t : TypeId} {cs : Array Value} (h : OwnB w base A n c l) (hg : Blk w g t cs) (hne : 5 ≠ t) : ob A ≠ some g := by
 rw [← ob_own A n c]; exact own_blk_ne h hg hne
def byt (x : Int) : UInt8 := UInt8.ofNat x.toNat
theorem byt_toNat {x : Int} (h0 : 0 ≤ x) (h1 : x < 256) : ((byt x).toNat : Int) = x := by
 unfold byt; rw [UInt8.toNat_ofNat']; omega
theorem byt_of (b : UInt8) : byt (b.toNat : Int) = b := by
 unfold byt; rw [Int.toNat_natCast]; exact UInt8.ofNat_toNat
theorem rd_byt (w : World) {x : Int} (h0 : 0 ≤ x) (h1 : x < 256) : RdB (w.alloc (.cells #[.int .u8 x] 5)) (w.heap.size + 1) (some ⟨w.heap.size, 0, none⟩) 1 [byt x] := by
 have := rd_one w (byt x)
 rw [byt_toNat h0 h1] at this
 exact this
theorem run_append_str (w : World) (ty : TypeId) (base : Nat) (A : Option Addr) (n c : Nat) (l : List UInt8) (hown : OwnB w base A n c l) (str : ByteArray) (hbd : n + str.size ≤ 140737488355328) (hbase : base ≤ w.heap.size) :
  ∃ A' c' w', (Builtin.append_ #[31, 9] ty #[.slice A n c, .string str]).run Tryz.prog w = .ok (.slice A' (n + str.size) c') w' ∧
   OwnB w' base A' (n + str.size) c' (l ++ str.data.toList) ∧ w.grownBy w' (ob A) ∧ (ob A' = ob A ∨ ob A' = some w.heap.size) := by
 obtain ⟨i0, hi, hz0, hz1, hz2⟩ := info_parts u8_info
 obtain ⟨v', w', hrun, h2, h3, h4⟩ := Lib.run_append_own_string (P := Tryz.prog) w base 31 9 ty 5 i0 Tryz.underlying31 Tryz.underlying9 hi hz0 hz1 hz2 (.slice A n c) n (bv l) hown str (by unfold maxLen; omega) (by omega) hbase
 rw [ob_own] at h3
 have hn : ∃ A' c', v' = .slice A' (n + str.size) c' := by
  rcases h2.2 with ⟨rfl, e⟩ | ⟨g, cap, cur, rfl, _⟩
  ·exact ⟨none, 0, by rw [e]⟩
  ·exact ⟨_, _, rfl⟩
 obtain ⟨A', c', rfl⟩ := hn
 refine ⟨A', c', w', hrun, by unfold OwnB; rw [bv_append]; exact h2, h3, ?_⟩
 have hxl : (bv l).length = n := by simpa using hown.1
 rcases hown.2 with ⟨e, rfl⟩ | ⟨g, cap, cur, e, hbg, hg, hnc, hcm, hcs, htake⟩
 ·injection e with e1 e2 e3
  subst e1; subst e3
  by_cases hm : str.size = 0
  ·have := h4.2 ⟨rfl, hm⟩
   injection this with this
   subst this
   exact .inl rfl
  ·have hr := run_append_nil_string (P := Tryz.prog) w 31 9 ty 5 i0 (.int .u8 0) Tryz.underlying31 Tryz.underlying9 hi hz0 str (by omega) (by omega) (by rw [hz2]; omega)
   rw [hrun] at hr
   injection hr with hr _
   injection hr with hr _
   subst hr
   exact .inr rfl
 ·injection e with e1 e2 e3
  subst e1; subst e3
  by_cases hroom : n + str.size ≤ c
  ·have hcs' : cur.size = c := by simpa using hcs
   have hr := Lib.run_append_room_string (P := Tryz.prog) w 31 9 ty 5 i0 Tryz.underlying31 Tryz.underlying9 hi hz1 g n c cur hg str hroom (by omega)
   rw [hrun] at hr
   injection hr with hr _
   injection hr with hr _
   subst hr
   exact .inl rfl
  ·have holds : ∀ j u, (bv l)[j]? = some u → w.cell? ((⟨g, 0, none⟩ : Addr).add j) = some u := hown.cells (g := g) rfl
   have hr := Lib.run_append_grow_string (P := Tryz.prog) w 31 9 ty 5 i0 (.int .u8 0) Tryz.underlying31 Tryz.underlying9 hi hz0 ⟨g, 0, none⟩ n c (bv l) (by rw [hz1]; simpa using hxl) holds str (by omega) (by omega) (by rw [hz2]; exact growslice_fits (by omega) (by omega))
   rw [hrun] at hr
   injection hr with hr _
   injection hr with hr _
   subst hr
   exact .inr rfl
theorem wpList_append_str (w : World) {ops : Array Oper} {rest : List Oper} {o : Oper} {a : Act} {Q : Exit → Act → World → Prop} (hgd : o.guard = none) (s x : Operand)
  (ho : o.op = .call { callee := .builtin .append, args := #[s, x], argTypes := #[31, 9] })
  (base : Nat) (A : Option Addr) (n c : Nat) (l : List UInt8) (hs : a.eval s = .slice A n c) (hown : OwnB w base A n c l)
  (str : ByteArray) (hx : a.eval x = .string str) (hbd : n + str.size ≤ 140737488355328) (hbase : base ≤ w.heap.size)
  (h : ∀ A' n' c' w', OwnB w' base A' n' c' (l ++ str.data.toList) → w.grownBy w' (ob A) → (ob A' = ob A ∨ ob A' = some w.heap.size) → wpList Tryz.prog ops Q rest (a.put o.dst (.slice A' n' c')) w') :
  wpList Tryz.prog ops Q (o :: rest) a w := by
 refine wpList_plain hgd fun K hK => ?_
 obtain ⟨A', c', w', hr, h2, h3, h4⟩ := run_append_str w o.type base A n c l hown str hbd hbase
 unfold Oper.wp execOp
 simp only [ho, resolve, invoke, builtin, Sem.run_bind, Sem.run_pure, Result.andThen_ok, List.map_toArray, List.map_cons, List.map_nil, hs, hx, hr]
 exact hK _ _ (h A' _ c' w' h2 h3 h4)
def bstr (l : List UInt8) : ByteArray := ⟨l.toArray⟩
theorem bstr_toList (l : List UInt8) : (bstr l).toList = l := by rw [ByteArray.toList_eq]; rfl
theorem run_str {w : World} {B n c : Nat} {A : Option Addr} {l : List UInt8} (h : RdB w B A n l) : (convert 31 9 (.slice A n c)).run Tryz.prog w = .ok (.string (bstr l)) w := by
 rw [run_convert_bytes_string w 31 9 5 _ n c Tryz.underlying31 Tryz.underlying5 Tryz.underlying9]
 rcases A with _ | a
 ·have hn : n = 0 := by
   rcases Nat.eq_zero_or_pos n with h0 | h0
   ·exact h0
   ·obtain ⟨ad, e, _⟩ := h.2 h0
    cases e
  subst hn
  have : l = [] := List.eq_nil_of_length_eq_zero h.len
  subst this
  simp [Conv.bytesToString]; rfl
 ·have hl : (loadCells a n).run Tryz.prog w = .ok ((l.map fun x => (x.toNat : Int)).map (Value.int .u8)).toArray w := by
   have := run_loadCells_list (P := Tryz.prog) w a (bv l) (fun j v hj => by
    have hjl : j < l.length := by
     rcases Nat.lt_or_ge j l.length with h | h
     ·exact h
     ·rw [List.getElem?_eq_none (by rw [bv_length]; exact h)] at hj; cases hj
    obtain ⟨ad, e, _, hc⟩ := h.2 (by have := h.len; omega)
    injection e with e
    subst e
    exact hc j v hj)
   rw [bv_length, h.len] at this
   rw [this]
   simp only [bv, List.map_map]
   rfl
  rw [run_bytesToString w _ n c _ hl, foldl_push_bytes]
  simp only [List.map_map]
  have : (List.map ((fun n => UInt8.ofNat n.toNat) ∘ fun x : UInt8 => (x.toNat : Int)) l) = l := by
   conv => rhs; rw [← List.map_id l]
   exact List.map_congr_left fun x _ => byt_of x
  rw [this]
  simp [bstr, ByteArray.empty, ByteArray.emptyWithCapacity]
  rfl
theorem OwnB.store {w : World} {base n c : Nat} {A : Option Addr} {l : List UInt8} (h : OwnB w base A n c l) {k : Nat} (hk : k < n) :
  ∃ g, A = some ⟨g, 0, none⟩ ∧ base ≤ g ∧ g < w.heap.size ∧ w.cell? ⟨g, k, none⟩ = some (.int .u8 ((l[k]?.getD 0).toNat : Int)) ∧ w.frozen? ⟨g, k, none⟩ = false ∧
   ∀ x : Int, 0 ≤ x → x < 256 → OwnB (w.setCell ⟨g, k, none⟩ (.int .u8 x)) base (some ⟨g, 0, none⟩) n c (l.set k (byt x)) ∧ w.grownBy (w.setCell ⟨g, k, none⟩ (.int .u8 x)) (some g) := by
 obtain ⟨g, cap, hv, hb, hlt⟩ := World.ownsRow.form h (by omega)
 injection hv with hA _ hc
 subst hA
 have hl : k < l.length := by rw [h.len]; exact hk
 refine ⟨g, rfl, hb, hlt, ?_, World.ownsRow.frozenAt h k, fun x h0 h1 => ?_⟩
 ·rw [World.ownsRow.cellAt h k (by omega), bv_get l k hl, List.getElem?_eq_getElem hl]; rfl
 ·have hs := World.ownsRow.stored h k (.int .u8 x)
  refine ⟨?_, hs.2⟩
  have e : bv (l.set k (byt x)) = (bv l).set k (.int .u8 x) := by
   unfold bv; rw [List.map_set, byt_toNat h0 h1]
  unfold OwnB
  rw [e]
  exact hs.1
theorem below_grown {B : Nat} {w0 w w' : World} {o : Obj} {row : Option Nat} (h : Below B w0 w) (hg : (w.alloc o).grownBy w' row) (hB : B ≤ w.heap.size) (hr : ∀ g, row = some g → B ≤ g) : Below B w0 w' :=
 (h.alloc hB o).grown hg (by simp; omega) hr
end Go.Proofs.YtmkddhkpeiajhaaGreatDoor
namespace Go.Proofs.YtmkddhkpeiajhaaGreatDoor
open Go.RowKit
def Later (w w' : World) : Prop := Below w.heap.size w w'
section
variable {w w1 w2 w' : World}
theorem Later.refl (w : World) : Later w w := Below.refl _ _
theorem Later.trans (h1 : Later w w1) (h2 : Later w1 w2) : Later w w2 := Below.trans h1 (Below.mono h2 h1.size)
theorem Later.alloc (h : Later w w1) (o : Obj) : Later w (w1.alloc o) := Below.alloc h h.size o
theorem Later.drew (h : Later w w1) : Later w w1.drew := ⟨h.os, h.tape, h.output, h.size, h.block⟩
theorem Later.drewN (h : Later w w1) (n : Nat) : Later w (w1.drewN n) := ⟨h.os, h.tape, h.output, h.size, h.block⟩
theorem Later.size (h : Later w w1) : w.heap.size ≤ w1.heap.size := Below.size h
theorem Later.below {B : Nat} (h : Later w w1) (hB : B ≤ w.heap.size) : Below B w w1 := Below.mono h hB
theorem Later.cell (h : Later w w1) {p : Addr} (hp : p.block < w.heap.size) : w1.cell? p = w.cell? p := Below.cell h hp
theorem Later.grown {row : Option Nat} (h : Later w w1) (hg : w1.grownBy w2 row) (hr : ∀ k, row = some k → w.heap.size ≤ k) : Later w w2 := Below.grown h hg h.size hr
theorem RdB.later {n : Nat} {A : Option Addr} {l : List UInt8} (h : RdB w w.heap.size A n l) (hl : Later w w') : RdB w' w'.heap.size A n l := (RdB.below h hl).more hl.size
theorem RdB.later' {B n : Nat} {A : Option Addr} {l : List UInt8} (h : RdB w B A n l) (hB : B ≤ w.heap.size) (hl : Later w w') : RdB w' B A n l := RdB.below h (hl.below hB)
theorem OwnB.later {base n c : Nat} {A : Option Addr} {l : List UInt8} (h : OwnB w base A n c l) (hl : Later w w') : OwnB w' base A n c l := OwnB.below h hl (fun k hk => (h.lt k hk).2)
end
end Go.Proofs.YtmkddhkpeiajhaaGreatDoor
namespace Go.Proofs.YtmkddhkpeiajhaaGreatDoor
open Go.RowKit
structure LW (W : World) where
 val : World
 later : Later W val
instance (W : World) : Nonempty (LW W) := ⟨⟨W, Later.refl W⟩⟩
theorem LW.cell_ {W : World} {p : Addr} {v : Value} (h : W.cell? p = some v) (x : LW W) : x.val.cell? p = some v := by
 have hp : p.block < W.heap.size := World.block_lt_of_cell? W p h
 rw [Later.cell x.later hp, h]
theorem wp_region_laterq {P : Program} {id : Nat} {Q : Exit → Act → World → Prop} {a : Act} {W : World} {l : List Oper} (hm : P.follows .mixedOrders = true) (hB : Region.lexB .any l.toArray = true)
  (h : wpQuiet P l.toArray (fun w' => ∃ x : LW W, w' = x.val) (fun a' => ∀ w', (∃ x : LW W, w' = x.val) → Q .normal a' w') l a) : (Code.region id l.toArray true).wp P Q a W :=
 wp_region_quiet (C := fun w' => ∃ x : LW W, w' = x.val) hm hB ⟨⟨W.drew, (Later.refl W).drew⟩, rfl⟩ (by simpa using h)
theorem Calls.laterq {P : Program} {f : FuncId} {args : Array Value} {W : World} {x : LW W} {v : Value}
  (h : Calls P f args x.val fun e w' => e = .returned v ∧ Later x.val w') : Calls P f args x.val fun e w'' => e = .returned v ∧ ∃ y : LW W, w'' = y.val :=
 h.mono fun _ w' ⟨he, hl⟩ => ⟨he, ⟨w', Later.trans x.later hl⟩, rfl⟩
end Go.Proofs.YtmkddhkpeiajhaaGreatDoor
