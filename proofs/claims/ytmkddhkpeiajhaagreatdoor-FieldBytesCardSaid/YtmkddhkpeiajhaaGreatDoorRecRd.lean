import Derived.Test.YtmkddhkpeiajhaaGreatDoorRw2
import Derived.Test.YtmkddhkpeiajhaaGreatDoorBackNm
import Derived.Test.YtmkddhkpeiajhaaGreatDoorRefText
import Derived.Test.YtmkddhkpeiajhaaGreatDoorAtW
namespace Go.Proofs.YtmkddhkpeiajhaaGreatDoor
open Go.RowKit
theorem step_append_z {w : World} {ops : Array Oper} {o : Oper} {a : Act} {K : Act → World → Prop} {Q : Exit → Act → World → Prop} {E : Prop} (hgd : o.guard = none) (s x : Operand)
    (ho : o.op = .call { callee := .builtin .append, args := #[s, x], argTypes := #[27, 27] })
    (base : Nat) (A : Option Addr) (n c : Nat) (ss : List (List UInt8)) (hs : a.eval s = .slice A n c) (hown : OwnZ w base A n c ss) (ys : List (List UInt8))
    (B : Nat) (A2 : Option Addr) (m c2 : Nat) (hx : a.eval x = .slice A2 m c2) (hr : Reads w B 1 A2 m (ys.map strCell)) (hbd : n + m < 4398046511104) (hbase : base ≤ w.heap.size)
    (h : ∀ A' n' c' w', n' = n + m → OwnZ w' base A' n' c' (ss ++ ys) → w.grownBy w' (ob A) → (ob A' = ob A ∨ ob A' = some w.heap.size) → K (a.put o.dst (.slice A' n' c')) w') :
    if Region.wanted o (yielded ops a.tmps) = true then Oper.wp Tryz.prog o a w K Q else E := by
  obtain ⟨i0, hi, hz0, hz1, hz2⟩ := info_parts string_info
  refine step_append_any w hgd s x 27 ho base 9 i0 _ 1 16 Tryz.underlying27 hi hz0 hz1 hz2 rfl (by decide) (.slice A n c) n _ hs hown B A2 m c2 (ys.map strCell) hx hr (by intro u hu; obtain ⟨y, _, rfl⟩ := List.mem_map.1 hu; rfl) (by unfold maxLen; omega) (by omega) hbase ?_
  intro v' w' h2 h3 h4
  have hv : ∃ A' c', v' = .slice A' (n + m) c' := by
    rcases h2.2 with ⟨rfl, e⟩ | ⟨g, cap, cur, rfl, _⟩
    · exact ⟨none, 0, by rw [e]⟩
    · exact ⟨_, _, rfl⟩
  obtain ⟨A', c', rfl⟩ := hv
  rw [ob_own] at h3 h4
  exact h A' _ c' w' rfl (by unfold OwnZ; rw [List.map_append]; exact h2) h3 (by rw [ob_own] at h4; exact h4)
def RdIn (R : World → Nat × Int → Prop) (ty : TypeId) (W0 : World) (g gx : Nat) (T : List UInt8) (w : World) (done : List (List UInt8)) (s : Nat × Int) (A : Option Addr) (m c : Nat) : Prop :=
  Blk w gx ty #[.string (bstr T), .slice A m c] ∧ OwnZ w W0.heap.size A m c done ∧ (∀ k, ob A = some k → k ≠ gx ∧ k ≠ g) ∧ R w s ∧ Fr W0 w (fun k => k = g)
theorem OwnZ.mv {w w' : World} {g base m c : Nat} {A : Option Addr} {ss : List (List UInt8)} (h : OwnZ w base A m c ss) (hf : Fr w.drew w' (fun k => k = g)) (hA : ∀ k, ob A = some k → k ≠ g) (o : Obj) : OwnZ (w'.alloc o) base A m c ss :=
  (OwnZ.fr (w := w.drew) h hf hA).alloc o
theorem RdIn.step {R : World → Nat × Int → Prop} {ty : TypeId} {W0 w w2 w4 : World} {g gx : Nat} {T x : List UInt8} {done : List (List UInt8)} {s s1 : Nat × Int} {A A' : Option Addr} {m c m' c' : Nat} {o : Obj}
    (h : RdIn R ty W0 g gx T w done s A m c) (hgx : W0.heap.size ≤ gx) (hg : g < W0.heap.size) (hf : Fr w.drew w2 (fun k => k = g))
    (hO : OwnZ w4 W0.heap.size A' m' c' (done ++ [x])) (hg4 : (w2.alloc o).grownBy w4 (ob A)) (hob : ob A' = ob A ∨ ob A' = some (w2.alloc o).heap.size)
    (hR : R (w4.setCell ⟨gx, 1, none⟩ (.slice A' m' c')) s1) : RdIn R ty W0 g gx T (w4.setCell ⟨gx, 1, none⟩ (.slice A' m' c')) (done ++ [x]) s1 A' m' c' := by
  obtain ⟨hB, hO0, hA, _, hF⟩ := h
  have hlt := hB.lt
  have hs2 : w.heap.size ≤ w2.heap.size := hf.size
  have hsa : (w2.alloc o).heap.size = w2.heap.size + 1 := by simp
  have hA' : ∀ k, ob A' = some k → k ≠ gx ∧ k ≠ g := by
    intro k hk
    rcases hob with e | e
    · rw [e] at hk; exact hA k hk
    · rw [e] at hk; cases hk; exact ⟨by omega, by have := hF.size; omega⟩
  have hlo : ∀ k, ob A = some k → W0.heap.size ≤ k := fun k hk => (hO0.lt k hk).1
  have hB4 := (((Blk.drew hB).fr hf (by omega)).alloc o).grown hg4 (fun e => (hA gx e.symm).1 rfl)
  refine ⟨hB4.set_ 1 _, OwnZ.fr hO (Fr.set (a := ⟨gx, 1, none⟩) (Fr.refl w4 (fun k => k = gx)) (fun _ => rfl) _) (fun k hk => (hA' k hk).1), hA', hR, ?_⟩
  have h1 : Fr W0 w2 (fun k => k = g) := (Fr.drew hF).trans hf (fun _ _ h => h)
  exact (((h1.alloc o).grown hg4 (fun k hk e => by have := hlo k e; omega))).set (a := ⟨gx, 1, none⟩) (fun h => absurd h (by show ¬ gx < _; omega)) _
theorem rr_step {w2 w4 : World} {base g gx : Nat} {l : List UInt8} {s1 : Nat × Int} {A A' : Option Addr} {m c m' c' n1 n2 n3 : Nat} {o : Obj} {T : List UInt8} {done : List (List UInt8)}
    (hr : RrOk w2 base g l s1) (hO : OwnZ w2 n1 A n2 n3 done) (hg4 : (w2.alloc o).grownBy w4 (ob A)) (hB : Blk w2 gx 52 #[.string (bstr T), .slice A m c]) (hAg : ∀ k, ob A = some k → k ≠ g) (hne : gx ≠ g) :
    RrOk (w4.setCell ⟨gx, 1, none⟩ (.slice A' m' c')) base g l s1 := by
  have hf : Fr w2 (w4.setCell ⟨gx, 1, none⟩ (.slice A' m' c')) (fun k => ob A = some k ∨ k = gx) :=
    ((((Fr.refl w2 (fun k => ob A = some k ∨ k = gx)).alloc o).grown hg4 (fun k _ e => .inl e))).set (a := ⟨gx, 1, none⟩) (fun _ => .inr rfl) _
  refine hr.fr hf (fun h => ?_) (fun A2 n2 c2 h4 k hk h => ?_)
  · rcases h with e | e
    · exact hAg g e rfl
    · exact hne e.symm
  · rcases h with e | e
    · have hn := own_ne h4 hO (by decide)
      rw [ob_own, ob_own] at hn
      rcases hn with e2 | e2
      · rw [e2] at hk; cases hk
      · exact e2 (by rw [hk, e])
    · subst e; exact h4.ne_blk hB (by decide) hk
theorem rf_step {W0 w2 w4 : World} {base g gx : Nat} {l : List UInt8} {s1 : Nat × Int} {A A' : Option Addr} {m' c' : Nat} {o : Obj}
    (hr : RfOk w2 base g l s1) (hg4 : (w2.alloc o).grownBy w4 (ob A)) (hlo : ∀ k, ob A = some k → W0.heap.size ≤ k) (hAg : ∀ k, ob A = some k → k ≠ g) (hb : base ≤ W0.heap.size) (hgx : W0.heap.size ≤ gx) (hne : gx ≠ g) :
    RfOk (w4.setCell ⟨gx, 1, none⟩ (.slice A' m' c')) base g l s1 := by
  have hf : Fr w2 (w4.setCell ⟨gx, 1, none⟩ (.slice A' m' c')) (fun k => ob A = some k ∨ k = gx) :=
    ((((Fr.refl w2 (fun k => ob A = some k ∨ k = gx)).alloc o).grown hg4 (fun k _ e => .inl e))).set (a := ⟨gx, 1, none⟩) (fun _ => .inr rfl) _
  refine hr.fr hf (fun h => ?_) (fun k hk h => ?_)
  · rcases h with e | e
    · exact hAg g e rfl
    · exact hne e.symm
  · rcases h with e | e
    · have := hlo k e; omega
    · omega
theorem recNew2 (w : World) : Calls Tryz.prog 5 #[] w fun e w' => e = .returned (.pointer (some ⟨w.heap.size, 0, none⟩)) ∧ Blk w' w.heap.size 52 #[.string ⟨#[]⟩, .slice none 0 0] ∧ Later w w' := by
  go_enter Tryz.func5, Tryz.ntmps5
  go_wp2_with fail
  go_ret
  exact ⟨rfl, Blk.new w _ _, (Later.refl w).alloc _⟩
set_option maxRecDepth 100000 in
theorem bad_any (w : World) (base gp : Nat) (l : List UInt8) (p : Nat) (bad : Int) (hr : RrOk w base gp l (p, bad)) :
    Calls Tryz.prog 37 #[.pointer (some ⟨gp, 0, none⟩)] w fun e w' => e = .returned (.int .i64 bad) ∧ w' = w := by
  obtain ⟨hb, h1, h2, A, n, c, h3, h4⟩ := hr
  have hc2 := h3.cell 2
  simp only [List.getElem?_toArray, List.getElem?_cons_succ, List.getElem?_cons_zero] at hc2
  clear h3 h4
  go_enter Tryz.func37, Tryz.ntmps37
  go_wp2_with fail
  go_ret
  exact ⟨rfl, rfl⟩
theorem fields_go {l : List UInt8} {k p : Nat} {done fs : List (List UInt8)} {sf : Nat × Int} {x : List UInt8} {s1 : Nat × Int} (hx : Hid (rText l (p, 0) 256 = (x, s1))) (h : Hid (done ++ (fieldsF l (k + 1) (p, 0)).1 = fs ∧ (fieldsF l (k + 1) (p, 0)).2 = sf)) :
    Hid ((done ++ [x]) ++ (fieldsF l k s1).1 = fs ∧ (fieldsF l k s1).2 = sf) := by
  have h := h.out
  have e : fieldsF l (k + 1) (p, 0) = (x :: (fieldsF l k s1).1, (fieldsF l k s1).2) := by
    show (if (0 : Int) ≠ 0 then _ else _) = _
    rw [if_neg (by decide), hx.out]
  rw [e] at h
  show _ ∧ _
  rw [List.append_assoc]
  exact h
theorem fields_end {l : List UInt8} {k : Nat} {done fs : List (List UInt8)} {s sf : Nat × Int} (hk : k = 0 ∨ s.2 ≠ 0) (h : Hid (done ++ (fieldsF l k s).1 = fs ∧ (fieldsF l k s).2 = sf)) : done = fs ∧ s = sf := by
  have h := h.out
  have e : fieldsF l k s = ([], s) := by
    cases k with
    | zero => rfl
    | succ k =>
      rcases hk with h1 | h1
      · cases h1
      · show (if s.2 ≠ 0 then _ else _) = _
        rw [if_pos h1]
  rw [e, List.append_nil] at h
  exact h
set_option maxRecDepth 100000 in
set_option maxHeartbeats 8000000 in
theorem recRead_any (w : World) (base g : Nat) (l : List UInt8) (p : Nat) (bad : Int) (hr : RrOk w base g l (p, bad)) (hbad : -100 < bad ∧ bad < 100) :
    Calls Tryz.prog 13 #[.pointer (some ⟨g, 0, none⟩)] w fun e w' => ∃ gx, e = .returned (.pointer (some ⟨gx, 0, none⟩)) ∧ w.heap.size ≤ gx ∧ RcOk w.heap.size w' gx (recF l (p, bad)).1.1 (recF l (p, bad)).1.2 ∧ RrOk w' base g l (recF l (p, bad)).2 ∧ Fr w w' (fun k => k = g) := by
  obtain ⟨T, s1, hT⟩ : ∃ T s1, Hid (rText l (p, bad) 256 = (T, s1)) := ⟨_, _, rfl⟩
  obtain ⟨n0, s2, hN⟩ : ∃ n0 s2, Hid (rNum l s1 100 = (n0, s2)) := ⟨_, _, rfl⟩
  obtain ⟨fs, sf, hF⟩ : ∃ fs sf, Hid (fieldsF l n0 s2 = (fs, sf)) := ⟨_, _, rfl⟩
  have hRec : Hid (recF l (p, bad) = if sf.2 ≠ 0 then (([], []), sf) else ((T, fs), sf)) := by
    show _ = _
    unfold recF
    simp only [hT.out, hN.out, hF.out]
  have hb1 : -100 < s1.2 ∧ s1.2 < 100 := by
    have h := rText_badz (l := l) (s := (p, bad)) (m := 256) hbad
    rw [hT.out] at h; exact h
  have hb2 : -100 < s2.2 ∧ s2.2 < 100 := by
    have h := (rNum_bad (l := l) (s := s1) (m := 100) hb1).1
    rw [hN.out] at h; exact h
  have hn0 : n0 ≤ 100 := by
    have h := rNum_most l s1 100
    rw [hN.out] at h; exact h
  have HFE : Hid (([] : List (List UInt8)) ++ (fieldsF l n0 s2).1 = fs ∧ (fieldsF l n0 s2).2 = sf) := by
    show _ ∧ _
    rw [hF.out]; exact ⟨rfl, rfl⟩
  obtain ⟨p1, b1⟩ := s1
  obtain ⟨p2, b2⟩ := s2
  have hgl := hr.lt
  have HR0 := Lib.hid hr
  clear hr hF
  go_enter Tryz.func13, Tryz.ntmps13
  go_wp2_with fail
  refine (recNew2 w).mono ?_
  rintro e w1 ⟨rfl, hB1, hl1⟩
  have hr1 : RrOk w1 base g l (p, bad) := HR0.out.keepB hl1
  have hs1 := hl1.size
  have hF1 : Fr w w1 (fun k => k = g) := frLz hl1
  obtain ⟨gx, hgx⟩ : ∃ gx, gx = w.heap.size := ⟨_, rfl⟩
  rw [← hgx] at hB1 ⊢
  have hne : ¬ gx = g := by omega
  have hgw : w.heap.size ≤ gx := by omega
  clear hgx hl1
  have H1 := Lib.hid (reader_text 256 (by decide) (by decide) w1 base g l p bad hr1 hbad)
  rw [hT.out] at H1
  have HB1 := Lib.hid hB1
  have HF1 := Lib.hid hF1
  clear hr1 hB1 hF1 HR0
  go_wp2_with fail
  refine H1.out.mono ?_
  rintro e w2 ⟨rfl, hr2, hf2⟩
  have hB2 := HB1.out.fr hf2 hne
  have c20 := hB2.cell 0
  simp only [List.getElem?_toArray, List.getElem?_cons_zero] at c20
  have z20 := hB2.frozen 0
  have hB3 := hB2.set_ 0 (.string (bstr T))
  have hF3 : Fr w (w2.setCell ⟨gx, 0, none⟩ (.string (bstr T))) (fun k => k = g) := (HF1.out.trans hf2 (fun _ _ h => h)).set (a := ⟨gx, 0, none⟩) (fun h => absurd h (by show ¬ gx < _; omega)) _
  have hr3 : RrOk (w2.setCell ⟨gx, 0, none⟩ (.string (bstr T))) base g l (p1, b1) := hr2.fr (Fr.set (a := ⟨gx, 0, none⟩) (Fr.refl w2 (fun k => k = gx)) (fun _ => rfl) _) (fun e => hne e.symm) (fun A n c h4 k hk e => h4.ne_blk hB2 (by decide) (by rw [hk, e]))
  have H2 := Lib.hid (reader_num 100 (by decide) _ base g l p1 b1 hr3 hb1)
  rw [hN.out] at H2
  have HB3 := Lib.hid hB3
  have HF3 := Lib.hid hF3
  clear H1 HB1 HF1 hr2 hf2 hB2 hB3 hF3 hr3
  go_wp2_with fail
  refine H2.out.mono ?_
  rintro e w4 ⟨rfl, hr4, hf4⟩
  have HI4 : Hid (RdIn (fun w' s => RrOk w' base g l s) 52 w g gx T w4 [] (p2, b2) none 0 0) := ⟨HB3.out.fr hf4 hne, OwnZ.nil, (fun k hk => by cases hk), hr4, HF3.out.trans hf4 (fun _ _ h => h)⟩
  clear H2 HB3 HF3 hr4 hf4
  go_wp2_with fail
  go_loopw [4] (fun v wr => ∃ (k : Nat) (done : List (List UInt8)) (A : Option Addr) (m c p' : Nat) (b' : Int), v = .int .u64 (k : Int) ∧ k ≤ 100 ∧ m + k ≤ 100 ∧ (-100 < b' ∧ b' < 100) ∧ Hid (RdIn (fun w' s => RrOk w' base g l s) 52 w g gx T wr done (p', b') A m c) ∧ Hid (done ++ (fieldsF l k (p', b')).1 = fs ∧ (fieldsF l k (p', b')).2 = sf)) (fun v _ => (intOf v).toNat)
  case atStart => exact ⟨n0, [], none, 0, 0, p2, b2, rfl, hn0, by omega, hb2, HI4, HFE⟩
  case round =>
    clear HI4 HFE hN hT
    obtain ⟨k, done, A, m, c, p', b', rfl, hk, hmk, hb', HI, HE⟩ := hrel
    by_cases hgo : 0 < k ∧ b' = 0
    · obtain ⟨hk0, rfl⟩ := hgo
      obtain ⟨k, rfl⟩ : ∃ j, k = j + 1 := ⟨k - 1, by omega⟩
      have hk0i : (0 : Int) < ((k + 1 : Nat) : Int) := by omega
      obtain ⟨x, s1, hx⟩ : ∃ x s1, Hid (rText l (p', 0) 256 = (x, s1)) := ⟨_, _, rfl⟩
      have hbs : -100 < s1.2 ∧ s1.2 < 100 := by
        have h := rText_badz (l := l) (s := (p', 0)) (m := 256) (by show (-100 : Int) < 0 ∧ (0 : Int) < 100; decide)
        rw [hx.out] at h; exact h
      have HE1 := fields_go hx HE
      obtain ⟨hB, hO, hA, hrd, hf⟩ := HI.out
      have hnb : ¬ gx = g := hne
      have hmi : m < 4000000000000 := by omega
      have HBD := Lib.hid (bad_any wr base g l p' 0 hrd)
      have HBk := Lib.hid (And.intro hB (And.intro hO (And.intro hA (And.intro hrd hf))))
      clear hB hO hA hrd hf HE
      go_wp2_with fail
      refine HBD.out.mono ?_
      rintro e w5 ⟨rfl, hww⟩
      obtain rfl := hww.symm
      clear HBD
      go_wp2_with fail
      obtain ⟨hB, hO, hA, hrd, hf⟩ := HBk.out
      refine wp_region_early (S := fun w' => w'.cell? ⟨gx, 1, none⟩ = some (.slice A m c)) 11 (by kernel_rfl) (hB.cell 1) (fun hHeld => ?_)
      refine wpAnyE_take (i := 0) (oi := ⟨some 22, Op.move (Operand.tmp 3), _, _, _, none⟩) (v := ?_) 0 [] rfl (by kernel_rfl) (by kernel_rfl) (by kernel_rfl) (by kernel_rfl) (by kernel_rfl) rfl (fun _ _ _ h => h) (Or.inl ⟨by rfl, ?_⟩) hHeld ?_
      rotate_left
      · intro w hSw
        try dsimp only at hSw
        go_simp
        try with_reducible rfl
      try simp only [Act.put, List.setIfInBounds_toArray, List.set_cons_zero, List.set_cons_succ]
      refine wpAnyE_take (i := 1) (oi := ⟨some 23, Op.move (Operand.tmp 3), _, _, _, none⟩) (v := ?_) 1 [] rfl (by kernel_rfl) (by kernel_rfl) (by kernel_rfl) (by kernel_rfl) (by kernel_rfl) rfl (fun _ _ _ h => h) (Or.inl ⟨by rfl, ?_⟩) hHeld ?_
      rotate_left
      · intro w hSw
        try dsimp only at hSw
        go_simp
        try with_reducible rfl
      try simp only [Act.put, List.setIfInBounds_toArray, List.set_cons_zero, List.set_cons_succ]
      refine wpAnyE_take (i := 2) (oi := ⟨some 24, Op.nilCheck (Operand.tmp 23), _, _, _, none⟩) (v := ?_) 2 [] rfl (by kernel_rfl) (by kernel_rfl) (by kernel_rfl) (by kernel_rfl) (by kernel_rfl) rfl (fun _ _ _ h => h) (Or.inl ⟨by rfl, ?_⟩) hHeld ?_
      rotate_left
      · intro w hSw
        try dsimp only at hSw
        go_simp
        try with_reducible rfl
      try simp only [Act.put, List.setIfInBounds_toArray, List.set_cons_zero, List.set_cons_succ]
      refine wpAnyE_take (i := 3) (oi := ⟨some 25, Op.fieldAddr 52 (Operand.tmp 24) 1, _, _, _, none⟩) (v := ?_) 3 [] rfl (by kernel_rfl) (by kernel_rfl) (by kernel_rfl) (by kernel_rfl) (by kernel_rfl) rfl (fun _ _ _ h => h) (Or.inl ⟨by rfl, ?_⟩) hHeld ?_
      rotate_left
      · intro w hSw
        try dsimp only at hSw
        go_simp
        try with_reducible rfl
      try simp only [Act.put, List.setIfInBounds_toArray, List.set_cons_zero, List.set_cons_succ]
      refine wpAnyE_take (i := 4) (oi := ⟨some 26, Op.load 27 (Operand.tmp 25), _, _, _, none⟩) (v := ?_) 4 [] rfl (by kernel_rfl) (by kernel_rfl) (by kernel_rfl) (by kernel_rfl) (by kernel_rfl) rfl (fun _ _ _ h => h) (Or.inl ⟨by rfl, ?_⟩) hHeld ?_
      rotate_left
      · intro w hSw
        try dsimp only at hSw
        go_simp
        try with_reducible rfl
      try simp only [Act.put, List.setIfInBounds_toArray, List.set_cons_zero, List.set_cons_succ]
      refine wpAnyE_take (i := 5) (oi := ⟨some 27, Op.move (Operand.tmp 0), _, _, _, none⟩) (v := ?_) 5 [] rfl (by kernel_rfl) (by kernel_rfl) (by kernel_rfl) (by kernel_rfl) (by kernel_rfl) rfl (fun _ _ _ h => h) (Or.inl ⟨by rfl, ?_⟩) hHeld ?_
      rotate_left
      · intro w hSw
        try dsimp only at hSw
        go_simp
        try with_reducible rfl
      try simp only [Act.put, List.setIfInBounds_toArray, List.set_cons_zero, List.set_cons_succ]
      have hrdd : RrOk wr.drew base g l (p', 0) := hrd
      refine wpAnyE_one (i := 6) (o := ⟨some 28, Op.call { callee := Callee.value (Operand.func 35), args := #[Operand.tmp 27, Operand.const (Value.int IntKind.i64 256)], argTypes := #[40, 3] }, _, _, _, none⟩) (by kernel_rfl) rfl (fun K hK => ?_)
      go_simp
      go_at_call 35
      (with_reducible refine (reader_text 256 (by decide) (by decide) _ base g l p' 0 hrdd (by decide)).mono ?_)
      rintro e w6 ⟨rfl, hr6, hf6⟩
      have hB6 := hB.drew.fr hf6 hne
      rw [hx.out] at hr6 ⊢
      dsimp only at hr6 ⊢
      refine hK.out _ _ (fun _ => hB6.cell 1) (fun hHeld => ?_)
      clear hK K
      replace hHeld := hHeld (by decide)
      try simp only [Act.put, List.setIfInBounds_toArray, List.set_cons_zero, List.set_cons_succ]
      refine wpAnyE_one (i := 7) (o := ⟨some 29, Op.buildSlice 27 1 #[(0, Operand.tmp 28)], _, _, _, none⟩) (by kernel_rfl) rfl (fun K hK => ?_)
      go_simp
      refine hK.out _ _ (fun _ => (hB6.alloc _).cell 1) (fun hHeld => ?_)
      clear hK K
      replace hHeld := hHeld (by decide)
      try simp only [Act.put, List.setIfInBounds_toArray, List.set_cons_zero, List.set_cons_succ]
      refine wpAnyE_one (i := 8) (o := ⟨some 30, Op.call { callee := Callee.builtin Builtin.append, args := #[Operand.tmp 26, Operand.tmp 29], argTypes := #[27, 27] }, _, _, _, none⟩) (by kernel_rfl) rfl (fun K hK => ?_)
      refine step_append_z rfl (.tmp 26) (.tmp 29) rfl w.heap.size A m c done rfl (hO.mv hf6 (fun k hk => (hA k hk).2) _) [x] _ _ 1 1 rfl (reads_z _ x _) (by omega) (by have h1 := hf.size; have h2 := hf6.size; have h3 : wr.drew.heap.size = wr.heap.size := rfl; simp only [World.size_alloc]; omega) ?_
      intro A' m' c' w8 hm' hO8 hg8 hob8
      subst hm'
      have hB8 := (hB6.alloc _).grown hg8 (fun e => (hA gx e.symm).1 rfl)
      refine hK.out _ _ (fun _ => hB8.cell 1) (fun hHeld => ?_)
      clear hK K
      replace hHeld := hHeld (by decide)
      try simp only [Act.put, List.setIfInBounds_toArray, List.set_cons_zero, List.set_cons_succ]
      refine wpAnyE_take (i := 9) (oi := ⟨some 31, Op.nilCheck (Operand.tmp 22), _, _, _, none⟩) (v := ?_) 10 [9] rfl (by kernel_rfl) (by kernel_rfl) (by kernel_rfl) (by kernel_rfl) (by kernel_rfl) rfl (fun _ _ _ h => h) (Or.inl ⟨by rfl, ?_⟩) hHeld ?_
      rotate_left
      · intro w hSw
        try dsimp only at hSw
        go_simp
        try with_reducible rfl
      try simp only [Act.put, List.setIfInBounds_toArray, List.set_cons_zero, List.set_cons_succ]
      refine wpAnyE_take (i := 10) (oi := ⟨some 32, Op.fieldAddr 52 (Operand.tmp 31) 1, _, _, _, none⟩) (v := ?_) 10 [] rfl (by kernel_rfl) (by kernel_rfl) (by kernel_rfl) (by kernel_rfl) (by kernel_rfl) rfl (fun _ _ _ h => h) (Or.inl ⟨by rfl, ?_⟩) hHeld ?_
      rotate_left
      · intro w hSw
        try dsimp only at hSw
        go_simp
        try with_reducible rfl
      try simp only [Act.put, List.setIfInBounds_toArray, List.set_cons_zero, List.set_cons_succ]
      have hz8 := hB8.frozen 1
      refine wpAnyE_one (i := 11) (o := ⟨none, Op.store 27 (Operand.tmp 32) (Operand.tmp 30), _, _, _, none⟩) (by kernel_rfl) rfl (fun K hK => ?_)
      go_simp
      refine hK.out _ _ (fun h => absurd rfl h) (fun hHeld => ?_)
      clear hK K
      try simp only [Act.put, List.setIfInBounds_toArray, List.set_cons_zero, List.set_cons_succ]
      refine wpAnyE_done (by kernel_rfl) ?_ _
      have hI2 : Hid (RdIn (fun w' s => RrOk w' base g l s) 52 w g gx T (w8.setCell ⟨gx, 1, none⟩ (.slice A' (m + 1) c')) (done ++ [x]) s1 A' (m + 1) c') := RdIn.step HI.out hgw hgl hf6 hO8 hg8 hob8 (rr_step (base := base) hr6 (OwnZ.fr (w := wr.drew) hO hf6 (fun k hk => (hA k hk).2)) hg8 hB6 (fun k hk => (hA k hk).2) hne)
      obtain ⟨q1, d1⟩ := s1
      clear HBk hB hO hA hrd hrdd hf hr6 hf6 hB6 hO8 hg8 hob8 hB8 hz8 hHeld HI
      go_wp2_with fail
      go_roundw
      case rel => exact ⟨k, done ++ [x], A', m + 1, c', q1, d1, by go_num, by omega, by omega, hbs, hI2, HE1⟩
      case measure => first | (simp [intOf]; done) | (simp [intOf]; omega)
    · have hend : k = 0 ∨ b' ≠ 0 := by omega
      obtain ⟨rfl, rfl⟩ := fields_end (s := (p', b')) hend HE
      obtain ⟨hB, hO, hA, hrd, hf⟩ := HI.out
      have HBD := Lib.hid (bad_any wr base g l p' b' hrd)
      clear hB hO hA hrd hf HE
      by_cases hb0 : b' = 0
      · subst hb0
        obtain rfl : k = 0 := by omega
        go_wp2_with fail
        refine HBD.out.mono ?_
        rintro e w5 ⟨rfl, hww⟩
        obtain rfl := hww.symm
        go_wp2_with fail
        go_ret
        refine ⟨gx, rfl, hgw, ?_, ?_, HI.out.2.2.2.2⟩
        · rw [hRec.out, if_neg (show ¬ (0 : Int) ≠ 0 from by decide)]; obtain ⟨hB, hO, hA, _⟩ := HI.out; exact ⟨A, m, c, hB, hO.rd, fun k hk => ⟨(hA k hk).1, (hO.lt k hk).1⟩⟩
        · rw [hRec.out, if_neg (show ¬ (0 : Int) ≠ 0 from by decide)]; exact HI.out.2.2.2.1
      · have hbn : (b' != 0) = true := bne_iff_ne.2 hb0
        have hbe : (b' == 0) = false := beq_eq_false_iff_ne.2 hb0
        rcases Nat.eq_zero_or_pos k with rfl | hk0
        · have hl : Hid (0 < 1) := Nat.one_pos
          go_wp2_with fail
          refine HBD.out.mono ?_
          rintro e w5 ⟨rfl, hww⟩
          obtain rfl := hww.symm
          go_wp2_with fail
          refine (recNew2 wr).mono ?_
          rintro e w9 ⟨rfl, hB9, hl9⟩
          have hfin : RcOk w.heap.size w9 wr.heap.size [] [] := ⟨none, 0, 0, hB9, ⟨rfl, fun h => absurd h (by omega)⟩, fun k h => by cases h⟩
          go_wp2_with fail
          go_ret
          refine ⟨wr.heap.size, rfl, HI.out.2.2.2.2.size, ?_, ?_, HI.out.2.2.2.2.trans (frLz hl9) (fun _ _ h => h)⟩
          · rw [hRec.out, if_pos (show b' ≠ 0 from hb0)]; exact hfin
          · rw [hRec.out, if_pos (show b' ≠ 0 from hb0)]; exact HI.out.2.2.2.1.keepB hl9
        · have hk0i : (0 : Int) < (k : Int) := by omega
          go_wp2_with fail
          refine HBD.out.mono ?_
          rintro e w5 ⟨rfl, hww⟩
          obtain rfl := hww.symm
          go_wp2_with fail
          refine HBD.out.mono ?_
          rintro e w6 ⟨rfl, hww⟩
          obtain rfl := hww.symm
          go_wp2_with fail
          refine (recNew2 wr).mono ?_
          rintro e w9 ⟨rfl, hB9, hl9⟩
          have hfin : RcOk w.heap.size w9 wr.heap.size [] [] := ⟨none, 0, 0, hB9, ⟨rfl, fun h => absurd h (by omega)⟩, fun k h => by cases h⟩
          go_wp2_with fail
          go_ret
          refine ⟨wr.heap.size, rfl, HI.out.2.2.2.2.size, ?_, ?_, HI.out.2.2.2.2.trans (frLz hl9) (fun _ _ h => h)⟩
          · rw [hRec.out, if_pos (show b' ≠ 0 from hb0)]; exact hfin
          · rw [hRec.out, if_pos (show b' ≠ 0 from hb0)]; exact HI.out.2.2.2.1.keepB hl9
set_option maxRecDepth 100000 in
set_option maxHeartbeats 8000000 in
theorem rwRead_any (w : World) (base g : Nat) (l : List UInt8) (p : Nat) (bad : Int) (hr : RfOk w base g l (p, bad)) (hbad : -100 < bad ∧ bad < 100) (hbw : base ≤ w.heap.size) :
    Calls Tryz.prog 17 #[.pointer (some ⟨g, 0, none⟩)] w fun e w' => ∃ gx, e = .returned (.pointer (some ⟨gx, 0, none⟩)) ∧ w.heap.size ≤ gx ∧ RwOk w.heap.size w' gx (recF l (p, bad)).1.1 (recF l (p, bad)).1.2 ∧ RfOk w' base g l (recF l (p, bad)).2 ∧ Fr w w' (fun k => k = g) := by
  obtain ⟨T, s1, hT⟩ : ∃ T s1, Hid (rText l (p, bad) 256 = (T, s1)) := ⟨_, _, rfl⟩
  obtain ⟨n0, s2, hN⟩ : ∃ n0 s2, Hid (rNum l s1 100 = (n0, s2)) := ⟨_, _, rfl⟩
  obtain ⟨fs, sf, hF⟩ : ∃ fs sf, Hid (fieldsF l n0 s2 = (fs, sf)) := ⟨_, _, rfl⟩
  have hRec : Hid (recF l (p, bad) = if sf.2 ≠ 0 then (([], []), sf) else ((T, fs), sf)) := by
    show _ = _
    unfold recF
    simp only [hT.out, hN.out, hF.out]
  have hb1 : -100 < s1.2 ∧ s1.2 < 100 := by
    have h := rText_badz (l := l) (s := (p, bad)) (m := 256) hbad
    rw [hT.out] at h; exact h
  have hb2 : -100 < s2.2 ∧ s2.2 < 100 := by
    have h := (rNum_bad (l := l) (s := s1) (m := 100) hb1).1
    rw [hN.out] at h; exact h
  have hn0 : n0 ≤ 100 := by
    have h := rNum_most l s1 100
    rw [hN.out] at h; exact h
  have HFE : Hid (([] : List (List UInt8)) ++ (fieldsF l n0 s2).1 = fs ∧ (fieldsF l n0 s2).2 = sf) := by
    show _ ∧ _
    rw [hF.out]; exact ⟨rfl, rfl⟩
  obtain ⟨p1, b1⟩ := s1
  obtain ⟨p2, b2⟩ := s2
  have hgl := hr.lt
  have HR0 := Lib.hid hr
  have H1 := Lib.hid (refReader_text 256 (by decide) (by decide) w base g l p bad hr hbad)
  rw [hT.out] at H1
  clear hr hF HR0
  go_enter Tryz.func17, Tryz.ntmps17
  go_wp2_with fail
  refine H1.out.mono ?_
  rintro e w2 ⟨rfl, hr2, hf2⟩
  have hs2 := hf2.size
  obtain ⟨gx, hgx⟩ : ∃ gx, gx = w2.heap.size := ⟨_, rfl⟩
  obtain ⟨W3, hW3⟩ : ∃ W3, W3 = w2.alloc (.cells #[.string (bstr T), .slice none 0 0] 29) := ⟨_, rfl⟩
  have hB3 : Blk W3 gx 29 #[.string (bstr T), .slice none 0 0] := by rw [hW3, hgx]; exact Blk.new w2 _ _
  have hF3 : Fr w W3 (fun k => k = g) := by rw [hW3]; exact hf2.alloc _
  have hr3 : RfOk W3 base g l (p1, b1) := by rw [hW3]; exact hr2.fr ((Fr.refl w2 (fun _ => False)).alloc _) (fun h => h) (fun _ _ h => h)
  have hne : ¬ gx = g := by omega
  have hgw : w.heap.size ≤ gx := by omega
  have H2 := Lib.hid (refReader_num 100 (by decide) W3 base g l p1 b1 hr3)
  rw [hN.out] at H2
  go_upto_region 2 with fail
  rw [← hW3, ← hgx]
  have HB3 := Lib.hid hB3
  have HF3 := Lib.hid hF3
  clear H1 hr2 hf2 hB3 hF3 hr3 hW3 hgx
  go_wp2_with fail
  refine H2.out.mono ?_
  rintro e w4 ⟨rfl, hr4, hf4⟩
  have HI4 : Hid (RdIn (fun w' s => RfOk w' base g l s) 29 w g gx T w4 [] (p2, b2) none 0 0) := ⟨HB3.out.fr hf4 hne, OwnZ.nil, (fun k hk => by cases hk), hr4, HF3.out.trans hf4 (fun _ _ h => h)⟩
  clear H2 HB3 HF3 hr4 hf4
  go_wp2_with fail
  go_loopw [4] (fun v wr => ∃ (k : Nat) (done : List (List UInt8)) (A : Option Addr) (m c p' : Nat) (b' : Int), v = .int .u64 (k : Int) ∧ k ≤ 100 ∧ m + k ≤ 100 ∧ (-100 < b' ∧ b' < 100) ∧ Hid (RdIn (fun w' s => RfOk w' base g l s) 29 w g gx T wr done (p', b') A m c) ∧ Hid (done ++ (fieldsF l k (p', b')).1 = fs ∧ (fieldsF l k (p', b')).2 = sf)) (fun v _ => (intOf v).toNat)
  case atStart => exact ⟨n0, [], none, 0, 0, p2, b2, rfl, hn0, by omega, hb2, HI4, HFE⟩
  case round =>
    clear HI4 HFE hN hT
    obtain ⟨k, done, A, m, c, p', b', rfl, hk, hmk, hb', HI, HE⟩ := hrel
    by_cases hgo : 0 < k ∧ b' = 0
    · obtain ⟨hk0, rfl⟩ := hgo
      obtain ⟨k, rfl⟩ : ∃ j, k = j + 1 := ⟨k - 1, by omega⟩
      have hk0i : (0 : Int) < ((k + 1 : Nat) : Int) := by omega
      obtain ⟨x, s1, hx⟩ : ∃ x s1, Hid (rText l (p', 0) 256 = (x, s1)) := ⟨_, _, rfl⟩
      have hbs : -100 < s1.2 ∧ s1.2 < 100 := by
        have h := rText_badz (l := l) (s := (p', 0)) (m := 256) (by show (-100 : Int) < 0 ∧ (0 : Int) < 100; decide)
        rw [hx.out] at h; exact h
      have HE1 := fields_go hx HE
      obtain ⟨hB, hO, hA, hrd, hf⟩ := HI.out
      have hnb : ¬ gx = g := hne
      have hmi : m < 4000000000000 := by omega
      have hgr : wr.cell? ⟨g, 2, none⟩ = some (.int .i64 0) := by obtain ⟨_, _, _, _, _, _, h3, _⟩ := hrd; exact h3.cell 2
      have HBk := Lib.hid (And.intro hB (And.intro hO (And.intro hA (And.intro hrd hf))))
      clear hB hO hA hrd hf HE
      go_wp2_with fail
      clear hgr
      obtain ⟨hB, hO, hA, hrd, hf⟩ := HBk.out
      refine wp_region_early (S := fun w' => w'.cell? ⟨gx, 1, none⟩ = some (.slice A m c)) 11 (by kernel_rfl) (hB.cell 1) (fun hHeld => ?_)
      refine wpAnyE_take (i := 0) (oi := ⟨some 22, Op.move (Operand.tmp 3), _, _, _, none⟩) (v := ?_) 0 [] rfl (by kernel_rfl) (by kernel_rfl) (by kernel_rfl) (by kernel_rfl) (by kernel_rfl) rfl (fun _ _ _ h => h) (Or.inl ⟨by rfl, ?_⟩) hHeld ?_
      rotate_left
      · intro w hSw
        try dsimp only at hSw
        go_simp
        try with_reducible rfl
      try simp only [Act.put, List.setIfInBounds_toArray, List.set_cons_zero, List.set_cons_succ]
      refine wpAnyE_take (i := 1) (oi := ⟨some 23, Op.move (Operand.tmp 3), _, _, _, none⟩) (v := ?_) 1 [] rfl (by kernel_rfl) (by kernel_rfl) (by kernel_rfl) (by kernel_rfl) (by kernel_rfl) rfl (fun _ _ _ h => h) (Or.inl ⟨by rfl, ?_⟩) hHeld ?_
      rotate_left
      · intro w hSw
        try dsimp only at hSw
        go_simp
        try with_reducible rfl
      try simp only [Act.put, List.setIfInBounds_toArray, List.set_cons_zero, List.set_cons_succ]
      refine wpAnyE_take (i := 2) (oi := ⟨some 24, Op.nilCheck (Operand.tmp 23), _, _, _, none⟩) (v := ?_) 2 [] rfl (by kernel_rfl) (by kernel_rfl) (by kernel_rfl) (by kernel_rfl) (by kernel_rfl) rfl (fun _ _ _ h => h) (Or.inl ⟨by rfl, ?_⟩) hHeld ?_
      rotate_left
      · intro w hSw
        try dsimp only at hSw
        go_simp
        try with_reducible rfl
      try simp only [Act.put, List.setIfInBounds_toArray, List.set_cons_zero, List.set_cons_succ]
      refine wpAnyE_take (i := 3) (oi := ⟨some 25, Op.fieldAddr 29 (Operand.tmp 24) 1, _, _, _, none⟩) (v := ?_) 3 [] rfl (by kernel_rfl) (by kernel_rfl) (by kernel_rfl) (by kernel_rfl) (by kernel_rfl) rfl (fun _ _ _ h => h) (Or.inl ⟨by rfl, ?_⟩) hHeld ?_
      rotate_left
      · intro w hSw
        try dsimp only at hSw
        go_simp
        try with_reducible rfl
      try simp only [Act.put, List.setIfInBounds_toArray, List.set_cons_zero, List.set_cons_succ]
      refine wpAnyE_take (i := 4) (oi := ⟨some 26, Op.load 27 (Operand.tmp 25), _, _, _, none⟩) (v := ?_) 4 [] rfl (by kernel_rfl) (by kernel_rfl) (by kernel_rfl) (by kernel_rfl) (by kernel_rfl) rfl (fun _ _ _ h => h) (Or.inl ⟨by rfl, ?_⟩) hHeld ?_
      rotate_left
      · intro w hSw
        try dsimp only at hSw
        go_simp
        try with_reducible rfl
      try simp only [Act.put, List.setIfInBounds_toArray, List.set_cons_zero, List.set_cons_succ]
      refine wpAnyE_take (i := 5) (oi := ⟨some 27, Op.move (Operand.tmp 0), _, _, _, none⟩) (v := ?_) 5 [] rfl (by kernel_rfl) (by kernel_rfl) (by kernel_rfl) (by kernel_rfl) (by kernel_rfl) rfl (fun _ _ _ h => h) (Or.inl ⟨by rfl, ?_⟩) hHeld ?_
      rotate_left
      · intro w hSw
        try dsimp only at hSw
        go_simp
        try with_reducible rfl
      try simp only [Act.put, List.setIfInBounds_toArray, List.set_cons_zero, List.set_cons_succ]
      have hrdd : RfOk wr.drew base g l (p', 0) := hrd
      refine wpAnyE_one (i := 6) (o := ⟨some 28, Op.call { callee := Callee.value (Operand.func 40), args := #[Operand.tmp 27, Operand.const (Value.int IntKind.i64 256)], argTypes := #[46, 3] }, _, _, _, none⟩) (by kernel_rfl) rfl (fun K hK => ?_)
      go_simp
      go_at_call 40
      (with_reducible refine (refReader_text 256 (by decide) (by decide) _ base g l p' 0 hrdd (by decide)).mono ?_)
      rintro e w6 ⟨rfl, hr6, hf6⟩
      have hB6 := hB.drew.fr hf6 hne
      rw [hx.out] at hr6 ⊢
      dsimp only at hr6 ⊢
      refine hK.out _ _ (fun _ => hB6.cell 1) (fun hHeld => ?_)
      clear hK K
      replace hHeld := hHeld (by decide)
      try simp only [Act.put, List.setIfInBounds_toArray, List.set_cons_zero, List.set_cons_succ]
      refine wpAnyE_one (i := 7) (o := ⟨some 29, Op.buildSlice 27 1 #[(0, Operand.tmp 28)], _, _, _, none⟩) (by kernel_rfl) rfl (fun K hK => ?_)
      go_simp
      refine hK.out _ _ (fun _ => (hB6.alloc _).cell 1) (fun hHeld => ?_)
      clear hK K
      replace hHeld := hHeld (by decide)
      try simp only [Act.put, List.setIfInBounds_toArray, List.set_cons_zero, List.set_cons_succ]
      refine wpAnyE_one (i := 8) (o := ⟨some 30, Op.call { callee := Callee.builtin Builtin.append, args := #[Operand.tmp 26, Operand.tmp 29], argTypes := #[27, 27] }, _, _, _, none⟩) (by kernel_rfl) rfl (fun K hK => ?_)
      refine step_append_z rfl (.tmp 26) (.tmp 29) rfl w.heap.size A m c done rfl (hO.mv hf6 (fun k hk => (hA k hk).2) _) [x] _ _ 1 1 rfl (reads_z _ x _) (by omega) (by have h1 := hf.size; have h2 := hf6.size; have h3 : wr.drew.heap.size = wr.heap.size := rfl; simp only [World.size_alloc]; omega) ?_
      intro A' m' c' w8 hm' hO8 hg8 hob8
      subst hm'
      have hB8 := (hB6.alloc _).grown hg8 (fun e => (hA gx e.symm).1 rfl)
      refine hK.out _ _ (fun _ => hB8.cell 1) (fun hHeld => ?_)
      clear hK K
      replace hHeld := hHeld (by decide)
      try simp only [Act.put, List.setIfInBounds_toArray, List.set_cons_zero, List.set_cons_succ]
      refine wpAnyE_take (i := 9) (oi := ⟨some 31, Op.nilCheck (Operand.tmp 22), _, _, _, none⟩) (v := ?_) 10 [9] rfl (by kernel_rfl) (by kernel_rfl) (by kernel_rfl) (by kernel_rfl) (by kernel_rfl) rfl (fun _ _ _ h => h) (Or.inl ⟨by rfl, ?_⟩) hHeld ?_
      rotate_left
      · intro w hSw
        try dsimp only at hSw
        go_simp
        try with_reducible rfl
      try simp only [Act.put, List.setIfInBounds_toArray, List.set_cons_zero, List.set_cons_succ]
      refine wpAnyE_take (i := 10) (oi := ⟨some 32, Op.fieldAddr 29 (Operand.tmp 31) 1, _, _, _, none⟩) (v := ?_) 10 [] rfl (by kernel_rfl) (by kernel_rfl) (by kernel_rfl) (by kernel_rfl) (by kernel_rfl) rfl (fun _ _ _ h => h) (Or.inl ⟨by rfl, ?_⟩) hHeld ?_
      rotate_left
      · intro w hSw
        try dsimp only at hSw
        go_simp
        try with_reducible rfl
      try simp only [Act.put, List.setIfInBounds_toArray, List.set_cons_zero, List.set_cons_succ]
      have hz8 := hB8.frozen 1
      refine wpAnyE_one (i := 11) (o := ⟨none, Op.store 27 (Operand.tmp 32) (Operand.tmp 30), _, _, _, none⟩) (by kernel_rfl) rfl (fun K hK => ?_)
      go_simp
      refine hK.out _ _ (fun h => absurd rfl h) (fun hHeld => ?_)
      clear hK K
      try simp only [Act.put, List.setIfInBounds_toArray, List.set_cons_zero, List.set_cons_succ]
      refine wpAnyE_done (by kernel_rfl) ?_ _
      have hI2 : Hid (RdIn (fun w' s => RfOk w' base g l s) 29 w g gx T (w8.setCell ⟨gx, 1, none⟩ (.slice A' (m + 1) c')) (done ++ [x]) s1 A' (m + 1) c') := RdIn.step HI.out hgw hgl hf6 hO8 hg8 hob8 (rf_step (W0 := w) hr6 hg8 (fun k hk => (hO.lt k hk).1) (fun k hk => (hA k hk).2) hbw hgw hne)
      obtain ⟨q1, d1⟩ := s1
      clear HBk hB hO hA hrd hrdd hf hr6 hf6 hB6 hO8 hg8 hob8 hB8 hz8 hHeld HI
      go_wp2_with fail
      go_roundw
      case rel => exact ⟨k, done ++ [x], A', m + 1, c', q1, d1, by go_num, by omega, by omega, hbs, hI2, HE1⟩
      case measure => first | (simp [intOf]; done) | (simp [intOf]; omega)
    · have hend : k = 0 ∨ b' ≠ 0 := by omega
      obtain ⟨rfl, rfl⟩ := fields_end (s := (p', b')) hend HE
      obtain ⟨hB, hO, hA, hrd, hf⟩ := HI.out
      have hgr : wr.cell? ⟨g, 2, none⟩ = some (.int .i64 b') := by obtain ⟨_, _, _, _, _, _, h3, _⟩ := hrd; exact h3.cell 2
      clear hB hO hA hrd hf HE
      by_cases hb0 : b' = 0
      · subst hb0
        obtain rfl : k = 0 := by omega
        go_wp2_with fail
        go_ret
        refine ⟨gx, rfl, hgw, ?_, ?_, HI.out.2.2.2.2⟩
        · rw [hRec.out, if_neg (show ¬ (0 : Int) ≠ 0 from by decide)]; obtain ⟨hB, hO, hA, _⟩ := HI.out; exact ⟨A, m, c, hB, hO.rd, hO.cap, fun k hk => ⟨(hA k hk).1, (hO.lt k hk).1⟩⟩
        · rw [hRec.out, if_neg (show ¬ (0 : Int) ≠ 0 from by decide)]; exact HI.out.2.2.2.1
      · have hbn : (b' != 0) = true := bne_iff_ne.2 hb0
        have hbe : (b' == 0) = false := beq_eq_false_iff_ne.2 hb0
        rcases Nat.eq_zero_or_pos k with rfl | hk0
        · go_wp2_with fail
          go_ret
          have hl9 : Later wr (wr.alloc (.cells #[.string ⟨#[]⟩, .slice none 0 0] 29)) := (Later.refl wr).alloc _
          refine ⟨wr.heap.size, rfl, HI.out.2.2.2.2.size, ?_, ?_, HI.out.2.2.2.2.trans (frLz hl9) (fun _ _ h => h)⟩
          · rw [hRec.out, if_pos (show b' ≠ 0 from hb0)]; exact ⟨none, 0, 0, Blk.new wr _ _, ⟨rfl, fun h => absurd h (by omega)⟩, Nat.le_refl _, fun k h => by cases h⟩
          · rw [hRec.out, if_pos (show b' ≠ 0 from hb0)]; exact HI.out.2.2.2.1.fr (frLz (p := fun _ => False) hl9) (fun h => h) (fun _ _ h => h)
        · have hk0i : (0 : Int) < (k : Int) := by omega
          go_wp2_with fail
          go_ret
          have hl9 : Later wr (wr.alloc (.cells #[.string ⟨#[]⟩, .slice none 0 0] 29)) := (Later.refl wr).alloc _
          refine ⟨wr.heap.size, rfl, HI.out.2.2.2.2.size, ?_, ?_, HI.out.2.2.2.2.trans (frLz hl9) (fun _ _ h => h)⟩
          · rw [hRec.out, if_pos (show b' ≠ 0 from hb0)]; exact ⟨none, 0, 0, Blk.new wr _ _, ⟨rfl, fun h => absurd h (by omega)⟩, Nat.le_refl _, fun k h => by cases h⟩
          · rw [hRec.out, if_pos (show b' ≠ 0 from hb0)]; exact HI.out.2.2.2.1.fr (frLz (p := fun _ => False) hl9) (fun h => h) (fun _ _ h => h)
end Go.Proofs.YtmkddhkpeiajhaaGreatDoor
