/-
  A scope of several labels: what holds at each jump, and a measure that every pass from a label to a label lowers.
-/
import Derived.WalkMore
import Derived.ScopeJumps
namespace Go.Proofs.YtkpckmdakiminaaDoor

/-- as Q; by a goto to a label: what holds there -/
def jumps (J : Nat → Act → World → Prop) (Q : Exit → Act → World → Prop) : Exit → Act → World → Prop
  | .goto l, a, w => J l a w
  | e, a, w => Q e a w

theorem wp_scope_many {P : Program} {a : Act} {w : World} {Q : Exit → Act → World → Prop} {c : Code} (J : Nat → Act → World → Prop) (μ : Nat → Act → World → Nat)
    (first : (∀ l a w, J l a w → ∃ rest, findLabel c l = some (Code.skip.seq rest) ∧ rest.wp P (jumps J Q) a w) → c.wp P (jumps J Q) a w)
    (pass : ∀ l a w, J l a w → ∃ rest, findLabel c l = some (Code.skip.seq rest) ∧ rest.wp P (jumps (fun l' a' w' => J l' a' w' ∧ μ l' a' w' < μ l a w) Q) a w) : (Code.scope c).wp P Q a w := by
  have first := first fun l a w h => by
    obtain ⟨rest, hf, hw⟩ := pass l a w h
    exact ⟨rest, hf, Code.wp_mono (fun e a' w' q => by cases e <;> first | exact q | exact q.1) hw⟩
  intro b k cs
  have key : ∀ n l a w, μ l a w = n → J l a w → ∃ rest, findLabel c l = some (Code.skip.seq rest) ∧ ∃ e a' w', Q e a' w' ∧ Arrives P (lone (b.at a (.code (Code.skip.seq rest) :: .inScope c :: k)) cs w) b k cs e a' w' := by
    intro n
    induction n using Nat.strongRecOn with
    | _ n ih =>
      intro l a w hn hJ
      obtain ⟨rest, hf, hwp⟩ := pass l a w hJ
      refine ⟨rest, hf, ?_⟩
      obtain ⟨e, a₁, w₁, hq, harr⟩ := wp_seq (wp_skip hwp) b (.inScope c :: k) cs
      cases e with
      | normal => exact ⟨.normal, a₁, w₁, hq, Steps.trans harr (.one step_inScope)⟩
      | exit id => exact ⟨.exit id, a₁, w₁, hq, fun k' hk => harr k' (by simp [exitTo, hk])⟩
      | goto l' =>
        obtain ⟨hJ', hlt⟩ := hq
        obtain ⟨rest', hf', e₂, a₂, w₂, hq₂, harr₂⟩ := ih _ (by omega) l' a₁ w₁ rfl hJ'
        have hg : gotoIn l' (.inScope c :: k) = some (.code (Code.skip.seq rest') :: .inScope c :: k) := by simp [gotoIn, hf']
        exact ⟨e₂, a₂, w₂, hq₂, .of_steps (harr _ hg) harr₂⟩
      | ret => exact ⟨_, a₁, w₁, hq, harr⟩
      | panic ch => exact ⟨_, a₁, w₁, hq, harr⟩
      | outgrown => exact ⟨_, a₁, w₁, hq, harr⟩
  obtain ⟨e, a₁, w₁, hq, harr⟩ := first b (.inScope c :: k) cs
  cases e with
  | normal => exact ⟨.normal, a₁, w₁, hq, .head step_scope (Steps.trans harr (.one step_inScope))⟩
  | exit id => exact ⟨.exit id, a₁, w₁, hq, fun k' hk => .head step_scope (harr k' (by simp [exitTo, hk]))⟩
  | goto l' =>
    obtain ⟨rest', hf', e₂, a₂, w₂, hq₂, harr₂⟩ := key _ l' a₁ w₁ rfl hq
    have hg : gotoIn l' (.inScope c :: k) = some (.code (Code.skip.seq rest') :: .inScope c :: k) := by simp [gotoIn, hf']
    exact ⟨e₂, a₂, w₂, hq₂, .of_steps (.head step_scope (harr _ hg)) harr₂⟩
  | ret => exact ⟨_, a₁, w₁, hq, .of_steps (.one step_scope) harr⟩
  | panic ch => exact ⟨_, a₁, w₁, hq, .of_steps (.one step_scope) harr⟩
  | outgrown => exact ⟨_, a₁, w₁, hq, .of_steps (.one step_scope) harr⟩

/-- as Q; by a goto to one of two labels: what holds there -/
def two (l1 : Nat) (J1 : Act → World → Prop) (l2 : Nat) (J2 : Act → World → Prop) (Q : Exit → Act → World → Prop) : Exit → Act → World → Prop
  | .goto l, a, w => (l = l1 ∧ J1 a w) ∨ (l = l2 ∧ J2 a w)
  | e, a, w => Q e a w

theorem wp_scope_two {P : Program} {a : Act} {w : World} {Q : Exit → Act → World → Prop} {c r1 r2 : Code} (l1 l2 : Nat) (J1 J2 : Act → World → Prop) (μ1 μ2 : Act → World → Nat) (hne : l1 ≠ l2)
    (hf1 : findLabel c l1 = some (Code.skip.seq r1)) (hf2 : findLabel c l2 = some (Code.skip.seq r2))
    (first : (∀ a w, J1 a w → r1.wp P (two l1 J1 l2 J2 Q) a w) → (∀ a w, J2 a w → r2.wp P (two l1 J1 l2 J2 Q) a w) → c.wp P (two l1 J1 l2 J2 Q) a w)
    (pass1 : ∀ a w, J1 a w → r1.wp P (two l1 (fun a' w' => J1 a' w' ∧ μ1 a' w' < μ1 a w) l2 (fun a' w' => J2 a' w' ∧ μ2 a' w' < μ1 a w) Q) a w)
    (pass2 : ∀ a w, J2 a w → r2.wp P (two l1 (fun a' w' => J1 a' w' ∧ μ1 a' w' < μ2 a w) l2 (fun a' w' => J2 a' w' ∧ μ2 a' w' < μ2 a w) Q) a w) : (Code.scope c).wp P Q a w := by
  have e : ∀ J1 J2 : Act → World → Prop, two l1 J1 l2 J2 Q = jumps (fun l a w => (l = l1 ∧ J1 a w) ∨ (l = l2 ∧ J2 a w)) Q := fun J1 J2 => by
    funext x a w; cases x <;> rfl
  refine wp_scope_many (fun l a w => (l = l1 ∧ J1 a w) ∨ (l = l2 ∧ J2 a w)) (fun l a w => if l = l1 then μ1 a w else μ2 a w) ?_ ?_
  · intro hp
    rw [← e]
    refine first (fun a w h => ?_) (fun a w h => ?_)
    · obtain ⟨rest, hf, hw⟩ := hp l1 a w (.inl ⟨rfl, h⟩)
      rw [hf1] at hf
      injection hf with hf
      injection hf with _ hf
      subst hf
      rw [e]; exact hw
    · obtain ⟨rest, hf, hw⟩ := hp l2 a w (.inr ⟨rfl, h⟩)
      rw [hf2] at hf
      injection hf with hf
      injection hf with _ hf
      subst hf
      rw [e]; exact hw
  · rintro l a w (⟨rfl, h⟩ | ⟨rfl, h⟩)
    · refine ⟨r1, hf1, Code.wp_mono (fun x a' w' q => ?_) (pass1 a w h)⟩
      cases x <;> first | exact q | skip
      rename_i l'
      rcases q with ⟨rfl, q1, q2⟩ | ⟨rfl, q1, q2⟩
      · exact ⟨.inl ⟨rfl, q1⟩, by simpa using q2⟩
      · exact ⟨.inr ⟨rfl, q1⟩, by simp only [if_true, if_neg (Ne.symm hne)]; exact q2⟩
    · refine ⟨r2, hf2, Code.wp_mono (fun x a' w' q => ?_) (pass2 a w h)⟩
      cases x <;> first | exact q | skip
      rename_i l'
      rcases q with ⟨rfl, q1, q2⟩ | ⟨rfl, q1, q2⟩
      · exact ⟨.inl ⟨rfl, q1⟩, by simp only [if_true, if_neg (Ne.symm hne)]; exact q2⟩
      · exact ⟨.inr ⟨rfl, q1⟩, by simp only [if_neg (Ne.symm hne)]; exact q2⟩

/-- a scope in which the run jumps back to one label: what goes ahead of the label may lean on the pass from it -/
theorem wp_scope_jumps1 {P : Program} {a : Act} {w : World} {Q : Exit → Act → World → Prop} {c rest : Code} (l : Nat) (J : Act → World → Prop) (μ : Act → World → Nat) (hf : findLabel c l = some (Code.skip.seq rest))
    (first : (∀ a w, J a w → rest.wp P (Exit.jump l J Q) a w) → c.wp P (Exit.jump l J Q) a w)
    (pass : ∀ a w, J a w → rest.wp P (Exit.jump l (fun a' w' => J a' w' ∧ μ a' w' < μ a w) Q) a w) : (Code.scope c).wp P Q a w :=
  wp_scope_jumps l J μ hf (first fun a w h => (Code.wp_mono (fun e a' w' q => by cases e <;> first | exact q | exact ⟨q.1, q.2.1⟩) (pass a w h))) (fun a w h => wp_seq (wp_skip (pass a w h)))

end Go.Proofs.YtkpckmdakiminaaDoor
