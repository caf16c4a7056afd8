/-
  A region that draws its order and whose operations read, or call what only makes memory: one walk of the text's order serves every order.
-/
import Derived.Test.YtmkddhkpeiajhaaDoorLater
import Derived.Deep.QuietTactic
import Derived.BigQuiet
import Derived.Deep.MidRow
namespace Go.Proofs.YtmkddhkpeiajhaaDoor
open Go.RowKit

/-- the worlds behind W that have new blocks alone -/
structure LW (W : World) where
  val : World
  later : Later W val
instance (W : World) : Nonempty (LW W) := ⟨⟨W, Later.refl W⟩⟩

theorem LW.cell_ {W : World} {p : Addr} {v : Value} (h : W.cell? p = some v) (x : LW W) : x.val.cell? p = some v := by
  have hp : p.block < W.heap.size := World.block_lt_of_cell? W p h
  rw [Later.cell x.later hp, h]

theorem wp_region_laterq {P : Program} {id : Nat} {Q : Exit → Act → World → Prop} {a : Act} {W : World} {l : List Oper} (hm : P.follows .mixedOrders = true) (hB : Region.lexB .any l.toArray = true)
    (h : wpQuiet P l.toArray (fun w' => ∃ x : LW W, w' = x.val) (fun a' => ∀ w', (∃ x : LW W, w' = x.val) → Q .normal a' w') l a) : (Code.region id l.toArray true).wp P Q a W :=
  wp_region_quiet (C := fun w' => ∃ x : LW W, w' = x.val) hm hB ⟨⟨W.drew, (Later.refl W).drew⟩, rfl⟩ (by simpa using h)

theorem Calls.laterq {P : Program} {f : FuncId} {args : Array Value} {W : World} {x : LW W} {v : Value}
    (h : Calls P f args x.val fun e w' => e = .returned v ∧ Later x.val w') : Calls P f args x.val fun e w'' => e = .returned v ∧ ∃ y : LW W, w'' = y.val :=
  h.mono fun _ w' ⟨he, hl⟩ => ⟨he, ⟨w', Later.trans x.later hl⟩, rfl⟩

/-- a load of a long array -/
theorem quiet_load_long {P : Program} {W : World} {o : Oper} {a : Act} {K : Act → Prop} (ty : TypeId) (x : Operand) (ho : o.op = .load ty x)
    (b off : Nat) (hx : a.eval x = .pointer (some ⟨b, off, none⟩)) (cs : List Value) (d : TypeDesc) (hc : W.rangeAt b off cs)
    (hu : P.underlying ty = some d) (hd : d.isRow = true) (hi : (P.info? ty).map (·.size) = some cs.length)
    (hk : K (a.put o.dst (.agg cs.toArray))) : o.quiet P a (fun w' => ∃ x : LW W, w' = x.val) K :=
  ⟨.agg cs.toArray, fun w hw => by
    obtain ⟨y, rfl⟩ := hw
    unfold Oper.quietAt execOp
    simp only [ho, hx, Instr.loadAt, Instr.sureAddr, Sem.run_bind, Sem.run_pure, Result.andThen_ok, run_loadVar_mid y.val b off ty cs d (fun j v hv => LW.cell_ (hc j v hv) y) hu hd hi]
    exact ⟨rfl, rfl⟩, hk⟩

end Go.Proofs.YtmkddhkpeiajhaaDoor
