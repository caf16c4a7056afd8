/-
  Two sets held against one another.
-/
import Derived.Test.YtmkddhkpeiajhaaSetWalk
namespace Go.Proofs.Ytmkddhkpeiajhaa
open Go.RowKit

/-- are two sets the same? -/
def eqS (p q : Mem) : Bool := ((word p 0 : Int) == (word q 0 : Int)) && (((word p 1 : Int) == (word q 1 : Int)) && (((word p 2 : Int) == (word q 2 : Int)) && ((word p 3 : Int) == (word q 3 : Int))))

theorem run_eq_set (x0 x1 x2 x3 y0 y1 y2 y3 : Int) (w : World) : (Op.equalIn 10000 27 (.agg #[.int .u64 x0, .int .u64 x1, .int .u64 x2, .int .u64 x3]) (.agg #[.int .u64 y0, .int .u64 y1, .int .u64 y2, .int .u64 y3])).run Try.prog w = .ok ((x0 == y0) && ((x1 == y1) && ((x2 == y2) && (x3 == y3)))) w := by
  have hs : ∀ w : World, (sizeOf 25).run Try.prog w = .ok 1 w := fun _ => by kernel_rfl
  have hp0 : ∀ (a b c d : Value) (w : World), (part 25 #[a, b, c, d] 0).run Try.prog w = .ok a w := fun _ _ _ _ _ => by kernel_rfl
  have hp1 : ∀ (a b c d : Value) (w : World), (part 25 #[a, b, c, d] 1).run Try.prog w = .ok b w := fun _ _ _ _ _ => by kernel_rfl
  have hp2 : ∀ (a b c d : Value) (w : World), (part 25 #[a, b, c, d] 2).run Try.prog w = .ok c w := fun _ _ _ _ _ => by kernel_rfl
  have hp3 : ∀ (a b c d : Value) (w : World), (part 25 #[a, b, c, d] 3).run Try.prog w = .ok d w := fun _ _ _ _ _ => by kernel_rfl
  have he : ∀ (a b : Int) (w : World), (Op.equalIn 9999 25 (.int .u64 a) (.int .u64 b)).run Try.prog w = .ok (a == b) w := fun a b w => run_equalIn_int w 9998 _ .u64 .u64 a b Try.underlying25
  rw [Op.equalIn]
  simp only [Sem.run_bind, run_underlying Try.underlying27, Result.andThen_ok, hs]
  rw [Std.Legacy.Range.forIn_eq_forIn_range']
  rw [show List.range' [:4].start [:4].size [:4].step = [0, 1, 2, 3] from rfl]
  simp only [List.forIn_cons, List.forIn_nil, Sem.run_bind, Nat.mul_one, hp0, he, Result.andThen_ok]
  by_cases h0 : x0 = y0 <;> by_cases h1 : x1 = y1 <;> by_cases h2 : x2 = y2 <;> by_cases h3 : x3 = y3 <;> simp [h0, h1, h2, h3, hp1, hp2, hp3, he]

end Go.Proofs.Ytmkddhkpeiajhaa
