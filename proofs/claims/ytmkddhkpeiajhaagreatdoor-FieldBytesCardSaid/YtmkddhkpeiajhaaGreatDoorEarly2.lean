import Derived.Test.YtmkddhkpeiajhaaGreatDoorBackNm
namespace Go.Proofs.YtmkddhkpeiajhaaGreatDoor
open Go.RowKit
theorem wpAnyE_takez {P : Program} {ops : Array Oper} {Q : Exit → Act → World → Prop} {md : Region.Mode} {S : World → Prop} {z i : Nat} {oi : Oper} {v : Value} {fuel : Nat} {listed : Array Bool} {a : Act} {w : World} (hz : ops[z]?.isNone = true) (hi : ops[i]? = some oi)
  (hs : Region.noSelect ops = true) (hf : Region.free md ops listed i = true) (hr : (Region.ready md ops listed).contains i = true) (hc : closedB md ops listed = true)
  (hQ : ∀ c a w, Q (.panic c) (a.put oi.dst v) w → Q (.panic c) a w) (hy : YieldsIf P ops S oi v a) (hS : S w)
  (h : wpAnyE P md ops Q S z fuel (listed.setIfInBounds i true) (a.put oi.dst v) w) : wpAnyE P md ops Q S z (fuel + 1) listed a w :=
 wpAnyE_first hi (Region.noSelect_spec hs) hQ (fun _ _ _ hin => by
  obtain ⟨_, o, ho, _⟩ := mem_ready.1 hin
  rw [ho] at hz
  cases hz) fuel listed a w (ClosedL.of hc) (Region.free_spec hi hf) (by simpa using hr) hy hS h
end Go.Proofs.YtmkddhkpeiajhaaGreatDoor
