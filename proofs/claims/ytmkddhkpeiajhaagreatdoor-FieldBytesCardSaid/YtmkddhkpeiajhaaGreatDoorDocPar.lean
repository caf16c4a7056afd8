import Derived.Test.YtmkddhkpeiajhaaGreatDoorAtW
import Derived.Test.YtmkddhkpeiajhaaGreatDoorBrAb
import Derived.Test.YtmkddhkpeiajhaaGreatDoorRw2
import Derived.Test.YtmkddhkpeiajhaaGreatDoorBytes
import Derived.Test.YtmkddhkpeiajhaaGreatDoorRows
import Derived.LaidLaws
import Derived.Lib.LaidTab
import Derived.Test.YtmkddhkpeiajhaaGreatDoorRun21
namespace Go.Proofs.YtmkddhkpeiajhaaGreatDoor
open Go.RowKit
theorem brcon_no {S : ByteArray} (h : ∀ p : Nat, S.data.toList[p]? ≠ some 91) : BrCon S := fun p hp => absurd hp (h p)
theorem parsed_of (L : List UInt8) (r : Rx) (hL : L.length ≤ 20000) (hTx : txtB L = true) (hb : BrCon (bstr L)) (hp : rParse L = (rxT r, 0, 0)) (w : World) : Calls Tryz.prog 59 #[.string (bstr L)] w (Parsed w r) := by
 haveI hTxi : Txt (bstr L) := Txt.of L hTx
 refine (refParse_any (bstr L) (fun _ => True) w hL (fun d => atom91_of _ d hL hb) (fun _ _ => trivial)).mono fun e w' h => ?_
 have hp : rParse (bstr L).data.toList = (rxT r, 0, 0) := hp
 rw [hp] at h
 obtain ⟨k, a, b, c, d, A, n, cp, he, hC, hl⟩ := h
 exact ⟨k, a, b, c, d, A, n, cp, he, ⟨_, hC⟩, hl⟩
theorem parsed_no (L : List UInt8) (x y : Nat) (hL : L.length ≤ 20000) (hTx : txtB L = true) (hb : BrCon (bstr L)) (hp : rParse L = (tEmpty, x, y)) (hy : y ≠ 0) (w : World) : Calls Tryz.prog 59 #[.string (bstr L)] w (ParsedNo w) := by
 haveI hTxi : Txt (bstr L) := Txt.of L hTx
 refine (refParse_any (bstr L) (fun _ => True) w hL (fun d => atom91_of _ d hL hb) (fun _ _ => trivial)).mono fun e w' h => ?_
 have hp : rParse (bstr L).data.toList = (tEmpty, x, y) := hp
 rw [hp] at h
 obtain ⟨k, a, b, c, d, A, n, cp, he, hC, hl⟩ := h
 exact ⟨(x : Int), (y : Int), k, a, b, c, d, A, n, cp, by rw [bne_iff_ne]; omega, he, hl⟩
theorem docParses : DocParses where
 p4 := parsed_of _ rx4 (by decide) (by decide +kernel) brcon_ab (by kernel_rfl)
 p5 := parsed_of _ rx5 (by decide) (by decide +kernel) (brcon_no (by intro p h; match p, h with | 0, h => exact absurd h (by decide) | 1, h => exact absurd h (by decide) | _ + 2, h => simp [bstr] at h)) (by kernel_rfl)
 p6 := parsed_no _ 1 24 (by decide) (by decide +kernel) (brcon_no (by intro p h; match p, h with | 0, h => exact absurd h (by decide) | _ + 1, h => simp [bstr] at h)) (by kernel_rfl) (by decide)
 p8 := parsed_of _ rx8 (by decide) (by decide +kernel) (brcon_no (by intro p h; match p, h with | 0, h => exact absurd h (by decide) | 1, h => exact absurd h (by decide) | _ + 2, h => simp [bstr] at h)) (by kernel_rfl)
 p9 := parsed_no _ 2 24 (by decide) (by decide +kernel) (brcon_no (by intro p h; match p, h with | 0, h => exact absurd h (by decide) | 1, h => exact absurd h (by decide) | _ + 2, h => simp [bstr] at h)) (by kernel_rfl) (by decide)
end Go.Proofs.YtmkddhkpeiajhaaGreatDoor
namespace Go.Proofs.YtmkddhkpeiajhaaGreatDoor
open Go.RowKit
end Go.Proofs.YtmkddhkpeiajhaaGreatDoor
namespace Go.Proofs.YtmkddhkpeiajhaaGreatDoor
open Go.RowKit
def strTab {H : Type} (ss : List (List UInt8)) : DataW H := .agg (ss.map fun s => .lit (.string s))
theorem cells_of_strs {H : Type} {enc : TypeId × Value → H} {P : Program} {w : World} {base : Nat} {sp : Nat → Bool} {held : Bool} {fuel : Nat} {t e : TypeId} {n : Nat} {cs : List Value} {ss : List (List UInt8)} {p : List MemPlace}
  (ht : P.underlying t = some (.array n e)) (he : P.underlying e = some .string) (hce : P.cellsOf e = 1) (hct : P.cellsOf t = n)
  (h : DataW.trod enc P w base sp held fuel t cs = some (strTab ss, p)) : cs = ss.map fun s => Value.string (bstr s) := by
 cases fuel with
 | zero => simp [DataW.trod] at h
 | succ fuel =>
  simp only [DataW.trod, ht, hce, hct, Nat.mul_one] at h
  split at h
  ·rename_i hl
   obtain ⟨xs, hm, hx⟩ := Option.map_eq_some_iff.1 h
   have hxs : xs.map (·.1) = ss.map fun s => (DataW.lit (.string s) : DataW H) := by
    have := congrArg Prod.fst hx
    simpa [strTab] using this
   have hxl : xs.length = n := by simpa using Lib.mapM_length hm
   have hzl : ss.length = n := by
    have := congrArg List.length hxs
    simp at this
    omega
   apply List.ext_getElem?
   intro i
   by_cases hi : i < n
   ·obtain ⟨b, hb, hf⟩ := Lib.mapM_at hm i i (by simp [hi])
    obtain ⟨z, hc, rfl, _⟩ := DataW.trod_string he hf
    have h1 : cs[i]? = some (.string z) := by
     have := congrArg (·[0]?) hc
     simpa [List.getElem?_take, List.getElem?_drop] using this
    have h2 : (xs.map (·.1))[i]? = some (DataW.lit (.string z.data.toList) : DataW H) := by simp [hb]
    rw [hxs] at h2
    simp only [List.getElem?_map, Option.map_eq_some_iff, DataW.lit.injEq, Lit.string.injEq] at h2
    obtain ⟨z', hz', rfl⟩ := h2
    rw [h1, List.getElem?_map, hz']
    rfl
   ·rw [List.getElem?_eq_none (by omega), List.getElem?_eq_none (by simp; omega)]
  ·cases h
end Go.Proofs.YtmkddhkpeiajhaaGreatDoor
namespace Go.Proofs.YtmkddhkpeiajhaaGreatDoor
open Go.RowKit
theorem strs_of_laid {P : Program} {W : World} {name : String} {ss : List (List UInt8)} {rest : List (String × DataW Unit)} {ps : List MemPlace} {g : Nat} {t e : TypeId} {n : Nat}
  (hg : P.globalNamed name = some g) (hty : (P.globals[g]?).map (·.type) = some t) (ht : P.underlying t = some (.array n e)) (he : P.underlying e = some .string) (hce : P.cellsOf e = 1) (hct : P.cellsOf t = n)
  (h : DataW.LaidVars P W ((name, strTab ss) :: rest) ps) : ∀ (i : Nat) (s : List UInt8), ss[i]? = some s → W.cell? ⟨g, i, none⟩ = some (.string (bstr s)) := by
 obtain ⟨g', t', cs, fuel, p, q, hg', ht', hvar, hd, _, _⟩ := h
 obtain rfl := Option.some.inj (hg.symm.trans hg')
 obtain rfl := Option.some.inj (hty.symm.trans ht')
 have hcs := cells_of_strs ht he hce hct hd
 have hvar : W.var? P name = some (ss.map fun s => Value.string (bstr s)).toArray := by rw [hvar, ← hcs]
 intro i s hs
 have := World.var?_cell hg hvar i
 simpa [hs] using this
theorem seps_laid21 {W : World} (h : laidMetH Tryz.prog Rows.fieldPlaysRow.laid W) : SepsAt W := by
 obtain ⟨ps, ⟨g', t', cs, fuel, p, q, _, _, _, _, hrest, _⟩, _⟩ := (show laidMet Tryz.prog Rows.fieldPlaysRow.laid W from h)
 exact strs_of_laid (ss := seps10) (t := 84) (e := 9) (n := 10) (by kernel_rfl) (by kernel_rfl) Tryz.underlying84 Tryz.underlying9 (by kernel_rfl) (by kernel_rfl) hrest
end Go.Proofs.YtmkddhkpeiajhaaGreatDoor
