import Derived.Shelf.Strings.Builder1
import Derived.Shelf.Strings.Builder2
import Derived.Shelf.Strings.OnBuilder
import Derived.Shelf.Strings.BuilderF
import Derived.Shelf.Strings.Builder2Cap
import Derived.Shelf.Strings.Search1
import Derived.Shelf.Strings.Search2
import Derived.Shelf.Strings.Search3
import Derived.Shelf.Strings.Count
import Derived.Shelf.LaysM
import Derived.Shelf.Strings.Shaped
import Derived.Shelf.Strings.Split
import Derived.Shelf.Strings.SplitShaped
import Derived.Test.YtmkddhkpeiajhaaGreatDoorProg
namespace Go.Proofs
open Go.Shelf
def Tryz.lays156_ren : Go.Shelf.Ren := ⟨fun | 156 => 61 | 165 => 75 | 166 => 76 | 169 => 77 | 240 => 94 | 241 => 95 | 276 => 107 | 277 => 108 | n => n, fun | 31 => 27 | 9 => 9 | 3 => 3 | 4 => 4 | 0 => 0 | 20 => 20 | 72 => 139 | 76 => 143 | 70 => 137 | 37 => 31 | 75 => 142 | 127 => 163 | 164 => 174 | 5 => 5 | 80 => 64 | n => n, fun | n => n⟩
theorem Tryz.lays156 : Go.Proofs.Lays.n156 Tryz.prog Tryz.lays156_ren := {
 mixed := by kernel_rfl
 f156 := Tryz.func61.trans (congrArg some (by kernel_rfl))
 f165 := Tryz.func75.trans (congrArg some (by kernel_rfl))
 f166 := Tryz.func76.trans (congrArg some (by kernel_rfl))
 f169 := Tryz.func77.trans (congrArg some (by kernel_rfl))
 f240 := Tryz.func94.trans (congrArg some (by kernel_rfl))
 f241 := Tryz.func95.trans (congrArg some (by kernel_rfl))
 f276 := Tryz.func107.trans (congrArg some (by kernel_rfl))
 f277 := Tryz.func108.trans (congrArg some (by kernel_rfl))
 t0 := Tryz.underlying0
 a0 := Tryz.isAgg0
 z0 := Tryz.sizeOf0
 v0 := Tryz.zeroValue0
 t3 := Tryz.underlying3
 a3 := Tryz.isAgg3
 z3 := Tryz.sizeOf3
 v3 := Tryz.zeroValue3
 t4 := Tryz.underlying4
 a4 := Tryz.isAgg4
 z4 := Tryz.sizeOf4
 v4 := Tryz.zeroValue4
 t9 := Tryz.underlying9
 a9 := Tryz.isAgg9
 z9 := Tryz.sizeOf9
 v9 := Tryz.zeroValue9
 t20 := Tryz.underlying20
 a20 := Tryz.isAgg20
 z20 := Tryz.sizeOf20
 v20 := Tryz.zeroValue20
 t31 := Tryz.underlying27
 a31 := Tryz.isAgg27
 z31 := Tryz.sizeOf27
 v31 := Tryz.zeroValue27
 t37 := Tryz.underlying31
 a37 := Tryz.isAgg31
 z37 := Tryz.sizeOf31
 v37 := Tryz.zeroValue31
 t70 := Tryz.underlying137
 a70 := Tryz.isAgg137
 z70 := Tryz.sizeOf137
 v70 := Tryz.zeroValue137
 t72 := Tryz.underlying139
 a72 := Tryz.isAgg139
 z72 := Tryz.sizeOf139
 v72 := Tryz.zeroValue139
 t75 := Tryz.underlying142
 a75 := Tryz.isAgg142
 z75 := Tryz.sizeOf142
 v75 := Tryz.zeroValue142
 t76 := Tryz.underlying143
 a76 := Tryz.isAgg143
 z76 := Tryz.sizeOf143
 v76 := Tryz.zeroValue143
 t127 := Tryz.underlying163
 a127 := Tryz.isAgg163
 z127 := Tryz.sizeOf163
 v127 := Tryz.zeroValue163
 t164 := Tryz.underlying174
 a164 := Tryz.isAgg174
 z164 := Tryz.sizeOf174
 v164 := Tryz.zeroValue174 }
theorem Tryz.Builder_Extra_156 : Builder.Extra Tryz.prog Tryz.lays156_ren := {
 sizeBuilder := by kernel_rfl
 liesBuilder := by kernel_rfl
 t5 := Tryz.underlying5
 a5 := Tryz.isAgg5
 z5 := Tryz.sizeOf5
 v5 := Tryz.zeroValue5
 infoByte := by kernel_rfl
 cellsByte := by kernel_rfl
 sizeByte := by kernel_rfl
 neB5 := by decide }
open Go.RowKit in
theorem Tryz.strings_Join_none (a : Option Addr) (c : Nat) (sep : ByteArray) (w : World) :
  Calls Tryz.prog 61 #[.slice a 0 c, .string sep] w fun e w' => e = .returned (.string ⟨#[]⟩) ∧ w' = w := Any.strings_Join_none Tryz.lays156 Tryz.Builder_Extra_156 a c sep w
open Go.RowKit in
theorem Tryz.strings_Join (bk o c : Nat) (xs : List ByteArray) (sep : ByteArray) (w : World) (hcells : ∀ (j : Nat) x, xs[j]? = some x → w.cell? ⟨bk, o + j, none⟩ = some (.string x)) (hbk : bk < w.heap.size) (hN : xs.length ≤ 140737488355328) (hcap : xs.length ≤ c) (hlen : (Lib.join (xs.map (·.data.toList)) sep.data.toList).length ≤ 140737488355328) :
  Calls Tryz.prog 61 #[.slice (some ⟨bk, o, none⟩) xs.length c, .string sep] w fun e w' => e = .returned (.string ⟨(Lib.join (xs.map (·.data.toList)) sep.data.toList).toArray⟩) ∧ Below w.heap.size w w' := Any.strings_Join Tryz.lays156 Tryz.Builder_Extra_156 bk o c xs sep w hcells hbk hN hcap hlen
def Tryz.lays221_ren : Go.Shelf.Ren := ⟨fun | 221 => 63 | 268 => 78 | 138 => 79 | 143 => 80 | 195 => 96 | 197 => 97 | 218 => 98 | 219 => 99 | 260 => 109 | 217 => 110 | 225 => 111 | 224 => 112 | 267 => 113 | 266 => 123 | 314 => 124 | n => n, fun | 9 => 9 | 3 => 3 | 31 => 27 | 4 => 4 | 0 => 0 | 105 => 165 | 21 => 21 | 5 => 5 | 46 => 87 | 119 => 184 | 139 => 187 | 138 => 186 | 146 => 189 | 51 => 188 | n => n, fun | 1 => 1 | 3 => 2 | 4 => 3 | n => n⟩
def Tryz.lays146_ren : Go.Shelf.Ren := ⟨fun | 146 => 54 | 221 => 63 | 268 => 78 | 138 => 79 | 143 => 80 | 195 => 96 | 197 => 97 | 218 => 98 | 219 => 99 | 260 => 109 | 217 => 110 | 225 => 111 | 224 => 112 | 267 => 113 | 266 => 123 | 314 => 124 | n => n, fun | 9 => 9 | 31 => 27 | 3 => 3 | 4 => 4 | 0 => 0 | 105 => 165 | 21 => 21 | 5 => 5 | 46 => 87 | 119 => 184 | 139 => 187 | 138 => 186 | 146 => 189 | 51 => 188 | n => n, fun | 1 => 1 | 3 => 2 | 4 => 3 | n => n⟩
theorem Tryz.lays146 : Go.Proofs.Lays.n146 Tryz.prog Tryz.lays146_ren := {
 mixed := by kernel_rfl
 f138 := Tryz.func79.trans (congrArg some (by kernel_rfl))
 f143 := Tryz.func80.trans (congrArg some (by kernel_rfl))
 f146 := Tryz.func54.trans (congrArg some (by kernel_rfl))
 f195 := Tryz.func96.trans (congrArg some (by kernel_rfl))
 f197 := Tryz.func97.trans (congrArg some (by kernel_rfl))
 f217 := Tryz.func110.trans (congrArg some (by kernel_rfl))
 f218 := Tryz.func98.trans (congrArg some (by kernel_rfl))
 f219 := Tryz.func99.trans (congrArg some (by kernel_rfl))
 f221 := Tryz.func63.trans (congrArg some (by kernel_rfl))
 f224 := Tryz.func112.trans (congrArg some (by kernel_rfl))
 f225 := Tryz.func111.trans (congrArg some (by kernel_rfl))
 f260 := Tryz.func109.trans (congrArg some (by kernel_rfl))
 f266 := Tryz.func123.trans (congrArg some (by kernel_rfl))
 f267 := Tryz.func113.trans (congrArg some (by kernel_rfl))
 f268 := Tryz.func78.trans (congrArg some (by kernel_rfl))
 f314 := Tryz.func124.trans (congrArg some (by kernel_rfl))
 t0 := Tryz.underlying0
 a0 := Tryz.isAgg0
 z0 := Tryz.sizeOf0
 v0 := Tryz.zeroValue0
 t3 := Tryz.underlying3
 a3 := Tryz.isAgg3
 z3 := Tryz.sizeOf3
 v3 := Tryz.zeroValue3
 t4 := Tryz.underlying4
 a4 := Tryz.isAgg4
 z4 := Tryz.sizeOf4
 v4 := Tryz.zeroValue4
 t5 := Tryz.underlying5
 a5 := Tryz.isAgg5
 z5 := Tryz.sizeOf5
 v5 := Tryz.zeroValue5
 t9 := Tryz.underlying9
 a9 := Tryz.isAgg9
 z9 := Tryz.sizeOf9
 v9 := Tryz.zeroValue9
 t21 := Tryz.underlying21
 a21 := Tryz.isAgg21
 z21 := Tryz.sizeOf21
 v21 := Tryz.zeroValue21
 t31 := Tryz.underlying27
 a31 := Tryz.isAgg27
 z31 := Tryz.sizeOf27
 v31 := Tryz.zeroValue27
 t46 := Tryz.underlying87
 a46 := Tryz.isAgg87
 z46 := Tryz.sizeOf87
 v46 := Tryz.zeroValue87
 t51 := Tryz.underlying188
 a51 := Tryz.isAgg188
 z51 := Tryz.sizeOf188
 v51 := Tryz.zeroValue188
 t105 := Tryz.underlying165
 a105 := Tryz.isAgg165
 z105 := Tryz.sizeOf165
 v105 := Tryz.zeroValue165
 t119 := Tryz.underlying184
 a119 := Tryz.isAgg184
 z119 := Tryz.sizeOf184
 t138 := Tryz.underlying186
 a138 := Tryz.isAgg186
 z138 := Tryz.sizeOf186
 v138 := Tryz.zeroValue186
 t139 := Tryz.underlying187
 a139 := Tryz.isAgg187
 z139 := Tryz.sizeOf187
 v139 := Tryz.zeroValue187
 t146 := Tryz.underlying189
 a146 := Tryz.isAgg189
 z146 := Tryz.sizeOf189
 v146 := Tryz.zeroValue189
 g1 := by kernel_rfl
 g3 := by kernel_rfl
 g4 := by kernel_rfl }
open Go.RowKit Go.Lib in
theorem Tryz.strings_Split (s sep : ByteArray) (m : Int) (w : World) (hs : s.size < 4294967281) (hm : w.cell? ⟨1, 0, none⟩ = some (.int .i64 m)) (h1 : 1 ≤ sep.size) :
  Calls Tryz.prog 54 #[.string s, .string sep] w fun e w' =>
   e = .returned (.slice (some ⟨w.heap.size, 0, none⟩) (Lib.countB s sep + 1) (Lib.countB s sep + 1)) ∧ w' = w.alloc (.cells ((Lib.splitB sep 0 (Lib.countB s sep) s).map Value.string).toArray 9) := Any.strings_Split Tryz.lays146 (by kernel_rfl) s sep m w hs hm h1
def Tryz.laysM146_ren : Go.Shelf.Ren := ⟨fun | 146 => 54 | 221 => 63 | 268 => 78 | 138 => 79 | 143 => 80 | 195 => 96 | 197 => 97 | 218 => 98 | 219 => 99 | 260 => 109 | 217 => 110 | 225 => 111 | 224 => 112 | 267 => 113 | 266 => 123 | 314 => 124 | n => n, fun | 9 => 9 | 31 => 27 | 3 => 3 | 4 => 4 | 0 => 0 | 105 => 165 | 21 => 21 | 5 => 5 | 46 => 87 | 119 => 184 | 139 => 187 | 138 => 186 | 146 => 189 | 51 => 188 | n => n, fun | 1 => 1 | 3 => 2 | 4 => 3 | n => n⟩
theorem Tryz.laysM146 : Go.Proofs.LaysM.n146 Tryz.prog Tryz.laysM146_ren := {
 mixed := by kernel_rfl
 f138 := Tryz.func79.trans (congrArg some (by kernel_rfl))
 f143 := Tryz.func80.trans (congrArg some (by kernel_rfl))
 f146 := Tryz.func54.trans (congrArg some (by kernel_rfl))
 f195 := Tryz.func96.trans (congrArg some (by kernel_rfl))
 f197 := Tryz.func97.trans (congrArg some (by kernel_rfl))
 f217 := Tryz.func110.trans (congrArg some (by kernel_rfl))
 f218 := Tryz.func98.trans (congrArg some (by kernel_rfl))
 f219 := Tryz.func99.trans (congrArg some (by kernel_rfl))
 f221 := Tryz.func63.trans (congrArg some (by kernel_rfl))
 f224 := Tryz.func112.trans (congrArg some (by kernel_rfl))
 f225 := Tryz.func111.trans (congrArg some (by kernel_rfl))
 f260 := Tryz.func109.trans (congrArg some (by kernel_rfl))
 f266 := Tryz.func123.trans (congrArg some (by kernel_rfl))
 f267 := Tryz.func113.trans (congrArg some (by kernel_rfl))
 f268 := Tryz.func78.trans (congrArg some (by kernel_rfl))
 f314 := Tryz.func124.trans (congrArg some (by kernel_rfl))
 t0 := Tryz.underlying0
 a0 := Tryz.isAgg0
 z0 := Tryz.sizeOf0
 v0 := Tryz.zeroValue0
 t3 := Tryz.underlying3
 a3 := Tryz.isAgg3
 z3 := Tryz.sizeOf3
 v3 := Tryz.zeroValue3
 t4 := Tryz.underlying4
 a4 := Tryz.isAgg4
 z4 := Tryz.sizeOf4
 v4 := Tryz.zeroValue4
 t5 := Tryz.underlying5
 a5 := Tryz.isAgg5
 z5 := Tryz.sizeOf5
 v5 := Tryz.zeroValue5
 t9 := Tryz.underlying9
 a9 := Tryz.isAgg9
 z9 := Tryz.sizeOf9
 v9 := Tryz.zeroValue9
 t21 := Tryz.underlying21
 a21 := Tryz.isAgg21
 z21 := Tryz.sizeOf21
 v21 := Tryz.zeroValue21
 t31 := Tryz.underlying27
 a31 := Tryz.isAgg27
 z31 := Tryz.sizeOf27
 v31 := Tryz.zeroValue27
 t46 := Tryz.underlying87
 a46 := Tryz.isAgg87
 z46 := Tryz.sizeOf87
 v46 := Tryz.zeroValue87
 t51 := Tryz.underlying188
 a51 := Tryz.isAgg188
 z51 := Tryz.sizeOf188
 v51 := Tryz.zeroValue188
 t105 := Tryz.underlying165
 a105 := Tryz.isAgg165
 z105 := Tryz.sizeOf165
 v105 := Tryz.zeroValue165
 t119 := Tryz.underlying184
 a119 := Tryz.isAgg184
 z119 := Tryz.sizeOf184
 t138 := Tryz.underlying186
 a138 := Tryz.isAgg186
 z138 := Tryz.sizeOf186
 v138 := Tryz.zeroValue186
 t139 := Tryz.underlying187
 a139 := Tryz.isAgg187
 z139 := Tryz.sizeOf187
 v139 := Tryz.zeroValue187
 t146 := Tryz.underlying189
 a146 := Tryz.isAgg189
 z146 := Tryz.sizeOf189
 v146 := Tryz.zeroValue189
 g1 := by kernel_rfl
 g3 := by kernel_rfl
 g4 := by kernel_rfl
 i0 := by kernel_rfl
 i3 := by kernel_rfl
 i4 := by kernel_rfl
 i5 := by kernel_rfl
 i9 := by kernel_rfl
 i21 := by kernel_rfl
 i31 := by kernel_rfl
 i46 := by kernel_rfl
 i51 := by kernel_rfl
 i105 := by kernel_rfl
 i138 := by kernel_rfl
 i139 := by kernel_rfl
 i146 := by kernel_rfl
 m1 := by kernel_rfl
 s1_3 := fun w h => Go.Proofs.cell_of_shapedOpen_int (zero := #[.int .i64 0]) (t := 3) h (of_decide_eq_true (by kernel_rfl)) (by kernel_rfl) rfl (by kernel_rfl) (by kernel_rfl) Tryz.underlying3
 m3 := by kernel_rfl
 m4 := by kernel_rfl }
end Go.Proofs
