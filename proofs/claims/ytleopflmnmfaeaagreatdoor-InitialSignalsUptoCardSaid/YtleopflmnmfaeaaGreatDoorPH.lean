/-
A part of the proof that the statement InitialValues holds of the given program (second form, tied card): library contracts laid at this program.
-/
import Derived.Shelf.SlGeneric
import Derived.Shelf.SlicesE.Reverse
import Derived.Ground.SlgnProg
import Derived.Shelf.Strings.Trim
import Derived.Ground.NamesProg
import Derived.Shelf.Strings.SlTrimAsciiWalks
import Derived.Shelf.Strings.AsciiSet
import Derived.Shelf.Strings.Runes
import Derived.Shelf.Strings.Search2
import Derived.Lib.SlTrimSet
import Derived.Test.YtleopflmnmfaeaaGreatDoorProg
set_option autoImplicit false
set_option linter.unusedSimpArgs false
set_option linter.unusedVariables false
set_option linter.unnecessarySimpa false
section
namespace Go.Proofs
open Go.Shelf
def Tryz.revLay_ren : Go.Shelf.Ren := ⟨fun | 35 => 187 | n => n, fun | 22 => 69 | 23 => 170 | 3 => 3 | 4 => 4 | 0 => 0 | n => n, fun | n => n⟩
theorem Tryz.revLay : Go.Proofs.SlLaysE.n35 Tryz.prog Tryz.revLay_ren := {
 mixed := by kernel_rfl
 f35 := ⟨Tryz.f187.name, by decide, Tryz.func187.trans (congrArg some (by kernel_rfl))⟩
 t0 := Tryz.underlying0
 a0 := Tryz.isAgg0
 z0 := Tryz.sizeOf0
 v0 := Tryz.zeroValue0
 t3 := Tryz.underlying3
 a3 := Tryz.isAgg3
 z3 := Tryz.sizeOf3
 v3 := Tryz.zeroValue3
 t4 := Tryz.underlying4
 a4 := Tryz.isAgg4
 z4 := Tryz.sizeOf4
 v4 := Tryz.zeroValue4
 t22 := Tryz.underlying69
 a22 := Tryz.isAgg69
 z22 := Tryz.sizeOf69
 v22 := Tryz.zeroValue69
 a23 := Tryz.isAgg170
 z23 := Tryz.sizeOf170 }
def Tryz.layTrimLeft_ren : Go.Shelf.Ren := ⟨fun | 161 => 106 | 231 => 137 | 227 => 139 | 233 => 140 | 235 => 142 | 228 => 181 | 197 => 182 | 151 => 92 | 260 => 225 | 152 => 134 | 137 => 174 | 119 => 175 | 224 => 176 | 225 => 177 | 217 => 178 | 266 => 223 | n => n, fun | 9 => 9 | 4 => 4 | 3 => 3 | 5 => 5 | 117 => 225 | 116 => 224 | 0 => 0 | 124 => 228 | 105 => 266 | 21 => 21 | 119 => 347 | 46 => 172 | 139 => 350 | 138 => 349 | n => n, fun | 3 => 1 | 4 => 2 | n => n⟩
theorem Tryz.layTrimLeft : Go.Proofs.Lays.n161 Tryz.prog Tryz.layTrimLeft_ren := {
 mixed := by kernel_rfl
 f119 := Tryz.func175.trans (congrArg some (by kernel_rfl))
 f137 := Tryz.func174.trans (congrArg some (by kernel_rfl))
 f151 := Tryz.func92.trans (congrArg some (by kernel_rfl))
 f152 := Tryz.func134.trans (congrArg some (by kernel_rfl))
 f161 := Tryz.func106.trans (congrArg some (by kernel_rfl))
 f197 := Tryz.func182.trans (congrArg some (by kernel_rfl))
 f217 := Tryz.func178.trans (congrArg some (by kernel_rfl))
 f224 := Tryz.func176.trans (congrArg some (by kernel_rfl))
 f225 := Tryz.func177.trans (congrArg some (by kernel_rfl))
 f227 := Tryz.func139.trans (congrArg some (by kernel_rfl))
 f228 := Tryz.func181.trans (congrArg some (by kernel_rfl))
 f231 := Tryz.func137.trans (congrArg some (by kernel_rfl))
 f233 := Tryz.func140.trans (congrArg some (by kernel_rfl))
 f235 := Tryz.func142.trans (congrArg some (by kernel_rfl))
 f260 := Tryz.func225.trans (congrArg some (by kernel_rfl))
 f266 := Tryz.func223.trans (congrArg some (by kernel_rfl))
 t0 := Tryz.underlying0
 a0 := Tryz.isAgg0
 z0 := Tryz.sizeOf0
 v0 := Tryz.zeroValue0
 t3 := Tryz.underlying3
 a3 := Tryz.isAgg3
 z3 := Tryz.sizeOf3
 v3 := Tryz.zeroValue3
 t4 := Tryz.underlying4
 a4 := Tryz.isAgg4
 z4 := Tryz.sizeOf4
 v4 := Tryz.zeroValue4
 t5 := Tryz.underlying5
 a5 := Tryz.isAgg5
 z5 := Tryz.sizeOf5
 v5 := Tryz.zeroValue5
 t9 := Tryz.underlying9
 a9 := Tryz.isAgg9
 z9 := Tryz.sizeOf9
 v9 := Tryz.zeroValue9
 t21 := Tryz.underlying21
 a21 := Tryz.isAgg21
 z21 := Tryz.sizeOf21
 v21 := Tryz.zeroValue21
 t46 := Tryz.underlying172
 a46 := Tryz.isAgg172
 z46 := Tryz.sizeOf172
 v46 := Tryz.zeroValue172
 t105 := Tryz.underlying266
 a105 := Tryz.isAgg266
 z105 := Tryz.sizeOf266
 v105 := Tryz.zeroValue266
 t116 := Tryz.underlying224
 a116 := Tryz.isAgg224
 z116 := Tryz.sizeOf224
 t117 := Tryz.underlying225
 a117 := Tryz.isAgg225
 z117 := Tryz.sizeOf225
 v117 := Tryz.zeroValue225
 t119 := Tryz.underlying347
 a119 := Tryz.isAgg347
 z119 := Tryz.sizeOf347
 t124 := Tryz.underlying228
 a124 := Tryz.isAgg228
 z124 := Tryz.sizeOf228
 v124 := Tryz.zeroValue228
 t138 := Tryz.underlying349
 a138 := Tryz.isAgg349
 z138 := Tryz.sizeOf349
 v138 := Tryz.zeroValue349
 t139 := Tryz.underlying350
 a139 := Tryz.isAgg350
 z139 := Tryz.sizeOf350
 v139 := Tryz.zeroValue350
 g3 := by kernel_rfl
 g4 := by kernel_rfl }
def Tryz.layAscii_ren : Go.Shelf.Ren := ⟨fun | 227 => 139 | n => n, fun | 9 => 9 | 116 => 224 | 4 => 4 | 0 => 0 | 3 => 3 | 5 => 5 | n => n, fun | n => n⟩
theorem Tryz.layAscii : Go.Proofs.Lays.n227 Tryz.prog Tryz.layAscii_ren := {
 mixed := by kernel_rfl
 f227 := Tryz.func139.trans (congrArg some (by kernel_rfl))
 t0 := Tryz.underlying0
 a0 := Tryz.isAgg0
 z0 := Tryz.sizeOf0
 v0 := Tryz.zeroValue0
 t3 := Tryz.underlying3
 a3 := Tryz.isAgg3
 z3 := Tryz.sizeOf3
 v3 := Tryz.zeroValue3
 t4 := Tryz.underlying4
 a4 := Tryz.isAgg4
 z4 := Tryz.sizeOf4
 v4 := Tryz.zeroValue4
 t5 := Tryz.underlying5
 a5 := Tryz.isAgg5
 z5 := Tryz.sizeOf5
 v5 := Tryz.zeroValue5
 t9 := Tryz.underlying9
 a9 := Tryz.isAgg9
 z9 := Tryz.sizeOf9
 v9 := Tryz.zeroValue9
 t116 := Tryz.underlying224
 a116 := Tryz.isAgg224
 z116 := Tryz.sizeOf224 }
def Tryz.layLeft_ren : Go.Shelf.Ren := ⟨fun | 233 => 140 | 228 => 181 | n => n, fun | 9 => 9 | 124 => 228 | 3 => 3 | 4 => 4 | 5 => 5 | 0 => 0 | 116 => 224 | n => n, fun | n => n⟩
theorem Tryz.layLeft : Go.Proofs.Lays.n233 Tryz.prog Tryz.layLeft_ren := {
 mixed := by kernel_rfl
 f228 := Tryz.func181.trans (congrArg some (by kernel_rfl))
 f233 := Tryz.func140.trans (congrArg some (by kernel_rfl))
 t0 := Tryz.underlying0
 a0 := Tryz.isAgg0
 z0 := Tryz.sizeOf0
 v0 := Tryz.zeroValue0
 t3 := Tryz.underlying3
 a3 := Tryz.isAgg3
 z3 := Tryz.sizeOf3
 v3 := Tryz.zeroValue3
 t4 := Tryz.underlying4
 a4 := Tryz.isAgg4
 z4 := Tryz.sizeOf4
 v4 := Tryz.zeroValue4
 t5 := Tryz.underlying5
 a5 := Tryz.isAgg5
 z5 := Tryz.sizeOf5
 v5 := Tryz.zeroValue5
 t9 := Tryz.underlying9
 a9 := Tryz.isAgg9
 z9 := Tryz.sizeOf9
 v9 := Tryz.zeroValue9
 t116 := Tryz.underlying224
 a116 := Tryz.isAgg224
 z116 := Tryz.sizeOf224
 t124 := Tryz.underlying228
 a124 := Tryz.isAgg228
 z124 := Tryz.sizeOf228
 v124 := Tryz.zeroValue228 }
def Tryz.layRight_ren : Go.Shelf.Ren := ⟨fun | 234 => 141 | 228 => 181 | n => n, fun | 9 => 9 | 124 => 228 | 3 => 3 | 4 => 4 | 5 => 5 | 0 => 0 | 116 => 224 | n => n, fun | n => n⟩
theorem Tryz.layRight : Go.Proofs.Lays.n234 Tryz.prog Tryz.layRight_ren := {
 mixed := by kernel_rfl
 f228 := Tryz.func181.trans (congrArg some (by kernel_rfl))
 f234 := Tryz.func141.trans (congrArg some (by kernel_rfl))
 t0 := Tryz.underlying0
 a0 := Tryz.isAgg0
 z0 := Tryz.sizeOf0
 v0 := Tryz.zeroValue0
 t3 := Tryz.underlying3
 a3 := Tryz.isAgg3
 z3 := Tryz.sizeOf3
 v3 := Tryz.zeroValue3
 t4 := Tryz.underlying4
 a4 := Tryz.isAgg4
 z4 := Tryz.sizeOf4
 v4 := Tryz.zeroValue4
 t5 := Tryz.underlying5
 a5 := Tryz.isAgg5
 z5 := Tryz.sizeOf5
 v5 := Tryz.zeroValue5
 t9 := Tryz.underlying9
 a9 := Tryz.isAgg9
 z9 := Tryz.sizeOf9
 v9 := Tryz.zeroValue9
 t116 := Tryz.underlying224
 a116 := Tryz.isAgg224
 z116 := Tryz.sizeOf224
 t124 := Tryz.underlying228
 a124 := Tryz.isAgg228
 z124 := Tryz.sizeOf228
 v124 := Tryz.zeroValue228 }
def Tryz.layIndex_ren : Go.Shelf.Ren := ⟨fun | 219 => 135 | 217 => 178 | 225 => 177 | 224 => 176 | 267 => 179 | 266 => 223 | 314 => 224 | n => n, fun | 9 => 9 | 3 => 3 | 4 => 4 | 5 => 5 | 46 => 172 | 146 => 313 | 51 => 170 | n => n, fun | 1 => 0 | n => n⟩
theorem Tryz.layIndex : Go.Proofs.Lays.n219 Tryz.prog Tryz.layIndex_ren := {
 mixed := by kernel_rfl
 f217 := Tryz.func178.trans (congrArg some (by kernel_rfl))
 f219 := Tryz.func135.trans (congrArg some (by kernel_rfl))
 f224 := Tryz.func176.trans (congrArg some (by kernel_rfl))
 f225 := Tryz.func177.trans (congrArg some (by kernel_rfl))
 f266 := Tryz.func223.trans (congrArg some (by kernel_rfl))
 f267 := Tryz.func179.trans (congrArg some (by kernel_rfl))
 f314 := Tryz.func224.trans (congrArg some (by kernel_rfl))
 t3 := Tryz.underlying3
 a3 := Tryz.isAgg3
 z3 := Tryz.sizeOf3
 v3 := Tryz.zeroValue3
 t4 := Tryz.underlying4
 a4 := Tryz.isAgg4
 z4 := Tryz.sizeOf4
 v4 := Tryz.zeroValue4
 t5 := Tryz.underlying5
 a5 := Tryz.isAgg5
 z5 := Tryz.sizeOf5
 v5 := Tryz.zeroValue5
 t9 := Tryz.underlying9
 a9 := Tryz.isAgg9
 z9 := Tryz.sizeOf9
 v9 := Tryz.zeroValue9
 t46 := Tryz.underlying172
 a46 := Tryz.isAgg172
 z46 := Tryz.sizeOf172
 v46 := Tryz.zeroValue172
 t51 := Tryz.underlying170
 a51 := Tryz.isAgg170
 z51 := Tryz.sizeOf170
 v51 := Tryz.zeroValue170
 t146 := Tryz.underlying313
 a146 := Tryz.isAgg313
 z146 := Tryz.sizeOf313
 v146 := Tryz.zeroValue313
 g1 := by kernel_rfl }
def Tryz.layContains_ren : Go.Shelf.Ren := ⟨fun | 151 => 92 | 152 => 134 | 137 => 174 | 119 => 175 | 224 => 176 | 225 => 177 | 217 => 178 | 266 => 223 | n => n, fun | 9 => 9 | 21 => 21 | 4 => 4 | 3 => 3 | 5 => 5 | 0 => 0 | 46 => 172 | n => n, fun | n => n⟩
theorem Tryz.layContains : Go.Proofs.Lays.n151 Tryz.prog Tryz.layContains_ren := {
 mixed := by kernel_rfl
 f119 := Tryz.func175.trans (congrArg some (by kernel_rfl))
 f137 := Tryz.func174.trans (congrArg some (by kernel_rfl))
 f151 := Tryz.func92.trans (congrArg some (by kernel_rfl))
 f152 := Tryz.func134.trans (congrArg some (by kernel_rfl))
 f217 := Tryz.func178.trans (congrArg some (by kernel_rfl))
 f224 := Tryz.func176.trans (congrArg some (by kernel_rfl))
 f225 := Tryz.func177.trans (congrArg some (by kernel_rfl))
 f266 := Tryz.func223.trans (congrArg some (by kernel_rfl))
 t0 := Tryz.underlying0
 a0 := Tryz.isAgg0
 z0 := Tryz.sizeOf0
 v0 := Tryz.zeroValue0
 t3 := Tryz.underlying3
 a3 := Tryz.isAgg3
 z3 := Tryz.sizeOf3
 v3 := Tryz.zeroValue3
 t4 := Tryz.underlying4
 a4 := Tryz.isAgg4
 z4 := Tryz.sizeOf4
 v4 := Tryz.zeroValue4
 t5 := Tryz.underlying5
 a5 := Tryz.isAgg5
 z5 := Tryz.sizeOf5
 v5 := Tryz.zeroValue5
 t9 := Tryz.underlying9
 a9 := Tryz.isAgg9
 z9 := Tryz.sizeOf9
 v9 := Tryz.zeroValue9
 t21 := Tryz.underlying21
 a21 := Tryz.isAgg21
 z21 := Tryz.sizeOf21
 v21 := Tryz.zeroValue21
 t46 := Tryz.underlying172
 a46 := Tryz.isAgg172
 z46 := Tryz.sizeOf172
 v46 := Tryz.zeroValue172 }
end Go.Proofs
end
