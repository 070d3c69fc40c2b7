/-
A part of the proof that the statement InitialValues holds of the given program (second form, tied card): summaries of calls of the example.
-/
import Derived.Test.YtleopflmnmfaeaaGreatDoorW0
set_option autoImplicit false
set_option linter.unusedSimpArgs false
set_option linter.unusedVariables false
set_option linter.unnecessarySimpa false
section
set_option maxRecDepth 100000
set_option maxHeartbeats 100000000
namespace Go.Kr
open Go.Proofs.Tryz
noncomputable section
def e44 : Ent := ⟨[.agg #[.string ⟨#[118, 97, 114]⟩, .string ⟨#[120]⟩, .int .i64 0, .slice none 0 0]], [], .agg #[.string ⟨#[118, 97, 114]⟩, .string ⟨#[120]⟩, .int .i64 0, .slice none 0 0], [], 2⟩
theorem k44 : EntOk P 208 e44 := eO [] nO 1 (by kernel_rfl) rfl
def e45 : Ent := ⟨[.agg #[.string ⟨#[110, 101, 103]⟩, .string ⟨#[]⟩, .int .i64 0, sl 0 0 1 1]], [(ow #[.string ⟨#[118, 97, 114]⟩, .string ⟨#[120]⟩, .int .i64 0, .slice none 0 0] 114)], .agg #[.string ⟨#[110, 101, 103]⟩, .string ⟨#[]⟩, .int .i64 0, sl 7 0 1 c4], [(7, some (ow #[.string ⟨#[118, 97, 114]⟩, .string ⟨#[120]⟩, .int .i64 0, .slice none 0 0] 114))], 8⟩
theorem k45 : EntOk P 208 e45 := eO [(208, e44)] (cO k44 nO) 1 (by kernel_rfl) rfl
def e46 : Ent := ⟨[.agg #[.string ⟨#[110, 101, 103]⟩, .string ⟨#[]⟩, .int .i64 0, sl 0 0 1 c4]], [(ow #[.string ⟨#[118, 97, 114]⟩, .string ⟨#[120]⟩, .int .i64 0, .slice none 0 0] 114)], .bool false, [], 5⟩
theorem k46 : EntOk P 191 e46 := eO [] nO 1 (by kernel_rfl) rfl
def e47 : Ent := ⟨[.agg #[.string ⟨#[110, 101, 103]⟩, .string ⟨#[]⟩, .int .i64 0, sl 0 0 1 c4]], [(ow #[.string ⟨#[118, 97, 114]⟩, .string ⟨#[120]⟩, .int .i64 0, .slice none 0 0] 114)], .int .i64 2, [], 5⟩
theorem k47 : EntOk P 192 e47 := eO [] nO 1 (by kernel_rfl) rfl
def e48 : Ent := ⟨[.agg #[sl 0 0 1 1, sl 1 0 1 c9, .slice none 0 0, .slice none 0 0]], [fz, (ow #[.string ⟨#[101]⟩, .string ⟨#[118, 97, 114]⟩, .string ⟨#[120]⟩, .int .i64 1, .slice none 0 0, .string ⟨#[110, 101, 103]⟩, .string ⟨#[]⟩, .int .i64 0, sl 2 0 1 c4] 118), (ow #[.string ⟨#[118, 97, 114]⟩, .string ⟨#[120]⟩, .int .i64 0, .slice none 0 0] 114)], .bool false, [], 23⟩
theorem k48 : EntOk P 151 e48 := eO [(192, e47), (191, e46), (192, e2), (191, e1), (188, e0)] (cO k47 (cO k46 (cO k2 (cO k1 (cO k0 nO))))) 1 (by kernel_rfl) rfl
def e49 : Ent := ⟨[.agg #[.string ⟨#[118, 97, 114]⟩, .string ⟨#[120]⟩, .int .i64 1, .slice none 0 0], .func (.func 212) #[] #[]], [], .agg #[.string ⟨#[118, 97, 114]⟩, .string ⟨#[120]⟩, .int .i64 1, .slice none 0 0], [], 4⟩
theorem k49 : EntOk P 249 e49 := eO [] nO 1 (by kernel_rfl) rfl
def e50 : Ent := ⟨[.agg #[.string ⟨#[118, 97, 114]⟩, .string ⟨#[120]⟩, .int .i64 0, .slice none 0 0], .func (.func 212) #[] #[]], [], .agg #[.string ⟨#[118, 97, 114]⟩, .string ⟨#[120]⟩, .int .i64 0, .slice none 0 0], [], 4⟩
theorem k50 : EntOk P 249 e50 := eO [] nO 1 (by kernel_rfl) rfl
def e51 : Ent := ⟨[.agg #[.string ⟨#[110, 101, 103]⟩, .string ⟨#[]⟩, .int .i64 0, sl 0 0 1 c4], .func (.func 212) #[] #[]], [(ow #[.string ⟨#[118, 97, 114]⟩, .string ⟨#[120]⟩, .int .i64 0, .slice none 0 0] 114)], .agg #[.string ⟨#[110, 101, 103]⟩, .string ⟨#[]⟩, .int .i64 0, sl 9 0 1 c4], [(9, some (ow #[.string ⟨#[118, 97, 114]⟩, .string ⟨#[120]⟩, .int .i64 0, .slice none 0 0] 114))], 12⟩
theorem k51 : EntOk P 249 e51 := eO [(249, e50)] (cO k50 nO) 1 (by kernel_rfl) rfl
def e52 : Ent := ⟨[sl 0 0 1 c9, .pointer (some ⟨1, 0, none⟩)], [(ow #[.string ⟨#[101]⟩, .string ⟨#[118, 97, 114]⟩, .string ⟨#[120]⟩, .int .i64 1, .slice none 0 0, .string ⟨#[110, 101, 103]⟩, .string ⟨#[]⟩, .int .i64 0, sl 2 0 1 c4] 118), (ow #[.func (.func 212) #[] #[]] 295), (ow #[.string ⟨#[118, 97, 114]⟩, .string ⟨#[120]⟩, .int .i64 0, .slice none 0 0] 114)], sl 43 0 1 c9, [(43, some (ow #[.string ⟨#[101]⟩, .string ⟨#[118, 97, 114]⟩, .string ⟨#[120]⟩, .int .i64 1, .slice none 0 0, .string ⟨#[110, 101, 103]⟩, .string ⟨#[]⟩, .int .i64 0, sl 36 0 1 c4] 118)), (36, some (ow #[.string ⟨#[118, 97, 114]⟩, .string ⟨#[120]⟩, .int .i64 0, .slice none 0 0] 114))], 47⟩
theorem k52 : EntOk P 248 e52 := eO [(249, e51), (249, e49)] (cO k51 (cO k49 nO)) 1 (by kernel_rfl) rfl
def e53 : Ent := ⟨[.slice none 0 0, .pointer (some ⟨0, 0, none⟩)], [fz], .slice none 0 0, [], 1⟩
theorem k53 : EntOk P 248 e53 := eO [] nO 1 (by kernel_rfl) rfl
def e54 : Ent := ⟨[.slice none 0 0, .func (.func 246) #[] #[.pointer (some ⟨0, 0, none⟩)]], [fz], .tuple #[], [], 1⟩
theorem k54 : EntOk P 245 e54 := eO [] nO 1 (by kernel_rfl) rfl
def e55 : Ent := ⟨[.agg #[sl 0 0 1 c7, sl 1 0 1 c9, .slice none 0 0, .slice none 0 0]], [fz, (ow #[.string ⟨#[101]⟩, .string ⟨#[118, 97, 114]⟩, .string ⟨#[120]⟩, .int .i64 1, .slice none 0 0, .string ⟨#[110, 101, 103]⟩, .string ⟨#[]⟩, .int .i64 0, sl 2 0 1 c4] 118), (ow #[.string ⟨#[118, 97, 114]⟩, .string ⟨#[120]⟩, .int .i64 0, .slice none 0 0] 114)], .bool false, [], 23⟩
theorem k55 : EntOk P 151 e55 := eO [(192, e47), (191, e46), (192, e2), (191, e1), (188, e0)] (cO k47 (cO k46 (cO k2 (cO k1 (cO k0 nO))))) 1 (by kernel_rfl) rfl
def e56 : Ent := ⟨[.agg #[.string ⟨#[101]⟩, .string ⟨#[118, 97, 114]⟩, .string ⟨#[120]⟩, .int .i64 1, .slice none 0 0, .string ⟨#[110, 101, 103]⟩, .string ⟨#[]⟩, .int .i64 0, sl 0 0 1 c4]], [fz], .string ⟨#[101]⟩, [], 2⟩
theorem k56 : EntOk P 196 e56 := eO [] nO 1 (by kernel_rfl) rfl
def e57 : Ent := ⟨[.agg #[.string ⟨#[110, 101, 103]⟩, .string ⟨#[]⟩, .int .i64 0, sl 0 0 1 c4]], [(ow #[.string ⟨#[118, 97, 114]⟩, .string ⟨#[120]⟩, .int .i64 0, .slice none 0 0] 114)], .bool true, [], 40⟩
theorem k57 : EntOk P 232 e57 := eO [(232, e25), (259, e24)] (cO k25 (cO k24 nO)) 1 (by kernel_rfl) rfl
def e58 : Ent := ⟨[.agg #[sl 0 0 1 c7, sl 1 0 1 c9, .slice none 0 0, .slice none 0 0]], [(ow #[.string ⟨#[120]⟩, .int .i64 0, .int .i64 0, .string ⟨#[]⟩, .string ⟨#[49]⟩, .bool true, .string ⟨#[]⟩] 59), (ow #[.string ⟨#[101]⟩, .string ⟨#[118, 97, 114]⟩, .string ⟨#[120]⟩, .int .i64 1, .slice none 0 0, .string ⟨#[110, 101, 103]⟩, .string ⟨#[]⟩, .int .i64 0, sl 2 0 1 c4] 118), (ow #[.string ⟨#[118, 97, 114]⟩, .string ⟨#[120]⟩, .int .i64 0, .slice none 0 0] 114)], .bool true, [], 160⟩
theorem k58 : EntOk P 152 e58 := eO [(232, e57), (196, e56), (265, e23), (232, e22), (201, e20), (197, e10), (51, e9), (51, e7), (194, e6)] (cO k57 (cO k56 (cO k23 (cO k22 (cO k20 (cO k10 (cO k9 (cO k7 (cO k6 nO))))))))) 1 (by kernel_rfl) rfl
def e59 : Ent := ⟨[.agg #[.string ⟨#[120]⟩, .int .i64 0, .int .i64 0, .string ⟨#[]⟩, .string ⟨#[49]⟩, .bool true, .string ⟨#[]⟩]], [], .agg #[.bool false, sl 9 0 1 c1, .bool false, sl 19 0 1 c1, .bool false, .bool false], [(9, some (ow #[.int .u32 1] 170)), (19, some (ow #[.int .u32 1] 170))], 35⟩
theorem k59 : EntOk P 121 e59 := eO [(120, e18)] (cO k18 nO) 1 (by kernel_rfl) rfl
def e60 : Ent := ⟨[.int .i64 0], [], .agg #[.bool false, .slice none 0 0], [], 2⟩
theorem k60 : EntOk P 54 e60 := eO [] nO 1 (by kernel_rfl) rfl
def e61 : Ent := ⟨[.int .i64 0], [], .agg #[.bool false, .slice none 0 0, .bool false, sl 6 0 1 c1], [(6, some (ow #[.int .u32 1] 170))], 7⟩
theorem k61 : EntOk P 59 e61 := eO [(54, e60), (54, e12)] (cO k60 (cO k12 nO)) 1 (by kernel_rfl) rfl
def e62 : Ent := ⟨[.agg #[.string ⟨#[110, 101, 103]⟩, .string ⟨#[]⟩, .int .i64 0, sl 0 0 1 c4]], [fz], .agg #[.string ⟨#[]⟩, .int .i64 0, .bool false], [], 3⟩
theorem k62 : EntOk P 157 e62 := eO [] nO 1 (by kernel_rfl) rfl
def e63 : Ent := ⟨[.int .i64 1], [], .agg #[.bool false, sl 4 0 1 c1, .bool false, sl 8 0 1 c1], [(4, some (ow #[.int .u32 1] 170)), (8, some (ow #[.int .u32 1] 170))], 9⟩
theorem k63 : EntOk P 59 e63 := eO [(54, e12)] (cO k12 nO) 1 (by kernel_rfl) rfl
def e64 : Ent := ⟨[.agg #[.bool false, sl 0 0 1 c1]], [(ow #[.int .u32 1] 170)], .bool true, [], 2⟩
theorem k64 : EntOk P 58 e64 := eO [] nO 1 (by kernel_rfl) rfl
def e65 : Ent := ⟨[.slice none 0 0, sl 0 0 1 c1], [(ow #[.int .u32 1] 170)], sl 1 0 2 2, [(1, some (ow #[.int .u32 1, .int .u32 0] 170))], 4⟩
theorem k65 : EntOk P 148 e65 := eO [] nO 1 (by kernel_rfl) rfl
def e66 : Ent := ⟨[sl 0 0 2 2, .bool false], [(ow #[.int .u32 1, .int .u32 0] 170)], .agg #[.bool false, sl 0 0 1 2], [], 2⟩
theorem k66 : EntOk P 96 e66 := eO [] nO 1 (by kernel_rfl) rfl
def e67 : Ent := ⟨[.agg #[.bool false, .slice none 0 0], .agg #[.bool false, sl 0 0 1 c1]], [(ow #[.int .u32 1] 170)], .agg #[.bool false, sl 12 0 1 2], [(12, some (ow #[.int .u32 1, .int .u32 0] 170))], 24⟩
theorem k67 : EntOk P 104 e67 := eO [(96, e66), (148, e65)] (cO k66 (cO k65 nO)) 1 (by kernel_rfl) rfl
def e68 : Ent := ⟨[.agg #[.bool false, .slice none 0 0, .bool false, sl 0 0 1 c1], .agg #[.bool false, sl 1 0 1 c1, .bool false, sl 2 0 1 c1]], [(ow #[.int .u32 1] 170), (ow #[.int .u32 1] 170), (ow #[.int .u32 1] 170)], .agg #[.bool false, sl 27 0 1 2, .bool false, sl 0 0 1 c1], [(27, some (ow #[.int .u32 1, .int .u32 0] 170))], 47⟩
theorem k68 : EntOk P 61 e68 := eO [(104, e67), (58, e64)] (cO k67 (cO k64 nO)) 1 (by kernel_rfl) rfl
def e69 : Ent := ⟨[sl 0 0 1 c1, .bool true], [(ow #[.int .u32 1] 170)], .agg #[.bool true, sl 0 0 1 c1], [], 2⟩
theorem k69 : EntOk P 96 e69 := eO [] nO 1 (by kernel_rfl) rfl
def e70 : Ent := ⟨[.agg #[.bool false, sl 0 0 1 c1]], [(ow #[.int .u32 1] 170)], .agg #[.bool true, sl 0 0 1 c1], [], 4⟩
theorem k70 : EntOk P 133 e70 := eO [(96, e69)] (cO k69 nO) 1 (by kernel_rfl) rfl
def e71 : Ent := ⟨[.agg #[.bool false, sl 0 0 1 c1, .bool false, sl 1 0 1 c1]], [(ow #[.int .u32 1] 170), fz], .agg #[.bool true, sl 0 0 1 c1, .bool false, sl 1 0 1 c1], [], 19⟩
theorem k71 : EntOk P 90 e71 := eO [(133, e70)] (cO k70 nO) 1 (by kernel_rfl) rfl
def e72 : Ent := ⟨[.agg #[.bool true, sl 0 0 1 c1]], [(ow #[.int .u32 1] 170)], .agg #[.bool false, sl 0 0 1 c1], [], 4⟩
theorem k72 : EntOk P 133 e72 := eO [(96, e11)] (cO k11 nO) 1 (by kernel_rfl) rfl
def e73 : Ent := ⟨[.agg #[.bool true, sl 0 0 1 c1, .bool false, sl 1 0 1 c1]], [(ow #[.int .u32 1] 170), fz], .agg #[.bool false, sl 0 0 1 c1, .bool false, sl 1 0 1 c1], [], 19⟩
theorem k73 : EntOk P 90 e73 := eO [(133, e72)] (cO k72 nO) 1 (by kernel_rfl) rfl
def e74 : Ent := ⟨[.slice none 0 0, .bool true], [], .agg #[.bool false, .slice none 0 0], [], 1⟩
theorem k74 : EntOk P 96 e74 := eO [] nO 1 (by kernel_rfl) rfl
def e75 : Ent := ⟨[.agg #[.bool false, .slice none 0 0]], [], .agg #[.bool false, .slice none 0 0], [], 3⟩
theorem k75 : EntOk P 133 e75 := eO [(96, e74)] (cO k74 nO) 1 (by kernel_rfl) rfl
def e76 : Ent := ⟨[.agg #[.bool false, .slice none 0 0, .bool false, sl 0 0 1 c1]], [fz], .agg #[.bool false, .slice none 0 0, .bool false, sl 0 0 1 c1], [], 18⟩
theorem k76 : EntOk P 90 e76 := eO [(133, e75)] (cO k75 nO) 1 (by kernel_rfl) rfl
def e77 : Ent := ⟨[.agg #[.map (some 0), .pointer (some ⟨1, 0, none⟩), .map (some 2)], .agg #[.string ⟨#[101]⟩, .string ⟨#[118, 97, 114]⟩, .string ⟨#[120]⟩, .int .i64 1, .slice none 0 0, .string ⟨#[110, 101, 103]⟩, .string ⟨#[]⟩, .int .i64 0, sl 3 0 1 c4]], [fz, fz, ⟨true, .map #[⟨.agg #[.string ⟨#[120]⟩, .int .i64 0, .bool false], .int .i64 0, 0⟩, ⟨.agg #[.string ⟨#[120]⟩, .int .i64 1, .bool false], .int .i64 1, 1⟩] 2⟩, (ow #[.string ⟨#[118, 97, 114]⟩, .string ⟨#[120]⟩, .int .i64 0, .slice none 0 0] 114)], .tuple #[.agg #[sl 8 0 2 2, .bool false, .slice none 0 0, .bool false, sl 18 0 1 c1], .int .i64 0], [(8, some (ow #[.bool false, sl 408 0 1 2, .bool false, sl 37 0 1 c1, .bool false, sl 213 0 1 2, .bool false, sl 52 0 1 c1] 73)), (408, some (ow #[.int .u32 1, .int .u32 0] 170)), (37, some (ow #[.int .u32 1] 170)), (213, some (ow #[.int .u32 1, .int .u32 0] 170)), (52, some (ow #[.int .u32 1] 170)), (18, some (ow #[.int .u32 1] 170))], 449⟩
theorem k77 : EntOk P 160 e77 := eO [(90, e76), (90, e73), (90, e71), (61, e68), (59, e63), (157, e62), (59, e61), (157, e35), (157, e34)] (cO k76 (cO k73 (cO k71 (cO k68 (cO k63 (cO k62 (cO k61 (cO k35 (cO k34 nO))))))))) 1 (by kernel_rfl) rfl
def e78 : Ent := ⟨[.int .u64 1, .int .u64 2], [], .tuple #[.int .u64 0, .int .u64 2], [], 0⟩
theorem k78 : EntOk P 216 e78 := eO [] nO 1 (by kernel_rfl) rfl
def e79 : Ent := ⟨[sl 0 0 1 1, .int .i64 2], [(ow #[.bool false, .slice none 0 0, .bool false, sl 1 0 1 c1] 73), fz], sl 2 0 2 2, [(2, some (ow #[.bool false, .slice none 0 0, .bool false, sl 1 0 1 c1, .bool false, .slice none 0 0, .bool false, sl 1 0 1 c1] 73))], 7⟩
theorem k79 : EntOk P 162 e79 := eO [(216, e78)] (cO k78 nO) 1 (by kernel_rfl) rfl
def e80 : Ent := ⟨[sl 0 0 3 3, .bool false], [(ow #[.int .u32 1, .int .u32 0, .int .u32 0] 170)], .agg #[.bool false, sl 0 0 1 3], [], 2⟩
theorem k80 : EntOk P 96 e80 := eO [] nO 1 (by kernel_rfl) rfl
def e81 : Ent := ⟨[.agg #[.bool false, sl 0 0 1 c1], .agg #[.bool false, sl 1 0 1 c1]], [(ow #[.int .u32 1] 170), (ow #[.int .u32 1] 170)], .agg #[.bool false, sl 5 0 1 3], [(5, some (ow #[.int .u32 1, .int .u32 0, .int .u32 0] 170))], 7⟩
theorem k81 : EntOk P 102 e81 := eO [(96, e80)] (cO k80 nO) 1 (by kernel_rfl) rfl
def e82 : Ent := ⟨[.agg #[.bool false, sl 0 0 1 c1, .bool false, sl 1 0 1 c1], .agg #[.bool false, sl 2 0 1 c1, .bool false, sl 3 0 1 c1]], [(ow #[.int .u32 1] 170), (ow #[.int .u32 1] 170), (ow #[.int .u32 1] 170), (ow #[.int .u32 1] 170)], .agg #[.bool false, sl 20 0 1 3, .bool false, sl 1 0 1 c1], [(20, some (ow #[.int .u32 1, .int .u32 0, .int .u32 0] 170))], 30⟩
theorem k82 : EntOk P 60 e82 := eO [(102, e81), (58, e64)] (cO k81 (cO k64 nO)) 1 (by kernel_rfl) rfl
def e83 : Ent := ⟨[sl 0 0 2 2, .bool false], [(ow #[.int .u32 0, .int .u32 0] 170)], .agg #[.bool false, sl 0 0 0 2], [], 2⟩
theorem k83 : EntOk P 96 e83 := eO [] nO 1 (by kernel_rfl) rfl
def e84 : Ent := ⟨[.agg #[.bool false, sl 0 0 1 c1], .agg #[.bool false, .slice none 0 0]], [(ow #[.int .u32 1] 170)], .agg #[.bool false, sl 4 0 0 2], [(4, some (ow #[.int .u32 0, .int .u32 0] 170))], 6⟩
theorem k84 : EntOk P 102 e84 := eO [(96, e83)] (cO k83 nO) 1 (by kernel_rfl) rfl
def e85 : Ent := ⟨[.agg #[.bool false, sl 0 0 1 c1, .bool false, sl 1 0 1 c1], .agg #[.bool false, .slice none 0 0, .bool false, sl 2 0 1 c1]], [(ow #[.int .u32 1] 170), (ow #[.int .u32 1] 170), (ow #[.int .u32 1] 170)], .agg #[.bool false, sl 19 0 0 2, .bool false, sl 1 0 1 c1], [(19, some (ow #[.int .u32 0, .int .u32 0] 170))], 29⟩
theorem k85 : EntOk P 60 e85 := eO [(102, e84), (58, e64)] (cO k84 (cO k64 nO)) 1 (by kernel_rfl) rfl
def e86 : Ent := ⟨[sl 0 0 1 3, sl 1 0 0 2], [(ow #[.int .u32 1, .int .u32 0, .int .u32 0] 170), fz], sl 2 0 2 2, [(2, some (ow #[.int .u32 1, .int .u32 0] 170))], 5⟩
theorem k86 : EntOk P 148 e86 := eO [] nO 1 (by kernel_rfl) rfl
def e87 : Ent := ⟨[.agg #[.bool false, sl 0 0 1 3], .agg #[.bool false, sl 1 0 0 2]], [(ow #[.int .u32 1, .int .u32 0, .int .u32 0] 170), fz], .agg #[.bool false, sl 13 0 1 2], [(13, some (ow #[.int .u32 1, .int .u32 0] 170))], 25⟩
theorem k87 : EntOk P 104 e87 := eO [(148, e86), (96, e66)] (cO k86 (cO k66 nO)) 1 (by kernel_rfl) rfl
def e88 : Ent := ⟨[.agg #[.bool false, sl 0 0 1 3, .bool false, sl 1 0 1 c1], .agg #[.bool false, sl 2 0 0 2, .bool false, sl 3 0 1 c1]], [(ow #[.int .u32 1, .int .u32 0, .int .u32 0] 170), (ow #[.int .u32 1] 170), fz, (ow #[.int .u32 1] 170)], .agg #[.bool false, sl 28 0 1 2, .bool false, sl 1 0 1 c1], [(28, some (ow #[.int .u32 1, .int .u32 0] 170))], 48⟩
theorem k88 : EntOk P 61 e88 := eO [(104, e87), (58, e64)] (cO k87 (cO k64 nO)) 1 (by kernel_rfl) rfl
def e89 : Ent := ⟨[.agg #[.bool false, .slice none 0 0], .agg #[.bool false, sl 0 0 1 c1]], [fz], .agg #[.bool false, sl 4 0 0 2], [(4, some (ow #[.int .u32 0, .int .u32 0] 170))], 6⟩
theorem k89 : EntOk P 102 e89 := eO [(96, e83)] (cO k83 nO) 1 (by kernel_rfl) rfl
def e90 : Ent := ⟨[.agg #[.bool false, .slice none 0 0, .bool false, sl 0 0 1 c1], .agg #[.bool false, sl 1 0 1 c1, .bool false, sl 2 0 1 c1]], [(ow #[.int .u32 1] 170), fz, (ow #[.int .u32 1] 170)], .agg #[.bool false, sl 19 0 0 2, .bool false, sl 0 0 1 c1], [(19, some (ow #[.int .u32 0, .int .u32 0] 170))], 29⟩
theorem k90 : EntOk P 60 e90 := eO [(102, e89), (58, e64)] (cO k89 (cO k64 nO)) 1 (by kernel_rfl) rfl
def e91 : Ent := ⟨[sl 0 0 1 1, .bool false], [(ow #[.int .u32 0] 170)], .agg #[.bool false, sl 0 0 0 1], [], 2⟩
theorem k91 : EntOk P 96 e91 := eO [] nO 1 (by kernel_rfl) rfl
def e92 : Ent := ⟨[.agg #[.bool false, .slice none 0 0], .agg #[.bool false, .slice none 0 0]], [], .agg #[.bool false, sl 3 0 0 1], [(3, some (ow #[.int .u32 0] 170))], 5⟩
theorem k92 : EntOk P 102 e92 := eO [(96, e91)] (cO k91 nO) 1 (by kernel_rfl) rfl
def e93 : Ent := ⟨[.agg #[.bool false, .slice none 0 0, .bool false, sl 0 0 1 c1], .agg #[.bool false, .slice none 0 0, .bool false, sl 1 0 1 c1]], [(ow #[.int .u32 1] 170), (ow #[.int .u32 1] 170)], .agg #[.bool false, sl 18 0 0 1, .bool false, sl 0 0 1 c1], [(18, some (ow #[.int .u32 0] 170))], 28⟩
theorem k93 : EntOk P 60 e93 := eO [(102, e92), (58, e64)] (cO k92 (cO k64 nO)) 1 (by kernel_rfl) rfl
def e94 : Ent := ⟨[sl 0 0 0 2, sl 1 0 0 1], [fz, fz], sl 2 0 1 1, [(2, some (ow #[.int .u32 0] 170))], 4⟩
theorem k94 : EntOk P 148 e94 := eO [] nO 1 (by kernel_rfl) rfl
def e95 : Ent := ⟨[.agg #[.bool false, sl 0 0 0 2], .agg #[.bool false, sl 1 0 0 1]], [fz, fz], .agg #[.bool false, sl 13 0 0 1], [(13, some (ow #[.int .u32 0] 170))], 24⟩
theorem k95 : EntOk P 104 e95 := eO [(148, e94), (96, e91)] (cO k94 (cO k91 nO)) 1 (by kernel_rfl) rfl
def e96 : Ent := ⟨[.agg #[.bool false, sl 0 0 0 2, .bool false, sl 1 0 1 c1], .agg #[.bool false, sl 2 0 0 1, .bool false, sl 3 0 1 c1]], [fz, (ow #[.int .u32 1] 170), fz, (ow #[.int .u32 1] 170)], .agg #[.bool false, sl 28 0 0 1, .bool false, sl 1 0 1 c1], [(28, some (ow #[.int .u32 0] 170))], 47⟩
theorem k96 : EntOk P 61 e96 := eO [(104, e95), (58, e64)] (cO k95 (cO k64 nO)) 1 (by kernel_rfl) rfl
def e97 : Ent := ⟨[.pointer (some ⟨0, 0, none⟩), .agg #[.string ⟨#[120]⟩, .int .i64 0, .bool false], .agg #[.bool false, sl 1 0 1 c1, .bool false, sl 2 0 1 c1], .agg #[.string ⟨#[120]⟩, .int .i64 0, .bool false], .agg #[.bool false, .slice none 0 0, .bool false, sl 3 0 1 c1]], [(ow #[sl 4 0 1 c7, sl 5 0 1 c9, .slice none 0 0, .slice none 0 0, sl 6 0 2 c3] 105), (ow #[.int .u32 1] 170), (ow #[.int .u32 1] 170), (ow #[.int .u32 1] 170), fz, fz, (ow #[.string ⟨#[120]⟩, .int .i64 0, .bool false, .string ⟨#[120]⟩, .int .i64 1, .bool false] 52)], sl 31 0 2 2, [(31, some (ow #[.bool false, sl 206 0 1 2, .bool false, sl 61 0 1 c1, .bool false, sl 323 0 0 1, .bool false, sl 18 0 1 c1] 73)), (206, some (ow #[.int .u32 1, .int .u32 0] 170)), (61, some (ow #[.int .u32 1] 170)), (323, some (ow #[.int .u32 0] 170)), (18, some (ow #[.int .u32 1] 170))], 346⟩
theorem k97 : EntOk P 82 e97 := eO [(61, e96), (60, e93), (60, e90), (61, e88), (60, e85), (60, e82), (162, e79), (59, e63), (59, e61)] (cO k96 (cO k93 (cO k90 (cO k88 (cO k85 (cO k82 (cO k79 (cO k63 (cO k61 nO))))))))) 1 (by kernel_rfl) rfl
def e98 : Ent := ⟨[.agg #[.bool false, sl 0 0 1 2, .bool false, sl 1 0 1 c1]], [fz, fz], .int .i64 1, [], 5⟩
theorem k98 : EntOk P 125 e98 := eO [] nO 1 (by kernel_rfl) rfl
def e99 : Ent := ⟨[.agg #[.bool false, sl 0 0 1 c1], .agg #[.bool false, sl 1 0 1 2]], [(ow #[.int .u32 1] 170), (ow #[.int .u32 1, .int .u32 0] 170)], .agg #[.bool false, sl 5 0 1 3], [(5, some (ow #[.int .u32 1, .int .u32 0, .int .u32 0] 170))], 7⟩
theorem k99 : EntOk P 102 e99 := eO [(96, e80)] (cO k80 nO) 1 (by kernel_rfl) rfl
def e100 : Ent := ⟨[.agg #[.bool false, sl 0 0 1 3]], [fz], .agg #[.bool false, sl 0 0 1 3], [], 3⟩
theorem k100 : EntOk P 97 e100 := eO [] nO 1 (by kernel_rfl) rfl
def e101 : Ent := ⟨[sl 0 0 1 1, .bool false], [(ow #[.int .u32 1] 170)], .agg #[.bool false, sl 0 0 1 1], [], 2⟩
theorem k101 : EntOk P 96 e101 := eO [] nO 1 (by kernel_rfl) rfl
def e102 : Ent := ⟨[.agg #[.bool false, sl 0 0 1 3], .agg #[.bool false, sl 1 0 1 3]], [(ow #[.int .u32 1, .int .u32 0, .int .u32 0] 170), (ow #[.int .u32 1, .int .u32 0, .int .u32 0] 170)], .tuple #[.agg #[.bool false, sl 26 0 1 1], .agg #[.bool false, sl 27 0 0 1]], [(26, some (ow #[.int .u32 1] 170)), (27, some (ow #[.int .u32 0] 170))], 74⟩
theorem k102 : EntOk P 101 e102 := eO [(96, e101), (96, e91)] (cO k101 (cO k91 nO)) 1 (by kernel_rfl) rfl
end
end Go.Kr
end
