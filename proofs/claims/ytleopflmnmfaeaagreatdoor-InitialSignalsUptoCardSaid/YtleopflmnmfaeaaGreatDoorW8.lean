/-
A part of the proof that the statement InitialValues holds of the given program (second form, tied card): summaries of calls of the example.
-/
import Derived.Test.YtleopflmnmfaeaaGreatDoorW7
set_option autoImplicit false
set_option linter.unusedSimpArgs false
set_option linter.unusedVariables false
set_option linter.unnecessarySimpa false
section
set_option maxRecDepth 100000
set_option maxHeartbeats 100000000
namespace Go.Kr
open Go.Proofs.Tryz
noncomputable section
def e261 : Ent := ⟨[.agg #[.bool false, sl 0 0 1 2], .agg #[.bool true, sl 1 0 1 3]], [(ow #[.int .u32 1, .int .u32 0] 170), (ow #[.int .u32 1, .int .u32 0, .int .u32 0] 170)], .agg #[.bool true, sl 5 0 1 3], [(5, some (ow #[.int .u32 1, .int .u32 0, .int .u32 0] 170))], 7⟩
theorem k261 : EntOk P 102 e261 := eO [(96, e121)] (cO k121 nO) 1 (by kernel_rfl) rfl
def e262 : Ent := ⟨[.agg #[.bool false, sl 0 0 1 2, .bool false, sl 1 0 1 c1], .agg #[.bool true, sl 2 0 1 3, .bool false, sl 3 0 1 3]], [(ow #[.int .u32 1, .int .u32 0] 170), (ow #[.int .u32 1] 170), (ow #[.int .u32 1, .int .u32 0, .int .u32 0] 170), (ow #[.int .u32 1, .int .u32 0, .int .u32 0] 170)], .agg #[.bool true, sl 20 0 1 3, .bool false, sl 1 0 1 c1], [(20, some (ow #[.int .u32 1, .int .u32 0, .int .u32 0] 170))], 30⟩
theorem k262 : EntOk P 60 e262 := eO [(102, e261), (58, e103), (58, e64)] (cO k261 (cO k103 (cO k64 nO))) 1 (by kernel_rfl) rfl
def e263 : Ent := ⟨[sl 0 0 0 1, sl 1 0 1 3], [fz, (ow #[.int .u32 1, .int .u32 0, .int .u32 0] 170)], sl 2 0 2 2, [(2, some (ow #[.int .u32 1, .int .u32 0] 170))], 5⟩
theorem k263 : EntOk P 148 e263 := eO [] nO 1 (by kernel_rfl) rfl
def e264 : Ent := ⟨[.agg #[.bool false, sl 0 0 0 1], .agg #[.bool false, sl 1 0 1 3]], [fz, (ow #[.int .u32 1, .int .u32 0, .int .u32 0] 170)], .agg #[.bool false, sl 13 0 1 2], [(13, some (ow #[.int .u32 1, .int .u32 0] 170))], 25⟩
theorem k264 : EntOk P 104 e264 := eO [(148, e263), (96, e66)] (cO k263 (cO k66 nO)) 1 (by kernel_rfl) rfl
def e265 : Ent := ⟨[.agg #[.bool false, sl 0 0 0 1, .bool false, sl 1 0 1 c1], .agg #[.bool false, sl 2 0 1 3, .bool false, sl 3 0 1 c1]], [fz, (ow #[.int .u32 1] 170), (ow #[.int .u32 1, .int .u32 0, .int .u32 0] 170), (ow #[.int .u32 1] 170)], .agg #[.bool false, sl 28 0 1 2, .bool false, sl 1 0 1 c1], [(28, some (ow #[.int .u32 1, .int .u32 0] 170))], 48⟩
theorem k265 : EntOk P 61 e265 := eO [(104, e264), (58, e64)] (cO k264 (cO k64 nO)) 1 (by kernel_rfl) rfl
def e266 : Ent := ⟨[sl 0 0 1 2, .bool true], [(ow #[.int .u32 1, .int .u32 0] 170)], .agg #[.bool true, sl 0 0 1 2], [], 2⟩
theorem k266 : EntOk P 96 e266 := eO [] nO 1 (by kernel_rfl) rfl
def e267 : Ent := ⟨[.agg #[.bool false, sl 0 0 1 2]], [(ow #[.int .u32 1, .int .u32 0] 170)], .agg #[.bool true, sl 0 0 1 2], [], 4⟩
theorem k267 : EntOk P 133 e267 := eO [(96, e266)] (cO k266 nO) 1 (by kernel_rfl) rfl
def e268 : Ent := ⟨[.agg #[.bool false, sl 0 0 1 2, .bool false, sl 1 0 1 c1]], [(ow #[.int .u32 1, .int .u32 0] 170), fz], .agg #[.bool true, sl 0 0 1 2, .bool false, sl 1 0 1 c1], [], 19⟩
theorem k268 : EntOk P 90 e268 := eO [(133, e267)] (cO k267 nO) 1 (by kernel_rfl) rfl
def e269 : Ent := ⟨[sl 0 0 0 1, .bool true], [fz], .agg #[.bool false, sl 0 0 0 1], [], 2⟩
theorem k269 : EntOk P 96 e269 := eO [] nO 1 (by kernel_rfl) rfl
def e270 : Ent := ⟨[.agg #[.bool false, sl 0 0 0 1]], [fz], .agg #[.bool false, sl 0 0 0 1], [], 4⟩
theorem k270 : EntOk P 133 e270 := eO [(96, e269)] (cO k269 nO) 1 (by kernel_rfl) rfl
def e271 : Ent := ⟨[.agg #[.bool false, sl 0 0 0 1, .bool false, sl 1 0 1 c1]], [fz, fz], .agg #[.bool false, sl 0 0 0 1, .bool false, sl 1 0 1 c1], [], 19⟩
theorem k271 : EntOk P 90 e271 := eO [(133, e270)] (cO k270 nO) 1 (by kernel_rfl) rfl
def e272 : Ent := ⟨[sl 0 0 4 c1, sl 1 0 4 c4, .int .i64 3], [(ow #[sl 2 0 3 3, sl 3 0 3 3, sl 4 0 3 3, sl 5 0 3 3] 65), (ow #[.bool false, sl 6 0 1 c1, .bool false, sl 7 0 1 c1, .bool false, .slice none 0 0, .bool false, sl 8 0 1 c1, .bool false, sl 9 0 1 c1, .bool false, sl 10 0 1 c1, .bool false, sl 11 0 1 c1, .bool false, sl 12 0 1 c1] 73), (ow #[.bool false, sl 13 0 1 2, .bool false, sl 14 0 1 c1, .bool false, .slice none 0 0, .bool false, sl 15 0 1 c1, .bool false, sl 16 0 1 2, .bool false, sl 17 0 1 c1] 73), (ow #[.bool false, .slice none 0 0, .bool false, sl 18 0 1 c1, .bool false, sl 19 0 1 2, .bool false, sl 20 0 1 c1, .bool false, sl 21 0 1 2, .bool false, sl 22 0 1 c1] 73), (ow #[.bool false, sl 23 0 1 2, .bool false, sl 24 0 1 c1, .bool false, sl 25 0 0 1, .bool false, sl 26 0 1 c1, .bool false, sl 27 0 0 1, .bool false, sl 26 0 1 c1] 73), (ow #[.bool false, sl 28 0 0 1, .bool false, sl 29 0 1 c1, .bool false, sl 30 0 0 1, .bool false, sl 29 0 1 c1, .bool false, sl 31 0 1 2, .bool false, sl 32 0 1 c1] 73), (ow #[.int .u32 1] 170), (ow #[.int .u32 1] 170), fz, (ow #[.int .u32 1] 170), (ow #[.int .u32 1] 170), (ow #[.int .u32 1] 170), (ow #[.int .u32 1] 170), (ow #[.int .u32 1, .int .u32 0] 170), (ow #[.int .u32 1] 170), fz, (ow #[.int .u32 1, .int .u32 0] 170), (ow #[.int .u32 1] 170), fz, (ow #[.int .u32 1, .int .u32 0] 170), (ow #[.int .u32 1] 170), (ow #[.int .u32 1, .int .u32 0] 170), (ow #[.int .u32 1] 170), (ow #[.int .u32 1, .int .u32 0] 170), (ow #[.int .u32 1] 170), fz, (ow #[.int .u32 1] 170), fz, fz, (ow #[.int .u32 1] 170), fz, (ow #[.int .u32 1, .int .u32 0] 170), (ow #[.int .u32 1] 170)], sl 7131 0 4 4, [(7131, some (ow #[.bool true, sl 7074 0 1 2, .bool false, sl 29 0 1 c1, .bool false, sl 30 0 0 1, .bool false, sl 29 0 1 c1, .bool false, sl 6822 0 1 3, .bool false, sl 32 0 1 c1, .bool false, sl 7218 0 1 c1, .bool false, sl 7222 0 1 c1] 73)), (7074, some (ow #[.int .u32 1, .int .u32 0] 170)), (6822, some (ow #[.int .u32 1, .int .u32 0, .int .u32 0] 170)), (7218, some (ow #[.int .u32 1] 170)), (7222, some (ow #[.int .u32 1] 170))], 7223⟩
theorem k272 : EntOk P 49 e272 := eO [(90, e271), (90, e268), (61, e265), (60, e262), (126, e259), (61, e258), (60, e256), (125, e152), (125, e144), (90, e140), (60, e139), (125, e137), (61, e136), (60, e133), (125, e129), (60, e128), (126, e126), (125, e120), (61, e119), (61, e116), (90, e113), (60, e110), (125, e108), (125, e107), (60, e106), (126, e104), (125, e98), (59, e63), (59, e61)] (cO k271 (cO k268 (cO k265 (cO k262 (cO k259 (cO k258 (cO k256 (cO k152 (cO k144 (cO k140 (cO k139 (cO k137 (cO k136 (cO k133 (cO k129 (cO k128 (cO k126 (cO k120 (cO k119 (cO k116 (cO k113 (cO k110 (cO k108 (cO k107 (cO k106 (cO k104 (cO k98 (cO k63 (cO k61 nO))))))))))))))))))))))))))))) 1 (by kernel_rfl) rfl
end
end Go.Kr
end
