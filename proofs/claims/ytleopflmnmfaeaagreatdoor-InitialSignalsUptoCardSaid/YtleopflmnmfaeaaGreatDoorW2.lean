/-
A part of the proof that the statement InitialValues holds of the given program (second form, tied card): summaries of calls of the example.
-/
import Derived.Test.YtleopflmnmfaeaaGreatDoorW1
set_option autoImplicit false
set_option linter.unusedSimpArgs false
set_option linter.unusedVariables false
set_option linter.unnecessarySimpa false
section
set_option maxRecDepth 100000
set_option maxHeartbeats 100000000
namespace Go.Kr
open Go.Proofs.Tryz
noncomputable section
def e103 : Ent := ⟨[.agg #[.bool false, sl 0 0 1 3]], [(ow #[.int .u32 1, .int .u32 0, .int .u32 0] 170)], .bool true, [], 2⟩
theorem k103 : EntOk P 58 e103 := eO [] nO 1 (by kernel_rfl) rfl
def e104 : Ent := ⟨[.agg #[.bool false, sl 0 0 1 c1, .bool false, sl 1 0 1 c1], .agg #[.bool false, sl 2 0 1 2, .bool false, sl 3 0 1 c1]], [(ow #[.int .u32 1] 170), (ow #[.int .u32 1] 170), (ow #[.int .u32 1, .int .u32 0] 170), (ow #[.int .u32 1] 170)], .agg #[.bool false, sl 18 0 1 3, .bool false, sl 31 0 1 3], [(18, some (ow #[.int .u32 1, .int .u32 0, .int .u32 0] 170)), (31, some (ow #[.int .u32 1, .int .u32 0, .int .u32 0] 170))], 159⟩
theorem k104 : EntOk P 126 e104 := eO [(58, e103), (101, e102), (97, e100), (102, e99), (102, e81)] (cO k103 (cO k102 (cO k100 (cO k99 (cO k81 nO))))) 1 (by kernel_rfl) rfl
def e105 : Ent := ⟨[.agg #[.bool false, sl 0 0 1 2], .agg #[.bool false, sl 1 0 1 3]], [(ow #[.int .u32 1, .int .u32 0] 170), (ow #[.int .u32 1, .int .u32 0, .int .u32 0] 170)], .agg #[.bool false, sl 5 0 1 3], [(5, some (ow #[.int .u32 1, .int .u32 0, .int .u32 0] 170))], 7⟩
theorem k105 : EntOk P 102 e105 := eO [(96, e80)] (cO k80 nO) 1 (by kernel_rfl) rfl
def e106 : Ent := ⟨[.agg #[.bool false, sl 0 0 1 2, .bool false, sl 1 0 1 c1], .agg #[.bool false, sl 2 0 1 3, .bool false, sl 3 0 1 3]], [(ow #[.int .u32 1, .int .u32 0] 170), (ow #[.int .u32 1] 170), (ow #[.int .u32 1, .int .u32 0, .int .u32 0] 170), (ow #[.int .u32 1, .int .u32 0, .int .u32 0] 170)], .agg #[.bool false, sl 20 0 1 3, .bool false, sl 1 0 1 c1], [(20, some (ow #[.int .u32 1, .int .u32 0, .int .u32 0] 170))], 30⟩
theorem k106 : EntOk P 60 e106 := eO [(102, e105), (58, e103), (58, e64)] (cO k105 (cO k103 (cO k64 nO))) 1 (by kernel_rfl) rfl
def e107 : Ent := ⟨[.agg #[.bool false, .slice none 0 0, .bool false, sl 0 0 1 c1]], [fz], .int .i64 0, [], 4⟩
theorem k107 : EntOk P 125 e107 := eO [] nO 1 (by kernel_rfl) rfl
def e108 : Ent := ⟨[.agg #[.bool false, sl 0 0 1 3, .bool false, sl 1 0 1 c1]], [fz, fz], .int .i64 1, [], 5⟩
theorem k108 : EntOk P 125 e108 := eO [] nO 1 (by kernel_rfl) rfl
def e109 : Ent := ⟨[.agg #[.bool false, sl 0 0 1 3], .agg #[.bool false, sl 1 0 1 2]], [(ow #[.int .u32 1, .int .u32 0, .int .u32 0] 170), (ow #[.int .u32 1, .int .u32 0] 170)], .agg #[.bool false, sl 5 0 1 3], [(5, some (ow #[.int .u32 1, .int .u32 0, .int .u32 0] 170))], 7⟩
theorem k109 : EntOk P 102 e109 := eO [(96, e80)] (cO k80 nO) 1 (by kernel_rfl) rfl
def e110 : Ent := ⟨[.agg #[.bool false, sl 0 0 1 3, .bool false, sl 1 0 1 c1], .agg #[.bool false, sl 2 0 1 2, .bool false, sl 3 0 1 c1]], [(ow #[.int .u32 1, .int .u32 0, .int .u32 0] 170), (ow #[.int .u32 1] 170), (ow #[.int .u32 1, .int .u32 0] 170), (ow #[.int .u32 1] 170)], .agg #[.bool false, sl 20 0 1 3, .bool false, sl 1 0 1 c1], [(20, some (ow #[.int .u32 1, .int .u32 0, .int .u32 0] 170))], 30⟩
theorem k110 : EntOk P 60 e110 := eO [(102, e109), (58, e64)] (cO k109 (cO k64 nO)) 1 (by kernel_rfl) rfl
def e111 : Ent := ⟨[sl 0 0 1 3, .bool true], [(ow #[.int .u32 1, .int .u32 0, .int .u32 0] 170)], .agg #[.bool true, sl 0 0 1 3], [], 2⟩
theorem k111 : EntOk P 96 e111 := eO [] nO 1 (by kernel_rfl) rfl
def e112 : Ent := ⟨[.agg #[.bool false, sl 0 0 1 3]], [(ow #[.int .u32 1, .int .u32 0, .int .u32 0] 170)], .agg #[.bool true, sl 0 0 1 3], [], 4⟩
theorem k112 : EntOk P 133 e112 := eO [(96, e111)] (cO k111 nO) 1 (by kernel_rfl) rfl
def e113 : Ent := ⟨[.agg #[.bool false, sl 0 0 1 3, .bool false, sl 1 0 1 c1]], [(ow #[.int .u32 1, .int .u32 0, .int .u32 0] 170), fz], .agg #[.bool true, sl 0 0 1 3, .bool false, sl 1 0 1 c1], [], 19⟩
theorem k113 : EntOk P 90 e113 := eO [(133, e112)] (cO k112 nO) 1 (by kernel_rfl) rfl
def e114 : Ent := ⟨[sl 0 0 1 2, sl 1 0 1 3], [(ow #[.int .u32 1, .int .u32 0] 170), (ow #[.int .u32 1, .int .u32 0, .int .u32 0] 170)], sl 3 0 1 c1, [(3, some (ow #[.int .u32 0] 170))], 4⟩
theorem k114 : EntOk P 149 e114 := eO [] nO 1 (by kernel_rfl) rfl
def e115 : Ent := ⟨[.agg #[.bool false, sl 0 0 1 2], .agg #[.bool true, sl 1 0 1 3]], [(ow #[.int .u32 1, .int .u32 0] 170), (ow #[.int .u32 1, .int .u32 0, .int .u32 0] 170)], .agg #[.bool false, sl 22 0 0 c1], [(22, some (ow #[.int .u32 0] 170))], 32⟩
theorem k115 : EntOk P 104 e115 := eO [(149, e114), (96, e28)] (cO k114 (cO k28 nO)) 1 (by kernel_rfl) rfl
def e116 : Ent := ⟨[.agg #[.bool false, sl 0 0 1 2, .bool false, sl 1 0 1 c1], .agg #[.bool true, sl 2 0 1 3, .bool false, sl 3 0 1 c1]], [(ow #[.int .u32 1, .int .u32 0] 170), (ow #[.int .u32 1] 170), (ow #[.int .u32 1, .int .u32 0, .int .u32 0] 170), (ow #[.int .u32 1] 170)], .agg #[.bool false, sl 37 0 0 c1, .bool false, sl 1 0 1 c1], [(37, some (ow #[.int .u32 0] 170))], 55⟩
theorem k116 : EntOk P 61 e116 := eO [(104, e115), (58, e64)] (cO k115 (cO k64 nO)) 1 (by kernel_rfl) rfl
def e117 : Ent := ⟨[sl 0 0 1 3, sl 1 0 0 1], [(ow #[.int .u32 1, .int .u32 0, .int .u32 0] 170), fz], sl 3 0 1 c1, [(3, some (ow #[.int .u32 1] 170))], 4⟩
theorem k117 : EntOk P 149 e117 := eO [] nO 1 (by kernel_rfl) rfl
def e118 : Ent := ⟨[.agg #[.bool false, sl 0 0 0 1], .agg #[.bool true, sl 1 0 1 3]], [fz, (ow #[.int .u32 1, .int .u32 0, .int .u32 0] 170)], .agg #[.bool true, sl 14 0 1 c1], [(14, some (ow #[.int .u32 1] 170))], 24⟩
theorem k118 : EntOk P 104 e118 := eO [(149, e117), (96, e69)] (cO k117 (cO k69 nO)) 1 (by kernel_rfl) rfl
def e119 : Ent := ⟨[.agg #[.bool false, sl 0 0 0 1, .bool false, sl 1 0 1 c1], .agg #[.bool true, sl 2 0 1 3, .bool false, sl 3 0 1 c1]], [fz, (ow #[.int .u32 1] 170), (ow #[.int .u32 1, .int .u32 0, .int .u32 0] 170), (ow #[.int .u32 1] 170)], .agg #[.bool true, sl 29 0 1 c1, .bool false, sl 1 0 1 c1], [(29, some (ow #[.int .u32 1] 170))], 47⟩
theorem k119 : EntOk P 61 e119 := eO [(104, e118), (58, e64)] (cO k118 (cO k64 nO)) 1 (by kernel_rfl) rfl
def e120 : Ent := ⟨[.agg #[.bool true, sl 0 0 1 c1, .bool false, sl 1 0 1 c1]], [fz, fz], .int .i64 (-1), [], 5⟩
theorem k120 : EntOk P 125 e120 := eO [] nO 1 (by kernel_rfl) rfl
def e121 : Ent := ⟨[sl 0 0 3 3, .bool true], [(ow #[.int .u32 1, .int .u32 0, .int .u32 0] 170)], .agg #[.bool true, sl 0 0 1 3], [], 2⟩
theorem k121 : EntOk P 96 e121 := eO [] nO 1 (by kernel_rfl) rfl
def e122 : Ent := ⟨[.agg #[.bool false, sl 0 0 1 c1], .agg #[.bool true, sl 1 0 1 c1]], [(ow #[.int .u32 1] 170), (ow #[.int .u32 1] 170)], .agg #[.bool true, sl 5 0 1 3], [(5, some (ow #[.int .u32 1, .int .u32 0, .int .u32 0] 170))], 7⟩
theorem k122 : EntOk P 102 e122 := eO [(96, e121)] (cO k121 nO) 1 (by kernel_rfl) rfl
def e123 : Ent := ⟨[sl 0 0 1 3, .bool false], [(ow #[.int .u32 1, .int .u32 0, .int .u32 0] 170)], .agg #[.bool false, sl 0 0 1 3], [], 2⟩
theorem k123 : EntOk P 96 e123 := eO [] nO 1 (by kernel_rfl) rfl
def e124 : Ent := ⟨[.agg #[.bool true, sl 0 0 1 3]], [(ow #[.int .u32 1, .int .u32 0, .int .u32 0] 170)], .agg #[.bool false, sl 0 0 1 3], [], 4⟩
theorem k124 : EntOk P 133 e124 := eO [(96, e123)] (cO k123 nO) 1 (by kernel_rfl) rfl
def e125 : Ent := ⟨[.agg #[.bool true, sl 0 0 1 3]], [fz], .agg #[.bool false, sl 0 0 1 3], [], 3⟩
theorem k125 : EntOk P 97 e125 := eO [] nO 1 (by kernel_rfl) rfl
def e126 : Ent := ⟨[.agg #[.bool false, sl 0 0 1 c1, .bool false, sl 1 0 1 c1], .agg #[.bool true, sl 2 0 1 c1, .bool false, sl 3 0 1 c1]], [(ow #[.int .u32 1] 170), (ow #[.int .u32 1] 170), (ow #[.int .u32 1] 170), (ow #[.int .u32 1] 170)], .agg #[.bool true, sl 18 0 1 3, .bool false, sl 31 0 1 3], [(18, some (ow #[.int .u32 1, .int .u32 0, .int .u32 0] 170)), (31, some (ow #[.int .u32 1, .int .u32 0, .int .u32 0] 170))], 181⟩
theorem k126 : EntOk P 126 e126 := eO [(97, e125), (133, e124), (102, e122), (133, e112), (58, e103), (101, e102), (97, e100), (102, e81)] (cO k125 (cO k124 (cO k122 (cO k112 (cO k103 (cO k102 (cO k100 (cO k81 nO)))))))) 1 (by kernel_rfl) rfl
def e127 : Ent := ⟨[.agg #[.bool true, sl 0 0 1 c1], .agg #[.bool true, sl 1 0 1 3]], [(ow #[.int .u32 1] 170), (ow #[.int .u32 1, .int .u32 0, .int .u32 0] 170)], .agg #[.bool false, sl 5 0 1 3], [(5, some (ow #[.int .u32 1, .int .u32 0, .int .u32 0] 170))], 7⟩
theorem k127 : EntOk P 102 e127 := eO [(96, e80)] (cO k80 nO) 1 (by kernel_rfl) rfl
def e128 : Ent := ⟨[.agg #[.bool true, sl 0 0 1 c1, .bool false, sl 1 0 1 c1], .agg #[.bool true, sl 2 0 1 3, .bool false, sl 3 0 1 3]], [(ow #[.int .u32 1] 170), (ow #[.int .u32 1] 170), (ow #[.int .u32 1, .int .u32 0, .int .u32 0] 170), (ow #[.int .u32 1, .int .u32 0, .int .u32 0] 170)], .agg #[.bool false, sl 20 0 1 3, .bool false, sl 1 0 1 c1], [(20, some (ow #[.int .u32 1, .int .u32 0, .int .u32 0] 170))], 30⟩
theorem k128 : EntOk P 60 e128 := eO [(102, e127), (58, e103), (58, e64)] (cO k127 (cO k103 (cO k64 nO))) 1 (by kernel_rfl) rfl
def e129 : Ent := ⟨[.agg #[.bool false, sl 0 0 1 c1, .bool false, sl 1 0 1 c1]], [fz, fz], .int .i64 1, [], 5⟩
theorem k129 : EntOk P 125 e129 := eO [] nO 1 (by kernel_rfl) rfl
def e130 : Ent := ⟨[.agg #[.bool false, sl 0 0 1 c1], .agg #[.bool true, sl 1 0 1 3]], [(ow #[.int .u32 1] 170), (ow #[.int .u32 1, .int .u32 0, .int .u32 0] 170)], .agg #[.bool true, sl 5 0 1 3], [(5, some (ow #[.int .u32 1, .int .u32 0, .int .u32 0] 170))], 7⟩
theorem k130 : EntOk P 102 e130 := eO [(96, e121)] (cO k121 nO) 1 (by kernel_rfl) rfl
def e131 : Ent := ⟨[.agg #[.bool false, sl 0 0 1 c1, .bool false, sl 1 0 1 c1], .agg #[.bool true, sl 2 0 1 3, .bool false, sl 3 0 1 3]], [(ow #[.int .u32 1] 170), (ow #[.int .u32 1] 170), (ow #[.int .u32 1, .int .u32 0, .int .u32 0] 170), (ow #[.int .u32 1, .int .u32 0, .int .u32 0] 170)], .agg #[.bool true, sl 20 0 1 3, .bool false, sl 1 0 1 c1], [(20, some (ow #[.int .u32 1, .int .u32 0, .int .u32 0] 170))], 30⟩
theorem k131 : EntOk P 60 e131 := eO [(102, e130), (58, e103), (58, e64)] (cO k130 (cO k103 (cO k64 nO))) 1 (by kernel_rfl) rfl
def e132 : Ent := ⟨[.agg #[.bool false, sl 0 0 1 3], .agg #[.bool false, sl 1 0 1 3]], [(ow #[.int .u32 1, .int .u32 0, .int .u32 0] 170), (ow #[.int .u32 1, .int .u32 0, .int .u32 0] 170)], .agg #[.bool false, sl 5 0 1 3], [(5, some (ow #[.int .u32 1, .int .u32 0, .int .u32 0] 170))], 7⟩
theorem k132 : EntOk P 102 e132 := eO [(96, e80)] (cO k80 nO) 1 (by kernel_rfl) rfl
def e133 : Ent := ⟨[.agg #[.bool false, sl 0 0 1 3, .bool false, sl 1 0 1 c1], .agg #[.bool false, sl 2 0 1 3, .bool false, sl 3 0 1 c1]], [(ow #[.int .u32 1, .int .u32 0, .int .u32 0] 170), (ow #[.int .u32 1] 170), (ow #[.int .u32 1, .int .u32 0, .int .u32 0] 170), (ow #[.int .u32 1] 170)], .agg #[.bool false, sl 20 0 1 3, .bool false, sl 1 0 1 c1], [(20, some (ow #[.int .u32 1, .int .u32 0, .int .u32 0] 170))], 30⟩
theorem k133 : EntOk P 60 e133 := eO [(102, e132), (58, e64)] (cO k132 (cO k64 nO)) 1 (by kernel_rfl) rfl
def e134 : Ent := ⟨[sl 0 0 1 3, sl 1 0 1 3], [(ow #[.int .u32 1, .int .u32 0, .int .u32 0] 170), (ow #[.int .u32 1, .int .u32 0, .int .u32 0] 170)], sl 3 0 1 c1, [(3, some (ow #[.int .u32 0] 170))], 4⟩
theorem k134 : EntOk P 149 e134 := eO [] nO 1 (by kernel_rfl) rfl
def e135 : Ent := ⟨[.agg #[.bool false, sl 0 0 1 3], .agg #[.bool true, sl 1 0 1 3]], [(ow #[.int .u32 1, .int .u32 0, .int .u32 0] 170), (ow #[.int .u32 1, .int .u32 0, .int .u32 0] 170)], .agg #[.bool false, sl 22 0 0 c1], [(22, some (ow #[.int .u32 0] 170))], 32⟩
theorem k135 : EntOk P 104 e135 := eO [(149, e134), (96, e28)] (cO k134 (cO k28 nO)) 1 (by kernel_rfl) rfl
def e136 : Ent := ⟨[.agg #[.bool false, sl 0 0 1 3, .bool false, sl 1 0 1 c1], .agg #[.bool true, sl 2 0 1 3, .bool false, sl 3 0 1 c1]], [(ow #[.int .u32 1, .int .u32 0, .int .u32 0] 170), (ow #[.int .u32 1] 170), (ow #[.int .u32 1, .int .u32 0, .int .u32 0] 170), (ow #[.int .u32 1] 170)], .agg #[.bool false, sl 37 0 0 c1, .bool false, sl 1 0 1 c1], [(37, some (ow #[.int .u32 0] 170))], 55⟩
theorem k136 : EntOk P 61 e136 := eO [(104, e135), (58, e64)] (cO k135 (cO k64 nO)) 1 (by kernel_rfl) rfl
def e137 : Ent := ⟨[.agg #[.bool true, sl 0 0 1 3, .bool false, sl 1 0 1 c1]], [fz, fz], .int .i64 (-1), [], 5⟩
theorem k137 : EntOk P 125 e137 := eO [] nO 1 (by kernel_rfl) rfl
def e138 : Ent := ⟨[.agg #[.bool true, sl 0 0 1 3], .agg #[.bool false, sl 1 0 1 3]], [(ow #[.int .u32 1, .int .u32 0, .int .u32 0] 170), (ow #[.int .u32 1, .int .u32 0, .int .u32 0] 170)], .agg #[.bool true, sl 5 0 1 3], [(5, some (ow #[.int .u32 1, .int .u32 0, .int .u32 0] 170))], 7⟩
theorem k138 : EntOk P 102 e138 := eO [(96, e121)] (cO k121 nO) 1 (by kernel_rfl) rfl
def e139 : Ent := ⟨[.agg #[.bool true, sl 0 0 1 3, .bool false, sl 1 0 1 c1], .agg #[.bool false, sl 2 0 1 3, .bool false, sl 3 0 1 c1]], [(ow #[.int .u32 1, .int .u32 0, .int .u32 0] 170), (ow #[.int .u32 1] 170), (ow #[.int .u32 1, .int .u32 0, .int .u32 0] 170), (ow #[.int .u32 1] 170)], .agg #[.bool true, sl 20 0 1 3, .bool false, sl 1 0 1 c1], [(20, some (ow #[.int .u32 1, .int .u32 0, .int .u32 0] 170))], 30⟩
theorem k139 : EntOk P 60 e139 := eO [(102, e138), (58, e64)] (cO k138 (cO k64 nO)) 1 (by kernel_rfl) rfl
def e140 : Ent := ⟨[.agg #[.bool true, sl 0 0 1 3, .bool false, sl 1 0 1 c1]], [(ow #[.int .u32 1, .int .u32 0, .int .u32 0] 170), fz], .agg #[.bool false, sl 0 0 1 3, .bool false, sl 1 0 1 c1], [], 19⟩
theorem k140 : EntOk P 90 e140 := eO [(133, e124)] (cO k124 nO) 1 (by kernel_rfl) rfl
def e141 : Ent := ⟨[.slice none 0 0, sl 0 0 1 3], [(ow #[.int .u32 1, .int .u32 0, .int .u32 0] 170)], sl 1 0 2 2, [(1, some (ow #[.int .u32 1, .int .u32 0] 170))], 4⟩
theorem k141 : EntOk P 148 e141 := eO [] nO 1 (by kernel_rfl) rfl
def e142 : Ent := ⟨[.agg #[.bool false, .slice none 0 0], .agg #[.bool false, sl 0 0 1 3]], [(ow #[.int .u32 1, .int .u32 0, .int .u32 0] 170)], .agg #[.bool false, sl 12 0 1 2], [(12, some (ow #[.int .u32 1, .int .u32 0] 170))], 24⟩
theorem k142 : EntOk P 104 e142 := eO [(148, e141), (96, e66)] (cO k141 (cO k66 nO)) 1 (by kernel_rfl) rfl
def e143 : Ent := ⟨[.agg #[.bool false, .slice none 0 0, .bool false, sl 0 0 1 c1], .agg #[.bool false, sl 1 0 1 3, .bool false, sl 2 0 1 c1]], [(ow #[.int .u32 1] 170), (ow #[.int .u32 1, .int .u32 0, .int .u32 0] 170), (ow #[.int .u32 1] 170)], .agg #[.bool false, sl 27 0 1 2, .bool false, sl 0 0 1 c1], [(27, some (ow #[.int .u32 1, .int .u32 0] 170))], 47⟩
theorem k143 : EntOk P 61 e143 := eO [(104, e142), (58, e64)] (cO k142 (cO k64 nO)) 1 (by kernel_rfl) rfl
def e144 : Ent := ⟨[.agg #[.bool false, sl 0 0 0 c1, .bool false, sl 1 0 1 c1]], [fz, fz], .int .i64 0, [], 5⟩
theorem k144 : EntOk P 125 e144 := eO [] nO 1 (by kernel_rfl) rfl
def e145 : Ent := ⟨[.agg #[.bool false, sl 0 0 1 3], .agg #[.bool true, sl 1 0 1 c1]], [(ow #[.int .u32 1, .int .u32 0, .int .u32 0] 170), (ow #[.int .u32 1] 170)], .agg #[.bool true, sl 5 0 1 3], [(5, some (ow #[.int .u32 1, .int .u32 0, .int .u32 0] 170))], 7⟩
theorem k145 : EntOk P 102 e145 := eO [(96, e121)] (cO k121 nO) 1 (by kernel_rfl) rfl
def e146 : Ent := ⟨[.agg #[.bool false, sl 0 0 1 3, .bool false, sl 1 0 1 c1], .agg #[.bool true, sl 2 0 1 c1, .bool false, sl 3 0 1 c1]], [(ow #[.int .u32 1, .int .u32 0, .int .u32 0] 170), (ow #[.int .u32 1] 170), (ow #[.int .u32 1] 170), (ow #[.int .u32 1] 170)], .agg #[.bool true, sl 20 0 1 3, .bool false, sl 1 0 1 c1], [(20, some (ow #[.int .u32 1, .int .u32 0, .int .u32 0] 170))], 30⟩
theorem k146 : EntOk P 60 e146 := eO [(102, e145), (58, e64)] (cO k145 (cO k64 nO)) 1 (by kernel_rfl) rfl
def e147 : Ent := ⟨[sl 0 0 1 c1, sl 1 0 1 3], [(ow #[.int .u32 1] 170), (ow #[.int .u32 1, .int .u32 0, .int .u32 0] 170)], sl 3 0 1 c1, [(3, some (ow #[.int .u32 0] 170))], 4⟩
theorem k147 : EntOk P 149 e147 := eO [] nO 1 (by kernel_rfl) rfl
def e148 : Ent := ⟨[sl 0 0 1 c1, .bool true], [(ow #[.int .u32 0] 170)], .agg #[.bool false, sl 0 0 0 c1], [], 2⟩
theorem k148 : EntOk P 96 e148 := eO [] nO 1 (by kernel_rfl) rfl
def e149 : Ent := ⟨[.agg #[.bool true, sl 0 0 1 c1], .agg #[.bool false, sl 1 0 1 3]], [(ow #[.int .u32 1] 170), (ow #[.int .u32 1, .int .u32 0, .int .u32 0] 170)], .agg #[.bool false, sl 22 0 0 c1], [(22, some (ow #[.int .u32 0] 170))], 32⟩
theorem k149 : EntOk P 104 e149 := eO [(96, e148), (149, e147)] (cO k148 (cO k147 nO)) 1 (by kernel_rfl) rfl
def e150 : Ent := ⟨[.agg #[.bool true, sl 0 0 1 c1, .bool false, sl 1 0 1 c1], .agg #[.bool false, sl 2 0 1 3, .bool false, sl 3 0 1 c1]], [(ow #[.int .u32 1] 170), (ow #[.int .u32 1] 170), (ow #[.int .u32 1, .int .u32 0, .int .u32 0] 170), (ow #[.int .u32 1] 170)], .agg #[.bool false, sl 37 0 0 c1, .bool false, sl 1 0 1 c1], [(37, some (ow #[.int .u32 0] 170))], 55⟩
theorem k150 : EntOk P 61 e150 := eO [(104, e149), (58, e64)] (cO k149 (cO k64 nO)) 1 (by kernel_rfl) rfl
def e151 : Ent := ⟨[.pointer (some ⟨0, 0, none⟩), .agg #[.string ⟨#[120]⟩, .int .i64 1, .bool false], .agg #[.bool false, sl 1 0 1 c1, .bool false, sl 2 0 1 c1], .agg #[.string ⟨#[120]⟩, .int .i64 1, .bool false], .agg #[.bool false, .slice none 0 0, .bool false, sl 3 0 1 c1]], [(ow #[sl 4 0 1 c7, sl 5 0 1 c9, .slice none 0 0, .slice none 0 0, sl 6 0 2 c3] 105), (ow #[.int .u32 1] 170), (ow #[.int .u32 1] 170), (ow #[.int .u32 1] 170), fz, fz, (ow #[.string ⟨#[120]⟩, .int .i64 0, .bool false, .string ⟨#[120]⟩, .int .i64 1, .bool false] 52)], sl 31 0 2 2, [(31, some (ow #[.bool false, sl 222 0 0 1, .bool false, sl 18 0 1 c1, .bool false, sl 338 0 1 2, .bool false, sl 69 0 1 c1] 73)), (222, some (ow #[.int .u32 0] 170)), (18, some (ow #[.int .u32 1] 170)), (338, some (ow #[.int .u32 1, .int .u32 0] 170)), (69, some (ow #[.int .u32 1] 170))], 362⟩
theorem k151 : EntOk P 82 e151 := eO [(61, e96), (60, e93), (60, e90), (61, e88), (60, e85), (60, e82), (162, e79), (59, e63), (59, e61)] (cO k96 (cO k93 (cO k90 (cO k88 (cO k85 (cO k82 (cO k79 (cO k63 (cO k61 nO))))))))) 1 (by kernel_rfl) rfl
def e152 : Ent := ⟨[.agg #[.bool false, sl 0 0 0 1, .bool false, sl 1 0 1 c1]], [fz, fz], .int .i64 0, [], 5⟩
theorem k152 : EntOk P 125 e152 := eO [] nO 1 (by kernel_rfl) rfl
def e153 : Ent := ⟨[.pointer (some ⟨0, 0, none⟩), .agg #[sl 1 0 2 c1, sl 2 0 2 c4]], [(ow #[sl 3 0 1 c7, sl 4 0 1 c9, .slice none 0 0, .slice none 0 0, sl 5 0 2 c3] 105), (ow #[sl 6 0 2 2, sl 7 0 2 2] 65), (ow #[.bool false, .slice none 0 0, .bool false, sl 8 0 1 c1, .bool false, sl 9 0 1 c1, .bool false, sl 10 0 1 c1] 73), fz, fz, fz, (ow #[.bool false, sl 11 0 1 2, .bool false, sl 12 0 1 c1, .bool false, sl 13 0 1 2, .bool false, sl 14 0 1 c1] 73), (ow #[.bool false, sl 15 0 1 2, .bool false, sl 16 0 1 c1, .bool false, sl 17 0 0 1, .bool false, sl 18 0 1 c1] 73), (ow #[.int .u32 1] 170), (ow #[.int .u32 1] 170), (ow #[.int .u32 1] 170), (ow #[.int .u32 1, .int .u32 0] 170), (ow #[.int .u32 1] 170), (ow #[.int .u32 1, .int .u32 0] 170), (ow #[.int .u32 1] 170), (ow #[.int .u32 1, .int .u32 0] 170), (ow #[.int .u32 1] 170), fz, (ow #[.int .u32 1] 170)], .tuple #[sl 1251 0 2 2, .bool true], [(1251, some (ow #[.bool false, sl 1220 0 1 2, .bool false, sl 8 0 1 c1, .bool true, sl 968 0 1 3, .bool false, sl 10 0 1 c1] 73)), (1220, some (ow #[.int .u32 1, .int .u32 0] 170)), (968, some (ow #[.int .u32 1, .int .u32 0, .int .u32 0] 170))], 1278⟩
theorem k153 : EntOk P 43 e153 := eO [(61, e143), (90, e140), (60, e139), (125, e137), (61, e136), (60, e133), (60, e131), (125, e129), (60, e128), (126, e126), (125, e120), (61, e119), (61, e116), (90, e113), (60, e110), (125, e108), (125, e107), (60, e106), (126, e104), (125, e98), (59, e63), (59, e61)] (cO k143 (cO k140 (cO k139 (cO k137 (cO k136 (cO k133 (cO k131 (cO k129 (cO k128 (cO k126 (cO k120 (cO k119 (cO k116 (cO k113 (cO k110 (cO k108 (cO k107 (cO k106 (cO k104 (cO k98 (cO k63 (cO k61 nO)))))))))))))))))))))) 1 (by kernel_rfl) rfl
def e154 : Ent := ⟨[.agg #[.bool false, sl 0 0 1 2, .bool false, sl 1 0 1 c1]], [fz, fz], .agg #[.bool false, sl 0 0 1 2, .bool false, sl 1 0 1 c1, .bool false, .bool false], [], 4⟩
theorem k154 : EntOk P 83 e154 := eO [] nO 1 (by kernel_rfl) rfl
end
end Go.Kr
end
