/-
A part of the proof that the statement InitialValues holds of the given program (second form, tied card): summaries of calls of the example.
-/
import Derived.Test.YtleopflmnmfaeaaGreatDoorPX
set_option autoImplicit false
set_option linter.unusedSimpArgs false
set_option linter.unusedVariables false
set_option linter.unnecessarySimpa false
section
set_option maxRecDepth 100000
set_option maxHeartbeats 100000000
namespace Go.Kr
open Go.Proofs.Tryz
noncomputable section
def e0 : Ent := ⟨[.slice none 0 0, .func (.func 189) #[] #[]], [], .bool false, [], 0⟩
theorem k0 : EntOk P 188 e0 := eO [] nO 1 (by kernel_rfl) rfl
def e1 : Ent := ⟨[.agg #[.string ⟨#[118, 97, 114]⟩, .string ⟨#[120]⟩, .int .i64 1, .slice none 0 0]], [], .bool false, [], 2⟩
theorem k1 : EntOk P 191 e1 := eO [] nO 1 (by kernel_rfl) rfl
def e2 : Ent := ⟨[.agg #[.string ⟨#[118, 97, 114]⟩, .string ⟨#[120]⟩, .int .i64 1, .slice none 0 0]], [], .int .i64 1, [], 2⟩
theorem k2 : EntOk P 192 e2 := eO [] nO 1 (by kernel_rfl) rfl
def e3 : Ent := ⟨[.agg #[.string ⟨#[110, 101, 103]⟩, .string ⟨#[]⟩, .int .i64 0, sl 0 0 1 1]], [(ow #[.string ⟨#[118, 97, 114]⟩, .string ⟨#[120]⟩, .int .i64 0, .slice none 0 0] 114)], .bool false, [], 5⟩
theorem k3 : EntOk P 191 e3 := eO [] nO 1 (by kernel_rfl) rfl
def e4 : Ent := ⟨[.agg #[.string ⟨#[110, 101, 103]⟩, .string ⟨#[]⟩, .int .i64 0, sl 0 0 1 1]], [(ow #[.string ⟨#[118, 97, 114]⟩, .string ⟨#[120]⟩, .int .i64 0, .slice none 0 0] 114)], .int .i64 2, [], 5⟩
theorem k4 : EntOk P 192 e4 := eO [] nO 1 (by kernel_rfl) rfl
def e5 : Ent := ⟨[.agg #[sl 0 0 1 1, sl 1 0 1 1, .slice none 0 0, .slice none 0 0]], [fz, (ow #[.string ⟨#[101]⟩, .string ⟨#[118, 97, 114]⟩, .string ⟨#[120]⟩, .int .i64 1, .slice none 0 0, .string ⟨#[110, 101, 103]⟩, .string ⟨#[]⟩, .int .i64 0, sl 2 0 1 1] 118), (ow #[.string ⟨#[118, 97, 114]⟩, .string ⟨#[120]⟩, .int .i64 0, .slice none 0 0] 114)], .bool false, [], 23⟩
theorem k5 : EntOk P 151 e5 := eO [(192, e4), (191, e3), (192, e2), (191, e1), (188, e0)] (cO k4 (cO k3 (cO k2 (cO k1 (cO k0 nO))))) 1 (by kernel_rfl) rfl
def e6 : Ent := ⟨[.agg #[.string ⟨#[120]⟩, .int .i64 0, .int .i64 0, .string ⟨#[]⟩, .string ⟨#[49]⟩, .bool true, .string ⟨#[]⟩]], [], .string ⟨#[120]⟩, [], 1⟩
theorem k6 : EntOk P 194 e6 := eO [] nO 1 (by kernel_rfl) rfl
def e7 : Ent := ⟨[.string ⟨#[120]⟩], [], .bool true, [], 0⟩
theorem k7 : EntOk P 51 e7 := eO [] nO 1 (by kernel_rfl) rfl
def e8 : Ent := ⟨[.agg #[.string ⟨#[101]⟩, .string ⟨#[118, 97, 114]⟩, .string ⟨#[120]⟩, .int .i64 1, .slice none 0 0, .string ⟨#[110, 101, 103]⟩, .string ⟨#[]⟩, .int .i64 0, sl 0 0 1 1]], [fz], .string ⟨#[101]⟩, [], 2⟩
theorem k8 : EntOk P 196 e8 := eO [] nO 1 (by kernel_rfl) rfl
def e9 : Ent := ⟨[.string ⟨#[101]⟩], [], .bool true, [], 0⟩
theorem k9 : EntOk P 51 e9 := eO [] nO 1 (by kernel_rfl) rfl
def e10 : Ent := ⟨[.slice none 0 0, .func (.func 198) #[] #[]], [], .bool true, [], 0⟩
theorem k10 : EntOk P 197 e10 := eO [] nO 1 (by kernel_rfl) rfl
def e11 : Ent := ⟨[sl 0 0 1 c1, .bool false], [(ow #[.int .u32 1] 170)], .agg #[.bool false, sl 0 0 1 c1], [], 2⟩
theorem k11 : EntOk P 96 e11 := eO [] nO 1 (by kernel_rfl) rfl
def e12 : Ent := ⟨[.int .i64 1], [], .agg #[.bool false, sl 3 0 1 c1], [(3, some (ow #[.int .u32 1] 170))], 4⟩
theorem k12 : EntOk P 54 e12 := eO [] nO 1 (by kernel_rfl) rfl
def e13 : Ent := ⟨[.agg #[.bool false, sl 0 0 1 c1]], [fz], .agg #[.bool false, sl 0 0 1 c1], [], 3⟩
theorem k13 : EntOk P 97 e13 := eO [] nO 1 (by kernel_rfl) rfl
def e14 : Ent := ⟨[.agg #[.bool false, sl 0 0 1 c1]], [(ow #[.int .u32 1] 170)], .string ⟨#[49]⟩, [], 1⟩
theorem k14 : EntOk P 62 e14 := ent_word [1] 1 c1 str_1 (by decide) (by decide) (by decide)
def e15 : Ent := ⟨[.agg #[.bool false, sl 0 0 1 c1]], [(ow #[.int .u32 1] 170)], .int .i64 1, [], 4⟩
theorem k15 : EntOk P 55 e15 := eO [(62, e14), (97, e13)] (cO k14 (cO k13 nO)) 1 (by kernel_rfl) rfl
def e16 : Ent := ⟨[.string ⟨#[49]⟩], [], .tuple #[.agg #[.bool false, sl 6 0 1 c1, .bool false, sl 16 0 1 c1], .bool true], [(6, some (ow #[.int .u32 1] 170)), (16, some (ow #[.int .u32 1] 170))], 28⟩
theorem k16 : EntOk P 23 e16 := eO [(55, e15), (54, e12), (96, e11)] (cO k15 (cO k12 (cO k11 nO))) 1 (by kernel_rfl) rfl
def e17 : Ent := ⟨[.agg #[.bool false, sl 0 0 1 c1, .bool false, sl 1 0 1 c1]], [fz, fz], .agg #[.bool false, sl 0 0 1 c1, .bool false, sl 1 0 1 c1, .bool false, .bool false], [], 4⟩
theorem k17 : EntOk P 83 e17 := eO [] nO 1 (by kernel_rfl) rfl
def e18 : Ent := ⟨[.string ⟨#[49]⟩], [], .tuple #[.agg #[.bool false, sl 7 0 1 c1, .bool false, sl 17 0 1 c1, .bool false, .bool false], .bool true], [(7, some (ow #[.int .u32 1] 170)), (17, some (ow #[.int .u32 1] 170))], 32⟩
theorem k18 : EntOk P 120 e18 := eO [(83, e17), (23, e16)] (cO k17 (cO k16 nO)) 1 (by kernel_rfl) rfl
def e19 : Ent := ⟨[.string ⟨#[49]⟩, .int .i64 0], [], .bool true, [], 34⟩
theorem k19 : EntOk P 230 e19 := eO [(120, e18)] (cO k18 nO) 1 (by kernel_rfl) rfl
def e20 : Ent := ⟨[.agg #[.string ⟨#[120]⟩, .int .i64 0, .int .i64 0, .string ⟨#[]⟩, .string ⟨#[49]⟩, .bool true, .string ⟨#[]⟩]], [], .bool true, [], 35⟩
theorem k20 : EntOk P 201 e20 := eO [(230, e19)] (cO k19 nO) 1 (by kernel_rfl) rfl
def e21 : Ent := ⟨[.string ⟨#[118, 97, 114]⟩], [], .int .i64 0, [], 0⟩
theorem k21 : EntOk P 259 e21 := eO [] nO 1 (by kernel_rfl) rfl
def e22 : Ent := ⟨[.agg #[.string ⟨#[118, 97, 114]⟩, .string ⟨#[120]⟩, .int .i64 1, .slice none 0 0]], [], .bool true, [], 18⟩
theorem k22 : EntOk P 232 e22 := eO [(259, e21), (51, e7)] (cO k21 (cO k7 nO)) 1 (by kernel_rfl) rfl
def e23 : Ent := ⟨[], [], .map (some 0), [(0, some ⟨true, .map #[⟨.string ⟨#[110, 117, 109]⟩, .agg #[.int .i64 0, .bool false, .bool false], 0⟩, ⟨.string ⟨#[116, 105, 109, 101]⟩, .agg #[.int .i64 0, .bool false, .bool false], 1⟩, ⟨.string ⟨#[110, 101, 103]⟩, .agg #[.int .i64 1, .bool false, .bool false], 2⟩, ⟨.string ⟨#[116, 114, 117, 101]⟩, .agg #[.int .i64 0, .bool false, .bool true], 3⟩, ⟨.string ⟨#[102, 97, 108, 115, 101]⟩, .agg #[.int .i64 0, .bool false, .bool true], 4⟩, ⟨.string ⟨#[105, 110, 105, 116, 105, 97, 108]⟩, .agg #[.int .i64 0, .bool false, .bool true], 5⟩, ⟨.string ⟨#[97, 100, 100]⟩, .agg #[.int .i64 2, .bool false, .bool false], 6⟩, ⟨.string ⟨#[115, 117, 98]⟩, .agg #[.int .i64 2, .bool false, .bool false], 7⟩, ⟨.string ⟨#[109, 117, 108]⟩, .agg #[.int .i64 2, .bool false, .bool false], 8⟩, ⟨.string ⟨#[100, 105, 118]⟩, .agg #[.int .i64 2, .bool false, .bool false], 9⟩, ⟨.string ⟨#[108, 101, 115, 115]⟩, .agg #[.int .i64 2, .bool false, .bool true], 10⟩, ⟨.string ⟨#[97, 116, 109, 111, 115, 116]⟩, .agg #[.int .i64 2, .bool false, .bool true], 11⟩, ⟨.string ⟨#[109, 111, 114, 101]⟩, .agg #[.int .i64 2, .bool false, .bool true], 12⟩, ⟨.string ⟨#[97, 116, 108, 101, 97, 115, 116]⟩, .agg #[.int .i64 2, .bool false, .bool true], 13⟩, ⟨.string ⟨#[97, 110, 100]⟩, .agg #[.int .i64 2, .bool true, .bool true], 14⟩, ⟨.string ⟨#[111, 114]⟩, .agg #[.int .i64 2, .bool true, .bool true], 15⟩, ⟨.string ⟨#[110, 111, 116]⟩, .agg #[.int .i64 1, .bool true, .bool true], 16⟩, ⟨.string ⟨#[115, 97, 109, 112, 108, 101]⟩, .agg #[.int .i64 2, .bool false, .bool true], 17⟩] 18⟩)], 1⟩
theorem k23 : EntOk P 265 e23 := eO [] nO 1 (by kernel_rfl) rfl
def e24 : Ent := ⟨[.string ⟨#[110, 101, 103]⟩], [], .int .i64 1, [], 2⟩
theorem k24 : EntOk P 259 e24 := eO [(265, e23)] (cO k23 nO) 1 (by kernel_rfl) rfl
def e25 : Ent := ⟨[.agg #[.string ⟨#[118, 97, 114]⟩, .string ⟨#[120]⟩, .int .i64 0, .slice none 0 0]], [], .bool true, [], 18⟩
theorem k25 : EntOk P 232 e25 := eO [(259, e21), (51, e7)] (cO k21 (cO k7 nO)) 1 (by kernel_rfl) rfl
def e26 : Ent := ⟨[.agg #[.string ⟨#[110, 101, 103]⟩, .string ⟨#[]⟩, .int .i64 0, sl 0 0 1 1]], [(ow #[.string ⟨#[118, 97, 114]⟩, .string ⟨#[120]⟩, .int .i64 0, .slice none 0 0] 114)], .bool true, [], 40⟩
theorem k26 : EntOk P 232 e26 := eO [(232, e25), (259, e24)] (cO k25 (cO k24 nO)) 1 (by kernel_rfl) rfl
def e27 : Ent := ⟨[.agg #[sl 0 0 1 1, sl 1 0 1 1, .slice none 0 0, .slice none 0 0]], [(ow #[.string ⟨#[120]⟩, .int .i64 0, .int .i64 0, .string ⟨#[]⟩, .string ⟨#[49]⟩, .bool true, .string ⟨#[]⟩] 59), (ow #[.string ⟨#[101]⟩, .string ⟨#[118, 97, 114]⟩, .string ⟨#[120]⟩, .int .i64 1, .slice none 0 0, .string ⟨#[110, 101, 103]⟩, .string ⟨#[]⟩, .int .i64 0, sl 2 0 1 1] 118), (ow #[.string ⟨#[118, 97, 114]⟩, .string ⟨#[120]⟩, .int .i64 0, .slice none 0 0] 114)], .bool true, [], 160⟩
theorem k27 : EntOk P 152 e27 := eO [(232, e26), (265, e23), (232, e22), (201, e20), (197, e10), (51, e9), (196, e8), (51, e7), (194, e6)] (cO k26 (cO k23 (cO k22 (cO k20 (cO k10 (cO k9 (cO k8 (cO k7 (cO k6 nO))))))))) 1 (by kernel_rfl) rfl
def e28 : Ent := ⟨[sl 0 0 1 c1, .bool false], [(ow #[.int .u32 0] 170)], .agg #[.bool false, sl 0 0 0 c1], [], 2⟩
theorem k28 : EntOk P 96 e28 := eO [] nO 1 (by kernel_rfl) rfl
def e29 : Ent := ⟨[.agg #[.bool false, sl 0 0 0 c1]], [fz], .agg #[.bool false, sl 0 0 0 c1], [], 3⟩
theorem k29 : EntOk P 97 e29 := eO [] nO 1 (by kernel_rfl) rfl
def e30 : Ent := ⟨[.agg #[.bool false, sl 0 0 0 c1]], [(ow #[.int .u32 0] 170)], .string ⟨#[48]⟩, [], 1⟩
theorem k30 : EntOk P 62 e30 := ent_word [0] 0 c1 str_0 (by decide) (by decide) (by decide)
def e31 : Ent := ⟨[.agg #[.bool false, sl 0 0 0 c1]], [(ow #[.int .u32 0] 170)], .int .i64 1, [], 4⟩
theorem k31 : EntOk P 55 e31 := eO [(62, e30), (97, e29)] (cO k30 (cO k29 nO)) 1 (by kernel_rfl) rfl
def e32 : Ent := ⟨[.string ⟨#[48]⟩], [], .tuple #[.agg #[.bool false, sl 6 0 0 c1, .bool false, sl 16 0 1 c1], .bool true], [(6, some (ow #[.int .u32 0] 170)), (16, some (ow #[.int .u32 1] 170))], 28⟩
theorem k32 : EntOk P 23 e32 := eO [(55, e31), (96, e28), (54, e12)] (cO k31 (cO k28 (cO k12 nO))) 1 (by kernel_rfl) rfl
def e33 : Ent := ⟨[.agg #[sl 0 0 1 1, sl 1 0 1 1, .slice none 0 0, .slice none 0 0]], [(ow #[.string ⟨#[120]⟩, .int .i64 0, .int .i64 0, .string ⟨#[]⟩, .string ⟨#[49]⟩, .bool true, .string ⟨#[]⟩] 59), fz], sl 5 0 1 c1, [(5, some (ow #[.string ⟨#[120]⟩] 9))], 6⟩
theorem k33 : EntOk P 156 e33 := eO [] nO 1 (by kernel_rfl) rfl
def e34 : Ent := ⟨[.agg #[.string ⟨#[118, 97, 114]⟩, .string ⟨#[120]⟩, .int .i64 1, .slice none 0 0]], [], .agg #[.string ⟨#[120]⟩, .int .i64 1, .bool false], [], 2⟩
theorem k34 : EntOk P 157 e34 := eO [] nO 1 (by kernel_rfl) rfl
def e35 : Ent := ⟨[.agg #[.string ⟨#[118, 97, 114]⟩, .string ⟨#[120]⟩, .int .i64 0, .slice none 0 0]], [], .agg #[.string ⟨#[120]⟩, .int .i64 0, .bool false], [], 2⟩
theorem k35 : EntOk P 157 e35 := eO [] nO 1 (by kernel_rfl) rfl
def e36 : Ent := ⟨[.int .u64 1, .int .u64 1], [], .tuple #[.int .u64 0, .int .u64 1], [], 0⟩
theorem k36 : EntOk P 216 e36 := eO [] nO 1 (by kernel_rfl) rfl
def e37 : Ent := ⟨[sl 0 0 1 1, .int .i64 1], [(ow #[.int .i64 (-1)] 3)], sl 1 0 1 1, [(1, some (ow #[.int .i64 (-1)] 3))], 2⟩
theorem k37 : EntOk P 266 e37 := eO [(216, e36)] (cO k36 nO) 1 (by kernel_rfl) rfl
def e38 : Ent := ⟨[sl 0 0 1 c1, .string ⟨#[120]⟩], [(ow #[.string ⟨#[120]⟩] 9)], .tuple #[.int .i64 0, .bool true], [], 1⟩
theorem k38 : EntOk P 267 e38 := eO [] nO 1 (by kernel_rfl) rfl
def e39 : Ent := ⟨[.agg #[sl 0 0 1 1, sl 1 0 1 1, .slice none 0 0, .slice none 0 0]], [(ow #[.string ⟨#[120]⟩, .int .i64 0, .int .i64 0, .string ⟨#[]⟩, .string ⟨#[49]⟩, .bool true, .string ⟨#[]⟩] 59), (ow #[.string ⟨#[101]⟩, .string ⟨#[118, 97, 114]⟩, .string ⟨#[120]⟩, .int .i64 1, .slice none 0 0, .string ⟨#[110, 101, 103]⟩, .string ⟨#[]⟩, .int .i64 0, sl 2 0 1 1] 118), (ow #[.string ⟨#[118, 97, 114]⟩, .string ⟨#[120]⟩, .int .i64 0, .slice none 0 0] 114)], sl 56 0 1 c1, [(56, some (ow #[sl 19 0 1 1] 31)), (19, some (ow #[.int .i64 1] 3))], 57⟩
theorem k39 : EntOk P 234 e39 := eO [(267, e38), (266, e37), (157, e35), (157, e34), (156, e33)] (cO k38 (cO k37 (cO k35 (cO k34 (cO k33 nO))))) 2 (by kernel_rfl) rfl
def e40 : Ent := ⟨[sl 0 0 1 1, .int .i64 1], [(ow #[.int .i64 (-1099511627776)] 3)], sl 1 0 1 1, [(1, some (ow #[.int .i64 (-1099511627776)] 3))], 2⟩
theorem k40 : EntOk P 266 e40 := eO [(216, e36)] (cO k36 nO) 1 (by kernel_rfl) rfl
def e41 : Ent := ⟨[sl 0 0 1 c1], [(ow #[sl 1 0 1 1] 31), (ow #[.int .i64 1] 3)], .tuple #[sl 16 0 1 1, .bool true], [(16, some (ow #[.int .i64 0] 3))], 17⟩
theorem k41 : EntOk P 235 e41 := eO [(266, e40), (266, e37)] (cO k40 (cO k37 nO)) 1 (by kernel_rfl) rfl
def e42 : Ent := ⟨[.agg #[sl 0 0 1 1, sl 1 0 1 1, .slice none 0 0, .slice none 0 0]], [(ow #[.string ⟨#[120]⟩, .int .i64 0, .int .i64 0, .string ⟨#[]⟩, .string ⟨#[49]⟩, .bool true, .string ⟨#[]⟩] 59), (ow #[.string ⟨#[101]⟩, .string ⟨#[118, 97, 114]⟩, .string ⟨#[120]⟩, .int .i64 1, .slice none 0 0, .string ⟨#[110, 101, 103]⟩, .string ⟨#[]⟩, .int .i64 0, sl 2 0 1 1] 118), (ow #[.string ⟨#[118, 97, 114]⟩, .string ⟨#[120]⟩, .int .i64 0, .slice none 0 0] 114)], .tuple #[.agg #[sl 78 0 1 1, sl 82 0 1 1], .bool true], [(78, some (ow #[.int .i64 0] 3)), (82, some (ow #[.int .i64 1] 3))], 146⟩
theorem k42 : EntOk P 205 e42 := eO [(235, e41), (234, e39), (156, e33)] (cO k41 (cO k39 (cO k33 nO))) 1 (by kernel_rfl) rfl
def e43 : Ent := ⟨[.agg #[.string ⟨#[118, 97, 114]⟩, .string ⟨#[120]⟩, .int .i64 1, .slice none 0 0]], [], .agg #[.string ⟨#[118, 97, 114]⟩, .string ⟨#[120]⟩, .int .i64 1, .slice none 0 0], [], 2⟩
theorem k43 : EntOk P 208 e43 := eO [] nO 1 (by kernel_rfl) rfl
end
end Go.Kr
end
