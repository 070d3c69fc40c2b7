/-
A part of the proof that the statement InitialValues holds of the given program (second form, tied card): summaries of calls of the example.
-/
import Derived.Test.YtleopflmnmfaeaaGreatDoorW3
set_option autoImplicit false
set_option linter.unusedSimpArgs false
set_option linter.unusedVariables false
set_option linter.unnecessarySimpa false
section
set_option maxRecDepth 100000
set_option maxHeartbeats 100000000
namespace Go.Kr
open Go.Proofs.Tryz
noncomputable section
def e181 : Ent := ⟨[.agg #[.string ⟨#[120]⟩, .int .i64 0, .int .i64 0, .string ⟨#[]⟩, .string ⟨#[49]⟩, .bool false, .string ⟨#[]⟩]], [], .string ⟨#[120]⟩, [], 1⟩
theorem k181 : EntOk P 194 e181 := eO [] nO 1 (by kernel_rfl) rfl
def e182 : Ent := ⟨[.agg #[.string ⟨#[120]⟩, .int .i64 0, .int .i64 0, .string ⟨#[]⟩, .string ⟨#[49]⟩, .bool false, .string ⟨#[]⟩]], [], .bool true, [], 35⟩
theorem k182 : EntOk P 201 e182 := eO [(230, e19)] (cO k19 nO) 1 (by kernel_rfl) rfl
def e183 : Ent := ⟨[.agg #[sl 0 0 1 1, sl 1 0 1 1, .slice none 0 0, .slice none 0 0]], [(ow #[.string ⟨#[120]⟩, .int .i64 0, .int .i64 0, .string ⟨#[]⟩, .string ⟨#[49]⟩, .bool false, .string ⟨#[]⟩] 59), (ow #[.string ⟨#[101]⟩, .string ⟨#[118, 97, 114]⟩, .string ⟨#[120]⟩, .int .i64 1, .slice none 0 0, .string ⟨#[110, 101, 103]⟩, .string ⟨#[]⟩, .int .i64 0, sl 2 0 1 1] 118), (ow #[.string ⟨#[118, 97, 114]⟩, .string ⟨#[120]⟩, .int .i64 0, .slice none 0 0] 114)], .bool true, [], 160⟩
theorem k183 : EntOk P 152 e183 := eO [(201, e182), (194, e181), (232, e26), (265, e23), (232, e22), (197, e10), (51, e9), (196, e8), (51, e7)] (cO k182 (cO k181 (cO k26 (cO k23 (cO k22 (cO k10 (cO k9 (cO k8 (cO k7 nO))))))))) 1 (by kernel_rfl) rfl
def e184 : Ent := ⟨[.agg #[sl 0 0 1 1, sl 1 0 1 1, .slice none 0 0, .slice none 0 0]], [(ow #[.string ⟨#[120]⟩, .int .i64 0, .int .i64 0, .string ⟨#[]⟩, .string ⟨#[49]⟩, .bool false, .string ⟨#[]⟩] 59), fz], sl 5 0 1 c1, [(5, some (ow #[.string ⟨#[120]⟩] 9))], 6⟩
theorem k184 : EntOk P 156 e184 := eO [] nO 1 (by kernel_rfl) rfl
def e185 : Ent := ⟨[.agg #[sl 0 0 1 1, sl 1 0 1 1, .slice none 0 0, .slice none 0 0]], [(ow #[.string ⟨#[120]⟩, .int .i64 0, .int .i64 0, .string ⟨#[]⟩, .string ⟨#[49]⟩, .bool false, .string ⟨#[]⟩] 59), (ow #[.string ⟨#[101]⟩, .string ⟨#[118, 97, 114]⟩, .string ⟨#[120]⟩, .int .i64 1, .slice none 0 0, .string ⟨#[110, 101, 103]⟩, .string ⟨#[]⟩, .int .i64 0, sl 2 0 1 1] 118), (ow #[.string ⟨#[118, 97, 114]⟩, .string ⟨#[120]⟩, .int .i64 0, .slice none 0 0] 114)], sl 56 0 1 c1, [(56, some (ow #[sl 19 0 1 1] 31)), (19, some (ow #[.int .i64 1] 3))], 57⟩
theorem k185 : EntOk P 234 e185 := eO [(156, e184), (267, e38), (266, e37), (157, e35), (157, e34)] (cO k184 (cO k38 (cO k37 (cO k35 (cO k34 nO))))) 2 (by kernel_rfl) rfl
def e186 : Ent := ⟨[.agg #[sl 0 0 1 1, sl 1 0 1 1, .slice none 0 0, .slice none 0 0]], [(ow #[.string ⟨#[120]⟩, .int .i64 0, .int .i64 0, .string ⟨#[]⟩, .string ⟨#[49]⟩, .bool false, .string ⟨#[]⟩] 59), (ow #[.string ⟨#[101]⟩, .string ⟨#[118, 97, 114]⟩, .string ⟨#[120]⟩, .int .i64 1, .slice none 0 0, .string ⟨#[110, 101, 103]⟩, .string ⟨#[]⟩, .int .i64 0, sl 2 0 1 1] 118), (ow #[.string ⟨#[118, 97, 114]⟩, .string ⟨#[120]⟩, .int .i64 0, .slice none 0 0] 114)], .tuple #[.agg #[sl 78 0 1 1, sl 82 0 1 1], .bool true], [(78, some (ow #[.int .i64 0] 3)), (82, some (ow #[.int .i64 1] 3))], 146⟩
theorem k186 : EntOk P 205 e186 := eO [(234, e185), (156, e184), (235, e41)] (cO k185 (cO k184 (cO k41 nO))) 1 (by kernel_rfl) rfl
def e187 : Ent := ⟨[.agg #[sl 0 0 1 c7, sl 1 0 1 c9, .slice none 0 0, .slice none 0 0]], [(ow #[.string ⟨#[120]⟩, .int .i64 0, .int .i64 0, .string ⟨#[]⟩, .string ⟨#[49]⟩, .bool false, .string ⟨#[]⟩] 59), (ow #[.string ⟨#[101]⟩, .string ⟨#[118, 97, 114]⟩, .string ⟨#[120]⟩, .int .i64 1, .slice none 0 0, .string ⟨#[110, 101, 103]⟩, .string ⟨#[]⟩, .int .i64 0, sl 2 0 1 c4] 118), (ow #[.string ⟨#[118, 97, 114]⟩, .string ⟨#[120]⟩, .int .i64 0, .slice none 0 0] 114)], .bool true, [], 160⟩
theorem k187 : EntOk P 152 e187 := eO [(201, e182), (194, e181), (232, e57), (196, e56), (265, e23), (232, e22), (197, e10), (51, e9), (51, e7)] (cO k182 (cO k181 (cO k57 (cO k56 (cO k23 (cO k22 (cO k10 (cO k9 (cO k7 nO))))))))) 1 (by kernel_rfl) rfl
def e188 : Ent := ⟨[.agg #[.string ⟨#[120]⟩, .int .i64 0, .int .i64 0, .string ⟨#[]⟩, .string ⟨#[49]⟩, .bool false, .string ⟨#[]⟩]], [], .agg #[.bool false, sl 9 0 1 c1, .bool false, sl 19 0 1 c1, .bool false, .bool false], [(9, some (ow #[.int .u32 1] 170)), (19, some (ow #[.int .u32 1] 170))], 35⟩
theorem k188 : EntOk P 121 e188 := eO [(120, e18)] (cO k18 nO) 1 (by kernel_rfl) rfl
def e189 : Ent := ⟨[.agg #[sl 0 0 1 1, sl 1 0 1 1, .slice none 0 0, .slice none 0 0], .slice none 0 0, .string ⟨#[48]⟩], [(ow #[.string ⟨#[120]⟩, .int .i64 0, .int .i64 0, .string ⟨#[]⟩, .string ⟨#[49]⟩, .bool false, .string ⟨#[]⟩] 59), (ow #[.string ⟨#[101]⟩, .string ⟨#[118, 97, 114]⟩, .string ⟨#[120]⟩, .int .i64 1, .slice none 0 0, .string ⟨#[110, 101, 103]⟩, .string ⟨#[]⟩, .int .i64 0, sl 2 0 1 1] 118), (ow #[.string ⟨#[118, 97, 114]⟩, .string ⟨#[120]⟩, .int .i64 0, .slice none 0 0] 114)], .tuple #[.agg #[.string ⟨#[48]⟩, .bool true, sl 6911 0 3 c4], sl 4116 0 1 c3, .int .i64 0], [(6911, some (ow #[.string ⟨#[120]⟩, .int .i64 0, .bool false, .string ⟨#[49]⟩, .string ⟨#[120]⟩, .int .i64 1, .bool false, .string ⟨#[45, 49]⟩, .string ⟨#[120]⟩, .int .i64 0, .bool true, .string ⟨#[49]⟩] 54)), (4116, some (ow #[.string ⟨#[120]⟩, .int .i64 0, .bool false] 52))], 7004⟩
theorem k189 : EntOk P 16 e189 := eO [(121, e188), (152, e187), (205, e186), (156, e184), (152, e183), (45, e179), (83, e155), (83, e154), (43, e153), (125, e152), (82, e151), (61, e150), (60, e146), (125, e144), (90, e140), (60, e128), (126, e126), (125, e120), (61, e119), (61, e116), (90, e113), (60, e110), (125, e108), (125, e107), (60, e106), (126, e104), (125, e98), (82, e97), (160, e77), (59, e63), (59, e61), (151, e55), (245, e54), (248, e53), (248, e52), (151, e48), (208, e45), (208, e43), (23, e32), (23, e16), (51, e9), (151, e5)] (cO k188 (cO k187 (cO k186 (cO k184 (cO k183 (cO k179 (cO k155 (cO k154 (cO k153 (cO k152 (cO k151 (cO k150 (cO k146 (cO k144 (cO k140 (cO k128 (cO k126 (cO k120 (cO k119 (cO k116 (cO k113 (cO k110 (cO k108 (cO k107 (cO k106 (cO k104 (cO k98 (cO k97 (cO k77 (cO k63 (cO k61 (cO k55 (cO k54 (cO k53 (cO k52 (cO k48 (cO k45 (cO k43 (cO k32 (cO k16 (cO k9 (cO k5 nO)))))))))))))))))))))))))))))))))))))))))) 1 (by kernel_rfl) rfl
def e190 : Ent := ⟨[.agg #[.string ⟨#[97, 100, 100]⟩, .string ⟨#[]⟩, .int .i64 0, sl 0 0 2 2]], [(ow #[.string ⟨#[118, 97, 114]⟩, .string ⟨#[120]⟩, .int .i64 0, .slice none 0 0, .string ⟨#[118, 97, 114]⟩, .string ⟨#[121]⟩, .int .i64 0, .slice none 0 0] 114)], .bool false, [], 7⟩
theorem k190 : EntOk P 191 e190 := eO [] nO 1 (by kernel_rfl) rfl
end
end Go.Kr
end
