/-
A part of the proof that the statement InitialValues holds of the given program (second form, tied card): summaries of calls of the example.
-/
import Derived.Test.YtleopflmnmfaeaaGreatDoorW4
set_option autoImplicit false
set_option linter.unusedSimpArgs false
set_option linter.unusedVariables false
set_option linter.unnecessarySimpa false
section
set_option maxRecDepth 100000
set_option maxHeartbeats 100000000
namespace Go.Kr
open Go.Proofs.Tryz
noncomputable section
def e191 : Ent := ⟨[.agg #[.string ⟨#[97, 100, 100]⟩, .string ⟨#[]⟩, .int .i64 0, sl 0 0 2 2]], [(ow #[.string ⟨#[118, 97, 114]⟩, .string ⟨#[120]⟩, .int .i64 0, .slice none 0 0, .string ⟨#[118, 97, 114]⟩, .string ⟨#[121]⟩, .int .i64 0, .slice none 0 0] 114)], .int .i64 3, [], 7⟩
theorem k191 : EntOk P 192 e191 := eO [] nO 1 (by kernel_rfl) rfl
def e192 : Ent := ⟨[.agg #[.string ⟨#[110, 117, 109]⟩, .string ⟨#[49]⟩, .int .i64 0, .slice none 0 0]], [], .bool false, [], 2⟩
theorem k192 : EntOk P 191 e192 := eO [] nO 1 (by kernel_rfl) rfl
def e193 : Ent := ⟨[.agg #[.string ⟨#[110, 117, 109]⟩, .string ⟨#[49]⟩, .int .i64 0, .slice none 0 0]], [], .int .i64 1, [], 2⟩
theorem k193 : EntOk P 192 e193 := eO [] nO 1 (by kernel_rfl) rfl
def e194 : Ent := ⟨[.agg #[.string ⟨#[110, 101, 103]⟩, .string ⟨#[]⟩, .int .i64 0, sl 0 0 1 1]], [(ow #[.string ⟨#[118, 97, 114]⟩, .string ⟨#[121]⟩, .int .i64 0, .slice none 0 0] 114)], .bool false, [], 5⟩
theorem k194 : EntOk P 191 e194 := eO [] nO 1 (by kernel_rfl) rfl
def e195 : Ent := ⟨[.agg #[.string ⟨#[110, 101, 103]⟩, .string ⟨#[]⟩, .int .i64 0, sl 0 0 1 1]], [(ow #[.string ⟨#[118, 97, 114]⟩, .string ⟨#[121]⟩, .int .i64 0, .slice none 0 0] 114)], .int .i64 2, [], 5⟩
theorem k195 : EntOk P 192 e195 := eO [] nO 1 (by kernel_rfl) rfl
def e196 : Ent := ⟨[.agg #[sl 0 0 2 2, sl 1 0 2 2, .slice none 0 0, .slice none 0 0]], [fz, (ow #[.string ⟨#[97]⟩, .string ⟨#[97, 100, 100]⟩, .string ⟨#[]⟩, .int .i64 0, sl 2 0 2 2, .string ⟨#[110, 117, 109]⟩, .string ⟨#[49]⟩, .int .i64 0, .slice none 0 0, .string ⟨#[98]⟩, .string ⟨#[118, 97, 114]⟩, .string ⟨#[120]⟩, .int .i64 1, .slice none 0 0, .string ⟨#[110, 101, 103]⟩, .string ⟨#[]⟩, .int .i64 0, sl 3 0 1 1] 118), (ow #[.string ⟨#[118, 97, 114]⟩, .string ⟨#[120]⟩, .int .i64 0, .slice none 0 0, .string ⟨#[118, 97, 114]⟩, .string ⟨#[121]⟩, .int .i64 0, .slice none 0 0] 114), (ow #[.string ⟨#[118, 97, 114]⟩, .string ⟨#[121]⟩, .int .i64 0, .slice none 0 0] 114)], .bool false, [], 45⟩
theorem k196 : EntOk P 151 e196 := eO [(192, e195), (191, e194), (192, e193), (191, e192), (192, e191), (191, e190), (192, e2), (191, e1), (188, e0)] (cO k195 (cO k194 (cO k193 (cO k192 (cO k191 (cO k190 (cO k2 (cO k1 (cO k0 nO))))))))) 1 (by kernel_rfl) rfl
def e197 : Ent := ⟨[.agg #[.string ⟨#[121]⟩, .int .i64 0, .int .i64 0, .string ⟨#[]⟩, .string ⟨#[49]⟩, .bool true, .string ⟨#[]⟩]], [], .string ⟨#[121]⟩, [], 1⟩
theorem k197 : EntOk P 194 e197 := eO [] nO 1 (by kernel_rfl) rfl
def e198 : Ent := ⟨[.string ⟨#[121]⟩], [], .bool true, [], 0⟩
theorem k198 : EntOk P 51 e198 := eO [] nO 1 (by kernel_rfl) rfl
def e199 : Ent := ⟨[.agg #[.string ⟨#[97]⟩, .string ⟨#[97, 100, 100]⟩, .string ⟨#[]⟩, .int .i64 0, sl 0 0 2 2, .string ⟨#[110, 117, 109]⟩, .string ⟨#[49]⟩, .int .i64 0, .slice none 0 0]], [fz], .string ⟨#[97]⟩, [], 2⟩
theorem k199 : EntOk P 196 e199 := eO [] nO 1 (by kernel_rfl) rfl
def e200 : Ent := ⟨[.string ⟨#[97]⟩], [], .bool true, [], 0⟩
theorem k200 : EntOk P 51 e200 := eO [] nO 1 (by kernel_rfl) rfl
def e201 : Ent := ⟨[.agg #[.string ⟨#[98]⟩, .string ⟨#[118, 97, 114]⟩, .string ⟨#[120]⟩, .int .i64 1, .slice none 0 0, .string ⟨#[110, 101, 103]⟩, .string ⟨#[]⟩, .int .i64 0, sl 0 0 1 1]], [fz], .string ⟨#[98]⟩, [], 2⟩
theorem k201 : EntOk P 196 e201 := eO [] nO 1 (by kernel_rfl) rfl
def e202 : Ent := ⟨[.string ⟨#[98]⟩], [], .bool true, [], 0⟩
theorem k202 : EntOk P 51 e202 := eO [] nO 1 (by kernel_rfl) rfl
def e203 : Ent := ⟨[.agg #[.string ⟨#[121]⟩, .int .i64 0, .int .i64 0, .string ⟨#[]⟩, .string ⟨#[49]⟩, .bool true, .string ⟨#[]⟩]], [], .bool true, [], 35⟩
theorem k203 : EntOk P 201 e203 := eO [(230, e19)] (cO k19 nO) 1 (by kernel_rfl) rfl
def e204 : Ent := ⟨[.string ⟨#[97, 100, 100]⟩], [], .int .i64 2, [], 2⟩
theorem k204 : EntOk P 259 e204 := eO [(265, e23)] (cO k23 nO) 1 (by kernel_rfl) rfl
def e205 : Ent := ⟨[.agg #[.string ⟨#[118, 97, 114]⟩, .string ⟨#[121]⟩, .int .i64 0, .slice none 0 0]], [], .bool true, [], 18⟩
theorem k205 : EntOk P 232 e205 := eO [(51, e198), (259, e21)] (cO k198 (cO k21 nO)) 1 (by kernel_rfl) rfl
def e206 : Ent := ⟨[.agg #[.string ⟨#[97, 100, 100]⟩, .string ⟨#[]⟩, .int .i64 0, sl 0 0 2 2]], [(ow #[.string ⟨#[118, 97, 114]⟩, .string ⟨#[120]⟩, .int .i64 0, .slice none 0 0, .string ⟨#[118, 97, 114]⟩, .string ⟨#[121]⟩, .int .i64 0, .slice none 0 0] 114)], .bool true, [], 59⟩
theorem k206 : EntOk P 232 e206 := eO [(232, e205), (259, e204), (232, e25)] (cO k205 (cO k204 (cO k25 nO))) 1 (by kernel_rfl) rfl
def e207 : Ent := ⟨[.string ⟨#[110, 117, 109]⟩], [], .int .i64 0, [], 2⟩
theorem k207 : EntOk P 259 e207 := eO [(265, e23)] (cO k23 nO) 1 (by kernel_rfl) rfl
def e208 : Ent := ⟨[.agg #[.string ⟨#[110, 117, 109]⟩, .string ⟨#[49]⟩, .int .i64 0, .slice none 0 0]], [], .bool true, [], 49⟩
theorem k208 : EntOk P 232 e208 := eO [(259, e207), (23, e16)] (cO k207 (cO k16 nO)) 1 (by kernel_rfl) rfl
def e209 : Ent := ⟨[.agg #[.string ⟨#[110, 101, 103]⟩, .string ⟨#[]⟩, .int .i64 0, sl 0 0 1 1]], [(ow #[.string ⟨#[118, 97, 114]⟩, .string ⟨#[121]⟩, .int .i64 0, .slice none 0 0] 114)], .bool true, [], 40⟩
theorem k209 : EntOk P 232 e209 := eO [(232, e205), (259, e24)] (cO k205 (cO k24 nO)) 1 (by kernel_rfl) rfl
def e210 : Ent := ⟨[.agg #[sl 0 0 2 2, sl 1 0 2 2, .slice none 0 0, .slice none 0 0]], [(ow #[.string ⟨#[120]⟩, .int .i64 0, .int .i64 0, .string ⟨#[]⟩, .string ⟨#[49]⟩, .bool true, .string ⟨#[]⟩, .string ⟨#[121]⟩, .int .i64 0, .int .i64 0, .string ⟨#[]⟩, .string ⟨#[49]⟩, .bool true, .string ⟨#[]⟩] 59), (ow #[.string ⟨#[97]⟩, .string ⟨#[97, 100, 100]⟩, .string ⟨#[]⟩, .int .i64 0, sl 2 0 2 2, .string ⟨#[110, 117, 109]⟩, .string ⟨#[49]⟩, .int .i64 0, .slice none 0 0, .string ⟨#[98]⟩, .string ⟨#[118, 97, 114]⟩, .string ⟨#[120]⟩, .int .i64 1, .slice none 0 0, .string ⟨#[110, 101, 103]⟩, .string ⟨#[]⟩, .int .i64 0, sl 3 0 1 1] 118), (ow #[.string ⟨#[118, 97, 114]⟩, .string ⟨#[120]⟩, .int .i64 0, .slice none 0 0, .string ⟨#[118, 97, 114]⟩, .string ⟨#[121]⟩, .int .i64 0, .slice none 0 0] 114), (ow #[.string ⟨#[118, 97, 114]⟩, .string ⟨#[121]⟩, .int .i64 0, .slice none 0 0] 114)], .bool true, [], 398⟩
theorem k210 : EntOk P 152 e210 := eO [(232, e209), (232, e208), (232, e206), (201, e203), (51, e202), (196, e201), (51, e200), (196, e199), (51, e198), (194, e197), (265, e23), (232, e22), (201, e20), (197, e10), (51, e7), (194, e6)] (cO k209 (cO k208 (cO k206 (cO k203 (cO k202 (cO k201 (cO k200 (cO k199 (cO k198 (cO k197 (cO k23 (cO k22 (cO k20 (cO k10 (cO k7 (cO k6 nO)))))))))))))))) 1 (by kernel_rfl) rfl
def e211 : Ent := ⟨[.agg #[sl 0 0 2 2, sl 1 0 2 2, .slice none 0 0, .slice none 0 0]], [(ow #[.string ⟨#[120]⟩, .int .i64 0, .int .i64 0, .string ⟨#[]⟩, .string ⟨#[49]⟩, .bool true, .string ⟨#[]⟩, .string ⟨#[121]⟩, .int .i64 0, .int .i64 0, .string ⟨#[]⟩, .string ⟨#[49]⟩, .bool true, .string ⟨#[]⟩] 59), fz], sl 8 0 2 c1, [(8, some (ow #[.string ⟨#[120]⟩, .string ⟨#[121]⟩] 9))], 9⟩
theorem k211 : EntOk P 156 e211 := eO [] nO 1 (by kernel_rfl) rfl
def e212 : Ent := ⟨[.agg #[.string ⟨#[118, 97, 114]⟩, .string ⟨#[121]⟩, .int .i64 0, .slice none 0 0]], [], .agg #[.string ⟨#[121]⟩, .int .i64 0, .bool false], [], 2⟩
theorem k212 : EntOk P 157 e212 := eO [] nO 1 (by kernel_rfl) rfl
def e213 : Ent := ⟨[sl 0 0 1 1, .int .i64 2], [(ow #[.int .i64 (-1)] 3)], sl 1 0 2 2, [(1, some (ow #[.int .i64 (-1), .int .i64 (-1)] 3))], 6⟩
theorem k213 : EntOk P 266 e213 := eO [(216, e78)] (cO k78 nO) 1 (by kernel_rfl) rfl
def e214 : Ent := ⟨[sl 0 0 2 c1, .string ⟨#[120]⟩], [(ow #[.string ⟨#[120]⟩, .string ⟨#[121]⟩] 9)], .tuple #[.int .i64 0, .bool true], [], 1⟩
theorem k214 : EntOk P 267 e214 := eO [] nO 1 (by kernel_rfl) rfl
def e215 : Ent := ⟨[sl 0 0 2 c1, .string ⟨#[121]⟩], [(ow #[.string ⟨#[120]⟩, .string ⟨#[121]⟩] 9)], .tuple #[.int .i64 1, .bool true], [], 1⟩
theorem k215 : EntOk P 267 e215 := eO [] nO 1 (by kernel_rfl) rfl
def e216 : Ent := ⟨[.agg #[sl 0 0 2 2, sl 1 0 2 2, .slice none 0 0, .slice none 0 0]], [(ow #[.string ⟨#[120]⟩, .int .i64 0, .int .i64 0, .string ⟨#[]⟩, .string ⟨#[49]⟩, .bool true, .string ⟨#[]⟩, .string ⟨#[121]⟩, .int .i64 0, .int .i64 0, .string ⟨#[]⟩, .string ⟨#[49]⟩, .bool true, .string ⟨#[]⟩] 59), (ow #[.string ⟨#[97]⟩, .string ⟨#[97, 100, 100]⟩, .string ⟨#[]⟩, .int .i64 0, sl 2 0 2 2, .string ⟨#[110, 117, 109]⟩, .string ⟨#[49]⟩, .int .i64 0, .slice none 0 0, .string ⟨#[98]⟩, .string ⟨#[118, 97, 114]⟩, .string ⟨#[120]⟩, .int .i64 1, .slice none 0 0, .string ⟨#[110, 101, 103]⟩, .string ⟨#[]⟩, .int .i64 0, sl 3 0 1 1] 118), (ow #[.string ⟨#[118, 97, 114]⟩, .string ⟨#[120]⟩, .int .i64 0, .slice none 0 0, .string ⟨#[118, 97, 114]⟩, .string ⟨#[121]⟩, .int .i64 0, .slice none 0 0] 114), (ow #[.string ⟨#[118, 97, 114]⟩, .string ⟨#[121]⟩, .int .i64 0, .slice none 0 0] 114)], sl 119 0 2 c1, [(119, some (ow #[sl 25 0 2 2, sl 78 0 2 2] 31)), (25, some (ow #[.int .i64 0, .int .i64 0] 3)), (78, some (ow #[.int .i64 1, .int .i64 0] 3))], 120⟩
theorem k216 : EntOk P 234 e216 := eO [(267, e215), (267, e214), (266, e213), (157, e212), (156, e211), (157, e35), (157, e34)] (cO k215 (cO k214 (cO k213 (cO k212 (cO k211 (cO k35 (cO k34 nO))))))) 4 (by kernel_rfl) rfl
def e217 : Ent := ⟨[sl 0 0 1 1, .int .i64 2], [(ow #[.int .i64 (-1099511627776)] 3)], sl 1 0 2 2, [(1, some (ow #[.int .i64 (-1099511627776), .int .i64 (-1099511627776)] 3))], 6⟩
theorem k217 : EntOk P 266 e217 := eO [(216, e78)] (cO k78 nO) 1 (by kernel_rfl) rfl
def e218 : Ent := ⟨[sl 0 0 2 c1], [(ow #[sl 1 0 2 2, sl 2 0 2 2] 31), (ow #[.int .i64 0, .int .i64 0] 3), (ow #[.int .i64 1, .int .i64 0] 3)], .tuple #[sl 121 0 2 2, .bool true], [(121, some (ow #[.int .i64 1, .int .i64 0] 3))], 122⟩
theorem k218 : EntOk P 235 e218 := eO [(266, e217), (266, e213)] (cO k217 (cO k213 nO)) 1 (by kernel_rfl) rfl
end
end Go.Kr
end
