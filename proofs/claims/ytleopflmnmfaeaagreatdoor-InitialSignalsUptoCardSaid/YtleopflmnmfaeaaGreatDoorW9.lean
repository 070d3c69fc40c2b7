/-
A part of the proof that the statement InitialValues holds of the given program (second form, tied card): summaries of calls of the example.
-/
import Derived.Test.YtleopflmnmfaeaaGreatDoorW8
set_option autoImplicit false
set_option linter.unusedSimpArgs false
set_option linter.unusedVariables false
set_option linter.unnecessarySimpa false
section
set_option maxRecDepth 100000
set_option maxHeartbeats 100000000
namespace Go.Kr
open Go.Proofs.Tryz
noncomputable section
def e273 : Ent := ⟨[.agg #[.bool true, sl 0 0 1 2]], [fz], .agg #[.bool false, sl 0 0 1 2], [], 3⟩
theorem k273 : EntOk P 97 e273 := eO [] nO 1 (by kernel_rfl) rfl
def e274 : Ent := ⟨[.agg #[.bool true, sl 0 0 1 2]], [(ow #[.int .u32 1, .int .u32 0] 170)], .int .i64 1, [], 4⟩
theorem k274 : EntOk P 55 e274 := eO [(97, e273), (62, e161)] (cO k273 (cO k161 nO)) 1 (by kernel_rfl) rfl
def e275 : Ent := ⟨[.agg #[.bool true, sl 0 0 1 2]], [(ow #[.int .u32 1, .int .u32 0] 170)], .string ⟨#[45, 49]⟩, [], 1⟩
theorem k275 : EntOk P 62 e275 := ent_word [1, 0] 1 2 str_m (by decide) (by decide) (by decide)
def e276 : Ent := ⟨[.agg #[.bool true, sl 0 0 1 2, .bool false, sl 1 0 1 c1]], [(ow #[.int .u32 1, .int .u32 0] 170), (ow #[.int .u32 1] 170)], .string ⟨#[45, 49]⟩, [], 4⟩
theorem k276 : EntOk P 26 e276 := eO [(62, e275), (58, e64)] (cO k275 (cO k64 nO)) 1 (by kernel_rfl) rfl
def e277 : Ent := ⟨[.agg #[.bool false, sl 0 0 0 1]], [fz], .agg #[.bool false, sl 0 0 0 1], [], 3⟩
theorem k277 : EntOk P 97 e277 := eO [] nO 1 (by kernel_rfl) rfl
def e278 : Ent := ⟨[.agg #[.bool false, sl 0 0 0 1]], [(ow #[.int .u32 0] 170)], .string ⟨#[48]⟩, [], 1⟩
theorem k278 : EntOk P 62 e278 := ent_word [0] 0 1 str_0 (by decide) (by decide) (by decide)
def e279 : Ent := ⟨[.agg #[.bool false, sl 0 0 0 1]], [(ow #[.int .u32 0] 170)], .int .i64 1, [], 4⟩
theorem k279 : EntOk P 55 e279 := eO [(62, e278), (97, e277)] (cO k278 (cO k277 nO)) 1 (by kernel_rfl) rfl
def e280 : Ent := ⟨[.agg #[.bool false, sl 0 0 0 1, .bool false, sl 1 0 1 c1]], [(ow #[.int .u32 0] 170), (ow #[.int .u32 1] 170)], .string ⟨#[48]⟩, [], 4⟩
theorem k280 : EntOk P 26 e280 := eO [(62, e278), (58, e64)] (cO k278 (cO k64 nO)) 1 (by kernel_rfl) rfl
def e281 : Ent := ⟨[.agg #[.bool false, sl 0 0 1 3]], [(ow #[.int .u32 1, .int .u32 0, .int .u32 0] 170)], .int .i64 1, [], 4⟩
theorem k281 : EntOk P 55 e281 := eO [(62, e166), (97, e100)] (cO k166 (cO k100 nO)) 1 (by kernel_rfl) rfl
def e282 : Ent := ⟨[.agg #[.bool false, sl 0 0 1 3, .bool false, sl 1 0 1 c1]], [(ow #[.int .u32 1, .int .u32 0, .int .u32 0] 170), (ow #[.int .u32 1] 170)], .string ⟨#[49]⟩, [], 4⟩
theorem k282 : EntOk P 26 e282 := eO [(62, e166), (58, e64)] (cO k166 (cO k64 nO)) 1 (by kernel_rfl) rfl
def e283 : Ent := ⟨[], [], .bool true, [], 39706⟩
theorem k283 : EntOk P 5 e283 := eO [(26, e282), (55, e281), (26, e280), (55, e279), (26, e276), (55, e274), (49, e272), (16, e260), (126, e259), (61, e258), (60, e256), (82, e254), (82, e253), (160, e250), (160, e249), (121, e242), (152, e241), (151, e236), (239, e235), (239, e234), (248, e233), (151, e228), (208, e223), (208, e222), (208, e221), (205, e219), (156, e211), (152, e210), (51, e202), (51, e200), (151, e196), (16, e189), (16, e180), (26, e158), (125, e152), (125, e144), (61, e136), (60, e133), (125, e129), (60, e128), (126, e126), (125, e120), (61, e119), (61, e116), (90, e113), (60, e110), (125, e108), (125, e107), (60, e106), (126, e104), (125, e98), (59, e63), (59, e61), (121, e59), (245, e54), (248, e53), (208, e43), (23, e32), (23, e16), (55, e15)] (cO k282 (cO k281 (cO k280 (cO k279 (cO k276 (cO k274 (cO k272 (cO k260 (cO k259 (cO k258 (cO k256 (cO k254 (cO k253 (cO k250 (cO k249 (cO k242 (cO k241 (cO k236 (cO k235 (cO k234 (cO k233 (cO k228 (cO k223 (cO k222 (cO k221 (cO k219 (cO k211 (cO k210 (cO k202 (cO k200 (cO k196 (cO k189 (cO k180 (cO k158 (cO k152 (cO k144 (cO k136 (cO k133 (cO k129 (cO k128 (cO k126 (cO k120 (cO k119 (cO k116 (cO k113 (cO k110 (cO k108 (cO k107 (cO k106 (cO k104 (cO k98 (cO k63 (cO k61 (cO k59 (cO k54 (cO k53 (cO k43 (cO k32 (cO k16 (cO k15 nO)))))))))))))))))))))))))))))))))))))))))))))))))))))))))))) 1 (by kernel_rfl) rfl
end
end Go.Kr
end
