/-
A part of the proof that the statement InitialValues holds of the given program (second form, tied card): summaries of calls of the example.
-/
import Derived.Test.YtleopflmnmfaeaaGreatDoorW2
set_option autoImplicit false
set_option linter.unusedSimpArgs false
set_option linter.unusedVariables false
set_option linter.unnecessarySimpa false
section
set_option maxRecDepth 100000
set_option maxHeartbeats 100000000
namespace Go.Kr
open Go.Proofs.Tryz
noncomputable section
def e155 : Ent := ⟨[.agg #[.bool true, sl 0 0 1 3, .bool false, sl 1 0 1 c1]], [fz, fz], .agg #[.bool true, sl 0 0 1 3, .bool false, sl 1 0 1 c1, .bool false, .bool false], [], 4⟩
theorem k155 : EntOk P 83 e155 := eO [] nO 1 (by kernel_rfl) rfl
def e156 : Ent := ⟨[.agg #[.bool false, sl 0 0 0 c1, .bool false, sl 1 0 1 c1]], [(ow #[.int .u32 0] 170), (ow #[.int .u32 1] 170)], .string ⟨#[48]⟩, [], 4⟩
theorem k156 : EntOk P 26 e156 := eO [(58, e64), (62, e30)] (cO k64 (cO k30 nO)) 1 (by kernel_rfl) rfl
def e157 : Ent := ⟨[.agg #[.bool false, sl 0 0 1 c1, .bool false, sl 1 0 1 c1, .bool false, .bool false]], [(ow #[.int .u32 1] 170), (ow #[.int .u32 1] 170)], .bool true, [], 10⟩
theorem k157 : EntOk P 84 e157 := eO [(55, e15)] (cO k15 nO) 1 (by kernel_rfl) rfl
def e158 : Ent := ⟨[.agg #[.bool false, sl 0 0 1 c1, .bool false, sl 1 0 1 c1]], [(ow #[.int .u32 1] 170), (ow #[.int .u32 1] 170)], .string ⟨#[49]⟩, [], 4⟩
theorem k158 : EntOk P 26 e158 := eO [(58, e64), (62, e14)] (cO k64 (cO k14 nO)) 1 (by kernel_rfl) rfl
def e159 : Ent := ⟨[.agg #[.bool false, sl 0 0 1 c1, .bool false, sl 1 0 1 c1, .bool false, .bool false]], [(ow #[.int .u32 1] 170), (ow #[.int .u32 1] 170)], .string ⟨#[49]⟩, [], 5⟩
theorem k159 : EntOk P 85 e159 := eO [(26, e158)] (cO k158 nO) 1 (by kernel_rfl) rfl
def e160 : Ent := ⟨[.agg #[.bool false, sl 0 0 1 2]], [fz], .agg #[.bool false, sl 0 0 1 2], [], 3⟩
theorem k160 : EntOk P 97 e160 := eO [] nO 1 (by kernel_rfl) rfl
def e161 : Ent := ⟨[.agg #[.bool false, sl 0 0 1 2]], [(ow #[.int .u32 1, .int .u32 0] 170)], .string ⟨#[49]⟩, [], 1⟩
theorem k161 : EntOk P 62 e161 := ent_word [1, 0] 1 2 str_1 (by decide) (by decide) (by decide)
def e162 : Ent := ⟨[.agg #[.bool false, sl 0 0 1 2]], [(ow #[.int .u32 1, .int .u32 0] 170)], .int .i64 1, [], 4⟩
theorem k162 : EntOk P 55 e162 := eO [(62, e161), (97, e160)] (cO k161 (cO k160 nO)) 1 (by kernel_rfl) rfl
def e163 : Ent := ⟨[.agg #[.bool false, sl 0 0 1 2, .bool false, sl 1 0 1 c1, .bool false, .bool false]], [(ow #[.int .u32 1, .int .u32 0] 170), (ow #[.int .u32 1] 170)], .bool true, [], 10⟩
theorem k163 : EntOk P 84 e163 := eO [(55, e162), (55, e15)] (cO k162 (cO k15 nO)) 1 (by kernel_rfl) rfl
def e164 : Ent := ⟨[.agg #[.bool false, sl 0 0 1 2, .bool false, sl 1 0 1 c1]], [(ow #[.int .u32 1, .int .u32 0] 170), (ow #[.int .u32 1] 170)], .string ⟨#[49]⟩, [], 4⟩
theorem k164 : EntOk P 26 e164 := eO [(62, e161), (58, e64)] (cO k161 (cO k64 nO)) 1 (by kernel_rfl) rfl
def e165 : Ent := ⟨[.agg #[.bool false, sl 0 0 1 2, .bool false, sl 1 0 1 c1, .bool false, .bool false]], [(ow #[.int .u32 1, .int .u32 0] 170), (ow #[.int .u32 1] 170)], .string ⟨#[49]⟩, [], 5⟩
theorem k165 : EntOk P 85 e165 := eO [(26, e164)] (cO k164 nO) 1 (by kernel_rfl) rfl
def e166 : Ent := ⟨[.agg #[.bool false, sl 0 0 1 3]], [(ow #[.int .u32 1, .int .u32 0, .int .u32 0] 170)], .string ⟨#[49]⟩, [], 1⟩
theorem k166 : EntOk P 62 e166 := ent_word [1, 0, 0] 1 3 str_1 (by decide) (by decide) (by decide)
def e167 : Ent := ⟨[.agg #[.bool true, sl 0 0 1 3]], [(ow #[.int .u32 1, .int .u32 0, .int .u32 0] 170)], .int .i64 1, [], 4⟩
theorem k167 : EntOk P 55 e167 := eO [(62, e166), (97, e125)] (cO k166 (cO k125 nO)) 1 (by kernel_rfl) rfl
def e168 : Ent := ⟨[.agg #[.bool true, sl 0 0 1 3, .bool false, sl 1 0 1 c1, .bool false, .bool false]], [(ow #[.int .u32 1, .int .u32 0, .int .u32 0] 170), (ow #[.int .u32 1] 170)], .bool true, [], 10⟩
theorem k168 : EntOk P 84 e168 := eO [(55, e167), (55, e15)] (cO k167 (cO k15 nO)) 1 (by kernel_rfl) rfl
def e169 : Ent := ⟨[.agg #[.bool true, sl 0 0 1 3]], [(ow #[.int .u32 1, .int .u32 0, .int .u32 0] 170)], .string ⟨#[45, 49]⟩, [], 1⟩
theorem k169 : EntOk P 62 e169 := ent_word [1, 0, 0] 1 3 str_m (by decide) (by decide) (by decide)
def e170 : Ent := ⟨[.agg #[.bool true, sl 0 0 1 3, .bool false, sl 1 0 1 c1]], [(ow #[.int .u32 1, .int .u32 0, .int .u32 0] 170), (ow #[.int .u32 1] 170)], .string ⟨#[45, 49]⟩, [], 4⟩
theorem k170 : EntOk P 26 e170 := eO [(62, e169), (58, e64)] (cO k169 (cO k64 nO)) 1 (by kernel_rfl) rfl
def e171 : Ent := ⟨[.agg #[.bool true, sl 0 0 1 3, .bool false, sl 1 0 1 c1, .bool false, .bool false]], [(ow #[.int .u32 1, .int .u32 0, .int .u32 0] 170), (ow #[.int .u32 1] 170)], .string ⟨#[45, 49]⟩, [], 5⟩
theorem k171 : EntOk P 85 e171 := eO [(26, e170)] (cO k170 nO) 1 (by kernel_rfl) rfl
def e172 : Ent := ⟨[.int .u64 3], [], .int .i64 2, [], 0⟩
theorem k172 : EntOk P 130 e172 := eO [] nO 1 (by kernel_rfl) rfl
def e173 : Ent := ⟨[.agg #[.string ⟨#[120]⟩, .int .i64 0, .bool false], .agg #[.string ⟨#[120]⟩, .int .i64 0, .bool true]], [], .int .i64 (-1), [], 2⟩
theorem k173 : EntOk P 88 e173 := eO [] nO 1 (by kernel_rfl) rfl
def e174 : Ent := ⟨[.agg #[.string ⟨#[120]⟩, .int .i64 1, .bool false], .agg #[.string ⟨#[120]⟩, .int .i64 0, .bool true]], [], .int .i64 (-1), [], 2⟩
theorem k174 : EntOk P 88 e174 := eO [] nO 1 (by kernel_rfl) rfl
def e175 : Ent := ⟨[.agg #[.string ⟨#[120]⟩, .int .i64 1, .bool false], .agg #[.string ⟨#[120]⟩, .int .i64 0, .bool false]], [], .int .i64 1, [], 2⟩
theorem k175 : EntOk P 88 e175 := eO [] nO 1 (by kernel_rfl) rfl
def e176 : Ent := ⟨[.agg #[.string ⟨#[120]⟩, .int .i64 0, .bool false], .agg #[.string ⟨#[120]⟩, .int .i64 1, .bool false]], [], .int .i64 (-1), [], 2⟩
theorem k176 : EntOk P 88 e176 := eO [] nO 1 (by kernel_rfl) rfl
def e177 : Ent := ⟨[.agg #[.string ⟨#[120]⟩, .int .i64 0, .bool true], .agg #[.string ⟨#[120]⟩, .int .i64 0, .bool false]], [], .int .i64 1, [], 2⟩
theorem k177 : EntOk P 88 e177 := eO [] nO 1 (by kernel_rfl) rfl
def e178 : Ent := ⟨[.agg #[.string ⟨#[120]⟩, .int .i64 0, .bool true], .agg #[.string ⟨#[120]⟩, .int .i64 1, .bool false]], [], .int .i64 1, [], 2⟩
theorem k178 : EntOk P 88 e178 := eO [] nO 1 (by kernel_rfl) rfl
def e179 : Ent := ⟨[.pointer (some ⟨0, 0, none⟩)], [(ow #[.bool false, sl 1 0 0 c1, .bool false, sl 2 0 1 c1, .bool true, .map (some 3)] 160), (ow #[.int .u32 0] 170), (ow #[.int .u32 1] 170), ⟨true, .map #[⟨.agg #[.string ⟨#[120]⟩, .int .i64 0, .bool true], .agg #[.bool false, sl 4 0 1 c1, .bool false, sl 5 0 1 c1, .bool false, .bool false], 0⟩, ⟨.agg #[.string ⟨#[120]⟩, .int .i64 0, .bool false], .agg #[.bool false, sl 6 0 1 2, .bool false, sl 7 0 1 c1, .bool false, .bool false], 1⟩, ⟨.agg #[.string ⟨#[120]⟩, .int .i64 1, .bool false], .agg #[.bool true, sl 8 0 1 3, .bool false, sl 9 0 1 c1, .bool false, .bool false], 2⟩] 3⟩, (ow #[.int .u32 1] 170), (ow #[.int .u32 1] 170), (ow #[.int .u32 1, .int .u32 0] 170), (ow #[.int .u32 1] 170), (ow #[.int .u32 1, .int .u32 0, .int .u32 0] 170), (ow #[.int .u32 1] 170)], .tuple #[.agg #[.string ⟨#[48]⟩, .bool true, sl 140 0 3 c4], .int .i64 0], [(140, some (ow #[.string ⟨#[120]⟩, .int .i64 0, .bool false, .string ⟨#[49]⟩, .string ⟨#[120]⟩, .int .i64 1, .bool false, .string ⟨#[45, 49]⟩, .string ⟨#[120]⟩, .int .i64 0, .bool true, .string ⟨#[49]⟩] 54))], 232⟩
theorem k179 : EntOk P 45 e179 := eO [(88, e178), (88, e177), (88, e176), (88, e175), (88, e174), (88, e173), (130, e172), (85, e171), (84, e168), (85, e165), (84, e163), (85, e159), (84, e157), (26, e156), (55, e31), (55, e15)] (cO k178 (cO k177 (cO k176 (cO k175 (cO k174 (cO k173 (cO k172 (cO k171 (cO k168 (cO k165 (cO k163 (cO k159 (cO k157 (cO k156 (cO k31 (cO k15 nO)))))))))))))))) 6 (by kernel_rfl) rfl
def e180 : Ent := ⟨[.agg #[sl 0 0 1 1, sl 1 0 1 1, .slice none 0 0, .slice none 0 0], .slice none 0 0, .string ⟨#[48]⟩], [(ow #[.string ⟨#[120]⟩, .int .i64 0, .int .i64 0, .string ⟨#[]⟩, .string ⟨#[49]⟩, .bool true, .string ⟨#[]⟩] 59), (ow #[.string ⟨#[101]⟩, .string ⟨#[118, 97, 114]⟩, .string ⟨#[120]⟩, .int .i64 1, .slice none 0 0, .string ⟨#[110, 101, 103]⟩, .string ⟨#[]⟩, .int .i64 0, sl 2 0 1 1] 118), (ow #[.string ⟨#[118, 97, 114]⟩, .string ⟨#[120]⟩, .int .i64 0, .slice none 0 0] 114)], .tuple #[.agg #[.string ⟨#[48]⟩, .bool true, sl 7441 0 3 c4], .slice none 0 0, .int .i64 0], [(7441, some (ow #[.string ⟨#[120]⟩, .int .i64 0, .bool false, .string ⟨#[49]⟩, .string ⟨#[120]⟩, .int .i64 1, .bool false, .string ⟨#[45, 49]⟩, .string ⟨#[120]⟩, .int .i64 0, .bool true, .string ⟨#[49]⟩] 54))], 7534⟩
theorem k180 : EntOk P 16 e180 := eO [(45, e179), (83, e155), (83, e154), (43, e153), (125, e152), (82, e151), (61, e150), (60, e146), (125, e144), (61, e143), (90, e140), (60, e139), (125, e137), (61, e136), (60, e133), (60, e131), (125, e129), (60, e128), (126, e126), (125, e120), (61, e119), (61, e116), (90, e113), (60, e110), (125, e108), (125, e107), (60, e106), (126, e104), (125, e98), (82, e97), (160, e77), (59, e63), (59, e61), (121, e59), (152, e58), (151, e55), (245, e54), (248, e53), (248, e52), (151, e48), (208, e45), (208, e43), (205, e42), (156, e33), (23, e32), (152, e27), (23, e16), (51, e9), (151, e5)] (cO k179 (cO k155 (cO k154 (cO k153 (cO k152 (cO k151 (cO k150 (cO k146 (cO k144 (cO k143 (cO k140 (cO k139 (cO k137 (cO k136 (cO k133 (cO k131 (cO k129 (cO k128 (cO k126 (cO k120 (cO k119 (cO k116 (cO k113 (cO k110 (cO k108 (cO k107 (cO k106 (cO k104 (cO k98 (cO k97 (cO k77 (cO k63 (cO k61 (cO k59 (cO k58 (cO k55 (cO k54 (cO k53 (cO k52 (cO k48 (cO k45 (cO k43 (cO k42 (cO k33 (cO k32 (cO k27 (cO k16 (cO k9 (cO k5 nO))))))))))))))))))))))))))))))))))))))))))))))))) 1 (by kernel_rfl) rfl
end
end Go.Kr
end
