/-
A part of the proof that the statement InitialValues holds of the given program (second form, tied card): strings.ContainsRune at every byte.
-/
import Derived.Test.YtleopflmnmfaeaaGreatDoorPF4
import Derived.Test.YtleopflmnmfaeaaGreatDoorPX
set_option autoImplicit false
set_option linter.unusedSimpArgs false
set_option linter.unusedVariables false
set_option linter.unnecessarySimpa false
section
set_option maxRecDepth 100000
set_option maxHeartbeats 100000000
namespace Go.Kr
open Go.Lw Go.Proofs Go.RowKit
abbrev spB : ByteArray := ⟨#[95, 46, 91, 93, 44, 39]⟩
def Sp (c : Int) : Prop := c = 95 ∨ c = 46 ∨ c = 91 ∨ c = 93 ∨ c = 44 ∨ c = 39
instance (c : Int) : Decidable (Sp c) := by unfold Sp; exact inferInstance
def entR (n : Nat) : Ent := ⟨[.string spB, .int .i32 (n : Int)], [], .bool false, [], 100000⟩
abbrev spT : ByteArray := ⟨#[91, 93, 44, 39]⟩
def entT (c : Nat) : Ent := ⟨[.string spT, .int .u8 (c : Int)], [], .int .i64 (-1), [], 0⟩
def tblR (n : Nat) (g : Nat) : List Ent := match Nat.beq g 174 with
 | true => [entT (128 + n % 64)]
 | false => []
theorem far0 : upTo (fun k => okB false (finE P (memoS (tblR (128 + k))) 1000000 92 (entR (128 + k)))) 128 = true := by kernel_rfl
theorem ent_of_calls {g : FuncId} {args : List Value} {r : Value} (hl : ∀ (γ : Gm) (vs : List Value), LR γ args vs → vs = args) (hr : ∀ γ : Gm, VR γ r r) (h : ∀ w : World, Calls P g args.toArray w fun e w' => e = .returned r ∧ w' = w) : EntOk P g ⟨args, [], r, [], 0⟩ := by
 refine ⟨⟨[(r, heapOf [])], fun w γ vs h1 hf hv => ?_, fun x hx => ?_⟩, fun k ab h => by cases h⟩
 ·rw [hl γ vs hv]
  refine Calls.mono (h w) fun e w' ⟨he, hw⟩ => ⟨_, List.mem_singleton.2 rfl, r, γ, he, hr γ, ?_⟩
  rw [hw]
  exact Post.refl h1 hf
 ·rw [List.mem_singleton.1 hx]
  refine ⟨rfl, fun id ab hid => ?_, Nat.le_refl _⟩
  rw [heapOf_get]; exact hid
theorem ib0 : ∀ n : Fin 64, Lib.indexByte spT.data.toList ((128 + n.val).toUInt8) = -1 := by decide
theorem entT_ok (n : Nat) : EntOk P 174 (entT (128 + n % 64)) := by
 refine ent_of_calls (fun γ vs hv => ?_) (fun γ => .int _ _) fun w => ?_
 ·obtain ⟨a, l, rfl, h1, h2⟩ := hv.inv_cons
  obtain ⟨b, l, rfl, h3, h4⟩ := h2.inv_cons
  cases h1; cases h3; rw [h4.inv_nil]
 ·have := Any.strings_IndexByte { Tryz.layContains with } spT ((128 + n % 64 : Nat) : Int) w
  rw [show (((128 + n % 64 : Nat) : Int)).toNat = 128 + n % 64 from rfl, ib0 ⟨n % 64, by omega⟩] at this
  exact this
theorem args_si (g : G) (s : ByteArray) (n : Int) (vs : List Value) (h : Z (VD P0 g) [.i (.str s), .i (.int .i32 n)] vs) : vs = [.string s, .int .i32 n] := by
 match vs, h.len with
 | [a, b], _ =>
  have h0 := h.at_ 0 _ a rfl rfl
  have h1 := h.at_ 1 _ b rfl rfl
  cases h0 with | i _ _ h0 => cases h0; cases h1 with | i _ _ h1 => cases h1; rfl
theorem contains_far (n : Nat) (h1 : 128 ≤ n) (h2 : n < 256) : AC P0 92 [.i (.str spB), .i (.int .i32 (n : Int))] (.i (.bool false)) := by
 have h := okB_eq (upTo_spec far0 (n - 128) (by omega))
 rw [show 128 + (n - 128) = n by omega] at h
 refine ac_of_ent (entOk (e := entR n) (memoS_ok fun g e he => ?_) mixedP h rfl) (fun gg vs hz => args_si gg _ _ vs hz) fun γ => .cons (.str _) (.cons (.int _ _) (.nil γ))
 unfold tblR at he
 split at he
 ·rename_i hg
  rw [List.mem_singleton.1 he, Nat.eq_of_beq_eq_true hg]
  exact entT_ok n
 ·cases he
theorem near0 : ∀ n : Fin 128, decide (0 ≤ Lib.indexByte spB.data.toList (n.val.toUInt8)) = decide (Sp (n.val : Int)) := by decide
theorem contains_ac (n : Nat) (h : n < 256) (b : Bool) (hb : b = true ↔ Sp (n : Int)) : AC P0 92 [.i (.str spB), .i (.int .i32 (n : Int))] (.i (.bool b)) := by
 have eb : b = decide (Sp (n : Int)) := by rw [Bool.eq_iff_iff, hb]; simp
 rw [eb]
 by_cases h1 : n < 128
 ·refine AC.of_calls [.string spB, .int .i32 (n : Int)] (fun g vs hz => args_si g _ _ vs hz) fun w => ?_
  refine Calls.mono (Any.strings_ContainsRune_ascii Tryz.layContains spB (n : Int) w (by omega) (by omega)) fun e w' ⟨he, hw⟩ => ⟨_, he, fun g => ?_, by subst hw; exact Below.refl _ _⟩
  have := near0 ⟨n, h1⟩
  rw [show ((n : Int)).toNat = n from rfl, this]
  exact .i _ _ (.bool _)
 ·rw [decide_eq_false (show ¬ Sp (n : Int) by unfold Sp; omega)]
  exact contains_far n (by omega) h
end Go.Kr
end
