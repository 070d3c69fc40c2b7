/-
A part of the proof that the statement InitialValues holds of the given program (second form, tied card): the trim of a text.
-/
import Derived.Test.YtleopflmnmfaeaaGreatDoorPH
import Derived.Test.YtleopflmnmfaeaaGreatDoorPF2
import Derived.Shelf.Strings.SlTrimAsciiWalks
import Derived.Shelf.Strings.AsciiSet
import Derived.Shelf.Strings.Runes
import Derived.Shelf.Strings.Search2
import Derived.Lib.SlTrimSet
set_option autoImplicit false
set_option linter.unusedSimpArgs false
set_option linter.unusedVariables false
set_option linter.unnecessarySimpa false
section
namespace Go.Proofs
open Go.Shelf Go.RowKit Go.Lib
abbrev digs10 : ByteArray := ⟨#[48, 49, 50, 51, 52, 53, 54, 55, 56, 57]⟩
theorem Tryz.zero224 : (Tryz.prog.info? 224).map (fun i => (i.zero, i.size)) = some (some (.agg (Array.replicate 256 (.bool false))), 256) := by kernel_rfl
set_option maxHeartbeats 8000000 in
set_option maxRecDepth 1000000 in
theorem trim_calls (s : ByteArray) (w : World) (h0 : 0 < s.size) (hs : s.size ≤ 9223372036854775807) :
  Calls Tryz.prog 95 #[.string s, .string digs10] w fun e w' => e = .returned (.string ⟨(Lib.trimS s.data.toList digs10.data.toList).toArray⟩) ∧ Below w.heap.size w w' := by
 obtain ⟨hz, hi⟩ := zero_of_info Tryz.zero224
 have hasc : ∀ (j : Nat) b, digs10.data.toList[j]? = some b → b.toNat < 128 := fun j b hb => by
  have h1 : digs10.data.toList.all (fun b => decide (b.toNat < 128)) = true := by decide
  simpa using List.all_eq_true.1 h1 b (List.mem_of_getElem? hb)
 have hM : Calls Tryz.prog 139 #[.string digs10] w fun e w' => e = .returned (.tuple #[.agg (Lib.setCells digs10.data.toList), .bool true]) ∧ w' = w.alloc (.cells (Lib.setCells digs10.data.toList) 224) :=
  Any.strings_makeASCIISet Tryz.layAscii hz hi digs10 w (by decide) hasc
 clear hasc
 have hemps : s.toList.isEmpty = false := by
  rw [Lib.toList_data]
  cases h : s.data.toList with
  | nil => have := Lib.size_eq s; rw [h, List.length_nil] at this; omega
  | cons _ _ => rfl
 generalize hC : Lib.setCells digs10.data.toList = C at hM
 have hsz : C.size = 256 := by rw [← hC]; exact Lib.setCells_size _
 have hsc : (storeCells ⟨w.heap.size + 1, 0, none⟩ C.toList 0).run Tryz.prog ((w.alloc (.cells C 224)).alloc (.cells (Array.replicate 256 (.bool false)) 224)) = .ok () ((w.alloc (.cells C 224)).alloc (.cells C 224)) := by
  have := run_storeCells_new (P := Tryz.prog) (w.alloc (.cells C 224)) 224 (Array.replicate 256 (.bool false)) C (by rw [hsz]; exact hi) (by rw [hsz, Array.size_replicate]) (by rw [← hC]; exact Lib.setCells_one _)
  simpa using this
 have hcellAt : ∀ x : UInt8, ((w.alloc (.cells C 224)).alloc (.cells C 224)).cell? ⟨w.heap.size + 1, x.toNat, none⟩ = some (.bool (digs10.data.toList.contains x)) := fun x => by
  rw [World.cell?_alloc_at _ _ _ _ (by simp), ← hC, Lib.setCells_at]
 have hR : Calls Tryz.prog 141 #[.string s, .pointer (some ⟨w.heap.size + 1, 0, none⟩)] ((w.alloc (.cells C 224)).alloc (.cells C 224)) fun e w' => e = .returned (.string ⟨(Lib.trimRightS s.data.toList digs10.data.toList).toArray⟩) ∧ w' = ((w.alloc (.cells C 224)).alloc (.cells C 224)) :=
  Any.strings_trimRightASCII Tryz.layRight s (w.heap.size + 1) digs10.data.toList _ hs hcellAt
 have hL : ∀ t : ByteArray, Calls Tryz.prog 140 #[.string t, .pointer (some ⟨w.heap.size + 1, 0, none⟩)] ((w.alloc (.cells C 224)).alloc (.cells C 224)) fun e w' => e = .returned (.string ⟨(Lib.trimLeftS t.data.toList digs10.data.toList).toArray⟩) ∧ w' = ((w.alloc (.cells C 224)).alloc (.cells C 224)) := fun t =>
  Any.strings_trimLeftASCII Tryz.layLeft t (w.heap.size + 1) digs10.data.toList _ hcellAt
 clear hcellAt hC
 go_enter Tryz.func95, Tryz.ntmps95
 go_wp2_with (first
  | (go_at_call 139; refine hM.mono ?_; rintro e w' ⟨rfl, hw⟩; rw [hw])
  | (go_at_call 141; refine hR.mono ?_; rintro e w' ⟨rfl, hw⟩; rw [hw])
  | (go_at_call 140; refine (hL _).mono ?_; rintro e w' ⟨rfl, hw⟩; rw [hw]))
 go_ret
 refine ⟨rfl, ?_⟩
 exact ((Below.refl _ w).alloc (Nat.le_refl _) _).alloc (by simp) _
end Go.Proofs
end
