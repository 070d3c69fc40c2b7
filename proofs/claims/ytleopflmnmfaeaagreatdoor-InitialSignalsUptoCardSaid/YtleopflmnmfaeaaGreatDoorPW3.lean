/-
A part of the proof that the statement InitialSignals holds of the given program (second form, tied card): from readings to data.
-/
import Derived.Test.YtleopflmnmfaeaaGreatDoorPV
import Derived.Test.YtleopflmnmfaeaaGreatDoorPW2
set_option autoImplicit false
set_option linter.unusedSimpArgs false
set_option linter.unusedVariables false
set_option linter.unnecessarySimpa false
section
set_option maxRecDepth 100000
set_option maxHeartbeats 100000000
namespace Go.Proofs.YtleopflmnmfaeaaGreatDoor
open Go.ChangeShapes Go.WideShapes Go.ChangeAt Go.RowKit Go.Lw
open Go.ChangeMaps (open_string shut_string)
theorem contract4 (H : Type) (enc : TypeId × Value → H) (W : World) (base : Nat) (args : Array Value) (ds gs : List (DataW H)) (before : List MemPlace)
  (hval : ∀ (j : Nat) t v, Tryz.f4.params[j]? = some t → args[j]? = some v → Value.okWide Tryz.prog W .any base t v)
  (hW : DataW.Whole enc Tryz.prog Tryz.f4.params.toList Rows.initialSignalsSpec.vars false W args.toList ds gs before) (hk : Rows.uptoSmall H (ds ++ gs) = true) :
  Calls Tryz.prog 4 args W fun e W' => ∃ v, e = .returned v ∧ Rows.initialSignalsSpec.post enc Tryz.prog Tryz.f4 false true false false W args v W' := by
 have hW' := hW
 obtain ⟨p, q, hA0, hV, rfl, hfz, hnd⟩ := hW
 have hA : DataW.TrodAll enc Tryz.prog W 0 (fun _ => true) true Tryz.f4.params.toList args.toList ds p := hA0
 rw [Tryz.params4] at hA hval
 obtain ⟨v0, vs0, d0, ds0, p0, q0, hargs, rfl, rfl, h0, r0⟩ := trodAll_cons hA
 obtain ⟨v1, vs1, d1, ds1, p1, q1, rfl, rfl, rfl, h1, r1⟩ := trodAll_cons r0
 obtain ⟨v2, vs2, d2, ds2, p2, q2, rfl, rfl, rfl, h2, r2⟩ := trodAll_cons r1
 obtain ⟨v3, vs3, d3, ds3, p3, q3, rfl, rfl, rfl, h3, r3⟩ := trodAll_cons r2
 obtain ⟨rfl, rfl, rfl⟩ := trodAll_nil r3
 obtain rfl : args = #[v0, v1, v2, v3] := by cases args; simp_all
 obtain ⟨rfl, rfl⟩ := trodVars_none hV
 have hlt : ∀ x ∈ p0, x.block < W.heap.size := fun x hx => by simpa using hW'.lt x (by simp [hx])
 obtain ⟨name, l, dl, hv, rfl, hdl⟩ := open_sig (hval 0 24 v0 rfl rfl) h0
 obtain ⟨n, rfl, rfl, rfl, hn⟩ := open_int Tryz.underlying5 (hval 1 5 v1 rfl rfl) h1
 obtain ⟨time, rfl, rfl, rfl, hmax⟩ := open_string Tryz.underlying9 (hval 2 9 v2 rfl rfl) h2
 obtain ⟨later, rfl, rfl, rfl, hmax2⟩ := open_string Tryz.underlying9 (hval 3 9 v3 rfl rfl) h3
 have hn8 := bounds_u8 hn
 clear hA0
 have hb := bulk_of hk
 obtain ⟨z1, z2, z3⟩ := bulk_sig (name := name) hdl
 simp only [List.append_nil] at hW' hb
 have e1 : Rows.uptoBulkAll [DataW.agg [.lit (.string name.data.toList), dl], .lit (.int .u8 n), .lit (.string time.data.toList), .lit (.string later.data.toList)] = Rows.uptoBulk (DataW.agg [.lit (.string name.data.toList), dl]) + (1 + (Rows.uptoBulk (DataW.lit (H := H) (.string time.data.toList)) + (Rows.uptoBulk (DataW.lit (H := H) (.string later.data.toList)) + 0))) := rfl
 rw [e1, bulk_str, bulk_str] at hb
 have z4 : ∀ s ∈ l, s.size ≤ 1048576 := fun s hs => by have := z3 s hs; omega
 have hz : Z (VD P0 ⟨W, fun _ => False, fun _ => 0, fun _ => none⟩) [.i (sigI name l), .i (.int .u8 n), .i (.str time), .i (.str later)] [v0, .int .u8 n, .string time, .string later] := by
  refine ⟨rfl, fun j x v hx hv' => ?_⟩
  match j with
  | 0 =>
   simp at hx hv'; subst hx hv'
   exact .i _ _ (hv (by unfold top; omega) (by unfold top; omega) fun s hs => by have := z4 s hs; unfold top; omega)
  | 1 => simp at hx hv'; subst hx hv'; exact .i _ _ (.int _ _)
  | 2 => simp at hx hv'; subst hx hv'; exact .i _ _ (.str _ (by unfold top; omega))
  | 3 => simp at hx hv'; subst hx hv'; exact .i _ _ (.str _ (by unfold top; omega))
  | j + 4 => simp at hx
 have hc := signals_ac name l n time later ⟨by omega, by omega⟩ (by unfold top; omega) (by omega) (fun s hs => by have := z4 s hs; omega) (by omega) (by omega) ⟨W, fun _ => False, fun _ => 0, fun _ => none⟩ _ (fun id o ho => by cases ho) (fun b hb => hb.elim) hz
 refine Calls.mono hc fun e W' ⟨v, he, hvr, s1, s2, s3, s4, s5⟩ => ?_
 have hbel : Below W.heap.size W W' := ⟨s2, s3, s4, s1, s5⟩
 cases hvr with
 | i _ _ hvr =>
 cases hvr
 exact ⟨_, he, post_below (pa := p0) (pv := []) hW' (fun _ _ _ => trodAll_cons_mk (shut_bool Tryz.underlying4 _) trodAll_mk0)
  (fun sp hsp => by
   have := WideElems.Trod_stays (sp' := sp) laidOut (by kernel_rfl) (of_decide_eq_true (by kernel_rfl)) h0 (fun x hx => hbel.same (hlt x hx)) (fun x hx => hsp x (by simpa using hx))
   have e : p0 = p0 ++ ([] ++ ([] ++ ([] ++ []))) := by simp
   have h5 := trodAll_cons_mk this (trodAll_cons_mk (shut_int Tryz.underlying5 hn) (trodAll_cons_mk (shut_string Tryz.underlying9 hmax) (trodAll_cons_mk (shut_string Tryz.underlying9 hmax2) trodAll_mk0)))
   rw [← e] at h5
   exact h5) (fun _ _ => rfl) (by simp) hbel (ok_one (by kernel_rfl) rfl (okWide_bool_mk Tryz.underlying4 _))⟩
end Go.Proofs.YtleopflmnmfaeaaGreatDoor
end
