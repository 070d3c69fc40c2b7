/-
A part of the proof that the statement InitialValues holds of the given program (second form, tied card): the law as a contract; from readings to data.
-/
import Derived.Test.YtleopflmnmfaeaaGreatDoorPG
import Derived.Test.YtleopflmnmfaeaaGreatDoorW9
import Derived.Test.YtleopflmnmfaeaaGreatDoorCards
import Derived.Test.YtleopflmnmfaeaaGreatDoorTie
import Derived.WalkKit
import Derived.ProofKit
import Derived.OpenShut
import Derived.SliceStrings
import Derived.Carry
import Derived.Deep.DeepHandedRow
set_option autoImplicit false
set_option linter.unusedSimpArgs false
set_option linter.unusedVariables false
set_option linter.unnecessarySimpa false
section
set_option maxRecDepth 10000
namespace Go.Lw
open Go.Proofs
theorem awake_ac : AC P0 5 [] (.i (.bool true)) := Go.Kr.ac_of_ent0 Go.Kr.k283
theorem ValSpec.shape {name : ByteArray} {l : List ByteArray} {ord : Int} {time : ByteArray} {r : D} (hr : ValSpec name l ord time r) : ∃ x e, r = .tup [.i (.str x), .i (.int .i64 e)] := by
 cases hr <;> exact ⟨_, _, rfl⟩
theorem law_ac (name : ByteArray) (l : List ByteArray) (ord : Int) (time : ByteArray) (hs1 : name.size ≤ top) (hl : l.length ≤ 10000000) (hs2 : ∀ s ∈ l, s.size ≤ 8000000) (hs3 : time.size ≤ 8000000) :
  AC P0 3 [.i (sigI name l), .i (.int .i64 ord), .i (.str time)] (.i (.bool true)) := by
 obtain ⟨r, hr⟩ := ValSpec.ex name l ord time
 have v1 := fun h => value_ac name l ord time r hr h hs1 hs2 hs3
 have v2 := fun h => refValue_ac name l ord time r hr h hs1 (fun s hs => Nat.le_trans (hs2 s hs) (by unfold top; omega)) (Nat.le_trans hs3 (by unfold top; omega))
 obtain ⟨x, e, hx⟩ := hr.shape
 rw [hx] at v1 v2
 simp only [sigI, strs] at v1 v2
 refine AC.of_go Tryz.func3 rfl rfl (Nat.le_of_ble_eq_true rfl) ?_
 simp +contextual (disch := first | (intro _; intros; contradiction) | omega | (simp only [lens]; omega)) only [go_sem, ↓reduceIte, reduceCtorEq, Nat.reduceEqDiff, Nat.reduceLT, Nat.reduceSub, Int.reduceLT, Nat.reduceAdd, Nat.reduceLeDiff, Int.reduceEq, Int.reduceNe, Int.reduceToNat, Tryz.f3, sigI, strs]
 refine ⟨fun h1 => ⟨fun h2 => ⟨by kernel_rfl, ?_⟩, fun h2 => ?_⟩, fun h1 => ⟨by kernel_rfl, ?_⟩⟩
 ·refine .ac awake_ac (by simp) ?_
  simp +contextual (disch := first | (intro _; intros; contradiction) | omega | (simp only [lens]; omega)) only [go_sem, ↓reduceIte, reduceCtorEq, Nat.reduceEqDiff, Nat.reduceLT, Nat.reduceSub, Int.reduceLT, Nat.reduceAdd, Nat.reduceLeDiff, Int.reduceEq, Int.reduceNe, Int.reduceToNat, Tryz.f3]
 ·refine .ac (v1 (by omega)) (by simp) ?_
  simp +contextual (disch := first | (intro _; intros; contradiction) | omega | (simp only [lens]; omega)) only [go_sem, ↓reduceIte, reduceCtorEq, Nat.reduceEqDiff, Nat.reduceLT, Nat.reduceSub, Int.reduceLT, Nat.reduceAdd, Nat.reduceLeDiff, Int.reduceEq, Int.reduceNe, Int.reduceToNat, Tryz.f3]
  refine .ac (v2 (by omega)) (by simp) ?_
  simp +contextual (disch := first | (intro _; intros; contradiction) | omega | (simp only [lens]; omega)) only [go_sem, ↓reduceIte, reduceCtorEq, Nat.reduceEqDiff, Nat.reduceLT, Nat.reduceSub, Int.reduceLT, Nat.reduceAdd, Nat.reduceLeDiff, Int.reduceEq, Int.reduceNe, Int.reduceToNat, Tryz.f3]
  refine ⟨by kernel_rfl, ?_⟩
  refine .ac awake_ac (by simp) ?_
  simp +contextual (disch := first | (intro _; intros; contradiction) | omega | (simp only [lens]; omega)) only [go_sem, ↓reduceIte, reduceCtorEq, Nat.reduceEqDiff, Nat.reduceLT, Nat.reduceSub, Int.reduceLT, Nat.reduceAdd, Nat.reduceLeDiff, Int.reduceEq, Int.reduceNe, Int.reduceToNat, Tryz.f3]
 ·refine .ac awake_ac (by simp) ?_
  simp +contextual (disch := first | (intro _; intros; contradiction) | omega | (simp only [lens]; omega)) only [go_sem, ↓reduceIte, reduceCtorEq, Nat.reduceEqDiff, Nat.reduceLT, Nat.reduceSub, Int.reduceLT, Nat.reduceAdd, Nat.reduceLeDiff, Int.reduceEq, Int.reduceNe, Int.reduceToNat, Tryz.f3]
end Go.Lw
end
section
set_option maxRecDepth 100000
namespace Go.Lw
open Go.Proofs Go.ChangeShapes Go.WideShapes Go.ChangeAt Go.RowKit
theorem cells9 : P0.cellsOf 9 = 1 := by kernel_rfl
theorem add_none {b off : Nat} (i : Nat) : (Addr.mk b off none).add i = ⟨b, off + i, none⟩ := by
 unfold Addr.add
 split
 ·rename_i h; subst h; rfl
 ·rfl
theorem v_strs {W : World} {a : Addr} {len cap : Nat} {ss : List ByteArray} (hcap : len ≤ cap) (hmax : len ≤ top) (hl : len ≤ ss.length)
  (hc : ∀ i, i < ss.length → W.cell? (a.add i) = some (.string (ss.getD i ByteArray.empty))) (hs : ∀ s ∈ ss.take len, s.size ≤ top) : V P0 W (fun _ => False) (strs (ss.take len)) (.slice (some a) len cap) := by
 rcases Nat.eq_zero_or_pos len with h0 | h0
 ·subst h0
  exact .sl0 9 (some a) cap
 have e0 : a.add 0 = a := by simp [Addr.add]
 have c0 := hc 0 (by omega)
 rw [e0] at c0
 obtain ⟨b, off, spot⟩ := a
 have hsp : spot = none := by
  cases spot with
  | none => rfl
  | some k =>
   exfalso
   unfold World.cell? at c0
   split at c0
   ·simp at c0
   ·cases c0
 subst hsp
 have hb : b < W.heap.size := World.block_lt_of_cell? W _ c0
 have hlen : ((ss.take len).map I.str).length = len := by rw [List.length_map, List.length_take]; omega
 have hget : ∀ (j : Nat), j < len → ss[j]? = some (ss.getD j ByteArray.empty) := fun j hj => by
  rw [List.getD_eq_getElem?_getD, List.getElem?_eq_getElem (by omega)]; rfl
 have hv : V P0 W (fun _ => False) (.sl 9 ((ss.take len).map I.str)) (.slice (some ⟨b, off, none⟩) ((ss.take len).map I.str).length cap) := by
  refine .sl 9 _ b off cap ((ss.take len).map Value.string) (by simp) (by omega) (by rw [hlen]; exact hmax) (fun j x u hx hu => ?_) (fun j u hu => ?_) (fun j u m c hu hm => ?_) hb (fun h => h)
  ·rw [List.getElem?_map, List.getElem?_take] at hx hu
   split at hx
   ·rename_i hj
    rw [if_pos hj] at hu
    rw [hget j hj] at hx hu
    cases hx; cases hu
    refine .str _ (hs _ ?_)
    exact List.mem_of_getElem? (i := j) (by rw [List.getElem?_take, if_pos hj]; exact hget j hj)
   ·cases hx
  ·rw [List.getElem?_map] at hu
   obtain ⟨s, _, rfl⟩ := Option.map_eq_some_iff.1 hu
   rw [cells9]; rfl
  ·rw [List.getElem?_map, List.getElem?_take] at hu
   split at hu
   ·rename_i hj
    rw [hget j hj] at hu
    cases hu
    cases m with
    | zero =>
     simp [Value.cells] at hm
     subst hm
     have := hc j (by omega)
     rw [add_none] at this
     rw [cells9, Nat.mul_one]
     exact this
    | succ m => simp [Value.cells] at hm
   ·cases hu
 rw [hlen] at hv
 exact hv
theorem open_sig {H : Type} {enc : TypeId × Value → H} {W : World} {base b0 : Nat} {sp : Nat → Bool} {held : Bool} {v : Value} {d : DataW H} {ps : List MemPlace} {r : Reach} (hval : Value.okWide P0 W r b0 24 v) (h : DataW.Trod enc P0 W base sp held 24 v d ps) :
  ∃ (name : ByteArray) (l : List ByteArray) (d1 : DataW H), (name.size ≤ top → l.length ≤ top → (∀ s ∈ l, s.size ≤ top) → V P0 W (fun _ => False) (sigI name l) v) ∧ d = .agg [.lit (.string name.data.toList), d1] ∧
   ((l = [] ∧ d1 = .nil) ∨ ∃ rest, d1 = .slice (l.map fun s => .lit (.string s.data.toList)) rest) := by
 obtain ⟨cs, rfl, hcs⟩ := okWide_struct Tryz.underlying24 hval
 obtain ⟨fuel, h⟩ := h
 obtain ⟨y0, y1, n, hx, hlen, h0, h1⟩ := trod_struct2 Tryz.underlying24 h
 have h24 : P0.cellsOf 24 = 2 := by kernel_rfl
 have h22 : P0.cellsOf 22 = 1 := by kernel_rfl
 have ecs : (Value.agg cs).cells.toList = cs.toList := rfl
 rw [ecs, h24] at hlen
 rw [ecs] at h0 h1
 rw [show Tryz.prog.cellsOf 9 = 1 from cells9] at h0
 rw [show Tryz.prog.cellsOf 22 = 1 from h22] at h1
 obtain ⟨c0, c1, hl⟩ : ∃ c0 c1, cs.toList = [c0, c1] := by
  match hc : cs.toList, hlen with
  | [c0, c1], _ => exact ⟨c0, c1, rfl⟩
 rw [hl] at h0 h1
 simp only [List.drop_zero, List.take_succ_cons, List.take_zero, List.drop_succ_cons] at h0 h1
 obtain ⟨s, hs, rfl, hsz⟩ := DataW.trod_string Tryz.underlying9 h0
 cases hs
 have ecs2 : cs = [Value.string s, c1].toArray := by apply Array.ext'; simpa using hl
 have fin : s.size ≤ top → ∀ (l : List ByteArray), V P0 W (fun _ => False) (strs l) c1 → Value.leaf c1 = true → V P0 W (fun _ => False) (sigI s l) (.agg cs) := fun hsz l hv hlf => by
  rw [ecs2]
  refine .agg _ [.string s, c1] rfl (fun j x v hx hv' => ?_) (fun v hv' => ?_)
  ·match j with
   | 0 => simp at hx hv'; subst hx hv'; exact .str _ hsz
   | 1 => simp at hx hv'; subst hx hv'; exact hv
   | j + 2 => simp at hx
  ·simp at hv'
   rcases hv' with rfl | rfl
   ·rfl
   ·exact hlf
 have hd := congrArg Prod.fst hx
 simp only at hd
 rcases open_strings Tryz.underlying22 Tryz.underlying9 cells9 h1 with ⟨e1, e2⟩ | ⟨a, len, cap, ss, e1, hb, hlc, hcm, hsl, e2, hcell, hss⟩
 ·cases e1
  subst e2
  exact ⟨s, [], .nil, fun hz _ _ => fin hz [] (.sl0 9 none 0) rfl, hd, .inl ⟨rfl, rfl⟩⟩
 ·cases e1
  subst e2
  have hll : len ≤ ss.length := by rw [hsl]; split <;> omega
  exact ⟨s, ss.take len, _, fun hz h2 h3 => fin hz _ (v_strs hlc (by rw [List.length_take] at h2; omega) hll hcell h3) rfl, hd, .inr ⟨_, rfl⟩⟩
end Go.Lw
end
section
set_option maxRecDepth 100000
set_option maxHeartbeats 100000000
namespace Go.Proofs.YtleopflmnmfaeaaGreatDoor
open Go.ChangeShapes Go.WideShapes Go.ChangeAt Go.RowKit Go.Lw
open Go.ChangeMaps (open_string shut_string)
theorem ownK : ownKnob Tryz.prog.godebug = none := by kernel_rfl
theorem laidOut : laidOutB Tryz.prog = true := by kernel_rfl
theorem bulk_of {H : Type} {l : List (DataW H)} (hk : Rows.uptoSmall H l = true) : Rows.uptoBulkAll l ≤ 1048576 := of_decide_eq_true hk
theorem bulk_app {H : Type} (l r : List (DataW H)) : Rows.uptoBulkAll (l ++ r) = Rows.uptoBulkAll l + Rows.uptoBulkAll r := by
 induction l with
 | nil => simp [Rows.uptoBulkAll]
 | cons x l ih => simp only [List.cons_append, Rows.uptoBulkAll, ih]; omega
theorem bulk_strs {H : Type} (l : List ByteArray) : l.length ≤ Rows.uptoBulkAll (l.map fun s => DataW.lit (H := H) (.string s.data.toList)) ∧ ∀ s ∈ l, s.size ≤ Rows.uptoBulkAll (l.map fun s => DataW.lit (H := H) (.string s.data.toList)) := by
 induction l with
 | nil => exact ⟨by simp, fun s hs => by cases hs⟩
 | cons x r ih =>
  have e : x.data.toList.length = x.size := by rw [Array.length_toList]; rfl
  simp only [List.map_cons, Rows.uptoBulkAll, Rows.uptoBulk, List.length_cons]
  refine ⟨by have := ih.1; omega, fun s hs => ?_⟩
  rcases List.mem_cons.1 hs with rfl | hs
  ·omega
  ·have := ih.2 s hs; omega
theorem bulk_sig {H : Type} {name : ByteArray} {l : List ByteArray} {d1 : DataW H} (h : (l = [] ∧ d1 = .nil) ∨ ∃ rest, d1 = .slice (l.map fun s => .lit (.string s.data.toList)) rest) :
  name.size ≤ Rows.uptoBulk (DataW.agg [.lit (.string name.data.toList), d1]) ∧ l.length ≤ Rows.uptoBulk (DataW.agg [.lit (.string name.data.toList), d1]) ∧ ∀ s ∈ l, s.size ≤ Rows.uptoBulk (DataW.agg [.lit (.string name.data.toList), d1]) := by
 have e : name.data.toList.length = name.size := by rw [Array.length_toList]; rfl
 rcases h with ⟨rfl, rfl⟩ | ⟨rest, rfl⟩
 ·simp only [Rows.uptoBulkAll, Rows.uptoBulk]
  exact ⟨by omega, by simp, fun s hs => by cases hs⟩
 ·obtain ⟨h1, h2⟩ := bulk_strs (H := H) l
  simp only [Rows.uptoBulkAll, Rows.uptoBulk]
  exact ⟨by omega, by omega, fun s hs => by have := h2 s hs; omega⟩
theorem bulk_str {H : Type} (s : ByteArray) : Rows.uptoBulk (DataW.lit (H := H) (.string s.data.toList)) = s.size + 1 := by
 have e : s.data.toList.length = s.size := by rw [Array.length_toList]; rfl
 simp only [Rows.uptoBulk, e]
theorem post_below {H : Type} {enc : TypeId × Value → H} {P : Program} {f : Func} {s : ChangeSpec} {apart fresh handsOn again : Bool} {W W' : World} {args : Array Value} {v : Value} {ds gs : List (DataW H)} {before pa pv : List MemPlace}
  (hW : DataW.Whole enc P f.params.toList s.vars apart W args.toList ds gs before)
  (hres : ∀ (b : Nat) (sp : Nat → Bool) (hd : Bool), DataW.TrodAll enc P W' b sp hd f.resultTypes.toList (v.resultList f.resultTypes.size) (s.fn H (ds ++ gs)).results [])
  (hargs : ∀ sp : Nat → Bool, (∀ p ∈ before, sp p.block = true) → DataW.TrodAll enc P W' 0 sp true f.params.toList args.toList (s.fn H (ds ++ gs)).args pa)
  (hvars : ∀ sp : Nat → Bool, (∀ p ∈ before, sp p.block = true) → DataW.TrodVars enc P W' sp s.vars (s.fn H (ds ++ gs)).vars pv)
  (hps : before = pa ++ pv) (hb : Below W.heap.size W W')
  (hok : ∀ (j : Nat) (t : TypeId) (r : Value), f.resultTypes[j]? = some t → (v.resultList f.resultTypes.size)[j]? = some r → Value.okWide P W' .any 0 t r) :
  s.post enc P f apart fresh handsOn again W args v W' := by
 have hold : ∀ p ∈ before, (fun b => decide (b < W.heap.size)) p.block = true := fun p hp => by simpa using hW.lt p hp
 have hlt : ∀ p ∈ before, p.block < W.heap.size := hW.lt
 refine ⟨ds, gs, before, [], pa, pv, hW, hres _ _ _, hargs _ hold, hvars _ hold, World.keptBut_mono (fun p hp => ⟨hp, ?_⟩) (hb.frame (· ∈ before)), fun _ => ?_⟩
 ·rw [hps, List.mem_append] at hp
  exact Or.inr hp
 ·obtain ⟨_, _, _, _, _, hz, hn⟩ := hW
  refine ⟨hok, _, _, ([] ++ pa) ++ pv, ⟨[] ++ pa, pv, trodAll_append (hargs _ (fun _ _ => rfl)) (hres _ _ _), hvars _ (fun _ _ => rfl), rfl, ?_, ?_⟩, ?_⟩
  ·intro b off hp
   have hp' : MemPlace.cell b off ∈ before := by rw [hps]; simpa using hp
   rw [hb.frozen (hlt _ hp')]
   exact hz b off hp'
  ·intro ha
   have := hn ha
   rw [hps] at this
   simpa using this
  ·intro p hp _
   rw [hps]
   simpa using hp
theorem contract (H : Type) (enc : TypeId × Value → H) (W : World) (base : Nat) (args : Array Value) (ds gs : List (DataW H)) (before : List MemPlace)
  (hval : ∀ (j : Nat) t v, Tryz.f3.params[j]? = some t → args[j]? = some v → Value.okWide Tryz.prog W .any base t v)
  (hW : DataW.Whole enc Tryz.prog Tryz.f3.params.toList Rows.initialValuesSpec.vars false W args.toList ds gs before) (hk : Rows.uptoSmall H (ds ++ gs) = true) :
  Calls Tryz.prog 3 args W fun e W' => ∃ v, e = .returned v ∧ Rows.initialValuesSpec.post enc Tryz.prog Tryz.f3 false true false false W args v W' := by
 have hW' := hW
 obtain ⟨p, q, hA0, hV, rfl, hfz, hnd⟩ := hW
 have hA : DataW.TrodAll enc Tryz.prog W 0 (fun _ => true) true Tryz.f3.params.toList args.toList ds p := hA0
 rw [Tryz.params3] at hA hval
 obtain ⟨v0, vs0, d0, ds0, p0, q0, hargs, rfl, rfl, h0, r0⟩ := trodAll_cons hA
 obtain ⟨v1, vs1, d1, ds1, p1, q1, rfl, rfl, rfl, h1, r1⟩ := trodAll_cons r0
 obtain ⟨v2, vs2, d2, ds2, p2, q2, rfl, rfl, rfl, h2, r2⟩ := trodAll_cons r1
 obtain ⟨rfl, rfl, rfl⟩ := trodAll_nil r2
 obtain rfl : args = #[v0, v1, v2] := by cases args; simp_all
 obtain ⟨rfl, rfl⟩ := trodVars_none hV
 have hlt : ∀ x ∈ p0, x.block < W.heap.size := fun x hx => by simpa using hW'.lt x (by simp [hx])
 obtain ⟨name, l, dl, hv, rfl, hdl⟩ := open_sig (hval 0 24 v0 rfl rfl) h0
 obtain ⟨n, rfl, rfl, rfl, hn⟩ := open_int Tryz.underlying3 (hval 1 3 v1 rfl rfl) h1
 obtain ⟨time, rfl, rfl, rfl, hmax⟩ := open_string Tryz.underlying9 (hval 2 9 v2 rfl rfl) h2
 clear hA0
 have hb := bulk_of hk
 obtain ⟨z1, z2, z3⟩ := bulk_sig (name := name) hdl
 simp only [List.append_nil] at hW' hb
 have e1 : Rows.uptoBulkAll [DataW.agg [.lit (.string name.data.toList), dl], .lit (.int .i64 n), .lit (.string time.data.toList)] = Rows.uptoBulk (DataW.agg [.lit (.string name.data.toList), dl]) + (1 + (Rows.uptoBulk (DataW.lit (H := H) (.string time.data.toList)) + 0)) := rfl
 rw [e1, bulk_str] at hb
 have z4 : ∀ s ∈ l, s.size ≤ 1048576 := fun s hs => by have := z3 s hs; omega
 have hz : Z (VD P0 ⟨W, fun _ => False, fun _ => 0, fun _ => none⟩) [.i (sigI name l), .i (.int .i64 n), .i (.str time)] [v0, .int .i64 n, .string time] := by
  refine ⟨rfl, fun j x v hx hv' => ?_⟩
  match j with
  | 0 =>
   simp at hx hv'; subst hx hv'
   exact .i _ _ (hv (by unfold top; omega) (by unfold top; omega) fun s hs => by have := z4 s hs; unfold top; omega)
  | 1 => simp at hx hv'; subst hx hv'; exact .i _ _ (.int _ _)
  | 2 => simp at hx hv'; subst hx hv'; exact .i _ _ (.str _ (by unfold top; omega))
  | j + 3 => simp at hx
 have hc := law_ac name l n time (by unfold top; omega) (by omega) (fun s hs => by have := z4 s hs; omega) (by omega) ⟨W, fun _ => False, fun _ => 0, fun _ => none⟩ _ (fun id o ho => by cases ho) (fun b hb => hb.elim) hz
 refine Calls.mono hc fun e W' ⟨v, he, hvr, s1, s2, s3, s4, s5⟩ => ?_
 have hbel : Below W.heap.size W W' := ⟨s2, s3, s4, s1, s5⟩
 cases hvr with
 | i _ _ hvr =>
 cases hvr
 exact ⟨_, he, post_below (pa := p0) (pv := []) hW' (fun _ _ _ => trodAll_cons_mk (shut_bool Tryz.underlying4 _) trodAll_mk0)
  (fun sp hsp => by
   have := WideElems.Trod_stays (sp' := sp) laidOut (by kernel_rfl) (of_decide_eq_true (by kernel_rfl)) h0 (fun x hx => hbel.same (hlt x hx)) (fun x hx => hsp x (by simpa using hx))
   have e : p0 = p0 ++ ([] ++ ([] ++ [])) := by simp
   have h3 := trodAll_cons_mk this (trodAll_cons_mk (shut_int Tryz.underlying3 hn) (trodAll_cons_mk (shut_string Tryz.underlying9 hmax) trodAll_mk0))
   rw [← e] at h3
   exact h3) (fun _ _ => rfl) (by simp) hbel (ok_one (by kernel_rfl) rfl (okWide_bool_mk Tryz.underlying4 _))⟩
end Go.Proofs.YtleopflmnmfaeaaGreatDoor
end
