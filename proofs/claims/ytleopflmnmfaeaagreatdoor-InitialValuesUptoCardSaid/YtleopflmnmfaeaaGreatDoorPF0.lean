/-
A part of the proof that the statement InitialValues holds of the given program (second form, tied card): a range over a function.
-/
import Derived.Test.YtleopflmnmfaeaaGreatDoorPA
import Derived.RangeFuncNested
import Derived.RangeFuncBound
import Derived.RangeFuncCalls
import Derived.RangeFuncLeaves
import Derived.Shelf.Abstract
import Derived.Shelf.RegionOpen
import Derived.WalkKit
import Derived.OwnWalkIn
import Derived.TacticsInMore
import Derived.LoopNIn
import Derived.LoopIn
import Derived.Maps.AppendAt
import Derived.Test.YtleopflmnmfaeaaGreatDoorProg
set_option autoImplicit false
set_option linter.unusedSimpArgs false
set_option linter.unusedVariables false
set_option linter.unnecessarySimpa false
section
namespace Go.Proofs
open Go.RowKit Go.Shelf
attribute [local go_sem] Oper.semAt_some
abbrev WX := { x : Nat × Nat // x.2 < 1000000000 }
def KpD (n₀ Bs : Nat) (W W' : World) : Prop := Below n₀ W W' ∧ W'.heap[Bs]? = W.heap[Bs]?
theorem KpD.refl (n₀ Bs : Nat) (W : World) : KpD n₀ Bs W W := ⟨Below.refl _ _, rfl⟩
theorem KpD.trans {n₀ Bs : Nat} {A B C : World} (h : KpD n₀ Bs A B) (k : KpD n₀ Bs B C) : KpD n₀ Bs A C := ⟨h.1.trans k.1, k.2.trans h.2⟩
theorem KpD.cell {n₀ Bs : Nat} {A B : World} (h : KpD n₀ Bs A B) (k : Nat) : B.cell? ⟨Bs, k, none⟩ = A.cell? ⟨Bs, k, none⟩ := World.cell?_of_block h.2
theorem KpD.turn {n₀ Bs : Nat} {w : World} (hn : n₀ ≤ w.heap.size) (hBs : Bs < w.heap.size) (W : World) (l : Nat) (o o' : Obj) (hl : w.heap.size ≤ l) (h : W.heap[l]? = some o) (h1 : o.isCells = false) (h2 : o.isWalk = false) : KpD n₀ Bs W (W.putObj l o') :=
 ⟨belowK_b hn W l o o' hl h h1 h2, World.putObj_heap_other (by omega)⟩
set_option maxRecDepth 100000 in
set_option maxHeartbeats 2000000 in
theorem down_in (F : Fence) (n : Nat) (hF : F.fn 150) (hro : F.round = none) (hn : 1 ≤ n) (l Bs n₀ b off len cap : Nat) (f : Nat → WX) (hlen : len ≤ 1000000000000) (hb : b < n₀) (J Jx : List WX → World → Prop)
  (hf : ∀ k, k < len → (f k).1.1 = len - 1 - k)
  (hY : ∀ pre x W, J pre W → pre.length < len → YieldAt F (n - 1) Tryz.prog l #[.int .i64 (x.1.1 : Int), .int .u32 (x.1.2 : Int)] W fun e W' =>
   (e = .returned (.bool true) ∧ J (pre ++ [x]) W' ∧ KpD n₀ Bs W W') ∨ (e = .returned (.bool false) ∧ Jx (pre ++ [x]) W'))
  (W : World) (hBs : W.cell? ⟨Bs, 1, none⟩ = some (.slice (some ⟨b, off, none⟩) len cap)) (hc : ∀ k, k < len → W.cell? ⟨b, off + (len - 1 - k), none⟩ = some (.int .u32 ((f k).1.2 : Int))) (h0 : J [] W) :
  CallsIn F n Tryz.prog 150 #[.func (.yield l) #[] #[], .pointer (some ⟨Bs, 0, none⟩)] W fun e W' => (∃ v, e = .returned v) ∧
   ((∃ ys, ys = (List.range len).map f ∧ J ys W') ∨ (∃ pre, (∃ k, k ≤ len ∧ pre = (List.range k).map f) ∧ Jx pre W')) := by
 refine callsIn_of_wp Tryz.func150 rfl hF ?_ hro
 simp only [Tryz.ntmps150, List.size_toArray, List.length_cons, List.length_nil, Nat.reduceAdd, Nat.reduceSub, Array.replicate_succ, Array.replicate_zero, List.push_toArray, List.append_toArray, List.nil_append, List.cons_append]
 gi_wp2
 gi_loopw [3] (fun i wr => ∃ k : Nat, k ≤ len ∧ i = .int .i64 ((len : Int) - 1 - k) ∧ J ((List.range k).map f) wr ∧ KpD n₀ Bs W wr)
  (fun i _ => (intOf i + 1).toNat)
 case atStart => exact ⟨0, Nat.zero_le _, by simp, h0, KpD.refl _ _ _⟩
 case round =>
  obtain ⟨k, hk, rfl, hJs, hnx⟩ := hrel
  have hcx : k < len → wr.cell? ⟨b, off + (len - 1 - k), none⟩ = some (.int .u32 ((f k).1.2 : Int)) := fun h => (hnx.1.cell (p := ⟨b, off + (len - 1 - k), none⟩) hb).trans (hc k h)
  have hbx : wr.cell? ⟨Bs, 1, none⟩ = some (.slice (some ⟨b, off, none⟩) len cap) := (hnx.cell 1).trans hBs
  by_cases hlt : k < len
  ·obtain ⟨fn, tmps, assign, body, hy, hR⟩ := hY _ (f k) wr hJs (by rw [List.length_map, List.length_range]; exact hlt)
   have hcx' := hcx hlt
   rw [hf k hlt] at hy
   have hji : (len : Int) - 1 - k = ((len - 1 - k : Nat) : Int) := by omega
   rw [hji]
   have hjl : len - 1 - k < len := by omega
   gi_wp2
   refine hR.mono ?_
   rintro e W3 (⟨rfl, hJ3, hk3⟩ | ⟨rfl, hJx3⟩)
   ·gi_wp2
    go_roundw
    case rel => exact ⟨k + 1, by omega, by simp; omega, by rw [List.range_succ, List.map_append]; exact hJ3, hnx.trans hk3⟩
    case measure => simp [intOf]
   ·gi_wp2
    refine bodyPost_ret (results_none rfl _ _ _) rfl ?_
    exact ⟨⟨_, rfl⟩, .inr ⟨_, ⟨k + 1, by omega, by rw [List.range_succ, List.map_append]; rfl⟩, hJx3⟩⟩
  ·obtain rfl : k = len := by omega
   have hji : (k : Int) - 1 - k = -1 := by omega
   rw [hji]
   gi_wp2
   go_end0
   exact ⟨⟨_, rfl⟩, .inl ⟨_, rfl, hJs⟩⟩
end Go.Proofs
end
section
namespace Go.Proofs
open Go.RowKit Go.Shelf
structure HeldBack (p : Prop) : Prop where
 out : p
variable {F : Fence} {n : Nat} {P : Program} {ops : Array Oper} {Q : Exit → Act → World → Prop}
theorem opIn_val {i : Nat} {K : Act → World → Prop} {a : Act} {w w' : World} {o : Oper} {v : Value} (hi : ops[i]? = some o) (hg : o.guard = none) (hd : ∀ c, o.op ≠ .defer c) (hab : o.about P w a.eval = none)
  (hr : (execOp a.eval o).run P w = .ok (.value v) w') (h : K (a.put o.dst v) w') : wpOpIn F n P ops Q i K a w := by
 unfold wpOpIn
 simp only [hi]
 rw [if_pos (by simp [Region.wanted, hg])]
 refine ⟨fun f hf => (by rw [hab] at hf; cases hf), ?_⟩
 rw [Oper.semAt_plain F _ _ hd, hr]
 exact h
theorem opIn_skip {i : Nat} {K : Act → World → Prop} {a : Act} {w w' : World} {o : Oper} (hi : ops[i]? = some o) (hg : o.guard = none) (hd : ∀ c, o.op ≠ .defer c) (hab : o.about P w a.eval = none)
  (hr : (execOp a.eval o).run P w = .ok .skip w') (h : K (a.put o.dst undef) w') : wpOpIn F n P ops Q i K a w := by
 unfold wpOpIn
 simp only [hi]
 rw [if_pos (by simp [Region.wanted, hg])]
 refine ⟨fun f hf => (by rw [hab] at hf; cases hf), ?_⟩
 rw [Oper.semAt_plain F _ _ hd, hr]
 exact h
theorem ev_same (a : Act) (d : Nat) (v : Value) (h : d < a.tmps.size) : (a.put (some d) v).eval (.tmp d) = v := by
 simp [Act.put, Act.eval, Array.getD_eq_getD_getElem?, h]
theorem ev_ne (a : Act) (d t : Nat) (v : Value) (h : t ≠ d) : (a.put (some d) v).eval (.tmp t) = a.eval (.tmp t) := by
 simp [Act.put, Act.eval, Array.getD_eq_getD_getElem?, Ne.symm h]
theorem put_size (a : Act) (d : Nat) (v : Value) : (a.put (some d) v).tmps.size = a.tmps.size := by simp [Act.put]
theorem appendRegion {id : Nat} {o0 o1 o2 o3 : Oper} {a : Act} {W w1 w2 : World} {p q : Addr} {v v' : Value} (T S m : Nat) {t0 t1 d0 d1 d2 : Nat}
  (hm : P.follows .mixedOrders = true)
  (e0 : o0.op = .load T (.tmp t0)) (e1 : o1.op = .slice S (.tmp t1) none none none) (e2 : o2.op = .call { callee := .builtin .append, args := #[.tmp d0, .tmp d1], argTypes := #[T, T] }) (e3 : o3.op = .store T (.tmp t0) (.tmp d2))
  (g0 : o0.guard = none) (g1 : o1.guard = none) (g2 : o2.guard = none) (g3 : o3.guard = none) (k0 : o0.dst = some d0) (k1 : o1.dst = some d1) (k2 : o2.dst = some d2) (k3 : o3.dst = none)
  (r0 : Region.ready .any #[o0, o1, o2, o3] #[false, false, false, false] = [0, 1]) (r1 : Region.ready .any #[o0, o1, o2, o3] #[true, false, false, false] = [1]) (r2 : Region.ready .any #[o0, o1, o2, o3] #[false, true, false, false] = [0])
  (r3 : Region.ready .any #[o0, o1, o2, o3] #[true, true, false, false] = [2]) (r4 : Region.ready .any #[o0, o1, o2, o3] #[true, true, true, false] = [3]) (r5 : Region.ready .any #[o0, o1, o2, o3] #[true, true, true, true] = [])
  (n1 : t0 ≠ d0) (n2 : t0 ≠ d1) (n3 : t0 ≠ d2) (n4 : t1 ≠ d0) (n6 : d0 ≠ d1) (hs0 : d0 < a.tmps.size) (hs1 : d1 < a.tmps.size) (hs2 : d2 < a.tmps.size)
  (h0 : a.eval (.tmp t0) = .pointer (some p)) (h1 : a.eval (.tmp t1) = .pointer (some q))
  (hload : (loadVar T p).run P W.drew = .ok v W.drew) (hslice : ∀ ρ : Operand → Value, ρ (.tmp t1) = .pointer (some q) → (execOp ρ o1).run P W.drew = .ok (.value (.slice (some q) m m)) W.drew)
  (happ : (Builtin.append_ #[T, T] o2.type #[v, .slice (some q) m m]).run P W.drew = .ok v' w1) (hst : (storeVar T p v').run P w1 = .ok () w2) (hQ : ∀ a', Q .normal a' w2) :
  (Code.region id #[o0, o1, o2, o3] true).wpIn F n P Q a W := by
 have ab : ∀ (o : Oper) (w : World) (ρ : Operand → Value), (o = o0 ∨ o = o1 ∨ o = o2 ∨ o = o3) → o.about P w ρ = none := by
  rintro o w ρ (rfl | rfl | rfl | rfl)
  ·simp [Oper.about, e0]
  ·simp [Oper.about, e1]
  ·simp [Oper.about, e2, resolve, Target.leads, Sem.run_pure]
  ·simp [Oper.about, e3]
 have last : ∀ b : Act, b.tmps.size = a.tmps.size → b.eval (.tmp t0) = .pointer (some p) → b.eval (.tmp d0) = v → b.eval (.tmp d1) = .slice (some q) m m →
   wpAnyIn F n P .any #[o0, o1, o2, o3] Q 2 #[true, true, false, false] b W.drew := by
  intro b hb q1 q2 q3
  refine ⟨fun h => by rw [r3] at h; simp at h, fun i hi => ?_⟩
  rw [r3] at hi
  obtain rfl : i = 2 := by simpa using hi
  refine opIn_val (o := o2) (v := v') (w' := w1) rfl g2 (fun c h => by rw [e2] at h; cases h) (ab _ _ _ (by simp)) ?_ ?_
  ·simp [execOp, e2, resolve, invoke, builtin, q2, q3, happ, Result.andThen]
  ·rw [k2]
   show wpAnyIn F n P .any #[o0, o1, o2, o3] Q 1 #[true, true, true, false] _ w1
   refine ⟨fun h => by rw [r4] at h; simp at h, fun i hi => ?_⟩
   rw [r4] at hi
   obtain rfl : i = 3 := by simpa using hi
   refine opIn_skip (o := o3) (w' := w2) rfl g3 (fun c h => by rw [e3] at h; cases h) (ab _ _ _ (by simp)) ?_ ?_
   ·have e4 := ev_same b d2 v' (by omega)
    have e5 := ev_ne b d2 t0 v' n3
    rw [q1] at e5
    simp [execOp, e3, Instr.storeAt, e4, e5, hst, Instr.sureAddr, asAddr, Result.andThen]
   ·rw [k3]
    show wpAnyIn F n P .any #[o0, o1, o2, o3] Q 0 #[true, true, true, true] _ w2
    exact ⟨r5, hQ _⟩
 have dr : ({ W with drawn := W.drawn + 1 } : World) = W.drew := rfl
 refine wpIn_region_any hm ?_
 rw [dr]
 show wpAnyIn F n P .any #[o0, o1, o2, o3] Q 4 #[false, false, false, false] a W.drew
 have rl : ∀ b : Act, b.eval (.tmp t0) = .pointer (some p) → (execOp b.eval o0).run P W.drew = .ok (.value v) W.drew := fun b hb => by
  simp [execOp, e0, Instr.loadAt, hb, hload, Instr.sureAddr, asAddr, Result.andThen]
 refine ⟨fun h => by rw [r0] at h; simp at h, fun i hi => ?_⟩
 rw [r0] at hi
 have hi' : i = 0 ∨ i = 1 := by simpa using hi
 rcases hi' with rfl | rfl
 ·refine opIn_val (o := o0) (v := v) (w' := W.drew) rfl g0 (fun c h => by rw [e0] at h; cases h) (ab _ _ _ (by simp)) (rl a h0) ?_
  rw [k0]
  show wpAnyIn F n P .any #[o0, o1, o2, o3] Q 3 #[true, false, false, false] _ W.drew
  refine ⟨fun h => by rw [r1] at h; simp at h, fun i hi => ?_⟩
  rw [r1] at hi
  obtain rfl : i = 1 := by simpa using hi
  refine opIn_val (o := o1) (v := .slice (some q) m m) (w' := W.drew) rfl g1 (fun c h => by rw [e1] at h; cases h) (ab _ _ _ (by simp)) (hslice _ (by rw [ev_ne _ _ _ _ n4, h1])) ?_
  rw [k1]
  refine last _ (by rw [put_size, put_size]) (by rw [ev_ne _ _ _ _ n2, ev_ne _ _ _ _ n1, h0]) (by rw [ev_ne _ _ _ _ n6, ev_same _ _ _ hs0]) (by rw [ev_same _ _ _ (by rw [put_size]; exact hs1)])
 ·refine opIn_val (o := o1) (v := .slice (some q) m m) (w' := W.drew) rfl g1 (fun c h => by rw [e1] at h; cases h) (ab _ _ _ (by simp)) (hslice _ h1) ?_
  rw [k1]
  show wpAnyIn F n P .any #[o0, o1, o2, o3] Q 3 #[false, true, false, false] _ W.drew
  refine ⟨fun h => by rw [r2] at h; simp at h, fun i hi => ?_⟩
  rw [r2] at hi
  obtain rfl : i = 0 := by simpa using hi
  refine opIn_val (o := o0) (v := v) (w' := W.drew) rfl g0 (fun c h => by rw [e0] at h; cases h) (ab _ _ _ (by simp)) (rl _ (by rw [ev_ne _ _ _ _ n2, h0])) ?_
  rw [k0]
  refine last _ (by rw [put_size, put_size]) (by rw [ev_ne _ _ _ _ n1, ev_ne _ _ _ _ n2, h0]) (by rw [ev_same _ _ _ (by rw [put_size]; exact hs0)]) (by rw [ev_ne _ _ _ _ (Ne.symm n6), ev_same _ _ _ hs1])
theorem load1 {w : World} {T : TypeId} {p : Addr} {v : Value} (hT : (do let t ← isAgg T; pure t : Sem Bool).run P w = .ok false w) (hc : w.cell? p = some v) : (loadVar T p).run P w = .ok v w := by
 have h : (isAgg T).run P w = .ok false w := by simpa using hT
 simp [loadVar, Sem.run_bind, h, Result.andThen, run_load, hc]
theorem store1 {w : World} {T : TypeId} {b o : Nat} {old v : Value} {inf : TypeInfo} (hi : P.info? T = some inf) (hs : inf.size = 1) (hc : w.cell? ⟨b, o, none⟩ = some old) (hf : w.frozen? ⟨b, o, none⟩ = false) (h1 : v.cells = #[v]) (h2 : v.oneCell' = true) :
  (storeVar T ⟨b, o, none⟩ v).run P w = .ok () (w.setCell ⟨b, o, none⟩ v) := by
 have e : (⟨b, o, none⟩ : Addr).add 0 = ⟨b, o, none⟩ := rfl
 simp [storeVar, sizeOf, typeInfo, hi, hs, h1, storeCells, run_store P w _ v _ h2, e, stored, hc, hf, Result.andThen]
end Go.Proofs
end
