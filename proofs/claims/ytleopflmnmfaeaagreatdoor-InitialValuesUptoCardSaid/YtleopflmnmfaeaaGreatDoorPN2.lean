/-
A part of the proof that the statement InitialValues holds of the given program (second form, tied card): an evaluator over it: steps.
-/
import Derived.Test.YtleopflmnmfaeaaGreatDoorPN1
set_option autoImplicit false
set_option linter.unusedSimpArgs false
set_option linter.unusedVariables false
set_option linter.unnecessarySimpa false
section
namespace Go.Kr
section
variable {P : Program} {γ : Gm}
theorem nil_eql_run {T E : TypeId} (hT : P.underlying T = some (.slice E)) {a : Addr} {l c l2 c2 : Nat} (x y : Operand) (w : World) :
  (do eqGuard .eql T x y (.slice (some a) l c) (.slice none l2 c2); binOp .eql T (.slice (some a) l c) (.slice none l2 c2)).run P w = .ok (.bool false) w ∧
  (do eqGuard .neq T x y (.slice (some a) l c) (.slice none l2 c2); binOp .neq T (.slice (some a) l c) (.slice none l2 c2)).run P w = .ok (.bool true) w := by
 have he : (Op.equal T (.slice (some a) l c) (.slice none l2 c2)).run P w = .ok false w := by
  unfold Op.equal
  rw [show Op.maxDepth = 9999 + 1 from rfl, Op.equalIn, Sem.run_bind, run_underlying hT]
  rfl
 constructor
 ·rw [Sem.run_bind, show (eqGuard .eql T x y (.slice (some a) l c) (.slice none l2 c2)).run P w = .ok () w from rfl]
  simp only [Result.andThen_ok, binOp]
  rw [Sem.run_bind, he]
  rfl
 ·rw [Sem.run_bind, show (eqGuard .neq T x y (.slice (some a) l c) (.slice none l2 c2)).run P w = .ok () w from rfl]
  simp only [Result.andThen_ok, binOp]
  rw [Sem.run_bind, he]
  rfl
theorem toList_eq {α : Type} {A : Array α} {l : List α} (h : A.toList = l) : A = l.toArray := by rw [← h]
theorem callB_sound {ρ ρ' : Operand → Value} {m m' : Ms} {w : World} {o : Oper} {c : Call} {v : Value} (hr : HR m.cur γ w) (hf : Free γ m.nx m.hi) (hρ : ∀ x ∈ o.op.operands.toList, VR γ (ρ x) (ρ' x)) (ho : o.op = .call c) (h : callB P ρ m o c = some (v, m')) : OkX P (execOp ρ' o) m γ w v m' := by
 obtain ⟨dst, op, ty, pos, after, guard⟩ := o
 obtain ⟨callee, args, tys⟩ := c
 dsimp only at ho
 subst ho
 have hargs : ∀ x ∈ args.toList, x ∈ (Op.call ⟨callee, args, tys⟩).operands.toList := fun x hx => by
  simp only [Op.operands, Call.operands, Array.toList_append, List.mem_append]
  exact .inr hx
 have pureC : ∀ b, callee = .builtin b → pureOp P ρ m ⟨dst, .call ⟨callee, args, tys⟩, ty, pos, after, guard⟩ = some (v, m') → OkX P (execOp ρ' ⟨dst, .call ⟨callee, args, tys⟩, ty, pos, after, guard⟩) m γ w v m' := fun b hb h =>
  pureOp_sound hr hf hρ h fun he => by
   have e : args.map ρ' = args.map ρ := by
    apply Array.ext'
    simp only [Array.toList_map]
    exact List.map_congr_left fun x hx => he x (hargs x hx)
   subst hb
   simp only [execOp, resolve, e]
 unfold callB at h
 dsimp only at h
 split at h
 ·split at h
  ·rename_i x T ex eT
   split at h
   ·exact pureC _ rfl h
   ·have e1 := toList_eq ex
    have e2 := toList_eq eT
    subst e1 e2
    exact .of_okv (lenA_sound (ty := ty) hr hf (hρ x (hargs x (by simp))) h) (by simp only [execOp, resolve, List.map_toArray, List.map_cons, List.map_nil]; rfl)
  ·cases h
 ·split at h
  ·rename_i x y T T' ex eT
   split at h
   ·rename_i e
    have e := Nat.eq_of_beq_eq_true e
    subst e
    have e1 := toList_eq ex
    have e2 := toList_eq eT
    subst e1 e2
    exact .of_okv (app_sound (ty := ty) hr hf (hρ x (hargs x (by simp))) (hρ y (hargs y (by simp))) h) (by simp only [execOp, resolve, List.map_toArray, List.map_cons, List.map_nil]; rfl)
   ·cases h
  ·cases h
 ·split at h
  ·rename_i x y T T' ex eT
   have e1 := toList_eq ex
   have e2 := toList_eq eT
   subst e1 e2
   exact .of_sim hr hf (sim_copy T T' ty (hρ x (hargs x (by simp))) (hρ y (hargs y (by simp)))) h (by simp only [execOp, resolve, List.map_toArray, List.map_cons, List.map_nil]; rfl)
  ·cases h
 ·exact pureC _ rfl h
 ·exact pureC _ rfl h
 ·rename_i f
  refine pureOp_sound hr hf hρ h fun he => ?_
  have e : args.map ρ' = args.map ρ := by
   apply Array.ext'
   simp only [Array.toList_map]
   exact List.map_congr_left fun x hx => he x (hargs x hx)
  have e2 : ρ' f = ρ f := he f (by simp [Op.operands, Call.operands])
  simp only [execOp, resolve, e, e2]
 ·cases h
theorem op1_sound {ρ ρ' : Operand → Value} {m m' : Ms} {w : World} {o : Oper} {v : Value} (hr : HR m.cur γ w) (hf : Free γ m.nx m.hi) (hρ : ∀ x ∈ o.op.operands.toList, VR γ (ρ x) (ρ' x)) (h : op1 P ρ m o = some (v, m')) : OkX P (execOp ρ' o) m γ w v m' := by
 obtain ⟨dst, op, ty, pos, after, guard⟩ := o
 unfold op1 at h
 dsimp only at h
 split at h
 ·rename_i x
  cases h
  exact .here hr hf (hρ x (by simp [Op.operands])) rfl m.log
 ·rename_i x
  cases h
  exact .here hr hf (hρ x (by simp [Op.operands])) rfl m.log
 ·rename_i c a b
  have hc := hρ c (by simp [Op.operands])
  split at h
  ·rename_i e
   cases h
   rw [e] at hc
   have e' : ρ' c = .bool true := by generalize ρ' c = u at hc; cases hc; rfl
   exact .here hr hf (hρ a (by simp [Op.operands])) (by simp [execOp, e', asBool]) m.log
  ·rename_i e
   cases h
   rw [e] at hc
   have e' : ρ' c = .bool false := by generalize ρ' c = u at hc; cases hc; rfl
   exact .here hr hf (hρ b (by simp [Op.operands])) (by simp [execOp, e', asBool]) m.log
  ·cases h
 ·split at h
  ·rename_i hz
   exact .of_sim hr hf (sim_alloc _ (zeroCls_spec hz) true) h rfl
  ·cases h
 ·rename_i T x
  exact .of_sim hr hf (sim_box T (hρ x (by simp [Op.operands]))) h rfl
 ·rename_i T parts
  split at h
  ·rename_i hz
   exact .of_sim hr hf (sim_build T (zeroCls_spec hz) (parts_PR parts fun x hx => hρ x (by simpa [Op.operands] using hx))) h rfl
  ·cases h
 ·rename_i T n parts
  split at h
  ·rename_i hz
   simp only [Bool.and_eq_true] at hz
   exact .of_sim hr hf (sim_buildSlice T n (zeroClsE_spec hz.1) (by have := hz.2; simp [Nat.blt] at this; omega) (parts_PR parts fun x hx => hρ x (by simpa [Op.operands] using hx))) h rfl
  ·cases h
 ·rename_i T mm k x
  split at h
  ·rename_i m1 hu
   cases h
   obtain ⟨w', h1, h2, h3⟩ := upd_sound hr hf (hρ mm (by simp [Op.operands])) (hρ k (by simp [Op.operands])) (hρ x (by simp [Op.operands])) hu
   exact ⟨undef, w', γ, .inr ⟨by simp only [execOp]; rw [Sem.run_bind, h1]; rfl, rfl⟩, VR.refl_cls 1 _ rfl, h2, h3⟩
  ·cases h
 ·rename_i T mm k x
  split at h
  ·rename_i m1 hu
   cases h
   obtain ⟨w', h1, h2, h3⟩ := upd_sound hr hf (hρ mm (by simp [Op.operands])) (hρ k (by simp [Op.operands])) (hρ x (by simp [Op.operands])) hu
   exact ⟨undef, w', γ, .inr ⟨by simp only [execOp]; rw [Sem.run_bind, h1]; rfl, rfl⟩, VR.refl_cls 1 _ rfl, h2, h3⟩
  ·cases h
 ·rename_i T a
  exact .of_sim hr hf (sim_loadAt T (hρ a (by simp [Op.operands]))) h rfl
 ·rename_i T a x
  cases hs : arunO P (Instr.storeAt T (ρ a) (ρ x)) m with
  | none => rw [hs] at h; cases h
  | some r =>
   obtain ⟨u, m1⟩ := r
   rw [hs] at h
   cases h
   obtain ⟨a', w', γ', h1, h2, h3, h4⟩ := sim_storeAt T (hρ a (by simp [Op.operands])) (hρ x (by simp [Op.operands])) m w _ m' hs hr hf
   exact ⟨undef, w', γ', .inr ⟨by simp only [execOp]; rw [Sem.run_bind, h1]; rfl, rfl⟩, VR.refl_cls 1 _ rfl, h3, h4⟩
 ·rename_i x
  have hx := hρ x (by simp [Op.operands])
  split at h
  ·rename_i a e
   cases h
   rw [e] at hx
   generalize e' : ρ' x = x' at hx
   cases hx with
   | ptr _ a' ha => exact .here hr hf (.ptr a a' ha) (by simp [execOp, e']) m.log
  ·rename_i f a b e
   cases h
   rw [e] at hx
   generalize e' : ρ' x = x' at hx
   cases hx with
   | fn _ _ ys _ ds h1 h2 h3 h4 => exact .here hr hf (.fn _ _ ys _ ds h1 h2 h3 h4) (by simp [execOp, e']) m.log
  ·cases h
 ·rename_i bop T x y T'
  split at h
  ·rename_i b hn
   cases h
   unfold nilCmp at hn
   split at hn
   ·rename_i E A n c n2 c2 hT ex ey
    have hx := hρ x (by simp [Op.operands])
    have hy := hρ y (by simp [Op.operands])
    rw [ex] at hx
    rw [ey] at hy
    generalize e1 : ρ' x = x' at hx
    generalize e2 : ρ' y = y' at hy
    cases hx with
    | sl a a' l c c' ha hc =>
    cases hy
    obtain ⟨r1, r2⟩ := nil_eql_run hT (a := a') (l := n) (c := c') (l2 := n2) (c2 := c2) x y w
    split at hn
    ·cases hn
     refine .here hr hf (.bool false) ?_ m.log
     simp only [execOp, e1, e2]
     rw [Sem.run_bind, r1]
     rfl
    ·cases hn
     refine .here hr hf (.bool true) ?_ m.log
     simp only [execOp, e1, e2]
     rw [Sem.run_bind, r2]
     rfl
    ·cases hn
   ·cases hn
  ·exact pureOp_sound hr hf hρ h fun he => by simp only [execOp]; rw [he x (by simp [Op.operands]), he y (by simp [Op.operands])]
 ·rename_i a b x
  exact pureOp_sound hr hf hρ h fun he => by simp only [execOp]; rw [he x (by simp [Op.operands])]
 ·rename_i a b x
  exact pureOp_sound hr hf hρ h fun he => by simp only [execOp]; rw [he x (by simp [Op.operands])]
 ·rename_i T x i
  exact pureOp_sound hr hf hρ h fun he => by simp only [execOp]; rw [he x (by simp [Op.operands]), he i (by simp [Op.operands])]
 ·rename_i f first captured
  cases h
  exact .here hr hf (VR.fn' (ops_LR first fun x hx => hρ x (by simp [Op.operands]; exact .inl (by simpa using hx))) (ops_LR captured fun x hx => hρ x (by simp [Op.operands]; exact .inr (by simpa using hx)))) rfl m.log
 ·rename_i T
  exact .of_sim hr hf (sim_makeMap T) h rfl
 ·rename_i T l c
  split at h
  ·rename_i k n k' n' e1 e2
   split at h
   ·rename_i hz
    have h1 := hρ l (by simp [Op.operands])
    have h2 := hρ c (by simp [Op.operands])
    rw [e1] at h1
    rw [e2] at h2
    have e3 : ρ' l = .int k n := by generalize ρ' l = u at h1; cases h1; rfl
    have e4 : ρ' c = .int k' n' := by generalize ρ' c = u at h2; cases h2; rfl
    exact .of_sim hr hf (sim_makeSlice T (zeroClsE_spec hz) k k' n n') h (by simp only [execOp, e3, e4])
   ·cases h
  ·cases h
 ·rename_i T x lo hi mx
  split at h
  ·exact pureOp_sound hr hf hρ h fun he => by
    have e : ∀ y : Option Operand, (∀ z, y = some z → ρ' z = ρ z) → y.map ρ' = y.map ρ := fun y hy => by
     cases y with
     | none => rfl
     | some z => simp [hy z rfl]
    simp only [execOp]
    rw [he x (by simp [Op.operands]), e lo fun z hz => he z (by simp [Op.operands, hz]), e hi fun z hz => he z (by simp [Op.operands, hz]), e mx fun z hz => he z (by simp [Op.operands, hz])]
  ·split at h
   ·rename_i v0 hc
    cases h
    obtain ⟨v', h1, h2⟩ := cutS_sound (m := m) (w := w) (hρ x (by simp [Op.operands])) (or_map lo fun z hz => hρ z (by simp [Op.operands, hz])) (or_map hi fun z hz => hρ z (by simp [Op.operands, hz])) (or_map mx fun z hz => hρ z (by simp [Op.operands, hz])) hc
    exact .here hr hf h2 (by simp only [execOp]; rw [Sem.run_bind, h1]; rfl) m.log
   ·cases h
 ·rename_i S x i
  exact .of_sim hr hf (sim_fieldAt S i (hρ x (by simp [Op.operands]))) h rfl
 ·rename_i T x i
  split at h
  ·rename_i a l c k n e1 e2
   have h1 := hρ x (by simp [Op.operands])
   have h2 := hρ i (by simp [Op.operands])
   rw [e1] at h1
   rw [e2] at h2
   have e3 : ρ' i = .int k n := by generalize ρ' i = u at h2; cases h2; rfl
   generalize e4 : ρ' x = x' at h1
   cases h1 with
   | sl _ a' _ _ c' ha hc => exact (.of_sim hr hf (sim_indexAt (c' := c') T k n ha) h (by simp only [execOp, e3, e4]))
  ·rename_i a k n e1 e2
   have h1 := hρ x (by simp [Op.operands])
   have h2 := hρ i (by simp [Op.operands])
   rw [e1] at h1
   rw [e2] at h2
   have e3 : ρ' i = .int k n := by generalize ρ' i = u at h2; cases h2; rfl
   generalize e4 : ρ' x = x' at h1
   cases h1 with
   | ptr _ a' ha => exact (.of_sim hr hf (sim_indexArr T k n ha) h (by simp only [execOp, e3, e4]))
  ·cases h
 ·rename_i T x i ok
  exact .of_okv (look_sound hr hf (hρ x (by simp [Op.operands])) (hρ i (by simp [Op.operands])) h) rfl
 ·rename_i T x
  split at h
  ·rename_i s e1
   have h1 := hρ x (by simp [Op.operands])
   rw [e1] at h1
   have e3 : ρ' x = .string s := by generalize ρ' x = u at h1; cases h1; rfl
   exact .of_sim hr hf (sim_rangeStr T s) h (by simp only [execOp, e3])
  ·split at h
   ·rename_i hT
    exact .of_okv (range_sound hr hf hT (hρ x (by simp [Op.operands])) h) rfl
   ·cases h
 ·rename_i x
  exact .of_okv (strNext_sound (ty := ty) hr hf (hρ x (by simp [Op.operands])) h) rfl
 ·rename_i x
  exact .of_okv (entry_sound hr hf (hρ x (by simp [Op.operands])) h) rfl
 ·rename_i x i
  exact .of_sim hr hf (sim_extract (hρ x (by simp [Op.operands])) i) h rfl
 ·rename_i c
  exact callB_sound hr hf hρ rfl h
 ·cases h
end
end Go.Kr
end
