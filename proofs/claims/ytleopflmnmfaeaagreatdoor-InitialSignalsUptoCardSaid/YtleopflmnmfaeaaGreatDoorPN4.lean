/-
A part of the proof that the statement InitialValues holds of the given program (second form, tied card): an evaluator over it: it is right.
-/
import Derived.Test.YtleopflmnmfaeaaGreatDoorPN3
set_option autoImplicit false
set_option linter.unusedSimpArgs false
set_option linter.unusedVariables false
set_option linter.unnecessarySimpa false
section
namespace Go.Kr
section
variable {P : Program} {orc : Orc} {drw : Drw}
theorem ms_cur (h : Hp) : h.ms.cur = h.t.get := rfl
theorem Bs.at.step {B : Bs} {h : Hp} {γ γ' : Gm} {w w' : World} {m' : Ms} (h2 : B.at h γ w) (hg : m'.g = h.t.get) (hp : Post h.t.get h.nx HI γ w m'.cur m'.nx γ' w') : B.at (h.put m') γ' w' := by
 unfold Bs.at
 rw [put_cur hg]
 exact Post.trans h2 hp
theorem Ws.one {A : Array Oper} {o : Oper} {os : List Oper} {n : Nat} {s : Sl} {h : Hp} {K : Sl → Hp → Prop} {r : Value × Ms} (hd : dstOk o.dst n = true) (ho : opsOk o.op = true) (hw : wants A s o = some true) (h1 : op1 P (sev s) h.ms o = some r)
  (hk : Ws P A os n (sputT s o.dst r.1) (h.put r.2) K) : Ws P A (o :: os) n s h K := .op hw fun B a w γ hfl hat N Q hN => by
 obtain ⟨v, m'⟩ := r
 obtain ⟨v', w', γ', hrun, hv, hhi, hp⟩ := op1_sound (m := h.ms) (γ := γ) (ρ' := a.eval) (w := w) hat.hr hat.free (fun x hx => hfl.ev x (List.all_eq_true.1 ho x hx)) h1
 have hp : Post h.t.get h.nx HI γ w m'.cur m'.nx γ' w' := hp
 have hfin : N (a.put o.dst v') w' := hN _ _ γ' _ w' ((hfl.keep hp.keep).put hd hv) (hat.step (op1_g h1) hp) hk
 unfold Oper.wp
 rcases hrun with e | ⟨e, rfl⟩
 ·rw [e]; exact hfin
 ·rw [e]; exact hfin
theorem nextA_g {m : Ms} {x : Value} {outs : List (Value × Ms)} (h : nextA m x = some outs) : ∀ r ∈ outs, r.2.g = m.g := by
 unfold nextA at h
 split at h
 ·cases h; intro r hr; simp at hr; subst hr; rfl
 ·split at h
  ·split at h
   ·cases h
    intro r hr
    unfold outsA at hr
    split at hr
    ·simp at hr; subst hr; rfl
    ·obtain ⟨e, _, rfl⟩ := List.mem_map.1 hr; rfl
   ·cases h
  ·cases h
 ·cases h
theorem Ws.next {A : Array Oper} {o : Oper} {os : List Oper} {n : Nat} {s : Sl} {h : Hp} {K : Sl → Hp → Prop} {x : Operand} {outs : List (Value × Ms)} (hd : dstOk o.dst n = true) (ho : opsOk o.op = true) (hx : o.op = .next x false) (hw : wants A s o = some true) (h1 : nextA h.ms (sev s x) = some outs)
  (hk : ∀ r ∈ outs, Ws P A os n (sputT s o.dst r.1) (h.put r.2) K) : Ws P A (o :: os) n s h K := .op hw fun B a w γ hfl hat N Q hN => by
 have hxo : opnd x = true := List.all_eq_true.1 ho x (by rw [hx]; simp [Op.operands])
 obtain ⟨r, hr, v', w', γ', hrun, hv, hhi, hp⟩ := next_sound (m := h.ms) (P := P) (ty := o.type) (w := w) hat.hr hat.free (hfl.ev x hxo) h1
 have hp : Post h.t.get h.nx HI γ w r.2.cur r.2.nx γ' w' := hp
 have hfin : N (a.put o.dst v') w' := hN _ _ γ' _ w' ((hfl.keep hp.keep).put hd hv) (hat.step (nextA_g h1 r hr) hp) (hk r hr)
 unfold Oper.wp
 have e : (execOp a.eval o).run P w = .ok (.value v') w' := by
  unfold execOp
  rw [hx]
  simp only [Sem.run_bind, hrun]
  rfl
 rw [e]
 exact hfin
theorem goodF_spec {g : FuncId} {fn : Func} {x : Code} (h : goodF P g = some (fn, x)) : P.funcs[g]? = some fn ∧ fn.name ≠ "runtime.NumGoroutine" ∧ fn.body = some x := by
 unfold goodF at h
 split at h
 ·rename_i fn0 hf
  split at h
  ·rename_i x0 hn hb
   cases h
   exact ⟨hf, by simpa using hn, hb⟩
  ·cases h
 ·cases h
theorem Ws.call {A : Array Oper} {o : Oper} {os : List Oper} {n : Nat} {s : Sl} {h : Hp} {K : Sl → Hp → Prop} {c : Call} {f : Operand} {g : FuncId} {vs : List Value} {outs : List (Value × Hp)} (hd : dstOk o.dst n = true) (ho : opsOk o.op = true) (hx : o.op = .call c) (hc : c.callee = .value f) (hw : wants A s o = some true)
  (hcal : calleeA s f c.args = some (g, vs)) {fn : Func} {x : Code} (hg : goodF P g = some (fn, x)) (h1 : CallS P g vs h outs) (hk : ∀ r ∈ outs, Ws P A os n (sputT s o.dst r.1) r.2 K) : Ws P A (o :: os) n s h K := .op hw fun B a w γ hfl hat N Q hN => by
 obtain ⟨callee, args, tys⟩ := c
 dsimp only at hc hcal
 subst hc
 have hmem : ∀ y, y = f ∨ y ∈ args.toList → opnd y = true := fun y hy => List.all_eq_true.1 ho y (by
  rw [hx]
  simp only [Op.operands, Call.operands, Array.toList_append, List.mem_append]
  rcases hy with rfl | hy
  ·exact .inl (by simp)
  ·exact .inr hy)
 have hf := hfl.ev f (hmem f (.inl rfl))
 unfold calleeA at hcal
 split at hcal
 ·rename_i g0 first caps e
  cases hcal
  rw [e] at hf
  generalize ef : a.eval f = fv at hf
  cases hf with
  | fn _ _ ys _ ds h2 h3 h4 h5 =>
   have l1 : LR γ first.toList ys.toList := ⟨by simpa using h2, fun j x y hx hy => h4 j x y (by simpa using hx) (by simpa using hy)⟩
   have l2 : LR γ caps.toList ds.toList := ⟨by simpa using h3, fun j x y hx hy => h5 j x y (by simpa using hx) (by simpa using hy)⟩
   have l3 : LR γ (args.toList.map (sev s)) (args.toList.map a.eval) := ⟨by simp, fun j x y hx hy => by
    simp only [List.getElem?_map, Option.map_eq_some_iff] at hx hy
    obtain ⟨p, q1, rfl⟩ := hx
    obtain ⟨p', q2, rfl⟩ := hy
    rw [q1] at q2
    cases q2
    exact hfl.ev p (hmem p (.inr (List.mem_of_getElem? q1)))⟩
   have zz := (l1.append l3).append l2
   obtain ⟨hfn, hnm, hbd⟩ := goodF_spec hg
   have hex : (execOp a.eval o).run P w = .ok (.enter g (ys.toList ++ args.toList.map a.eval ++ ds.toList).toArray) w := by
    have ha : (ys.toList ++ args.toList.map a.eval ++ ds.toList).toArray = ys ++ Array.map a.eval args ++ ds := by
     apply Array.ext'; simp
    rw [ha]
    simp [execOp, hx, resolve, ef, Deferred.ofValue, invoke, callFunc, hfn, hnm, hbd]
   unfold Oper.wp
   rw [hex]
   simp only [Oper.upon]
   refine Calls.mono (h1 w γ _ hat.hr hat.free zz) fun e w' he => ?_
   obtain ⟨r, hr, v', γ', rfl, hv, hp⟩ := he
   exact hN _ _ γ' _ w' ((hfl.keep hp.keep).put hd hv) (Post.trans hat hp) (hk r hr)
 ·cases hcal
def Rd {α β : Type} (P : Program) (γ : Gm) (R : α → β → Prop) (t : Sem α) (t' : Sem β) : Prop := ∀ m w a m', arunO P t m = some (a, m') → HR m.cur γ w → ∃ a', t'.run P w = .ok a' w ∧ R a a' ∧ m'.cur = m.cur
theorem Rd.pure {α β : Type} {γ : Gm} {R : α → β → Prop} {a : α} {b : β} (h : R a b) : Rd P γ R (Pure.pure a) (Pure.pure b) := fun m w x m' he hr => by cases he; exact ⟨b, rfl, h, rfl⟩
theorem Rd.bind {α β α' β' : Type} {γ : Gm} {RA : α → α' → Prop} {RB : β → β' → Prop} {t : Sem α} {t' : Sem α'} {f : α → Sem β} {f' : α' → Sem β'} (h : Rd P γ RA t t') (k : ∀ a a', RA a a' → Rd P γ RB (f a) (f' a')) : Rd P γ RB (t >>= f) (t' >>= f') := fun m w b m' he hr => by
 rw [arunO_bind] at he
 obtain ⟨⟨a, m1⟩, h1, h2⟩ := Option.bind_eq_some_iff.1 he
 obtain ⟨a', e1, ra, c1⟩ := h m w a m1 h1 hr
 obtain ⟨b', e2, rb, c2⟩ := k a a' ra m1 w b m' h2 (by rw [c1]; exact hr)
 exact ⟨b', by rw [Sem.run_bind, e1]; exact e2, rb, c2.trans c1⟩
theorem Rd.of_q0 {α : Type} {γ : Gm} {t : Sem α} (h : Q0 P t) : Rd P γ (fun a a' => a' = a) t t := fun m w a m' he hr => by
 obtain ⟨e, r⟩ := h m a m' he
 subst e
 exact ⟨a, r w, rfl, rfl⟩
theorem rd_load {γ : Gm} {a a' : Addr} (ha : AR γ a a') : Rd P γ (VR γ) (load a) (load a') := by
 intro m w v m' he hr
 have hl : rowM m a 1 = some [v] ∧ m'.cur = m.cur := by
  unfold load at he
  simp only [arunO] at he
  cases hl : loadM m a with
  | none => rw [hl] at he; cases he
  | some v0 =>
   rw [hl] at he
   cases he
   refine ⟨?_, rfl⟩
   unfold loadM at hl
   unfold rowM
   split at hl
   ·cases hl
   ·rename_i hs
    try rw [hs]
    try dsimp only
    split at hl
    ·rename_i o c E f hc
     try rw [hc]
     try dsimp only
     have hlt : a.off < c.toList.length := (List.getElem?_eq_some_iff.1 hl).1
     have e : (c.toList.drop a.off).take 1 = [v] := by
      rw [List.drop_eq_getElem_cons hlt]
      simp only [List.take_succ_cons, List.take_zero]
      rw [List.getElem?_eq_getElem hlt] at hl
      cases hl
      rfl
     rw [e]
     rfl
    ·cases hl
 obtain ⟨_, cs', h1, h2⟩ := rowM_real hr ha hl.1
 obtain ⟨y, zs, rfl, h3, _⟩ := h1.inv_cons
 have := h2 0 y rfl
 rw [show a'.add 0 = a' from rfl] at this
 exact ⟨y, by unfold load; simp [Sem.run, this], h3, hl.2⟩
theorem rd_loadVar {γ : Gm} (T : TypeId) {a a' : Addr} (ha : AR γ a a') : Rd P γ (VR γ) (loadVar T a) (loadVar T a') := by
 have cells : ∀ (n i : Nat) (acc acc' : Array Value), LR γ acc.toList acc'.toList → Rd P γ (fun x y => LR γ x.toList y.toList) (loadCellsFrom a i n acc) (loadCellsFrom a' i n acc') := by
  intro n
  induction n with
  | zero => intro i acc acc' h; exact .pure h
  | succ n ih =>
   intro i acc acc' h
   unfold loadCellsFrom
   refine .bind (rd_load (ha.add i)) fun v v' hv => ih (i + 1) _ _ ?_
   simp only [Array.toList_push]
   exact h.append (.cons hv (.nil _))
 unfold loadVar
 refine .bind (.of_q0 (q0_isAgg T)) fun b b' e => ?_
 subst e
 cases b' with
 | true =>
  refine .bind (.of_q0 (q0_sizeOf T)) fun n n' e => ?_
  subst e
  exact .bind (cells n' 0 _ _ (.nil _)) fun x y h => .pure (VR.agg' h)
 | false => exact rd_load ha
theorem resW_run {n : Nat} {s : Sl} {γ : Gm} {a : Act} {h : Hp} {w : World} (hfl : Fl n s γ a) (hr : HR h.t.get γ w) (hf : Free γ h.nx HI) (rv : ResultVar) {v : Value} (hv : resW P s h rv = some v) :
  ∃ v', (match rv with
   | .tmp t => pure (a.tmps.getD t undef)
   | .cell ad T => do loadVar T (← asAddr (a.tmps.getD ad undef)) : Sem Value).run P w = .ok v' w ∧ VR γ v v' := by
 cases rv with
 | tmp t => cases hv; exact ⟨_, rfl, hfl.slot t⟩
 | cell ad T =>
  simp only [resW] at hv
  split at hv
  ·rename_i ad0 e
   have hs := hfl.slot ad
   rw [e] at hs
   generalize eu : a.tmps.getD ad undef = u at hs
   cases hs with
   | ptr _ ad' ha =>
    split at hv
    ·rename_i v0 m' hl
     cases hv
     obtain ⟨v', h1, h2, _⟩ := rd_loadVar (P := P) T ha h.ms w v m' hl hr
     exact ⟨v', by simp [asAddr, eu, h1], h2⟩
    ·cases hv
  ·cases hv
theorem resWs_run {n : Nat} {s : Sl} {γ : Gm} {a : Act} {h : Hp} {w : World} (hfl : Fl n s γ a) (hr : HR h.t.get γ w) (hf : Free γ h.nx HI) : ∀ (rs : List ResultVar) (vs : List Value), resWs P s h rs = some vs →
  ∃ vs', (rs.mapM fun rv => (match rv with
   | .tmp t => pure (a.tmps.getD t undef)
   | .cell ad T => do loadVar T (← asAddr (a.tmps.getD ad undef)) : Sem Value)).run P w = .ok vs' w ∧ LR γ vs vs'
 | [], vs, hv => by cases hv; exact ⟨[], rfl, .nil γ⟩
 | rv :: rs, vs, hv => by
  simp only [resWs] at hv
  split at hv
  ·rename_i v h1
   split at hv
   ·rename_i vs0 h2
    cases hv
    obtain ⟨v', r1, r2⟩ := resW_run (P := P) hfl hr hf rv h1
    obtain ⟨vs', r3, r4⟩ := resWs_run hfl hr hf rs vs0 h2
    refine ⟨v' :: vs', ?_, .cons r2 r4⟩
    rw [List.mapM_cons, Sem.run_bind, r1]
    simp only [Result.andThen_ok, Sem.run_bind, r3]
    rfl
   ·cases hv
  ·cases hv
theorem mkR_VR {γ : Gm} {vs vs' : List Value} (h : LR γ vs vs') : VR γ (mkR vs) (if h : vs'.toArray.size = 1 then vs'.toArray[0] else .tuple vs'.toArray) := by
 cases vs with
 | nil => rw [h.inv_nil]; exact VR.tup' (.nil γ)
 | cons v vs =>
  obtain ⟨y, zs, rfl, h1, h2⟩ := h.inv_cons
  cases vs with
  | nil => rw [h2.inv_nil]; exact h1
  | cons v2 vs =>
   obtain ⟨y2, zs2, rfl, h3, h4⟩ := h2.inv_cons
   exact VR.tup' (.cons h1 (.cons h3 h4))
theorem results_run {fn : Func} {n : Nat} {s : Sl} {γ : Gm} {a : Act} {h : Hp} {w : World} (hfl : Fl n s γ a) (hr : HR h.t.get γ w) (hf : Free γ h.nx HI) {l : List (Value × Hp)} (hl : resOut P fn.results.toList s h = some l) :
  ∃ v v', l = [(v, h)] ∧ (results fn a.tmps).run P w = .ok v' w ∧ VR γ v v' := by
 unfold resOut at hl
 split at hl
 ·rename_i vs hvs
  cases hl
  obtain ⟨vs', h1, h2⟩ := resWs_run (P := P) hfl hr hf _ _ hvs
  refine ⟨_, _, rfl, ?_, mkR_VR h2⟩
  unfold results
  rw [Sem.run_bind, Array.mapM_eq_mapM_toList]
  simp only [Sem.run_map]
  generalize hX : Sem.run P (List.mapM _ fn.results.toList) w = X
  have hX2 : X = .ok vs' w := hX.symm.trans h1
  rw [hX2]
  rfl
 ·cases hl
end
end Go.Kr
end
section
namespace Go.Kr
section
variable {P : Program} {orc : Orc} {drw : Drw}
theorem sget_argT : ∀ (vs : List Value) (k : Nat) (s : Sl) (t : Nat), sget (argT vs k s) t = if k ≤ t ∧ t < k + vs.length then vs.getD (t - k) undef else sget s t
 | [], k, s, t => by rw [if_neg (by simp)]; rfl
 | v :: vs, k, s, t => by
  rw [argT, sget_argT vs (k + 1) _ t]
  have hp : sget (putT s k (some v)) t = if t = k then v else sget s t := sget_put s k v t
  simp only [List.length_cons]
  by_cases e : t = k
  ·subst e
   rw [if_neg (by omega), hp, if_pos rfl, if_pos (by omega), Nat.sub_self]
   rfl
  ·by_cases h : k + 1 ≤ t ∧ t < k + 1 + vs.length
   ·rw [if_pos h, if_pos (by omega), show t - k = (t - (k + 1)) + 1 by omega]
    rfl
   ·rw [if_neg h, if_neg (by omega), hp, if_neg e]
theorem callS_of {f : Nat} {g : FuncId} {vs : List Value} {h : Hp} {outs : List (Value × Hp)} {fn : Func} {x : Code} (hg : goodF P g = some (fn, x)) (hn : vs.length ≤ fn.ntmps)
  (hw : contL P orc drw f fn.results.toList fn.ntmps outs [.code x] .normal (argT vs 0 .e) h) : CallS P g vs h outs := by
 intro w γ vs' hr hf hl
 obtain ⟨hfn, hnm, hbd⟩ := goodF_spec hg
 have hw : Wt P x fn.ntmps (argT vs 0 .e) h (contL P orc drw f fn.results.toList fn.ntmps outs []) := hw
 have hfl : Fl fn.ntmps (argT vs 0 .e) γ { tmps := vs'.toArray ++ Array.replicate (fn.ntmps - vs'.toArray.size) undef, defers := [] } := by
  have hlen := hl.len
  refine ⟨rfl, by simp; omega, fun t => ?_⟩
  rw [sget_argT]
  by_cases ht : t < vs.length
  ·rw [if_pos (by omega), Nat.sub_zero]
   have h1 : vs[t]? = some vs[t] := List.getElem?_eq_getElem ht
   have h2 : vs'[t]? = some (vs'[t]'(by omega)) := List.getElem?_eq_getElem (by omega)
   have e1 : vs.getD t undef = vs[t] := by rw [List.getD_eq_getElem?_getD, h1]; rfl
   have e2 : (vs'.toArray ++ Array.replicate (fn.ntmps - vs'.toArray.size) undef).getD t undef = vs'[t]'(by omega) := by
    rw [Array.getD_eq_getD_getElem?, Array.getElem?_append_left (by simp; omega)]
    simp [h2]
   rw [e1, e2]
   exact hl.at_ t _ _ h1 h2
  ·rw [if_neg (by omega)]
   have e2 : (vs'.toArray ++ Array.replicate (fn.ntmps - vs'.toArray.size) undef).getD t undef = undef := by
    rw [Array.getD_eq_getD_getElem?, Array.getElem?_append_right (by simp; omega), Array.getElem?_replicate]
    split <;> rfl
   rw [e2]
   exact undef_VR
 refine calls_of_wp hfn hbd (wp_mono (hw ⟨h.t.get, h.nx, γ, w⟩ _ w γ hfl (Post.refl hr hf)) fun e a' w' ⟨s', h', γ', a1, a2, a3⟩ => ?_)
 obtain ⟨he, l, hl2, hin⟩ := a3
 obtain ⟨v, v', rfl, h1, h2⟩ := results_run (P := P) a1 a2.hr a2.free hl2
 have fin : a'.defers = [] ∧ ∃ v, (results fn a'.tmps).run P w' = .ok v w' ∧ ∃ r ∈ outs, ∃ v' γ', Ending.returned v = .returned v' ∧ VR γ' r.1 v' ∧ Post h.t.get h.nx HI γ w r.2.t.get r.2.nx γ' w' :=
  ⟨a1.defers, v', h1, (v, h'), hin _ (List.mem_singleton_self _), v', γ', rfl, h2, a2⟩
 rcases he with rfl | rfl
 ·exact fin
 ·exact fin
theorem bindO_mem {α β : Type} {f : α → Option (List β)} : ∀ {l : List α} {o : List β}, bindO l f = some o → ∀ a ∈ l, ∃ o', f a = some o' ∧ ∀ b ∈ o', b ∈ o
 | [], o, h, a, ha => by cases ha
 | x :: l, o, h, a, ha => by
  simp only [bindO] at h
  split at h
  ·cases h
  ·rename_i l1 h1
   split at h
   ·cases h
   ·rename_i l2 h2
    cases h
    rcases List.mem_cons.1 ha with rfl | ha
    ·exact ⟨l1, h1, fun b hb => List.mem_append_left _ hb⟩
    ·obtain ⟨o', h3, h4⟩ := bindO_mem h2 a ha
     exact ⟨o', h3, fun b hb => List.mem_append_right _ (h4 b hb)⟩
theorem ckind_next {op : Op} {x : Operand} (h : ckind op = .next x) : op = .next x false := by
 unfold ckind at h
 split at h
 ·cases h; rfl
 ·split at h <;> cases h
 ·cases h
theorem ckind_call {op : Op} {f : Operand} {args : Array Operand} (h : ckind op = .call f args) : ∃ c, op = .call c ∧ c.callee = .value f ∧ c.args = args := by
 unfold ckind at h
 split at h
 ·cases h
 ·rename_i c
  split at h
  ·rename_i f0 hc; cases h; exact ⟨c, rfl, hc, rfl⟩
  ·cases h
 ·cases h
theorem wpOps_up {A : Array Oper} {B : Bs} {n : Nat} {Q : Exit → Sl → Hp → Prop} : ∀ {l : List Nat} {a : Act} {w : World}, wpOps P A (QE B n (onlyN (Q .normal))) l a w → wpOps P A (QE B n Q) l a w := by
 have hq : ∀ e a w, QE B n (onlyN (Q .normal)) e a w → QE B n Q e a w := fun e a w ⟨s', h', γ', a1, a2, a3⟩ => ⟨s', h', γ', a1, a2, by cases e <;> first | exact a3 | exact a3.elim⟩
 intro l
 induction l with
 | nil => intro a w h; exact hq _ _ _ h
 | cons i l ih =>
  intro a w h
  simp only [wpOps] at h ⊢
  split
  ·rename_i ho; rw [ho] at h; exact ih h
  ·rename_i o ho
   rw [ho] at h
   simp only at h
   split
   ·rename_i hw
    rw [if_pos hw] at h
    rcases h with h | ⟨h1, h2⟩
    ·refine .inl ?_
     unfold Oper.wp at h ⊢
     generalize (execOp a.eval o).run P w = r at h ⊢
     cases r with
     | ok nx w' =>
      cases nx with
      | value v => exact ih h
      | skip => exact ih h
      | defer d => exact ih h
      | enter f args =>
       refine Calls.mono h fun e w'' he => ?_
       cases e with
       | returned v => exact ih he
       | panicked c => exact hq _ _ _ he
       | outgrown =>
        obtain ⟨a1, w1, h1⟩ := he
        exact ⟨a1, w1, hq _ _ _ h1⟩
      | row r args => exact Rows.mono h fun v w'' he => ih he
      | _ => exact h
     | halt hh w' =>
      cases hh with
      | panic v => exact hq _ _ _ h
      | _ => exact h
    ·obtain ⟨a1, w1, h3⟩ := h2
     exact .inr ⟨h1, a1, w1, hq _ _ _ h3⟩
   ·rename_i hw
    rw [if_neg hw] at h
    exact ih h
theorem evL_sound (ho : OrcOk P orc) (hd : DrwOk P drw) : ∀ (f : Nat) (rs : List ResultVar) (n : Nat) (K : List Kj) (s : Sl) (h : Hp) (outs outs0 : List (Value × Hp)), evL P orc drw f rs n K s h = some outs → (∀ r ∈ outs, r ∈ outs0) →
  contL P orc drw f rs n outs0 K .normal s h := by
 intro f
 induction f using Nat.strongRecOn with
 | _ f ih =>
 intro rs n K s h outs outs0 he hin
 cases f with
 | zero => cases he
 | succ f =>
 have ih1 : ∀ (rs : List ResultVar) (n : Nat) (K : List Kj) (s : Sl) (h : Hp) (outs outs0 : List (Value × Hp)), evL P orc drw f rs n K s h = some outs → (∀ r ∈ outs, r ∈ outs0) → contL P orc drw (f + 1) rs n outs0 K .normal s h :=
  fun rs n K s h outs outs0 h1 h2 => contL_mono (Nat.le_succ f) K _ _ _ (ih f (Nat.lt_succ_self f) rs n K s h outs outs0 h1 h2)
 simp only [evL] at he
 split at he
 ·exact ⟨.inl rfl, outs, he, hin⟩
 ·rename_i id k
  exact (show contL P orc drw (f + 1) rs n outs0 k .normal s h from ih1 _ _ _ _ _ _ _ he hin)
 ·rename_i x k
  exact ⟨f + 1, outs, Nat.le_refl _, by simp only [evL]; exact he, hin⟩
 ·rename_i A k
  exact Ws.nil (K := contL P orc drw (f + 1) rs n outs0 k .normal) (ih1 _ _ _ _ _ _ _ he hin)
 ·rename_i A o os k
  have nextK : ∀ (s : Sl) (h : Hp) (outs : List (Value × Hp)), evL P orc drw f rs n (.ops A os :: k) s h = some outs → (∀ r ∈ outs, r ∈ outs0) → Ws P A os n s h (contL P orc drw (f + 1) rs n outs0 k .normal) := fun s h outs h1 h2 => ih1 rs n (.ops A os :: k) s h outs outs0 h1 h2
  show Ws P A (o :: os) n s h (contL P orc drw (f + 1) rs n outs0 k .normal)
  split at he
  ·cases he
  ·rename_i hchk
   simp only [Bool.and_eq_true] at hchk
   obtain ⟨hdst, hops⟩ := hchk
   split at he
   ·cases he
   ·rename_i hw
    exact .skip hdst hw (nextK _ _ _ he hin)
   ·rename_i hw
    split at he
    ·rename_i x hck
     split at he
     ·rename_i outs1 hnx
      refine .next hdst hops (ckind_next hck) hw hnx fun r hr => ?_
      obtain ⟨o', h1, h2⟩ := bindO_mem he r hr
      exact nextK _ _ _ h1 fun b hb => hin b (h2 b hb)
     ·cases he
    ·rename_i fo args hck
     obtain ⟨c, hc1, hc2, hc3⟩ := ckind_call hck
     subst hc3
     split at he
     ·cases he
     ·rename_i g vs hcal
      split at he
      ·split at he
       ·rename_i r h1
        exact .one hdst hops hw h1 (nextK _ _ _ he hin)
       ·cases he
      ·rename_i fn x hgood
       split at he
       ·rename_i r horc
        exact .call hdst hops hc1 hc2 hw hcal hgood (ho g vs h r (by rw [hgood]; rfl) horc) fun r' hr' => by
         rw [List.mem_singleton] at hr'
         subst hr'
         exact nextK _ _ _ he hin
       ·split at he
        ·cases he
        ·rename_i hlen
         split at he
         ·rename_i outs1 hev
          refine .call hdst hops hc1 hc2 hw hcal hgood (callS_of hgood (Nat.le_of_ble_eq_true hlen) (ih f (Nat.lt_succ_self f) _ _ _ _ _ outs1 outs1 hev fun _ hr => hr)) fun r hr => ?_
          obtain ⟨o', h1, h2⟩ := bindO_mem he r hr
          exact nextK _ _ _ h1 fun b hb => hin b (h2 b hb)
         ·cases he
    ·split at he
     ·rename_i r h1
      exact .one hdst hops hw h1 (nextK _ _ _ he hin)
     ·cases he
 ·rename_i x k
  show Wt P x n s h (contL P orc drw (f + 1) rs n outs0 k)
  split at he
  ·exact fun B a w γ h1 h2 => wp_skip ⟨s, h, γ, h1, h2, ih1 _ _ _ _ _ _ _ he hin⟩
  ·exact fun B a w γ h1 h2 => wp_label ⟨s, h, γ, h1, h2, ih1 _ _ _ _ _ _ _ he hin⟩
  ·exact Wt.seq (ih1 _ _ _ _ _ _ _ he hin)
  ·exact Wt.block (ih1 _ _ _ _ _ _ _ he hin)
  ·exact Wt.scope (ih1 _ _ _ _ _ _ _ he hin)
  ·rename_i b
   intro B a w γ h1 h2
   refine wp_loop_ghost (fun m a w => ∃ s h γ outs, Fl n s γ a ∧ B.at h γ w ∧ evL P orc drw m rs n (.code b :: .lp b :: k) s h = some outs ∧ (∀ r ∈ outs, r ∈ outs0) ∧ m ≤ f) f ⟨s, h, γ, outs, h1, h2, he, hin, Nat.le_refl _⟩ ?_
   intro m a w ⟨s, h, γ, outs, h1, h2, h3, h4, h5⟩
   have := ih m (by omega) rs n _ s h outs outs0 h3 h4
   have hb : Wt P b n s h (contL P orc drw m rs n outs0 (.lp b :: k)) := this
   refine wp_mono (hb B a w γ h1 h2) fun e a' w' ⟨s', h', γ', a1, a2, a3⟩ => ?_
   cases e with
   | normal =>
    obtain ⟨m', outs', hm', hev, hin'⟩ := a3
    cases m' with
    | zero => cases hev
    | succ m' =>
     simp only [evL] at hev
     exact ⟨m', by omega, s', h', γ', outs', a1, a2, hev, hin', by omega⟩
   | exit j => exact ⟨s', h', γ', a1, a2, contL_mono (by omega) k _ _ _ a3⟩
   | goto l => exact ⟨s', h', γ', a1, a2, contL_mono (by omega) k _ _ _ a3⟩
   | ret => exact ⟨s', h', γ', a1, a2, contL_mono (by omega) k _ _ _ a3⟩
   | panic c => exact ⟨s', h', γ', a1, a2, contL_mono (by omega) k _ _ _ a3⟩
   | outgrown => exact ⟨s', h', γ', a1, a2, contL_mono (by omega) k _ _ _ a3⟩
  ·rename_i id A
   have := ih1 _ _ _ _ _ _ _ he hin
   have hws : Ws P A A.toList n s h (contL P orc drw (f + 1) rs n outs0 k .normal) := this
   intro B a w γ h1 h2
   refine wp_region ?_
   have := hws B a w γ h1 h2 0 (fun i => by simp)
   rw [List.range_eq_range']
   have hsz : A.toList.length = A.size := by simp
   rw [hsz] at this
   exact wpOps_up this
  ·rename_i id A
   split at he
   ·rename_i r hdr
    refine Wt.mono (hd _ ?_ A n s h r id hdr) fun e s' h' hq => ?_
    ·intro g args h r hcl
     split at hcl
     ·cases hcl
     ·rename_i fn x hgood
      refine ⟨?_, by rw [hgood]; rfl⟩
      split at hcl
      ·rename_i r0 horc
       cases hcl
       exact ho g args h r (by rw [hgood]; rfl) horc
      ·split at hcl
       ·cases hcl
       ·rename_i hlen
        unfold one at hcl
        split at hcl
        ·rename_i a hev
         cases hcl
         exact callS_of hgood (Nat.le_of_ble_eq_true hlen) (ih f (Nat.lt_succ_self f) _ _ _ _ _ [r] [r] hev fun _ hr => hr)
        ·cases hcl
    ·cases e with
     | normal =>
      have hq : (s', h') = r := hq
      subst hq
      exact ih1 _ _ _ _ _ _ _ he hin
     | _ => exact hq.elim
   ·cases he
  ·rename_i c x y
   split at he
   ·rename_i ho hc
    exact Wt.cond (t := true) ho hc (ih1 _ _ (.code x :: k) _ _ _ _ he hin)
   ·rename_i ho hc
    exact Wt.cond (t := false) ho hc (ih1 _ _ (.code y :: k) _ _ _ _ he hin)
   ·cases he
  ·rename_i id
   split at he
   ·rename_i k' hp
    exact fun B a w γ h1 h2 => wp_exit ⟨s, h, γ, h1, h2, contL_pop k k' hp (ih1 _ _ _ _ _ _ _ he hin)⟩
   ·cases he
  ·exact fun B a w γ h1 h2 => wp_ret ⟨s, h, γ, h1, h2, contL_ret ⟨outs, he, hin⟩ k⟩
  ·cases he
end
end Go.Kr
end
