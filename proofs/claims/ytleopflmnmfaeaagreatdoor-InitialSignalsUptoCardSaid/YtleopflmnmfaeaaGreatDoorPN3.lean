/-
A part of the proof that the statement InitialValues holds of the given program (second form, tied card): an evaluator over it: code.
-/
import Derived.Test.YtleopflmnmfaeaaGreatDoorPB
import Derived.Test.YtleopflmnmfaeaaGreatDoorPN2
import Derived.Deep.LoopGhost
import Derived.Scope
set_option autoImplicit false
set_option linter.unusedSimpArgs false
set_option linter.unusedVariables false
set_option linter.unnecessarySimpa false
section
namespace Go.Kr
section
variable {α : Type}
theorem get_e (k : Nat) : (Tr.e : Tr α).get k = none := rfl
theorem get_n (v : Option α) (l r : Tr α) (k : Nat) : (Tr.n v l r).get k = if k = 0 then v else if k % 2 = 1 then l.get (k / 2) else r.get (k / 2 - 1) := by
 show (match Nat.beq k 0 with
  | true => v
  | false => match Nat.beq (Nat.mod k 2) 1 with
   | true => l.get (Nat.div k 2)
   | false => r.get (Nat.sub (Nat.div k 2) 1)) = _
 by_cases h : k = 0
 ·subst h; rfl
 ·rw [if_neg h]
  have h1 : Nat.beq k 0 = false := by
   cases hb : Nat.beq k 0 with
   | true => exact absurd (Nat.eq_of_beq_eq_true hb) h
   | false => rfl
  rw [h1]
  simp only
  by_cases h2 : k % 2 = 1
  ·rw [if_pos h2]
   have h3 : Nat.beq (Nat.mod k 2) 1 = true := by rw [show Nat.mod k 2 = 1 from h2]; rfl
   rw [h3]
   rfl
  ·rw [if_neg h2]
   have h3 : Nat.beq (Nat.mod k 2) 1 = false := by
    cases hb : Nat.beq (Nat.mod k 2) 1 with
    | true => exact absurd (Nat.eq_of_beq_eq_true hb) h2
    | false => rfl
   rw [h3]
   rfl
theorem get_parts (t : Tr α) (k : Nat) : t.get k = if k = 0 then t.root else if k % 2 = 1 then t.lf.get (k / 2) else t.rt.get (k / 2 - 1) := by
 cases t with
 | e => simp [Tr.root, Tr.lf, Tr.rt, get_e]
 | n v l r => rw [get_n]; rfl
theorem put_succ (f : Nat) (t : Tr α) (k : Nat) (x : Option α) : t.put (f + 1) k x = if k = 0 then .n x t.lf t.rt else if k % 2 = 1 then .n t.root (t.lf.put f (k / 2) x) t.rt else .n t.root t.lf (t.rt.put f (k / 2 - 1) x) := by
 show (match Nat.beq k 0 with
  | true => Tr.n x t.lf t.rt
  | false => match Nat.beq (Nat.mod k 2) 1 with
   | true => .n t.root (t.lf.put f (Nat.div k 2) x) t.rt
   | false => .n t.root t.lf (t.rt.put f (Nat.sub (Nat.div k 2) 1) x)) = _
 by_cases h : k = 0
 ·subst h; rfl
 ·rw [if_neg h]
  have h1 : Nat.beq k 0 = false := by
   cases hb : Nat.beq k 0 with
   | true => exact absurd (Nat.eq_of_beq_eq_true hb) h
   | false => rfl
  rw [h1]
  simp only
  by_cases h2 : k % 2 = 1
  ·rw [if_pos h2]
   have h3 : Nat.beq (Nat.mod k 2) 1 = true := by rw [show Nat.mod k 2 = 1 from h2]; rfl
   rw [h3]
   rfl
  ·rw [if_neg h2]
   have h3 : Nat.beq (Nat.mod k 2) 1 = false := by
    cases hb : Nat.beq (Nat.mod k 2) 1 with
    | true => exact absurd (Nat.eq_of_beq_eq_true hb) h2
    | false => rfl
   rw [h3]
   rfl
theorem get_put : ∀ (f : Nat) (t : Tr α) (k : Nat) (x : Option α) (j : Nat), k < f → (t.put f k x).get j = if j = k then x else t.get j := by
 intro f
 induction f with
 | zero => intro t k x j h; omega
 | succ f ih =>
  intro t k x j h
  rw [put_succ]
  by_cases hk : k = 0
  ·subst hk
   rw [if_pos rfl, get_n, get_parts t j]
   by_cases hj : j = 0
   ·rw [if_pos hj, if_pos hj]
   ·rw [if_neg hj, if_neg hj, if_neg hj]
  ·rw [if_neg hk]
   by_cases h2 : k % 2 = 1
   ·rw [if_pos h2, get_n, get_parts t j]
    by_cases hj : j = 0
    ·rw [if_pos hj, if_pos hj, if_neg (by omega)]
    ·rw [if_neg hj, if_neg hj]
     by_cases hj2 : j % 2 = 1
     ·rw [if_pos hj2, if_pos hj2, ih _ _ _ _ (by omega)]
      by_cases e : j = k
      ·subst e; rw [if_pos rfl, if_pos rfl]
      ·rw [if_neg e, if_neg (by omega)]
     ·rw [if_neg hj2, if_neg hj2, if_neg (by intro e; subst e; exact hj2 h2)]
   ·rw [if_neg h2, get_n, get_parts t j]
    by_cases hj : j = 0
    ·rw [if_pos hj, if_pos hj, if_neg (by omega)]
    ·rw [if_neg hj, if_neg hj]
     by_cases hj2 : j % 2 = 1
     ·rw [if_pos hj2, if_pos hj2, if_neg (by intro e; subst e; exact h2 hj2)]
     ·rw [if_neg hj2, if_neg hj2, ih _ _ _ _ (by omega)]
      by_cases e : j = k
      ·subst e; rw [if_pos rfl, if_pos rfl]
      ·rw [if_neg e, if_neg (by omega)]
end
def putT {α : Type} (t : Tr α) (k : Nat) (x : Option α) : Tr α := t.put (k + 1) k x
theorem get_putT {α : Type} (t : Tr α) (k : Nat) (x : Option α) : (putT t k x).get = updF t.get k x := by
 funext j
 unfold putT updF
 exact get_put _ _ _ _ _ (Nat.lt_succ_self k)
def applyU : List (Nat × Option Ab) → Tr Ab → Tr Ab
 | [], t => t
 | (k, x) :: r, t => putT (applyU r t) k x
theorem get_applyU : ∀ (u : List (Nat × Option Ab)) (t : Tr Ab), (applyU u t).get = lookU u t.get
 | [], t => rfl
 | (k, x) :: r, t => by
  rw [applyU, get_putT, get_applyU r t]
  funext j
  unfold updF
  simp only [lookU]
  by_cases e : j = k
  ·subst e
   rw [if_pos rfl]
   simp [Nat.beq_refl]
  ·rw [if_neg e]
   cases hb : Nat.beq j k with
   | true => exact absurd (Nat.eq_of_beq_eq_true hb) e
   | false => rfl
def HI : Nat := 4611686018427387904
def Hp.ms (h : Hp) : Ms := ⟨h.t.get, [], h.nx, HI, []⟩
def Hp.put (h : Hp) (m : Ms) : Hp := ⟨applyU m.u h.t, m.nx⟩
theorem put_cur {h : Hp} {m : Ms} (hg : m.g = h.t.get) : (h.put m).t.get = m.cur := by
 unfold Hp.put Ms.cur
 rw [get_applyU, hg]
theorem storeM_g {m m' : Ms} {a : Addr} {v : Value} (h : storeM m a v = some m') : m'.g = m.g := by
 unfold storeM at h
 split at h
 ·cases h
 ·split at h
  ·split at h
   ·cases h; rfl
   ·cases h
  ·cases h
theorem newM_g {m m' : Ms} {o : Obj} (h : newM m o = some m') : m'.g = m.g := by
 unfold newM at h
 split at h
 ·split at h
  ·cases h; rfl
  ·cases h
 ·cases h
theorem arunO_g {α : Type} {P : Program} (t : Sem α) : ∀ {m m' : Ms} {a : α}, arunO P t m = some (a, m') → m'.g = m.g := by
 induction t with
 | pure a => intro m m' b h; cases h; rfl
 | load md a k ih =>
  intro m m' b h
  cases md with
  | atomic => cases h
  | plain =>
   simp only [arunO] at h
   split at h
   ·exact (ih _ h).trans rfl
   ·cases h
 | store md a v k ih =>
  intro m m' b h
  cases md with
  | atomic => cases h
  | plain =>
   simp only [arunO] at h
   split at h
   ·rename_i m1 h1; exact (ih h).trans (storeM_g h1)
   ·cases h
 | new o k ih =>
  intro m m' b h
  simp only [arunO] at h
  split at h
  ·rename_i m1 h1; exact (ih _ h).trans (newM_g h1)
  ·cases h
 | choose q k ih =>
  intro m m' b h
  simp only [arunO] at h
  split at h
  ·exact ih _ h
  ·cases h
 | program k ih => intro m m' b h; exact ih _ h
 | mark mk k ih => intro m m' b h; exact ih h
 | _ => intro m m' b h; cases h
theorem growM_g {m m' : Ms} {E sz k bytes : Nat} {cs : List Value} {v : Value} (h : growM m E sz k bytes cs = some (v, m')) : m'.g = m.g := by
 unfold growM at h
 split at h
 ·split at h
  ·cases h; rfl
  ·cases h
 ·cases h
theorem appM_g {P : Program} {m m' : Ms} {T : TypeId} {x y v : Value} (h : appM P m T x y = some (v, m')) : m'.g = m.g := by
 unfold appM at h
 split at h
 ·cases h
 ·split at h
  ·cases h
  ·split at h
   ·unfold appE at h
    repeat' split at h
    all_goals first | (cases h; rfl) | cases h
   ·split at h
    ·split at h
     ·exact (growM_g h).trans rfl
     ·unfold appB at h
      split at h
      ·split at h
       ·split at h
        ·split at h
         ·cases h; rfl
         ·cases h
        ·cases h
       ·split at h
        ·exact (growM_g h).trans rfl
        ·cases h
      ·split at h
       ·split at h
        ·exact (growM_g h).trans rfl
        ·cases h
       ·cases h
     ·cases h
    ·cases h
   ·cases h
theorem updA_g {P : Program} {m m' : Ms} {T : TypeId} {x k v : Value} (h : updA P m T x k v = some m') : m'.g = m.g := by
 unfold updA at h
 repeat' split at h
 all_goals first | (cases h; rfl) | cases h
theorem pureOp_g {P : Program} {ρ : Operand → Value} {m m' : Ms} {o : Oper} {v : Value} (h : pureOp P ρ m o = some (v, m')) : m'.g = m.g := by
 unfold pureOp at h
 repeat' split at h
 all_goals first | (cases h; rfl) | cases h
theorem lookA_g {P : Program} {m m' : Ms} {T : TypeId} {x k v : Value} {ok : Bool} (h : lookA P m T x k ok = some (v, m')) : m'.g = m.g := by
 unfold lookA at h
 repeat' split at h
 all_goals first | (cases h; rfl) | cases h
theorem rangeA_g {m m' : Ms} {x v : Value} (h : rangeA m x = some (v, m')) : m'.g = m.g := by
 unfold rangeA at h
 repeat' split at h
 all_goals first | (cases h; rfl) | cases h
theorem strNext_g {m m' : Ms} {x v : Value} (h : strNext m x = some (v, m')) : m'.g = m.g := by
 unfold strNext at h
 repeat' split at h
 all_goals first | (cases h; rfl) | cases h
theorem entryA_g {m m' : Ms} {x v : Value} (h : entryA m x = some (v, m')) : m'.g = m.g := by
 unfold entryA at h
 repeat' split at h
 all_goals first | (cases h; rfl) | cases h
theorem lenA_g {P : Program} {m m' : Ms} {T : TypeId} {x v : Value} (h : lenA P m T x = some (v, m')) : m'.g = m.g := by
 unfold lenA at h
 repeat' split at h
 all_goals first | (cases h; rfl) | cases h
theorem callB_g {P : Program} {ρ : Operand → Value} {m m' : Ms} {o : Oper} {c : Call} {v : Value} (h : callB P ρ m o c = some (v, m')) : m'.g = m.g := by
 unfold callB at h
 repeat' split at h
 all_goals first | (cases h; done) | exact pureOp_g h | exact lenA_g h | exact appM_g h | exact arunO_g _ h | cases h
theorem skipR_g {α : Type} {P : Program} {t : Sem α} {m m' : Ms} {v : Value} (h : skipR (arunO P t m) = some (v, m')) : m'.g = m.g := by
 cases hs : arunO P t m with
 | none => rw [hs] at h; cases h
 | some r =>
  obtain ⟨u, m1⟩ := r
  rw [hs] at h
  cases h
  exact arunO_g _ hs
theorem op1_g {P : Program} {ρ : Operand → Value} {m m' : Ms} {o : Oper} {v : Value} (h : op1 P ρ m o = some (v, m')) : m'.g = m.g := by
 unfold op1 at h
 split at h
 all_goals try first
  | (cases h; rfl) | exact pureOp_g h | exact arunO_g _ h | exact lookA_g h | exact entryA_g h | exact callB_g h | exact strNext_g h
 all_goals try (split at h <;> first | (cases h; rfl) | exact pureOp_g h | exact arunO_g _ h | exact rangeA_g h | (cases h; done) | skip)
 all_goals try (split at h <;> first | (cases h; rfl) | exact arunO_g _ h | exact rangeA_g h | (cases h; done) | skip)
 all_goals first
  | (rename_i hu; cases h; exact updA_g hu)
  | exact skipR_g h
  | cases h
end Go.Kr
end
section
namespace Go.Kr
def sputT (s : Sl) (d : Option Nat) (v : Value) : Sl := match d with
 | some t => putT s t (some v)
 | none => s
def dstOk (d : Option Nat) (n : Nat) : Bool := match d with
 | some t => Nat.blt t n
 | none => true
def opnd : Operand → Bool
 | .tmp _ => true
 | .const v => cls 8 v
 | .func _ => true
 | .global _ => false
def opsOk (o : Op) : Bool := o.operands.toList.all opnd
def argT : List Value → Nat → Sl → Sl
 | [], _, s => s
 | v :: vs, k, s => argT vs (k + 1) (putT s k (some v))
def goodF (P : Program) (g : FuncId) : Option (Func × Code) := match P.funcs[g]? with
 | some fn => match fn.name != "runtime.NumGoroutine", fn.body with
  | true, some x => some (fn, x)
  | _, _ => none
 | none => none
def bindO {α β : Type} : List α → (α → Option (List β)) → Option (List β)
 | [], _ => some []
 | a :: as, f => match f a with
  | none => none
  | some l => match bindO as f with
   | none => none
   | some l' => some (l ++ l')
inductive Kj where
 | code (x : Code)
 | ops (A : Array Oper) (os : List Oper)
 | blk (id : Nat)
 | lp (x : Code)
def popJ (id : Nat) : List Kj → Option (List Kj)
 | [] => none
 | .blk j :: k => match Nat.beq j id with
  | true => some k
  | false => popJ id k
 | _ :: k => popJ id k
def resW (P : Program) (s : Sl) (h : Hp) : ResultVar → Option Value
 | .tmp t => some (sget s t)
 | .cell a t => match sget s a with
  | .pointer (some ad) => match arunO P (loadVar t ad) h.ms with
   | some (v, _) => some v
   | none => none
  | _ => none
def resWs (P : Program) (s : Sl) (h : Hp) : List ResultVar → Option (List Value)
 | [] => some []
 | r :: rs => match resW P s h r with
  | some v => match resWs P s h rs with
   | some vs => some (v :: vs)
   | none => none
  | none => none
def resOut (P : Program) (rs : List ResultVar) (s : Sl) (h : Hp) : Option (List (Value × Hp)) := match resWs P s h rs with
 | some vs => some [(mkR vs, h)]
 | none => none
abbrev Orc := FuncId → List Value → Hp → Option (Value × Hp)
abbrev Drw := (FuncId → List Value → Hp → Option (Value × Hp)) → Array Oper → Nat → Sl → Hp → Option (Sl × Hp)
inductive Ck where
 | next (x : Operand)
 | call (f : Operand) (args : Array Operand)
 | other
def ckind : Op → Ck
 | .next x false => .next x
 | .call c => match c.callee with
  | .value f => .call f c.args
  | _ => .other
 | _ => .other
def calleeA (s : Sl) (f : Operand) (args : Array Operand) : Option (FuncId × List Value) := match sev s f with
 | .func (.func g) first caps => some (g, first.toList ++ args.toList.map (sev s) ++ caps.toList)
 | _ => none
def one {α : Type} : Option (List α) → Option α
 | some [a] => some a
 | _ => none
def evL (P : Program) (orc : Orc) (drw : Drw) : Nat → List ResultVar → Nat → List Kj → Sl → Hp → Option (List (Value × Hp))
 | 0, _, _, _, _, _ => none
 | f + 1, rs, n, K, s, h => match K with
  | [] => resOut P rs s h
  | .blk _ :: k => evL P orc drw f rs n k s h
  | .lp x :: k => evL P orc drw f rs n (.code x :: .lp x :: k) s h
  | .ops _ [] :: k => evL P orc drw f rs n k s h
  | .ops A (o :: os) :: k => match dstOk o.dst n && opsOk o.op with
   | false => none
   | true => match wants A s o with
    | none => none
    | some false => evL P orc drw f rs n (.ops A os :: k) (sputT s o.dst (.tuple #[])) h
    | some true => match ckind o.op with
     | .next x => match nextA h.ms (sev s x) with
      | some outs => bindO outs fun r => evL P orc drw f rs n (.ops A os :: k) (sputT s o.dst r.1) (h.put r.2)
      | none => none
     | .call fo args => match calleeA s fo args with
      | none => none
      | some (g, vs) => match goodF P g with
       | none => match op1 P (sev s) h.ms o with
        | some r => evL P orc drw f rs n (.ops A os :: k) (sputT s o.dst r.1) (h.put r.2)
        | none => none
       | some (fn, x) => match orc g vs h with
        | some r => evL P orc drw f rs n (.ops A os :: k) (sputT s o.dst r.1) r.2
        | none => match Nat.ble vs.length fn.ntmps with
         | false => none
         | true => match evL P orc drw f fn.results.toList fn.ntmps [.code x] (argT vs 0 .e) h with
          | some outs => bindO outs fun r => evL P orc drw f rs n (.ops A os :: k) (sputT s o.dst r.1) r.2
          | none => none
     | .other => match op1 P (sev s) h.ms o with
      | some r => evL P orc drw f rs n (.ops A os :: k) (sputT s o.dst r.1) (h.put r.2)
      | none => none
  | .code x :: k => match x with
   | .skip => evL P orc drw f rs n k s h
   | .label _ => evL P orc drw f rs n k s h
   | .seq a b => evL P orc drw f rs n (.code a :: .code b :: k) s h
   | .block id b => evL P orc drw f rs n (.code b :: .blk id :: k) s h
   | .scope b => evL P orc drw f rs n (.code b :: k) s h
   | .loop b => evL P orc drw f rs n (.code b :: .lp b :: k) s h
   | .region _ A false => evL P orc drw f rs n (.ops A A.toList :: k) s h
   | .region _ A true => match drw (fun g vs h => match goodF P g with
     | none => none
     | some (fn, x) => match orc g vs h with
      | some r => some r
      | none => match Nat.ble vs.length fn.ntmps with
       | false => none
       | true => one (evL P orc drw f fn.results.toList fn.ntmps [.code x] (argT vs 0 .e) h)) A n s h with
    | some r => evL P orc drw f rs n k r.1 r.2
    | none => none
   | .cond c a b => match opnd c, sev s c with
    | true, .bool true => evL P orc drw f rs n (.code a :: k) s h
    | true, .bool false => evL P orc drw f rs n (.code b :: k) s h
    | _, _ => none
   | .exit id => match popJ id k with
    | some k' => evL P orc drw f rs n k' s h
    | none => none
   | .ret => resOut P rs s h
   | _ => none
structure Fl (n : Nat) (s : Sl) (γ : Gm) (a : Act) : Prop where
 defers : a.defers = []
 size : a.tmps.size = n
 slot : ∀ t, VR γ (sget s t) (a.tmps.getD t undef)
theorem sget_put (s : Sl) (t : Nat) (v : Value) (j : Nat) : sget (sputT s (some t) v) j = if j = t then v else sget s j := by
 unfold sget sputT
 simp only [get_putT, updF]
 by_cases e : j = t
 ·rw [if_pos e, if_pos e]
 ·rw [if_neg e, if_neg e]
section
variable {P : Program} {γ : Gm} {n : Nat} {s : Sl} {a : Act}
theorem Fl.keep {γ' : Gm} (h : Fl n s γ a) (hk : Keep γ γ') : Fl n s γ' a := ⟨h.defers, h.size, fun t => (h.slot t).keep hk⟩
theorem Fl.put (h : Fl n s γ a) {d : Option Nat} (hd : dstOk d n = true) {v v' : Value} (hv : VR γ v v') : Fl n (sputT s d v) γ (a.put d v') := by
 cases d with
 | none => exact h
 | some t =>
  have ht : t < n := by simp [dstOk, Nat.blt] at hd; omega
  refine ⟨h.defers, by simp [Act.put, h.size], fun j => ?_⟩
  rw [sget_put]
  simp only [Act.put]
  by_cases e : j = t
  ·subst e
   rw [if_pos rfl, Array.getD_eq_getD_getElem?, Array.getElem?_setIfInBounds_self_of_lt (by rw [h.size]; exact ht)]
   exact hv
  ·rw [if_neg e, Array.getD_eq_getD_getElem?, Array.getElem?_setIfInBounds_ne (fun e' => e e'.symm), ← Array.getD_eq_getD_getElem?]
   exact h.slot j
theorem undef_VR : VR γ (.tuple #[]) undef := VR.refl_cls 1 _ rfl
theorem Fl.ev (h : Fl n s γ a) (x : Operand) (hx : opnd x = true) : VR γ (sev s x) (a.eval x) := by
 cases x with
 | tmp t => exact h.slot t
 | const v => exact VR.refl_cls 8 v hx
 | global g => cases hx
 | func f => exact .fn _ _ _ _ _ rfl rfl (fun j x y hx => by simp at hx) (fun j x y hx => by simp at hx)
end
end Go.Kr
end
section
namespace Go.Kr
structure Bs where
 H : Nat → Option Ab
 nx : Nat
 γ : Gm
 w : World
def Bs.at (B : Bs) (h : Hp) (γ : Gm) (w : World) : Prop := Post B.H B.nx HI B.γ B.w h.t.get h.nx γ w
def QE (B : Bs) (n : Nat) (Q : Exit → Sl → Hp → Prop) (e : Exit) (a : Act) (w : World) : Prop := ∃ s h γ, Fl n s γ a ∧ B.at h γ w ∧ Q e s h
def Wt (P : Program) (x : Code) (n : Nat) (s : Sl) (h : Hp) (Q : Exit → Sl → Hp → Prop) : Prop := ∀ B a w γ, Fl n s γ a → B.at h γ w → x.wp P (QE B n Q) a w
def onlyN (K : Sl → Hp → Prop) : Exit → Sl → Hp → Prop
 | .normal, s, h => K s h
 | _, _, _ => False
def Ws (P : Program) (A : Array Oper) (os : List Oper) (n : Nat) (s : Sl) (h : Hp) (K : Sl → Hp → Prop) : Prop :=
 ∀ B a w γ, Fl n s γ a → B.at h γ w → ∀ i0, (∀ i, os[i]? = A[i0 + i]?) → wpOps P A (QE B n (onlyN K)) (List.range' i0 os.length) a w
def CallS (P : Program) (g : FuncId) (args : List Value) (h : Hp) (outs : List (Value × Hp)) : Prop :=
 ∀ w γ vs, HR h.t.get γ w → Free γ h.nx HI → LR γ args vs → Calls P g vs.toArray w fun e w' => ∃ r ∈ outs, ∃ v' γ', e = .returned v' ∧ VR γ' r.1 v' ∧ Post h.t.get h.nx HI γ w r.2.t.get r.2.nx γ' w'
def OrcOk (P : Program) (orc : Orc) : Prop := ∀ g args h r, (goodF P g).isSome = true → orc g args h = some r → CallS P g args h [r]
def DrwOk (P : Program) (drw : Drw) : Prop := ∀ cl, (∀ g args h r, cl g args h = some r → CallS P g args h [r] ∧ (goodF P g).isSome = true) → ∀ A n s h r id, drw cl A n s h = some r → Wt P (.region id A true) n s h (onlyN fun s' h' => (s', h') = r)
section
variable {P : Program} {orc : Orc} {drw : Drw}
def contL (P : Program) (orc : Orc) (drw : Drw) (f : Nat) (rs : List ResultVar) (n : Nat) (outs0 : List (Value × Hp)) : List Kj → Exit → Sl → Hp → Prop
 | [], e, s, h => (e = .normal ∨ e = .ret) ∧ ∃ l, resOut P rs s h = some l ∧ ∀ r ∈ l, r ∈ outs0
 | .code x :: k, .normal, s, h => Wt P x n s h (contL P orc drw f rs n outs0 k)
 | .ops A os :: k, .normal, s, h => Ws P A os n s h (contL P orc drw f rs n outs0 k .normal)
 | .lp x :: k, .normal, s, h => ∃ m outs, m ≤ f ∧ evL P orc drw m rs n (.lp x :: k) s h = some outs ∧ ∀ r ∈ outs, r ∈ outs0
 | .blk id :: k, .exit j, s, h => if j = id then contL P orc drw f rs n outs0 k .normal s h else contL P orc drw f rs n outs0 k (.exit j) s h
 | _ :: k, e, s, h => contL P orc drw f rs n outs0 k e s h
theorem Wt.mono {x : Code} {n : Nat} {s : Sl} {h : Hp} {Q Q' : Exit → Sl → Hp → Prop} (hw : Wt P x n s h Q) (hq : ∀ e s h, Q e s h → Q' e s h) : Wt P x n s h Q' := fun B a w γ h1 h2 =>
 wp_mono (hw B a w γ h1 h2) fun e a w ⟨s', h', γ', a1, a2, a3⟩ => ⟨s', h', γ', a1, a2, hq _ _ _ a3⟩
theorem wpOps_monoQ {ops : Array Oper} {n : Nat} {B : Bs} {K K' : Sl → Hp → Prop} (hk : ∀ s h, K s h → K' s h) : ∀ (l : List Nat) (a : Act) (w : World), wpOps P ops (QE B n (onlyN K)) l a w → wpOps P ops (QE B n (onlyN K')) l a w := by
 have hq : ∀ e a w, QE B n (onlyN K) e a w → QE B n (onlyN K') e a w := fun e a w ⟨s', h', γ', a1, a2, a3⟩ => ⟨s', h', γ', a1, a2, by cases e <;> first | exact hk _ _ a3 | exact a3.elim⟩
 intro l
 induction l with
 | nil => intro a w h; exact hq _ _ _ h
 | cons i l ih =>
  intro a w h
  simp only [wpOps] at h ⊢
  split
  ·rename_i ho; rw [ho] at h; exact ih _ _ h
  ·rename_i o ho
   rw [ho] at h
   simp only at h
   split
   ·rename_i hw
    rw [if_pos hw] at h
    rcases h with h | ⟨h1, h2⟩
    ·refine .inl ?_
     unfold Oper.wp at h ⊢
     generalize (execOp a.eval o).run P w = r at h ⊢
     cases r with
     | ok nx w' =>
      cases nx with
      | value v => exact ih _ _ h
      | skip => exact ih _ _ h
      | defer d => exact ih _ _ h
      | enter f args =>
       refine Calls.mono h fun e w'' he => ?_
       cases e with
       | returned v => exact ih _ _ he
       | panicked c => exact hq _ _ _ he
       | outgrown =>
        obtain ⟨a1, w1, h1⟩ := he
        exact ⟨a1, w1, hq _ _ _ h1⟩
      | row r args => exact Rows.mono h fun v w'' he => ih _ _ he
      | _ => exact h
     | halt hh w' =>
      cases hh with
      | panic v => exact hq _ _ _ h
      | _ => exact h
    ·obtain ⟨a1, w1, h3⟩ := h2
     exact .inr ⟨h1, a1, w1, hq _ _ _ h3⟩
   ·rename_i hw
    rw [if_neg hw] at h
    exact ih _ _ h
theorem contL_mono {f f' : Nat} (hf : f ≤ f') {rs : List ResultVar} {n : Nat} {o : List (Value × Hp)} : ∀ (K : List Kj) (e : Exit) (s : Sl) (h : Hp), contL P orc drw f rs n o K e s h → contL P orc drw f' rs n o K e s h
 | [], e, s, h, hh => hh
 | .code x :: k, .normal, s, h, hh => Wt.mono hh fun e s h => contL_mono hf k e s h
 | .ops A os :: k, .normal, s, h, hh => fun B a w γ h1 h2 i0 h3 => wpOps_monoQ (fun s h => contL_mono hf k .normal s h) _ _ _ (hh B a w γ h1 h2 i0 h3)
 | .lp x :: k, .normal, s, h, hh => by
  obtain ⟨m, outs, h1, h2, h3⟩ := hh
  exact ⟨m, outs, Nat.le_trans h1 hf, h2, h3⟩
 | .blk id :: k, .exit j, s, h, hh => by
  simp only [contL] at hh ⊢
  split at hh
  ·rename_i e; rw [if_pos e]; exact contL_mono hf k _ _ _ hh
  ·rename_i e; rw [if_neg e]; exact contL_mono hf k _ _ _ hh
 | .blk id :: k, .normal, s, h, hh => contL_mono hf k .normal s h hh
 | .blk id :: k, .ret, s, h, hh => contL_mono hf k .ret s h hh
 | .blk id :: k, .goto l, s, h, hh => contL_mono hf k (.goto l) s h hh
 | .blk id :: k, .panic l, s, h, hh => contL_mono hf k (.panic l) s h hh
 | .blk id :: k, .outgrown, s, h, hh => contL_mono hf k .outgrown s h hh
 | .code x :: k, .exit j, s, h, hh => contL_mono hf k (.exit j) s h hh
 | .code x :: k, .ret, s, h, hh => contL_mono hf k .ret s h hh
 | .code x :: k, .goto l, s, h, hh => contL_mono hf k (.goto l) s h hh
 | .code x :: k, .panic l, s, h, hh => contL_mono hf k (.panic l) s h hh
 | .code x :: k, .outgrown, s, h, hh => contL_mono hf k .outgrown s h hh
 | .ops A os :: k, .exit j, s, h, hh => contL_mono hf k (.exit j) s h hh
 | .ops A os :: k, .ret, s, h, hh => contL_mono hf k .ret s h hh
 | .ops A os :: k, .goto l, s, h, hh => contL_mono hf k (.goto l) s h hh
 | .ops A os :: k, .panic l, s, h, hh => contL_mono hf k (.panic l) s h hh
 | .ops A os :: k, .outgrown, s, h, hh => contL_mono hf k .outgrown s h hh
 | .lp x :: k, .exit j, s, h, hh => contL_mono hf k (.exit j) s h hh
 | .lp x :: k, .ret, s, h, hh => contL_mono hf k .ret s h hh
 | .lp x :: k, .goto l, s, h, hh => contL_mono hf k (.goto l) s h hh
 | .lp x :: k, .panic l, s, h, hh => contL_mono hf k (.panic l) s h hh
 | .lp x :: k, .outgrown, s, h, hh => contL_mono hf k .outgrown s h hh
theorem contL_ret {f : Nat} {rs : List ResultVar} {n : Nat} {o : List (Value × Hp)} {s : Sl} {h : Hp} (hh : ∃ l, resOut P rs s h = some l ∧ ∀ r ∈ l, r ∈ o) : ∀ (K : List Kj), contL P orc drw f rs n o K .ret s h
 | [] => ⟨.inr rfl, hh⟩
 | .code x :: k => contL_ret hh k
 | .ops A os :: k => contL_ret hh k
 | .blk id :: k => contL_ret hh k
 | .lp x :: k => contL_ret hh k
theorem contL_pop {f : Nat} {rs : List ResultVar} {n : Nat} {o : List (Value × Hp)} {s : Sl} {h : Hp} {id : Nat} : ∀ (K k' : List Kj), popJ id K = some k' → contL P orc drw f rs n o k' .normal s h → contL P orc drw f rs n o K (.exit id) s h
 | [], k', hp, _ => by cases hp
 | .blk j :: k, k', hp, hh => by
  simp only [popJ] at hp
  simp only [contL]
  split at hp
  ·rename_i e
   cases hp
   rw [if_pos (Nat.eq_of_beq_eq_true e).symm]
   exact hh
  ·rename_i e
   rw [if_neg (fun e' => by subst e'; rw [Nat.beq_refl] at e; cases e)]
   exact contL_pop k k' hp hh
 | .code x :: k, k', hp, hh => contL_pop k k' hp hh
 | .ops A os :: k, k', hp, hh => contL_pop k k' hp hh
 | .lp x :: k, k', hp, hh => contL_pop k k' hp hh
theorem Wt.seq {x y : Code} {f : Nat} {rs : List ResultVar} {n : Nat} {o : List (Value × Hp)} {k : List Kj} {s : Sl} {h : Hp} (hx : Wt P x n s h (contL P orc drw f rs n o (.code y :: k))) : Wt P (.seq x y) n s h (contL P orc drw f rs n o k) := fun B a w γ h1 h2 => by
 refine wp_seq (wp_mono (hx B a w γ h1 h2) fun e a' w' ⟨s', h', γ', a1, a2, a3⟩ => ?_)
 cases e with
 | normal => exact a3 B a' w' γ' a1 a2
 | _ => exact ⟨s', h', γ', a1, a2, a3⟩
theorem Wt.block {x : Code} {id f : Nat} {rs : List ResultVar} {n : Nat} {o : List (Value × Hp)} {k : List Kj} {s : Sl} {h : Hp} (hx : Wt P x n s h (contL P orc drw f rs n o (.blk id :: k))) : Wt P (.block id x) n s h (contL P orc drw f rs n o k) := fun B a w γ h1 h2 => by
 refine wp_block (wp_mono (hx B a w γ h1 h2) fun e a' w' ⟨s', h', γ', a1, a2, a3⟩ => ?_)
 cases e with
 | exit j =>
  simp only [Exit.inBlock]
  simp only [contL] at a3
  by_cases hj : j = id
  ·rw [if_pos hj] at a3 ⊢; exact ⟨s', h', γ', a1, a2, a3⟩
  ·rw [if_neg hj] at a3 ⊢; exact ⟨s', h', γ', a1, a2, a3⟩
 | _ => exact ⟨s', h', γ', a1, a2, a3⟩
theorem contL_goto {f : Nat} {rs : List ResultVar} {n : Nat} {o : List (Value × Hp)} {l : Nat} {s : Sl} {h : Hp} : ∀ (k : List Kj), ¬ contL P orc drw f rs n o k (.goto l) s h
 | [], hh => by rcases hh.1 with e | e <;> cases e
 | .blk _ :: k, hh => contL_goto k hh
 | .code _ :: k, hh => contL_goto k hh
 | .ops _ _ :: k, hh => contL_goto k hh
 | .lp _ :: k, hh => contL_goto k hh
theorem Wt.scope {x : Code} {f : Nat} {rs : List ResultVar} {n : Nat} {o : List (Value × Hp)} {k : List Kj} {s : Sl} {h : Hp} (hx : Wt P x n s h (contL P orc drw f rs n o k)) : Wt P (.scope x) n s h (contL P orc drw f rs n o k) := fun B a w γ h1 h2 => by
 refine wp_scope_straight (wp_mono (hx B a w γ h1 h2) fun e a' w' ⟨s', h', γ', a1, a2, a3⟩ => ?_)
 cases e with
 | goto l => exact contL_goto k a3
 | _ => exact ⟨s', h', γ', a1, a2, a3⟩
theorem Wt.cond {c : Operand} {x y : Code} {n : Nat} {s : Sl} {h : Hp} {Q : Exit → Sl → Hp → Prop} {t : Bool} (ho : opnd c = true) (hc : sev s c = .bool t) (hx : Wt P (if t then x else y) n s h Q) : Wt P (.cond c x y) n s h Q := fun B a w γ h1 h2 => by
 have hv := h1.ev c ho
 rw [hc] at hv
 have e : a.eval c = .bool t := by generalize a.eval c = u at hv; cases hv; rfl
 exact wp_cond e (hx B a w γ h1 h2)
theorem Ws.nil {A : Array Oper} {n : Nat} {s : Sl} {h : Hp} {K : Sl → Hp → Prop} (hk : K s h) : Ws P A [] n s h K := fun B a w γ h1 h2 i0 _ => ⟨s, h, γ, h1, h2, hk⟩
theorem wanted_at {A : Array Oper} {n : Nat} {s : Sl} {γ : Gm} {a : Act} {o : Oper} (h1 : Fl n s γ a) {b : Bool} (hw : wants A s o = some b) : Region.wanted o (yielded A a.tmps) = b := by
 unfold wants at hw
 unfold Region.wanted
 split at hw
 ·rename_i hg; rw [hg]; cases hw; rfl
 ·rename_i j want hg
  rw [hg]
  dsimp only
  split at hw
  ·cases hw
  ·rename_i t ht
   have ht' : (A[j]?).bind (·.dst) = some t := by unfold gslot at ht; simpa using ht
   have hv := h1.slot t
   unfold yielded
   rw [ht']
   simp only [Option.bind_some]
   have hget : a.tmps[t]? = some (a.tmps.getD t undef) ∨ a.tmps.getD t undef = undef ∧ a.tmps[t]? = none := by
    rw [Array.getD_eq_getD_getElem?]
    cases a.tmps[t]? with
    | none => exact .inr ⟨rfl, rfl⟩
    | some v => exact .inl rfl
   generalize hu : a.tmps.getD t undef = u at hv hget
   generalize sget s t = v at hw hv
   split at hw
   ·rename_i bb
    cases hw
    cases hv
    rcases hget with e | ⟨e, _⟩
    ·rw [e]; cases bb <;> cases want <;> rfl
    ·cases e
   ·rename_i hn
    cases hw
    rcases hget with e | ⟨_, e⟩
    ·rw [e]
     cases hv <;> first | rfl | (exact absurd rfl (hn _))
    ·rw [e]; rfl
theorem Ws.skip {A : Array Oper} {o : Oper} {os : List Oper} {n : Nat} {s : Sl} {h : Hp} {K : Sl → Hp → Prop} (hd : dstOk o.dst n = true) (hw : wants A s o = some false) (hk : Ws P A os n (sputT s o.dst (.tuple #[])) h K) : Ws P A (o :: os) n s h K := fun B a w γ h1 h2 i0 hi => by
 have ho : A[i0]? = some o := by have := hi 0; simpa using this.symm
 simp only [List.length_cons, List.range'_succ, wpOps, ho]
 rw [if_neg (by rw [wanted_at h1 hw]; simp)]
 exact hk B _ w γ (h1.put hd undef_VR) h2 (i0 + 1) fun i => by have := hi (i + 1); simpa [Nat.add_assoc, Nat.add_comm 1 i] using this
theorem Ws.op {A : Array Oper} {o : Oper} {os : List Oper} {n : Nat} {s : Sl} {h : Hp} {K : Sl → Hp → Prop} (hw : wants A s o = some true)
  (hop : ∀ (B : Bs) (a : Act) (w : World) (γ : Gm), Fl n s γ a → B.at h γ w → ∀ (N : Act → World → Prop) (Q : Exit → Act → World → Prop), (∀ (s' : Sl) (h' : Hp) (γ' : Gm) (a' : Act) (w' : World), Fl n s' γ' a' → B.at h' γ' w' → Ws P A os n s' h' K → N a' w') → o.wp P a w N Q) : Ws P A (o :: os) n s h K := fun B a w γ h1 h2 i0 hi => by
 have ho : A[i0]? = some o := by have := hi 0; simpa using this.symm
 simp only [List.length_cons, List.range'_succ, wpOps, ho]
 rw [if_pos (wanted_at h1 hw)]
 refine .inl (hop B a w γ h1 h2 _ _ fun s' h' γ' a' w' a1 a2 a3 => ?_)
 exact a3 B a' w' γ' a1 a2 (i0 + 1) fun i => by have := hi (i + 1); simpa [Nat.add_assoc, Nat.add_comm 1 i] using this
end
end Go.Kr
end
