/-
A part of the proof that the statement InitialValues holds of the given program (second form, tied card): loops, drawn regions, contracts.
-/
import Derived.Test.YtleopflmnmfaeaaGreatDoorPB
set_option autoImplicit false
set_option linter.unusedSimpArgs false
set_option linter.unusedVariables false
set_option linter.unnecessarySimpa false
section
namespace Go.Lw
theorem dstIn_of {dst : Option Nat} {n : Nat} (h : dstIn dst n) : ∀ t, dst = some t → t < n := fun t ht => by unfold dstIn at h; rw [ht] at h; exact h
theorem aops_mono {P : Program} {ops : Array Oper} {K K' : St → Prop} (hk : ∀ s, K s → K' s) : ∀ (os : List Oper) (s : St), aops P ops os s K → aops P ops os s K'
 | [], s, h => hk s h
 | o :: os, s, h => by
  simp only [aops] at h ⊢
  split
  ·rename_i hg
   simp only [hg] at h
   exact aop_mono h fun s' hs => aops_mono hk os s' hs
  ·rename_i j want hg
   simp only [hg] at h
   rcases h with ⟨t, h1, h2, h3, h4⟩ | ⟨t, b, h1, h2, h3, h4⟩
   ·exact .inl ⟨t, h1, h2, h3, aops_mono hk os _ h4⟩
   exact .inr ⟨t, b, h1, h2, fun hb => (h3 hb).imp (fun h => ⟨h.1, aop_mono h.2 fun s' hs => aops_mono hk os s' hs⟩) (fun h => aop_mono h fun s' hs => aops_mono hk os s' hs), fun hb => ⟨(h4 hb).1, (h4 hb).2.imp (fun h => aops_mono hk os _ h) (fun h => aops_mono hk os _ h)⟩⟩
inductive Kt where
 | code (x : Code)
 | ops (A : Array Oper) (os : List Oper)
 | blk (id : Nat)
 | stop (K : St → Prop)
def contS (P : Program) (Q : Exit → St → Prop) : List Kt → Exit → St → Prop
 | [], e, s => Q e s
 | .code x :: k, .normal, s => Aw P x (contS P Q k) s
 | .ops A os :: k, .normal, s => aops P A os s (contS P Q k .normal)
 | .stop K :: _, .normal, s => K s
 | .blk id :: k, e, s => inBlockS id (contS P Q k) e s
 | _ :: k, e, s => contS P Q k e s
def popTo (Q : Exit → St → Prop) (id : Nat) : List Kt → List Kt
 | [] => [.stop (Q (.exit id))]
 | .blk j :: k => if j = id then k else popTo Q id k
 | _ :: k => popTo Q id k
def csz : Code → Nat
 | .seq x y => csz x + csz y + 2
 | .cond _ x y => csz x + csz y + 2
 | .block _ x => csz x + 3
 | .region _ A _ => 2 * A.toList.length + 3
 | _ => 2
def ksz1 : Kt → Nat
 | .code x => csz x
 | .ops _ os => (os.map fun o => if o.guard.isSome then 2 else 1).sum + 1
 | .blk _ => 1
 | .stop _ => 1
def ksz : List Kt → Nat
 | [] => 0
 | x :: k => ksz1 x + ksz k
theorem popTo_sz (Q : Exit → St → Prop) (id : Nat) (k : List Kt) : ksz (popTo Q id k) ≤ ksz k + 1 := by
 induction k with
 | nil => simp [popTo, ksz, ksz1]
 | cons x k ih =>
  cases x with
  | blk j => simp only [popTo]; split <;> simp only [ksz] <;> omega
  | _ => simp only [popTo, ksz]; omega
theorem opsz_le (os : List Oper) : (os.map fun o => if o.guard.isSome then 2 else 1).sum ≤ 2 * os.length := by
 induction os with
 | nil => simp
 | cons o os ih => simp only [List.map_cons, List.sum_cons, List.length_cons]; split <;> omega
theorem csz_pos (x : Code) : 2 ≤ csz x := by cases x <;> simp only [csz] <;> omega
def go (P : Program) (Q : Exit → St → Prop) : List Kt → St → Prop
 | [], s => Q .normal s
 | .stop K :: _, s => K s
 | .blk _ :: k, s => go P Q k s
 | .ops A [] :: k, s => go P Q k s
 | .ops A (o :: os) :: k, s => match hg : o.guard with
  | none => match stepF P o.dst s.ev s.obj o.op with
   | .no => False
   | .ok p d us nw => p ∧ laid o.dst s nw ∧ dstIn o.dst s.n ∧ go P Q (.ops A os :: k) (s.app o.dst d us nw)
   | .call F args => hasBody P F = true ∧ CallOk P F args o.dst s (fun s' => go P Q (.ops A os :: k) s')
   | .unk t v => dstIn o.dst s.n ∧ ∀ b, (t = true → b = v) → go P Q (.ops A os :: k) (s.app o.dst (.kb b) [] none)
  | some gd => match gslot A gd.1 with
   | none => False
   | some t => match s.get t with
    | .kb b => match b == gd.2 with
     | true => go P Q (.ops A ({ o with guard := none } :: os) :: k) s
     | false => dstIn o.dst s.n ∧ go P Q (.ops A os :: k) (s.app o.dst (.tup []) [] none)
    | .i y => match y with
     | .bool b => (b = gd.2 → go P Q (.ops A ({ o with guard := none } :: os) :: k) (s.over t (.kb gd.2))) ∧
      (b = !gd.2 → dstIn o.dst s.n ∧ go P Q (.ops A os :: k) ((s.over t (.kb !gd.2)).app o.dst (.tup []) [] none))
     | _ => False
    | .tup ds => match ds with
     | [] => dstIn o.dst s.n ∧ go P Q (.ops A os :: k) (s.app o.dst (.tup []) [] none)
     | _ => False
    | _ => False
 | .code .skip :: k, s => go P Q k s
 | .code (.label _) :: k, s => go P Q k s
 | .code (.seq x y) :: k, s => go P Q (.code x :: .code y :: k) s
 | .code (.block id x) :: k, s => go P Q (.code x :: .blk id :: k) s
 | .code (.exit id) :: k, s => go P Q (popTo Q id k) s
 | .code .ret :: k, s => Q .ret s
 | .code (.loop x) :: k, s => contS P Q (.code (.loop x) :: k) .normal s
 | .code (.region id A drawn) :: k, s => match drawn with
  | true => aopsD P id A s (contS P Q k .normal)
  | false => go P Q (.ops A A.toList :: k) s
 | .code (.cond c x y) :: k, s => match s.ev c with
  | .kb t => match t with
   | true => go P Q (.code x :: k) s
   | false => go P Q (.code y :: k) s
  | .i y' => match y' with
   | .bool t => (t = true → go P Q (.code x :: k) s) ∧ (t = false → go P Q (.code y :: k) s)
   | _ => False
  | _ => False
 | _, _ => False
termination_by k => ksz k
decreasing_by
 all_goals simp only [ksz, ksz1, csz, List.map_cons, List.sum_cons, List.map_nil, List.sum_nil]
 all_goals first
  | omega
  | (have := popTo_sz Q ‹_› ‹_›; omega)
  | (have := opsz_le A.toList; omega)
  | (simp only [hg, Option.isSome_none, Option.isSome_some, reduceIte, Bool.false_eq_true]; omega)
section
variable {P : Program} {Q : Exit → St → Prop} {A : Array Oper} {os : List Oper} {k : List Kt} {s : St}
theorem go_op (dst : Option Nat) (op : Op) (type : TypeId) (pos : String) (after : Array Edge) : go P Q (.ops A (⟨dst, op, type, pos, after, none⟩ :: os) :: k) s = match stepF P dst s.ev s.obj op with
   | .no => False
   | .ok p d us nw => p ∧ laid dst s nw ∧ dstIn dst s.n ∧ go P Q (.ops A os :: k) (s.app dst d us nw)
   | .call F args => hasBody P F = true ∧ CallOk P F args dst s (go P Q (.ops A os :: k))
   | .unk t v => dstIn dst s.n ∧ ∀ b, (t = true → b = v) → go P Q (.ops A os :: k) (s.app dst (.kb b) [] none) := by rw [go]
theorem go_opg (dst : Option Nat) (op : Op) (type : TypeId) (pos : String) (after : Array Edge) (j : Nat) (want : Bool) : go P Q (.ops A (⟨dst, op, type, pos, after, some (j, want)⟩ :: os) :: k) s = match gslot A j with
   | none => False
   | some t => match s.get t with
    | .kb b => match b == want with
     | true => go P Q (.ops A (⟨dst, op, type, pos, after, none⟩ :: os) :: k) s
     | false => dstIn dst s.n ∧ go P Q (.ops A os :: k) (s.app dst (.tup []) [] none)
    | .i y => match y with
     | .bool b => (b = want → go P Q (.ops A (⟨dst, op, type, pos, after, none⟩ :: os) :: k) (s.over t (.kb want))) ∧
      (b = !want → dstIn dst s.n ∧ go P Q (.ops A os :: k) ((s.over t (.kb !want)).app dst (.tup []) [] none))
     | _ => False
    | .tup ds => match ds with
     | [] => dstIn dst s.n ∧ go P Q (.ops A os :: k) (s.app dst (.tup []) [] none)
     | _ => False
    | _ => False := by rw [go]
theorem go_nil : go P Q [] s = Q .normal s := by rw [go]
theorem go_stop (K : St → Prop) : go P Q (.stop K :: k) s = K s := by rw [go]
theorem go_blk (id : Nat) : go P Q (.blk id :: k) s = go P Q k s := by rw [go]
theorem go_done : go P Q (.ops A [] :: k) s = go P Q k s := by rw [go]
theorem go_skip : go P Q (.code .skip :: k) s = go P Q k s := by rw [go]
theorem go_label (l : Nat) : go P Q (.code (.label l) :: k) s = go P Q k s := by rw [go]
theorem go_seq (x y : Code) : go P Q (.code (.seq x y) :: k) s = go P Q (.code x :: .code y :: k) s := by rw [go]
theorem go_block (id : Nat) (x : Code) : go P Q (.code (.block id x) :: k) s = go P Q (.code x :: .blk id :: k) s := by rw [go]
theorem go_exit (id : Nat) : go P Q (.code (.exit id) :: k) s = go P Q (popTo Q id k) s := by rw [go]
theorem go_ret : go P Q (.code .ret :: k) s = Q .ret s := by rw [go]
theorem go_region (id : Nat) : go P Q (.code (.region id A false) :: k) s = go P Q (.ops A A.toList :: k) s := by rw [go]
theorem go_cond (c : Operand) (x y : Code) : go P Q (.code (.cond c x y) :: k) s = match s.ev c with
  | .kb t => match t with
   | true => go P Q (.code x :: k) s
   | false => go P Q (.code y :: k) s
  | .i y' => match y' with
   | .bool t => (t = true → go P Q (.code x :: k) s) ∧ (t = false → go P Q (.code y :: k) s)
   | _ => False
  | _ => False := by rw [go]
theorem go_loop (x : Code) : go P Q (.code (.loop x) :: k) s = contS P Q (.code (.loop x) :: k) .normal s := by rw [go]
theorem contS_popTo {id : Nat} : ∀ (k : List Kt), contS P Q (popTo Q id k) .normal s → contS P Q k (.exit id) s
 | [], h => h
 | .blk j :: k, h => by
  simp only [popTo] at h
  simp only [contS, inBlockS]
  split at h
  ·rename_i e; subst e; simpa using h
  ·rename_i e
   have := contS_popTo k h
   split
   ·rename_i e'; exact absurd e'.symm e
   ·exact this
 | .code _ :: k, h => contS_popTo k h
 | .ops _ _ :: k, h => contS_popTo k h
 | .stop _ :: k, h => contS_popTo k h
theorem contS_ret : ∀ (k : List Kt), Q .ret s → contS P Q k .ret s
 | [], h => h
 | .blk j :: k, h => contS_ret k h
 | .code _ :: k, h => contS_ret k h
 | .ops _ _ :: k, h => contS_ret k h
 | .stop _ :: k, h => contS_ret k h
end
theorem aops_noguard {P : Program} {A : Array Oper} {o : Oper} {os : List Oper} {s : St} {K : St → Prop} (h : aops P A ({ o with guard := none } :: os) s K) : aop P o s fun s' => aops P A os s' K := h
theorem Aw.seq {P : Program} {x y : Code} {k : List Kt} {Q : Exit → St → Prop} {s : St} (h : Aw P x (contS P Q (.code y :: k)) s) : Aw P (.seq x y) (contS P Q k) s := fun c a w β hr => by
 refine wp_seq (wp_mono (h c a w β hr) fun e a' w' ⟨s', β', h1, h2⟩ => ?_)
 cases e with
 | normal => exact h2 c a' w' β' h1
 | _ => exact ⟨s', β', h1, h2⟩
theorem Aw.block {P : Program} {x : Code} {id : Nat} {k : List Kt} {Q : Exit → St → Prop} {s : St} (h : Aw P x (contS P Q (.blk id :: k)) s) : Aw P (.block id x) (contS P Q k) s := fun c a w β hr => by
 refine wp_block (wp_mono (h c a w β hr) fun e a' w' ⟨s', β', h1, h2⟩ => ?_)
 cases e with
 | exit id' =>
  simp only [Exit.inBlock, contS, inBlockS] at h2 ⊢
  by_cases hid : id' = id
  ·rw [if_pos hid] at h2 ⊢; exact ⟨s', β', h1, h2⟩
  ·rw [if_neg hid] at h2 ⊢; exact ⟨s', β', h1, h2⟩
 | _ => exact ⟨s', β', h1, h2⟩
theorem Aw.cond {P : Program} {x y : Code} {cc : Operand} {Q : Exit → St → Prop} {s : St} {t : Bool} (ht : (s.ev cc).norm = .i (.bool t)) (h1 : t = true → Aw P x Q s) (h2 : t = false → Aw P y Q s) : Aw P (.cond cc x y) Q s := fun c a w β hr => by
 have hv := (ht ▸ (hr.ev cc).norm : VD P (c.g w β s.obj) (.i (.bool t)) (a.eval cc)).bool_inv
 refine wp_cond hv ?_
 cases t
 ·exact h2 rfl c a w β hr
 ·exact h1 rfl c a w β hr
theorem go_sound {P : Program} {Q : Exit → St → Prop} : ∀ (n : Nat) (k : List Kt) (s : St), ksz k ≤ n → go P Q k s → contS P Q k .normal s := by
 intro n
 induction n with
 | zero =>
  intro k s hn h
  cases k with
  | nil => rw [go_nil] at h; exact h
  | cons x k =>
   exfalso
   cases x with
   | code x => have := csz_pos x; simp only [ksz, ksz1] at hn; omega
   | _ => simp only [ksz, ksz1] at hn; omega
 | succ n ih =>
  intro k s hn h
  cases k with
  | nil => rw [go_nil] at h; exact h
  | cons x k =>
   cases x with
   | stop K => rw [go_stop] at h; exact h
   | blk id => rw [go_blk] at h; exact ih k s (by simp only [ksz, ksz1] at hn; omega) h
   | ops A os =>
    cases os with
    | nil => rw [go_done] at h; exact ih k s (by simp only [ksz, ksz1] at hn; omega) h
    | cons o os =>
     have hsz : ksz (.ops A os :: k) ≤ n := by
      simp only [ksz, ksz1, List.map_cons, List.sum_cons] at hn ⊢
      split at hn <;> omega
     have rec_ := fun s => ih (.ops A os :: k) s hsz
     obtain ⟨dst, op, type, pos, after, guard⟩ := o
     show aops P A _ s _
     cases guard with
     | none =>
      rw [go_op] at h
      simp only [aops]
      refine aop_mono (K := go P Q (.ops A os :: k)) (stepF_sound (o := ⟨dst, op, type, pos, after, none⟩) ?_) fun s' hs => rec_ s' hs
      simp only [runF]
      split at h <;> rename_i he <;> rw [he] <;> exact h
     | some gd =>
      obtain ⟨j, want⟩ := gd
      rw [go_opg] at h
      have hsz2 : ksz (.ops A (⟨dst, op, type, pos, after, none⟩ :: os) :: k) ≤ n := by
       simp only [ksz, ksz1, List.map_cons, List.sum_cons, Option.isSome_some, Option.isSome_none, if_true, Bool.false_eq_true, if_false] at hn ⊢
       omega
      have rec2 := fun s (h : go P Q (.ops A (⟨dst, op, type, pos, after, none⟩ :: os) :: k) s) => aops_noguard (o := ⟨dst, op, type, pos, after, some (j, want)⟩) (ih _ s hsz2 h)
      simp only [aops]
      split at h
      ·exact h.elim
      ·rename_i t ht
       split at h
       ·rename_i b hb
        have hb' : (s.get t).norm = .i (.bool b) := by rw [hb]; rfl
        refine .inr ⟨t, b, ht, hb', fun e => ?_, fun e => ?_⟩
        ·subst e
         simp only [BEq.rfl] at h
         exact .inl ⟨trivial, rec2 s h⟩
        ·have : (b == want) = false := by simpa using e
         simp only [this] at h
         exact ⟨dstIn_of h.1, .inl (rec_ _ h.2)⟩
       ·split at h
        ·rename_i b hy
         have hb' : (s.get t).norm = .i (.bool b) := by rw [hy]; rfl
         refine .inr ⟨t, b, ht, hb', fun e => .inr (rec2 _ (h.1 e)), fun e => ?_⟩
         have e' : b = !want := by cases b <;> cases want <;> simp_all
         exact ⟨dstIn_of (h.2 e').1, .inr (rec_ _ (h.2 e').2)⟩
        ·exact h.elim
       ·rename_i ds hd
        split at h
        ·exact .inl ⟨t, ht, hd, dstIn_of h.1, rec_ _ h.2⟩
        ·exact h.elim
       ·exact h.elim
   | code x =>
    have hc := csz_pos x
    show Aw P x _ s
    cases x with
    | skip => rw [go_skip] at h; exact awp_sound .skip _ _ (ih k s (by simp only [ksz, ksz1] at hn; omega) h)
    | label l => rw [go_label] at h; exact awp_sound (.label l) _ _ (ih k s (by simp only [ksz, ksz1] at hn; omega) h)
    | ret => rw [go_ret] at h; exact awp_sound .ret _ _ (contS_ret k h)
    | exit id =>
     rw [go_exit] at h
     refine awp_sound (.exit id) _ _ ?_
     exact contS_popTo k (ih _ s (by have := popTo_sz Q id k; simp only [ksz, ksz1, csz] at hn; omega) h)
    | seq x y =>
     rw [go_seq] at h
     have := ih (.code x :: .code y :: k) s (by simp only [ksz, ksz1, csz] at hn ⊢; omega) h
     exact Aw.seq this
    | block id x =>
     rw [go_block] at h
     have := ih (.code x :: .blk id :: k) s (by simp only [ksz, ksz1, csz] at hn ⊢; omega) h
     exact Aw.block this
    | cond c x y =>
     have hx := ih (.code x :: k) s (by simp only [ksz, ksz1, csz] at hn ⊢; omega)
     have hy := ih (.code y :: k) s (by simp only [ksz, ksz1, csz] at hn ⊢; omega)
     rw [go_cond] at h
     split at h
     ·rename_i t ht
      refine Aw.cond (t := t) (by rw [ht]; rfl) (fun e => ?_) (fun e => ?_) <;> subst e
      ·exact hx h
      ·exact hy h
     ·split at h
      ·rename_i t ht
       exact Aw.cond (t := t) (by rw [ht]; rfl) (fun e => hx (h.1 e)) (fun e => hy (h.2 e))
      ·exact h.elim
     ·exact h.elim
    | region id A drawn =>
     cases drawn with
     | true => rw [go] at h; refine awp_sound (.region id A true) _ _ ?_; simp only [awp, if_true]; exact h
     | false =>
      rw [go_region] at h
      have := ih (.ops A A.toList :: k) s (by have := opsz_le A.toList; simp only [ksz, ksz1, csz] at hn ⊢; omega) h
      refine awp_sound (.region id A false) _ _ ?_
      simp only [awp, Bool.false_eq_true, if_false]
      exact this
    | loop x => rw [go_loop] at h; exact h
    | scope x => rw [go] at h <;> first | exact h.elim | (intros; simp_all)
    | goto x => rw [go] at h <;> first | exact h.elim | (intros; simp_all)
    | refuse x => rw [go] at h <;> first | exact h.elim | (intros; simp_all)
    | rangeFunc f ps x y => rw [go] at h <;> first | exact h.elim | (intros; simp_all)
section
variable (P : Program) (Q : Exit → St → Prop) (A : Array Oper) (os : List Oper) (k : List Kt)
def aft (dst : Option Nat) (s : St) : Sr → Prop
 | .no => False
 | .ok p d us nw => p ∧ laid dst s nw ∧ dstIn dst s.n ∧ go P Q (.ops A os :: k) (s.app dst d us nw)
 | .call F args => hasBody P F = true ∧ CallOk P F args dst s (go P Q (.ops A os :: k))
 | .unk t v => dstIn dst s.n ∧ ∀ b, (t = true → b = v) → go P Q (.ops A os :: k) (s.app dst (.kb b) [] none)
def gkb (o : Oper) (s : St) : Bool → Prop
 | true => go P Q (.ops A (o :: os) :: k) s
 | false => dstIn o.dst s.n ∧ go P Q (.ops A os :: k) (s.app o.dst (.tup []) [] none)
def gbool (o : Oper) (want : Bool) (s : St) (t : Nat) : I → Prop
 | .bool b => (b = want → go P Q (.ops A (o :: os) :: k) (s.over t (.kb want))) ∧ (b = !want → dstIn o.dst s.n ∧ go P Q (.ops A os :: k) ((s.over t (.kb !want)).app o.dst (.tup []) [] none))
 | _ => False
def gtup (o : Oper) (s : St) : List D → Prop
 | [] => dstIn o.dst s.n ∧ go P Q (.ops A os :: k) (s.app o.dst (.tup []) [] none)
 | _ => False
def gval2 (o : Oper) (want : Bool) (s : St) (t : Nat) : D → Prop
 | .kb b => gkb P Q A os k o s (b == want)
 | .i y => gbool P Q A os k o want s t y
 | .tup ds => gtup P Q A os k o s ds
 | _ => False
def ggrd (o : Oper) (want : Bool) (s : St) : Option Nat → Prop
 | none => False
 | some t => gval2 P Q A os k o want s t (s.get t)
def ckb (x y : Code) (s : St) : Bool → Prop
 | true => go P Q (.code x :: k) s
 | false => go P Q (.code y :: k) s
def cbool (x y : Code) (s : St) : I → Prop
 | .bool t => (t = true → go P Q (.code x :: k) s) ∧ (t = false → go P Q (.code y :: k) s)
 | _ => False
def cval (x y : Code) (s : St) : D → Prop
 | .kb t => ckb P Q k x y s t
 | .i y' => cbool P Q k x y s y'
 | _ => False
variable {P Q A os k} {s : St}
theorem go_opF (dst : Option Nat) (op : Op) (type : TypeId) (pos : String) (after : Array Edge) : go P Q (.ops A (⟨dst, op, type, pos, after, none⟩ :: os) :: k) s = aft P Q A os k dst s (stepF P dst s.ev s.obj op) := by
 rw [go_op]; generalize stepF P dst s.ev s.obj op = r; cases r <;> simp only [aft]
theorem go_opgF (dst : Option Nat) (op : Op) (type : TypeId) (pos : String) (after : Array Edge) (j : Nat) (want : Bool) : go P Q (.ops A (⟨dst, op, type, pos, after, some (j, want)⟩ :: os) :: k) s = ggrd P Q A os k ⟨dst, op, type, pos, after, none⟩ want s (gslot A j) := by
 rw [go_opg]
 generalize gslot A j = gs
 cases gs with
 | none => simp only [ggrd]
 | some t =>
  simp only [ggrd]
  generalize s.get t = d
  cases d with
  | kb b => simp only [gval2]; cases b == want <;> simp only [gkb]
  | i y => simp only [gval2]; cases y <;> simp only [gbool]
  | tup ds => simp only [gval2]; cases ds <;> simp only [gtup]
  | _ => simp only [gval2]
theorem go_condF (c : Operand) (x y : Code) : go P Q (.code (.cond c x y) :: k) s = cval P Q k x y s (s.ev c) := by
 rw [go_cond]
 generalize s.ev c = d
 cases d with
 | kb b => simp only [cval]; cases b <;> simp only [ckb]
 | i y => simp only [cval]; cases y <;> simp only [cbool]
 | _ => simp only [cval]
end
theorem nth_mapD {α : Type} (f : α → I) (l : List α) (n : Nat) (d : α) (h : n < l.length) : nth (l.map f) n = f (l.getD n d) := by
 simp [nth, List.getD, h]
theorem AC.of_go {P : Program} {f : FuncId} {fn : Func} {x : Code} {args : List D} {r : D} (hf : P.funcs[f]? = some fn) (hb : fn.body = some x) (hp : args.all D.plain = true) (hn : args.length ≤ fn.ntmps)
  (h : go P (retQ P fn.results.toList r) [.code x] ⟨fn.ntmps, argSl args 0, []⟩) : AC P f args r := AC.of_sem hf hb hp hn (go_sound _ _ _ (Nat.le_refl _) h)
theorem go_loopI {P : Program} {Q : Exit → St → Prop} {x : Code} {k : List Kt} {s : St} {α : Type} (I : α → St) (φ : α → Prop) (μ : α → Nat) (a0 : α) (hs : s.Tells (I a0)) (h0 : φ a0)
  (round : ∀ (K : St → Prop) a, φ a → (∀ s' a', φ a' → μ a' < μ a → s'.Tells (I a') → K s') → go P Q (.code x :: .stop K :: k) (I a)) : go P Q (.code (.loop x) :: k) s := by
 rw [go_loop]
 show Aw P (.loop x) (contS P Q k) s
 refine Aw.loopS I φ μ a0 hs h0 fun a ha => ?_
 have := go_sound _ _ _ (Nat.le_refl _) (round (fun s' => ∃ a', φ a' ∧ s'.Tells (I a') ∧ μ a' < μ a) a ha fun s' a' h1 h2 h3 => ⟨a', h1, h3, h2⟩)
 refine Aw.mono (show Aw P x _ _ from this) fun e s' he => ?_
 cases e with
 | normal => exact he
 | _ => exact he
end Go.Lw
end
section
namespace Go.Lw
def D.refs : D → List Nat
 | .own id .. | .loc id _ | .el id .. | .lmap id | .it id => [id]
 | _ => []
section
variable {P : Program} {q q' : Nat → Option Ob} {d : D}
def Agree (q q' : Nat → Option Ob) (d : D) : Prop := ∀ id ∈ d.refs, q' id = q id
theorem Agree.own {id ver off len : Nat} (h : Agree q q' (.own id ver off len)) : q' id = q id := h id (by simp [D.refs])
theorem Agree.loc {id k : Nat} (h : Agree q q' (.loc id k)) : q' id = q id := h id (by simp [D.refs])
theorem Agree.el {id ver idx k : Nat} (h : Agree q q' (.el id ver idx k)) : q' id = q id := h id (by simp [D.refs])
theorem cellsAt_congr (h : Agree q q' d) : cellsAt q' d = cellsAt q d := by
 cases d with
 | loc id c => simp only [cellsAt, h.loc]
 | el id ver idx off => simp only [cellsAt, h.el]
 | i x => cases x <;> rfl
 | _ => rfl
theorem fresh_congr {id ver : Nat} (h : q' id = q id) : fresh q' id ver = fresh q id ver := by simp only [fresh, h]
theorem shift_congr {k : Nat} (h : Agree q q' d) : d.shift q' k = d.shift q k := by
 cases d with
 | el id ver idx off => simp only [D.shift, fresh_congr h.el]
 | i x => cases x <;> rfl
 | _ => rfl
theorem srcOf_congr {E : TypeId} (h : Agree q q' d) : srcOf q' E d = srcOf q E d := by
 cases d with
 | own id ver off len => simp only [srcOf, h.own]
 | i x => cases x <;> rfl
 | _ => rfl
theorem lenF_congr {T : TypeId} (h : Agree q q' d) : lenF P q' T d = lenF P q T d := by
 cases d with
 | own id ver off len => simp only [lenF, fresh_congr h.own]
 | _ => rfl
theorem storeF_congr {T : TypeId} {ds : List D} (h : Agree q q' d) : storeF P q' T d ds = storeF P q T d ds := by
 cases d with
 | loc id c => simp only [storeF, h.loc]
 | el id ver idx off => simp only [storeF, h.el]
 | _ => rfl
theorem sliceF_congr {T : TypeId} {lo hi : Option D} (h : Agree q q' d) : sliceF P q' T d lo hi = sliceF P q T d lo hi := by
 cases d with
 | own id ver off len => simp only [sliceF, h.own]
 | _ => rfl
theorem indexF_congr {T : TypeId} {i : D} (h : Agree q q' d) : indexF P q' T d i = indexF P q T d i := by
 unfold indexF
 cases d with
 | own id ver off len => simp only [h.own]
 | _ => rfl
theorem bytesF_congr {S T : TypeId} (h : Agree q q' d) : bytesF P q' S T d = bytesF P q S T d := by
 cases d with
 | own id ver off len => simp only [bytesF, h.own]
 | _ => rfl
theorem nextG_congr {b : Bool} (h : Agree q q' d) : nextG q' d b = nextG q d b := by
 cases d with
 | it id => cases b with
  | true => simp only [nextG, h id (by simp [D.refs])]
  | false => rfl
 | _ => rfl
theorem appendF_congr {id : Nat} {E : TypeId} {x y : D} (hx : Agree q q' x) (hy : Agree q q' y) : appendF P q' id E x y = appendF P q id E x y := by
 unfold appendF
 rw [srcOf_congr hy]
 cases x with
 | own i ver off len => simp only [hx.own]
 | _ => rfl
end
theorem callF_congr {P : Program} {dst : Option Nat} {ev ev' : Operand → D} {q q' : Nat → Option Ob} {callee : Callee} {args : List Operand} {tys : List TypeId}
  (he : ∀ x ∈ args, ev' x = ev x) (hf : ∀ f, callee = .value f → ev' f = ev f) (hq : ∀ x ∈ args, Agree q q' (ev x)) : callF P dst ev' q' callee args tys = callF P dst ev q callee args tys := by
 unfold callF
 split
 ·rename_i x T
  rw [he x (by simp), lenF_congr (hq x (by simp))]
 ·rename_i x y
  rw [he x (by simp), he y (by simp)]
 ·rename_i x y
  rw [he x (by simp), he y (by simp)]
 ·rename_i x y T T'
  rw [he x (by simp), he y (by simp)]
  split
  ·split
   ·rw [appendF_congr (hq x (by simp)) (hq y (by simp))]
   ·rfl
  ·rfl
 ·rename_i f
  rw [hf f rfl, List.map_congr_left he]
 ·rfl
theorem stepF_congr {P : Program} {dst : Option Nat} {ev ev' : Operand → D} {q q' : Nat → Option Ob} {op : Op}
  (he : ∀ x ∈ op.operands.toList, ev' x = ev x) (hq : ∀ x ∈ op.operands.toList, Agree q q' (ev x)) : stepF P dst ev' q' op = stepF P dst ev q op := by
 cases op with
 | move x | assign x | unOp _ _ x | field _ x _ | extract x _ => simp only [stepF, he x (by simp [Op.operands])]
 | convert S T x => simp only [stepF, he x (by simp [Op.operands]), bytesF_congr (hq x (by simp [Op.operands]))]
 | box T x => simp only [stepF, he x (by simp [Op.operands])]
 | pick c a b => simp only [stepF, he c (by simp [Op.operands]), he a (by simp [Op.operands]), he b (by simp [Op.operands])]
 | alloc T => rfl
 | build T parts =>
  have e : parts.toList.map (fun p => (p.1, ev' p.2)) = parts.toList.map (fun p => (p.1, ev p.2)) := List.map_congr_left fun p hp => by rw [he p.2 (by simp [Op.operands]; exact ⟨p.1, by simpa using hp⟩)]
  simp only [stepF, e]
 | buildSlice T n parts =>
  have e : parts.toList.map (fun p => ev' p.2) = parts.toList.map (fun p => ev p.2) := List.map_congr_left fun p hp => by rw [he p.2 (by simp [Op.operands]; exact ⟨p.1, by simpa using hp⟩)]
  simp only [stepF, e]
 | load T x => simp only [stepF, he x (by simp [Op.operands]), cellsAt_congr (hq x (by simp [Op.operands]))]
 | store T a x => simp only [stepF, he x (by simp [Op.operands]), he a (by simp [Op.operands]), storeF_congr (hq a (by simp [Op.operands]))]
 | nilCheck x =>
  simp only [stepF, he x (by simp [Op.operands])]
  have hh := hq x (by simp [Op.operands])
  generalize ev x = d at hh
  cases d with
  | el id ver idx off => simp only [fresh_congr hh.el]
  | _ => rfl
 | binOp op T x y T' => simp only [stepF, he x (by simp [Op.operands]), he y (by simp [Op.operands])]
 | makeSlice T x y => simp only [stepF, he x (by simp [Op.operands]), he y (by simp [Op.operands])]
 | slice T x lo hi mx =>
  cases mx with
  | some mx =>
   cases lo with
   | some _ => cases hi <;> rfl
   | none =>
    cases hi with
    | none => rfl
    | some hi => simp only [stepF, he x (by simp [Op.operands]), he hi (by simp [Op.operands]), he mx (by simp [Op.operands])]
  | none =>
   have e1 : lo.map ev' = lo.map ev := by cases lo with
    | none => rfl
    | some l => simp [he l (by simp [Op.operands])]
   have e2 : hi.map ev' = hi.map ev := by cases hi with
    | none => rfl
    | some l => simp [he l (by simp [Op.operands])]
   simp only [stepF, he x (by simp [Op.operands]), e1, e2, sliceF_congr (hq x (by simp [Op.operands]))]
 | fieldAddr S x i => simp only [stepF, he x (by simp [Op.operands]), shift_congr (hq x (by simp [Op.operands]))]
 | indexAddr T x i => simp only [stepF, he x (by simp [Op.operands]), he i (by simp [Op.operands]), indexF_congr (hq x (by simp [Op.operands]))]
 | range T x => simp only [stepF, he x (by simp [Op.operands])]
 | next x b => simp only [stepF, he x (by simp [Op.operands]), nextG_congr (hq x (by simp [Op.operands]))]
 | index T x i => simp only [stepF, he x (by simp [Op.operands]), he i (by simp [Op.operands])]
 | makeFunc f first captured =>
  cases f with
  | func f =>
   have e : captured.toList.map ev' = captured.toList.map ev := List.map_congr_left fun p hp => he p (by simp [Op.operands]; exact .inr (by simpa using hp))
   simp only [stepF, e]
  | _ => rfl
 | call c =>
  obtain ⟨callee, args, tys⟩ := c
  simp only [stepF]
  refine callF_congr (fun x hx => he x ?_) (fun f hf => he f ?_) (fun x hx => hq x ?_)
  ·simp only [Op.operands, Call.operands, Array.toList_append, List.mem_append]; exact .inr hx
  ·subst hf; simp [Op.operands, Call.operands]
  ·simp only [Op.operands, Call.operands, Array.toList_append, List.mem_append]; exact .inr hx
 | _ => rfl
end Go.Lw
end
section
namespace Go.Lw
structure Ev where
 dst : Option Nat
 d : D
 us : List (Nat × Ob)
 nw : Option Ob
def lookU : List (Nat × Ob) → Nat → Option Ob
 | [], _ => none
 | (k, o) :: r, id => if id = k then some o else lookU r id
def St.ap (s : St) (e : Ev) : St := s.app e.dst e.d e.us e.nw
def Ev.gets (t : Nat) (e : Ev) : Option D := if e.dst = some t then some e.d else none
def Ev.new (id : Nat) (e : Ev) : Option Ob := if e.dst = some id then e.nw else none
def Ev.sets (id : Nat) (e : Ev) : Option Ob := (lookU e.us id).or (e.new id)
theorem ap_get (s : St) (e : Ev) (t : Nat) : (s.ap e).get t = (e.gets t).getD (s.get t) := by
 obtain ⟨dst, d, us, nw⟩ := e
 cases dst with
 | none => simp [St.ap, St.app, St.get, putSl, Ev.gets]
 | some k =>
  simp only [St.ap, St.app, St.get, putSl, Ev.gets, look]
  by_cases h : t = k
  ·subst h; simp
  ·rw [if_neg h, if_neg (by simp; omega)]; rfl
theorem lookO_us (us : List (Nat × Ob)) (l : List (Nat × Option Ob)) (id : Nat) : lookO (us.map (fun p => (p.1, some p.2)) ++ l) id = (lookU us id).or (lookO l id) := by
 induction us with
 | nil => simp [lookU]
 | cons p us ih =>
  obtain ⟨k, o⟩ := p
  simp only [List.map_cons, List.cons_append, lookO, lookU]
  split
  ·simp
  ·exact ih
theorem ap_obj (s : St) (e : Ev) (id : Nat) : (s.ap e).obj id = (e.sets id).or (s.obj id) := by
 obtain ⟨dst, d, us, nw⟩ := e
 cases dst with
 | none =>
  simp only [St.ap, St.app, St.obj, putOb, Ev.sets, Ev.new, lookO_us]
  simp
 | some k =>
  cases nw with
  | none =>
   simp only [St.ap, St.app, St.obj, putOb, Ev.sets, Ev.new, lookO_us]
   simp
  | some o =>
   simp only [St.ap, St.app, St.obj, putOb, Ev.sets, Ev.new, lookO_us, lookO]
   by_cases h : id = k
   ·subst h; simp
   ·have h' : ¬ (some k : Option Nat) = some id := by simp; omega
    rw [if_neg h, if_neg h']
    simp
theorem ap_n (s : St) (e : Ev) : (s.ap e).n = s.n := rfl
section
variable {γ : Type}
def lastF (f : Ev → Option γ) : List Ev → (Nat → Bool) → Nat → Option γ
 | [], _, _ => none
 | e :: E, m, k => (lastF f E m (k + 1)).or (if m k then f e else none)
def play : List Ev → (Nat → Bool) → Nat → St → St
 | [], _, _, s => s
 | e :: E, m, k, s => play E m (k + 1) (if m k then s.ap e else s)
theorem play_get (t : Nat) : ∀ (E : List Ev) (m : Nat → Bool) (k : Nat) (s : St), (play E m k s).get t = (lastF (Ev.gets t) E m k).getD (s.get t)
 | [], m, k, s => by simp [play, lastF]
 | e :: E, m, k, s => by
  simp only [play, lastF]
  rw [play_get t E]
  cases h : lastF (Ev.gets t) E m (k + 1) with
  | some v => simp
  | none => split <;> simp [ap_get]
theorem play_obj (id : Nat) : ∀ (E : List Ev) (m : Nat → Bool) (k : Nat) (s : St), (play E m k s).obj id = (lastF (Ev.sets id) E m k).or (s.obj id)
 | [], m, k, s => by simp [play, lastF]
 | e :: E, m, k, s => by
  simp only [play, lastF]
  rw [play_obj id E]
  cases h : lastF (Ev.sets id) E m (k + 1) with
  | some v => simp
  | none => split <;> simp [ap_obj]
theorem play_n : ∀ (E : List Ev) (m : Nat → Bool) (k : Nat) (s : St), (play E m k s).n = s.n
 | [], m, k, s => rfl
 | e :: E, m, k, s => by
  simp only [play]
  rw [play_n E]
  split <;> rfl
theorem lastF_congr {f : Ev → Option γ} : ∀ {E : List Ev} {m m' : Nat → Bool} {k : Nat}, (∀ i e, E[i]? = some e → f e ≠ none → m (k + i) = m' (k + i)) → lastF f E m k = lastF f E m' k
 | [], _, _, _, _ => rfl
 | e :: E, m, m', k, h => by
  simp only [lastF]
  rw [lastF_congr (m := m) (m' := m') (k := k + 1) fun i e' he hf => by have := h (i + 1) e' (by simpa using he) hf; rwa [show k + (i + 1) = k + 1 + i by omega] at this]
  by_cases hf : f e = none
  ·simp [hf]
  ·rw [show m k = m' k from h 0 e (by simp) hf]
theorem lastF_none {f : Ev → Option γ} : ∀ {E : List Ev} {m : Nat → Bool} {k : Nat}, (∀ i e, E[i]? = some e → m (k + i) = true → f e = none) → lastF f E m k = none
 | [], _, _, _ => rfl
 | e :: E, m, k, h => by
  simp only [lastF]
  rw [lastF_none (m := m) (k := k + 1) fun i e' he hm => h (i + 1) e' (by simpa using he) (by rwa [show k + (i + 1) = k + 1 + i by omega])]
  split
  ·rename_i hm; rw [h 0 e (by simp) hm]; rfl
  ·rfl
theorem lastF_ins {f : Ev → Option γ} : ∀ {E : List Ev} {m m' : Nat → Bool} {k j : Nat} {e : Ev}, E[j]? = some e → (∀ i, m' i = (m i || i == k + j)) →
  (∀ i e', j < i → E[i]? = some e' → m (k + i) = true → f e = none ∨ f e' = none) → lastF f E m' k = (f e).or (lastF f E m k)
 | [], _, _, _, _, _, h, _, _ => by simp at h
 | e0 :: E, m, m', k, 0, e, h, hm, hd => by
  simp at h
  subst h
  simp only [lastF]
  rw [lastF_congr (m := m') (m' := m) (k := k + 1) fun i e' he hf => by rw [hm]; simp; omega]
  have hk : m' k = true := by rw [hm]; simp
  rw [hk]
  cases hf : f e0 with
  | none => simp
  | some v =>
   rw [lastF_none (k := k + 1) fun i e' he hmi => by
    rcases hd (i + 1) e' (by omega) (by simpa using he) (by rwa [show k + (i + 1) = k + 1 + i by omega]) with h1 | h1
    ·rw [hf] at h1; cases h1
    ·exact h1]
   simp
 | e0 :: E, m, m', k, j + 1, e, h, hm, hd => by
  simp only [lastF]
  rw [lastF_ins (E := E) (m := m) (m' := m') (k := k + 1) (j := j) (e := e) (by simpa using h) (fun i => by rw [hm]; congr 2; omega) fun i e' hji he hmi =>
   hd (i + 1) e' (by omega) (by simpa using he) (by rwa [show k + (i + 1) = k + 1 + i by omega])]
  have hk : m' k = m k := by rw [hm]; simp
  rw [hk, Option.or_assoc]
end
structure St.Same (s s' : St) : Prop where
 n : s.n = s'.n
 get : ∀ t, s.get t = s'.get t
 obj : ∀ id, s.obj id = s'.obj id
theorem Rel.same {P : Program} {c : Ctx} {s s' : St} {a : Act} {w : World} {β : Nat → Nat} (h : Rel P c s a w β) (hs : s.Same s') : Rel P c s' a w β := by
 have e : s'.obj = s.obj := funext fun id => (hs.obj id).symm
 refine ⟨by rw [e]; exact h.mem, h.defers, h.size.trans hs.n, fun t => ?_⟩
 rw [e, ← hs.get t]
 exact h.slot t
def wants (A : Array Oper) (s : St) (o : Oper) : Option Bool := match o.guard with
 | none => some true
 | some gd => match gslot A gd.1 with
  | none => none
  | some t => match (s.get t).norm with
   | .i y => match y with
    | .bool b => some (b == gd.2)
    | _ => none
   | _ => none
def runs (P : Program) (o : Oper) (s : St) (e : Ev) : Prop :=
 (∃ p : Prop, stepF P o.dst s.ev s.obj o.op = .ok p e.d e.us e.nw ∧ p ∧ laid o.dst s e.nw) ∨
 (∃ F args, stepF P o.dst s.ev s.obj o.op = .call F args ∧ hasBody P F = true ∧ AC P F args e.d ∧ e.us = [] ∧ e.nw = none)
def okEv (P : Program) (A : Array Oper) (o : Oper) (s : St) (e : Ev) : Prop :=
 e.dst = o.dst ∧ dstIn o.dst s.n ∧ ((wants A s o = some true ∧ runs P o s e) ∨ (wants A s o = some false ∧ e.d = .any ∧ e.us = [] ∧ e.nw = none))
inductive Txt (P : Program) (A : Array Oper) : List Oper → St → List Ev → Prop
 | nil (s : St) : Txt P A [] s []
 | cons (o : Oper) (os : List Oper) (s : St) (e : Ev) (E : List Ev) (h : okEv P A o s e) (ht : Txt P A os (s.ap e) E) : Txt P A (o :: os) s (e :: E)
def upto (n : Nat) : Nat → Bool := fun i => decide (i < n)
theorem play_off : ∀ (E : List Ev) (m : Nat → Bool) (k : Nat) (s : St), (∀ i, k ≤ i → m i = false) → play E m k s = s
 | [], _, _, _, _ => rfl
 | e :: E, m, k, s, h => by
  simp only [play]
  rw [h k (Nat.le_refl _)]
  exact play_off E m (k + 1) s fun i hi => h i (by omega)
theorem Txt.at_ {P : Program} {A : Array Oper} {os : List Oper} {s : St} {E : List Ev} (h : Txt P A os s E) (k : Nat) : ∀ (j : Nat) (o : Oper), os[j]? = some o → ∃ e, E[j]? = some e ∧ okEv P A o (play E (upto (k + j)) k s) e := by
 induction h generalizing k with
 | nil s => intro j o ho; simp at ho
 | cons o0 os s e E h ht ih =>
  intro j o ho
  cases j with
  | zero =>
   simp at ho
   subst ho
   refine ⟨e, by simp, ?_⟩
   rw [play_off _ _ _ _ fun i hi => by simp [upto]; omega]
   exact h
  | succ j =>
   obtain ⟨e', he, hok⟩ := ih (k + 1) j o (by simpa using ho)
   refine ⟨e', by simpa using he, ?_⟩
   simp only [play]
   have : upto (k + (j + 1)) k = true := by simp [upto]
   rw [this]
   rw [show k + (j + 1) = k + 1 + j by omega]
   exact hok
theorem Txt.len {P : Program} {A : Array Oper} {os : List Oper} {s : St} {E : List Ev} (h : Txt P A os s E) : E.length = os.length := by
 induction h with
 | nil s => rfl
 | cons o0 os s e E h ht ih => simp [ih]
def ancL (M : List Nat) : List Edge → Nat
 | [] => 0
 | e :: es => if Region.binds .any e then (1 <<< e.on) ||| M.getD e.on 0 ||| ancL M es else ancL M es
theorem ancL_spec {M : List Nat} {i : Nat} : ∀ {es : List Edge}, (ancL M es).testBit i = true → ∃ e ∈ es, Region.binds .any e = true ∧ (e.on = i ∨ (M.getD e.on 0).testBit i = true)
 | [], h => by simp [ancL] at h
 | e :: es, h => by
  simp only [ancL] at h
  split at h
  ·rename_i hb
   simp only [Nat.testBit_or, Bool.or_eq_true, Nat.shiftLeft_eq, Nat.one_mul, Nat.testBit_two_pow, decide_eq_true_eq] at h
   rcases h with (h | h) | h
   ·exact ⟨e, by simp, hb, .inl h⟩
   ·exact ⟨e, by simp, hb, .inr h⟩
   ·obtain ⟨e', h1, h2⟩ := ancL_spec h
    exact ⟨e', by simp [h1], h2⟩
  ·obtain ⟨e', h1, h2⟩ := ancL_spec h
   exact ⟨e', by simp [h1], h2⟩
def ancs : List Oper → List Nat → List Nat
 | [], acc => acc
 | o :: os, acc => ancs os (acc ++ [ancL acc o.after.toList])
def pre (M : List Nat) (i j : Nat) : Bool := (M.getD j 0).testBit i
def statOk (A : Array Oper) (M : List Nat) : Bool :=
 (M.length == A.toList.length) && (List.range A.toList.length).all fun j => match A.toList[j]? with
  | none => true
  | some o => (M.getD j 0 == ancL M o.after.toList) && (o.after.toList.all fun e => !Region.binds .any e || decide (e.on < j)) &&
   (List.range j).all fun i => match A.toList[i]? with
    | none => true
    | some o' => pre M i j || Oper.apart A o' o
def disj (x y : List Nat) : Bool := x.all fun a => !y.contains a
def dynOk (M : List Nat) (T : List (List Nat × List Nat)) : Bool :=
 (List.range T.length).all fun i => match T[i]? with
  | none => true
  | some x => x.2.isEmpty || (List.range T.length).all fun j => i == j || pre M i j || pre M j i || match T[j]? with
   | none => true
   | some y => disj x.2 y.1
def Ev.ids (e : Ev) : List Nat := e.us.map (·.1) ++ (match e.nw with | some _ => e.dst.toList | none => [])
def touch (o : Oper) (s : St) (e : Ev) : List Nat × List Nat := ((o.op.operands.toList.map fun x => (s.ev x).refs).flatten ++ e.ids, e.ids)
def touches : List Oper → St → List Ev → List (List Nat × List Nat)
 | o :: os, s, e :: E => touch o s e :: touches os (s.ap e) E
 | _, _, _ => []
theorem lookU_mem {us : List (Nat × Ob)} {id : Nat} (h : lookU us id ≠ none) : id ∈ us.map (·.1) := by
 induction us with
 | nil => simp [lookU] at h
 | cons p us ih =>
  obtain ⟨k, o⟩ := p
  simp only [lookU] at h
  split at h
  ·rename_i e; simp [e]
  ·simp only [List.map_cons, List.mem_cons]; exact .inr (ih h)
theorem sets_ids {e : Ev} {id : Nat} (h : e.sets id ≠ none) : id ∈ e.ids := by
 unfold Ev.sets at h
 unfold Ev.ids
 by_cases h1 : lookU e.us id = none
 ·rw [h1, Option.none_or] at h
  unfold Ev.new at h
  split at h
  ·rename_i hd
   cases hn : e.nw with
   | none => exact absurd hn h
   | some o => simp [hd]
  ·exact absurd rfl h
 ·exact List.mem_append_left _ (lookU_mem h1)
theorem touches_at {P : Program} {A : Array Oper} {os : List Oper} {s : St} {E : List Ev} (h : Txt P A os s E) (k : Nat) : ∀ (j : Nat) (o : Oper) (e : Ev), os[j]? = some o → E[j]? = some e → (touches os s E)[j]? = some (touch o (play E (upto (k + j)) k s) e) := by
 induction h generalizing k with
 | nil s => intro j o e ho; simp at ho
 | cons o0 os s e E h ht ih =>
  intro j o e' ho he
  cases j with
  | zero =>
   simp at ho he
   subst ho he
   rw [play_off _ _ _ _ fun i hi => by simp [upto]; omega]
   rfl
  | succ j =>
   have := ih (k + 1) j o e' (by simpa using ho) (by simpa using he)
   simp only [touches, List.getElem?_cons_succ, play]
   have h1 : upto (k + (j + 1)) k = true := by simp [upto]
   rw [h1, show k + (j + 1) = k + 1 + j by omega]
   exact this
theorem touches_len {P : Program} {A : Array Oper} {os : List Oper} {s : St} {E : List Ev} (h : Txt P A os s E) : (touches os s E).length = os.length := by
 induction h with
 | nil s => rfl
 | cons o0 os s e E h ht ih => simp [touches, ih]
end Go.Lw
end
section
namespace Go.Lw
section
variable {P : Program} {A : Array Oper} {M : List Nat} {s : St} {E : List Ev}
structure Stat (A : Array Oper) (M : List Nat) : Prop where
 anc : ∀ j o, A[j]? = some o → ∀ i, pre M i j = true → ∃ e ∈ o.after.toList, Region.binds .any e = true ∧ (e.on = i ∨ pre M i e.on = true)
 back : ∀ j o, A[j]? = some o → ∀ e ∈ o.after.toList, Region.binds .any e = true → e.on < j
 apart : ∀ i j o o', i < j → A[j]? = some o → A[i]? = some o' → pre M i j = true ∨ Oper.apart A o' o = true
theorem statOk_spec (h : statOk A M = true) : Stat A M := by
 simp only [statOk, Bool.and_eq_true, List.all_eq_true, List.mem_range, beq_iff_eq] at h
 obtain ⟨hl, h⟩ := h
 have lt : ∀ j o, A[j]? = some o → j < A.toList.length := fun j o hj => by
  have := (Array.getElem?_eq_some_iff.1 hj).1; simpa using this
 refine ⟨fun j o hj i hi => ?_, fun j o hj e he hb => ?_, fun i j o o' hij hj hi => ?_⟩
 ·have := h j (lt j o hj)
  rw [show A.toList[j]? = some o by simpa using hj] at this
  simp only [Bool.and_eq_true, beq_iff_eq] at this
  have h1 := this.1.1
  unfold pre at hi
  rw [h1] at hi
  exact ancL_spec hi
 ·have := h j (lt j o hj)
  rw [show A.toList[j]? = some o by simpa using hj] at this
  simp only [Bool.and_eq_true, List.all_eq_true] at this
  have h1 := this.1.2 e he
  simpa [hb] using h1
 ·have := h j (lt j o hj)
  rw [show A.toList[j]? = some o by simpa using hj] at this
  simp only [Bool.and_eq_true, List.all_eq_true, List.mem_range] at this
  have h1 := this.2 i hij
  rw [show A.toList[i]? = some o' by simpa using hi] at h1
  simpa using h1
theorem Stat.lt (hs : Stat A M) : ∀ j o, A[j]? = some o → ∀ i, pre M i j = true → (∀ k, k < j → ∃ o, A[k]? = some o) → i < j := by
 intro j
 induction j using Nat.strongRecOn with
 | _ j ih =>
  intro o hj i hi hall
  obtain ⟨e, he, hb, h⟩ := hs.anc j o hj i hi
  have hlt := hs.back j o hj e he hb
  rcases h with h | h
  ·omega
  ·obtain ⟨o2, ho2⟩ := hall e.on hlt
   have := ih e.on hlt o2 ho2 i h (fun k hk => hall k (by omega))
   omega
def Closed (A : Array Oper) (m : Nat → Bool) : Prop := ∀ j o, A[j]? = some o → m j = true → ∀ e ∈ o.after.toList, Region.binds .any e = true → m e.on = true
theorem Stat.closed (hs : Stat A M) {m : Nat → Bool} (hc : Closed A m) : ∀ j o, A[j]? = some o → (∀ e ∈ o.after.toList, Region.binds .any e = true → m e.on = true) → ∀ i, pre M i j = true → m i = true := by
 intro j
 induction j using Nat.strongRecOn with
 | _ j ih =>
  intro o hj hm i hi
  obtain ⟨e, he, hb, h⟩ := hs.anc j o hj i hi
  have hlt := hs.back j o hj e he hb
  rcases h with h | h
  ·subst h; exact hm e he hb
  ·have hl : e.on < A.size := by have := (Array.getElem?_eq_some_iff.1 hj).1; omega
   have ho2 : A[e.on]? = some A[e.on] := Array.getElem?_eq_getElem hl
   exact ih e.on hlt _ ho2 (hc _ _ ho2 (hm e he hb)) i h
structure Here (A : Array Oper) (M : List Nat) (s : St) (E : List Ev) (m : Nat → Bool) (j : Nat) (o : Oper) (e : Ev) : Prop where
 slot : ∀ t, t ∈ Oper.looksAt A o → (play E m 0 s).get t = (play E (upto j) 0 s).get t
 obj : ∀ id, id ∈ (touch o (play E (upto j) 0 s) e).1 → (play E m 0 s).obj id = (play E (upto j) 0 s).obj id
theorem getAt {j : Nat} {e : Ev} (ht : Txt P A A.toList s E) (h : E[j]? = some e) : ∃ o, A[j]? = some o ∧ okEv P A o (play E (upto j) 0 s) e := by
 have hl := ht.len
 have hlt : j < A.toList.length := by have := (List.getElem?_eq_some_iff.1 h).1; omega
 have ho : A.toList[j]? = some A.toList[j] := List.getElem?_eq_getElem hlt
 obtain ⟨e', h1, h2⟩ := ht.at_ 0 j _ ho
 rw [Nat.zero_add] at h2
 rw [h] at h1
 cases h1
 exact ⟨_, by simpa using ho, h2⟩
theorem dynOk_spec {T : List (List Nat × List Nat)} (h : dynOk M T = true) {i j : Nat} {x y : List Nat × List Nat} (hi : T[i]? = some x) (hj : T[j]? = some y) (hne : i ≠ j) :
  pre M i j = true ∨ pre M j i = true ∨ ∀ a, a ∈ x.2 → a ∉ y.1 := by
 simp only [dynOk, List.all_eq_true, List.mem_range] at h
 have h1 := h i (List.getElem?_eq_some_iff.1 hi).1
 rw [hi] at h1
 simp only [Bool.or_eq_true] at h1
 rcases h1 with h1 | h1
 ·right; right
  intro a ha
  rw [List.isEmpty_iff] at h1
  rw [h1] at ha
  cases ha
 ·rw [List.all_eq_true] at h1
  have h2 := h1 j (by simpa using (List.getElem?_eq_some_iff.1 hj).1)
  rw [hj] at h2
  simp only [Bool.or_eq_true, beq_iff_eq] at h2
  rcases h2 with ((h2 | h2) | h2) | h2
  ·exact absurd h2 hne
  ·exact .inl h2
  ·exact .inr (.inl h2)
  ·refine .inr (.inr fun a ha hb => ?_)
   simp only [disj, List.all_eq_true] at h2
   have := h2 a ha
   simp [hb] at this
theorem here_of (hs : Stat A M) (ht : Txt P A A.toList s E) (hd : dynOk M (touches A.toList s E) = true) {m : Nat → Bool} (hc : Closed A m) {j : Nat} {o : Oper} {e : Ev} (hj : A[j]? = some o) (he : E[j]? = some e)
  (hun : m j = false) (hpre : ∀ e ∈ o.after.toList, Region.binds .any e = true → m e.on = true) : Here A M s E m j o e := by
 have order : ∀ i, i ≠ j → ∀ o' e', A[i]? = some o' → E[i]? = some e' → (pre M i j = true ∨ pre M j i = true) → m i = decide (i < j) := by
  intro i hne o' e' hi hei h
  have hall : ∀ k, k < A.size → ∃ o, A[k]? = some o := fun k hk => ⟨_, Array.getElem?_eq_getElem hk⟩
  have hjs := (Array.getElem?_eq_some_iff.1 hj).1
  have his := (Array.getElem?_eq_some_iff.1 hi).1
  rcases h with h | h
  ·have := hs.lt j o hj i h (fun k hk => hall k (by omega))
   rw [hs.closed hc j o hj hpre i h]
   simp [this]
  ·have hlt := hs.lt i o' hi j h (fun k hk => hall k (by omega))
   have : m i = false := by
    cases hmi : m i with
    | false => rfl
    | true =>
     have := hs.closed hc i o' hi (hc i o' hi hmi) j h
     rw [hun] at this
     cases this
   rw [this]
   simp; omega
 refine ⟨fun t htl => ?_, fun id hid => ?_⟩
 ·rw [play_get, play_get]
  congr 1
  refine lastF_congr fun i e' hei hf => ?_
  rw [Nat.zero_add]
  by_cases hne : i = j
  ·subst hne; rw [hun]; simp [upto]
  ·obtain ⟨o', hi, hok⟩ := getAt ht hei
   have hdst : o'.dst = some t := by
    rw [← hok.1]
    unfold Ev.gets at hf
    split at hf
    ·assumption
    ·exact absurd rfl hf
   refine order i hne o' e' hi hei ?_
   rcases Nat.lt_or_ge i j with hlt | hge
   ·rcases hs.apart i j o o' hlt hj hi with h | h
    ·exact .inl h
    ·exact absurd htl ((Oper.apart_spec h).1 t hdst)
   ·rcases hs.apart j i o' o (by omega) hi hj with h | h
    ·exact .inr h
    ·exact absurd htl ((Oper.apart_spec h).2.2 t hdst)
 ·rw [play_obj, play_obj]
  congr 1
  refine lastF_congr fun i e' hei hf => ?_
  rw [Nat.zero_add]
  by_cases hne : i = j
  ·subst hne; rw [hun]; simp [upto]
  ·obtain ⟨o', hi, hok⟩ := getAt ht hei
   refine order i hne o' e' hi hei ?_
   have t1 := touches_at ht 0 i o' e' (by simpa using hi) hei
   have t2 := touches_at ht 0 j o e (by simpa using hj) he
   rcases dynOk_spec hd t1 t2 hne with h | h | h
   ·exact .inl h
   ·exact .inr h
   ·rw [Nat.zero_add] at h
    exact absurd (by rw [Nat.zero_add]; exact hid) (h id (by unfold touch; exact sets_ids hf))
theorem same_ins (hs : Stat A M) (ht : Txt P A A.toList s E) (hd : dynOk M (touches A.toList s E) = true) {m m' : Nat → Bool} (hc : Closed A m) {j : Nat} {o : Oper} {e : Ev} (hj : A[j]? = some o) (he : E[j]? = some e)
  (hun : m j = false) (hm : ∀ i, m' i = (m i || i == j)) : ((play E m 0 s).ap e).Same (play E m' 0 s) := by
 have free : ∀ i e', j < i → E[i]? = some e' → m i = true → ∃ o', A[i]? = some o' ∧ e'.dst = o'.dst ∧ pre M j i = false := by
  intro i e' hlt hei hmi
  obtain ⟨o', hi, hok⟩ := getAt ht hei
  refine ⟨o', hi, hok.1, ?_⟩
  cases hp : pre M j i with
  | false => rfl
  | true =>
   have := hs.closed hc i o' hi (hc i o' hi hmi) j hp
   rw [hun] at this
   cases this
 obtain ⟨o2, ho2, hok⟩ := getAt ht he
 rw [hj] at ho2
 cases ho2
 refine ⟨by rw [ap_n, play_n, play_n], fun t => ?_, fun id => ?_⟩
 ·rw [ap_get, play_get, play_get, lastF_ins (f := Ev.gets t) he (m := m) (m' := m') (by intro i; rw [hm, Nat.zero_add]) fun i e' hlt hei hmi => ?_]
  ·cases e.gets t <;> simp
  ·rw [Nat.zero_add] at hmi
   obtain ⟨o', hi, hdst, hp⟩ := free i e' hlt hei hmi
   rcases hs.apart j i o' o hlt hi hj with h | h
   ·rw [hp] at h; cases h
   ·unfold Ev.gets
    by_cases h1 : e.dst = some t
    ·right
     rw [if_neg]
     rw [hdst]
     exact (Oper.apart_spec h).2.1 t (by rw [← hok.1]; exact h1)
    ·left; rw [if_neg h1]
 ·rw [ap_obj, play_obj, play_obj, lastF_ins (f := Ev.sets id) he (m := m) (m' := m') (by intro i; rw [hm, Nat.zero_add]) fun i e' hlt hei hmi => ?_]
  ·rw [Option.or_assoc]
  ·rw [Nat.zero_add] at hmi
   obtain ⟨o', hi, hdst, hp⟩ := free i e' hlt hei hmi
   have t1 := touches_at ht 0 i o' e' (by simpa using hi) hei
   have t2 := touches_at ht 0 j o e (by simpa using hj) he
   have hall : ∀ k, k < A.size → ∃ o, A[k]? = some o := fun k hk => ⟨_, Array.getElem?_eq_getElem hk⟩
   have hjs := (Array.getElem?_eq_some_iff.1 hj).1
   rcases dynOk_spec hd t1 t2 (by omega) with h | h | h
   ·have := hs.lt j o hj i h (fun k hk => hall k (by omega)); omega
   ·rw [hp] at h; cases h
   ·by_cases h1 : e.sets id = none
    ·exact .inl h1
    ·by_cases h2 : e'.sets id = none
     ·exact .inr h2
     ·refine absurd ?_ (h id (by unfold touch; exact sets_ids h2))
      unfold touch
      exact List.mem_append_right _ (sets_ids h1)
end
end Go.Lw
end
section
namespace Go.Lw
def unl (m : Nat → Bool) (n : Nat) : Nat := ((List.range n).filter fun i => !m i).length
theorem unl_zero {m : Nat → Bool} {n : Nat} (h : unl m n = 0) (i : Nat) (hi : i < n) : m i = true := by
 unfold unl at h
 have h1 : (List.range n).filter (fun i => !m i) = [] := List.length_eq_zero_iff.1 h
 rw [List.filter_eq_nil_iff] at h1
 simpa using h1 i (by simpa using hi)
theorem unl_set {m m' : Nat → Bool} {j : Nat} (hm : ∀ i, m' i = (m i || i == j)) (hj : m j = false) : ∀ n, unl m' n + (if j < n then 1 else 0) = unl m n := by
 intro n
 induction n with
 | zero => simp [unl]
 | succ n ih =>
  unfold unl at ih ⊢
  rw [List.range_succ, List.filter_append, List.filter_append, List.length_append, List.length_append]
  by_cases hjn : n = j
  ·subst hjn
   have h1 : m' n = true := by rw [hm]; simp
   simp [h1, hj]
   simpa using ih
  ·have h1 : m' n = m n := by rw [hm]; simp [hjn]
   have h2 : (if j < n + 1 then 1 else 0) = (if j < n then 1 else 0) := by
    by_cases h : j < n
    ·rw [if_pos h, if_pos (by omega)]
    ·rw [if_neg h, if_neg (by omega)]
   simp only [List.filter_cons, List.filter_nil, h1]
   rw [h2]
   omega
section
variable {P : Program} {A : Array Oper} {M : List Nat} {s : St} {E : List Ev} {c : Ctx} {Q : Exit → Act → World → Prop}
theorem any_sound (hs : Stat A M) (ht : Txt P A A.toList s E) (hd : dynOk M (touches A.toList s E) = true)
  (hQ : ∀ a w β, Rel P c (play E (fun _ => true) 0 s) a w β → Q .normal a w) :
  ∀ (fuel : Nat) (listed : Array Bool) (a : Act) (w : World) (β : Nat → Nat), listed.size = A.size → Closed A (fun i => listed.getD i false) → unl (fun i => listed.getD i false) A.size ≤ fuel →
   Rel P c (play E (fun i => listed.getD i false) 0 s) a w β → wpAny P .any A Q fuel listed a w := by
 have done : ∀ (listed : Array Bool) (a : Act) (w : World) (β : Nat → Nat), (∀ i, i < A.size → listed.getD i false = true) → Rel P c (play E (fun i => listed.getD i false) 0 s) a w β → Q .normal a w := by
  intro listed a w β hall hr
  refine hQ a w β (hr.same ⟨by rw [play_n, play_n], fun t => ?_, fun id => ?_⟩)
  ·rw [play_get, play_get]
   congr 1
   refine lastF_congr fun i e he _ => ?_
   have hl := ht.len
   have hi := (List.getElem?_eq_some_iff.1 he).1
   rw [Nat.zero_add]
   exact hall i (by simpa [hl] using hi)
  ·rw [play_obj, play_obj]
   congr 1
   refine lastF_congr fun i e he _ => ?_
   have hl := ht.len
   have hi := (List.getElem?_eq_some_iff.1 he).1
   rw [Nat.zero_add]
   exact hall i (by simpa [hl] using hi)
 have stuck : ∀ (listed : Array Bool), listed.size = A.size → Region.ready .any A listed = [] → ∀ i, i < A.size → listed.getD i false = true := by
  intro listed hsz hr i
  induction i using Nat.strongRecOn with
  | _ i ih =>
   intro hi
   cases hli : listed.getD i false with
   | true => rfl
   | false =>
    exfalso
    have : i ∈ Region.ready .any A listed := by
     rw [mem_ready]
     refine ⟨?_, A[i], Array.getElem?_eq_getElem hi, fun e he hb => ih e.on ?_ ?_⟩
     ·have hli' : i < listed.size := by omega
      simp [Array.getD, hli'] at hli ⊢
      exact hli
     ·exact hs.back i _ (Array.getElem?_eq_getElem hi) e (by simpa using he) hb
     ·have := hs.back i _ (Array.getElem?_eq_getElem hi) e (by simpa using he) hb; omega
    rw [hr] at this
    cases this
 intro fuel
 induction fuel with
 | zero =>
  intro listed a w β hsz hc hu hr
  have hall := fun i hi => unl_zero (Nat.le_zero.1 hu) i hi
  refine ⟨?_, done listed a w β hall hr⟩
  cases hrd : Region.ready .any A listed with
  | nil => rfl
  | cons j js =>
   have hj : j ∈ Region.ready .any A listed := by rw [hrd]; simp
   rw [mem_ready] at hj
   obtain ⟨h1, o, ho, _⟩ := hj
   have hlt := (Array.getElem?_eq_some_iff.1 ho).1
   have h2 := hall j hlt
   simp [Array.getD, hsz, hlt] at h1 h2
   rw [h1] at h2
   cases h2
 | succ fuel ih =>
  intro listed a w β hsz hc hu hr
  refine ⟨fun h0 => done listed a w β (stuck listed hsz h0) hr, fun j hj => ?_⟩
  rw [mem_ready] at hj
  obtain ⟨h1, o, ho, hpre'⟩ := hj
  have hlt := (Array.getElem?_eq_some_iff.1 ho).1
  have hun : listed.getD j false = false := by
   simp [Array.getD, hsz, hlt] at h1 ⊢
   exact h1
  have hpre : ∀ e ∈ o.after.toList, Region.binds .any e = true → listed.getD e.on false = true := fun e he hb => hpre' e (by simpa using he) hb
  obtain ⟨e, he, hok⟩ := ht.at_ 0 j o (by simpa using ho)
  rw [Nat.zero_add] at hok
  have hhere := here_of hs ht hd hc ho he hun hpre
  have hm : ∀ i, (listed.setIfInBounds j true).getD i false = (listed.getD i false || i == j) := by
   intro i
   by_cases hij : i = j
   ·subst hij; simp [Array.getD, hsz, hlt]
   ·rw [getD_set_ne false (Ne.symm hij)]; simp [hij]
  have next : ∀ a' w' β', Rel P c ((play E (fun i => listed.getD i false) 0 s).ap e) a' w' β' → wpAny P .any A Q fuel (listed.setIfInBounds j true) a' w' := by
   intro a' w' β' hr'
   refine ih _ a' w' β' (by simpa using hsz) ?_ ?_ (hr'.same (same_ins hs ht hd hc ho he hun hm))
   ·intro i o' hi hmi e' he' hb
    simp only [hm, Bool.or_eq_true, beq_iff_eq] at hmi ⊢
    rcases hmi with hmi | hmi
    ·exact .inl (hc i o' hi hmi e' he' hb)
    ·subst hmi
     rw [ho] at hi
     cases hi
     exact .inl (hpre e' he' hb)
   ·have := unl_set (m := fun i => listed.getD i false) (m' := fun i => (listed.setIfInBounds j true).getD i false) hm hun A.size
    rw [if_pos hlt] at this
    omega
  -- the operation itself
  have hops : ∀ x ∈ o.op.operands.toList, (play E (fun i => listed.getD i false) 0 s).ev x = (play E (upto j) 0 s).ev x := by
   intro x hx
   cases x with
   | tmp t => exact hhere.slot t (by unfold Oper.looksAt; exact List.mem_append_left _ (List.mem_filterMap.2 ⟨_, hx, rfl⟩))
   | _ => rfl
  have hagree : ∀ x ∈ o.op.operands.toList, Agree (play E (upto j) 0 s).obj (play E (fun i => listed.getD i false) 0 s).obj ((play E (upto j) 0 s).ev x) := by
   intro x hx id hid
   refine hhere.obj id ?_
   unfold touch
   refine List.mem_append_left _ (List.mem_flatten.2 ⟨_, List.mem_map.2 ⟨x, hx, rfl⟩, hid⟩)
  have hstep := stepF_congr (P := P) (dst := o.dst) (op := o.op) hops hagree
  obtain ⟨hdst, hdin, hrun⟩ := hok
  have hwants : wants A (play E (fun i => listed.getD i false) 0 s) o = wants A (play E (upto j) 0 s) o := by
   unfold wants
   cases hg : o.guard with
   | none => rfl
   | some gd =>
    simp only
    cases hgs : gslot A gd.1 with
    | none => rfl
    | some t =>
     simp only
     rw [hhere.slot t (by
      unfold Oper.looksAt
      refine List.mem_append_right _ ?_
      obtain ⟨g1, g2⟩ := gd
      unfold gslot at hgs
      rw [hg]
      simp [hgs])]
  have wanted : ∀ b, wants A (play E (fun i => listed.getD i false) 0 s) o = some b → Region.wanted o (yielded A a.tmps) = b := by
   intro b hb
   unfold wants at hb
   cases hg : o.guard with
   | none => rw [hg] at hb; simp at hb; subst hb; simp [Region.wanted, hg]
   | some gd =>
    obtain ⟨g1, g2⟩ := gd
    rw [hg] at hb
    simp only at hb
    cases hgs : gslot A g1 with
    | none => rw [hgs] at hb; cases hb
    | some t =>
     rw [hgs] at hb
     simp only at hb
     cases hn : ((play E (fun i => listed.getD i false) 0 s).get t).norm with
     | i y =>
      rw [hn] at hb
      cases y with
      | bool v =>
       simp at hb
       rw [wanted_of hr hg hgs hn (get_lt hr hn)]
       exact hb
      | _ => cases hb
     | _ => rw [hn] at hb; cases hb
  have hn : (play E (fun i => listed.getD i false) 0 s).n = (play E (upto j) 0 s).n := by rw [play_n, play_n]
  unfold wpOp
  rw [ho]
  simp only
  rcases hrun with ⟨hw, hrun⟩ | ⟨hw, hd1, hu1, hn1⟩
  ·rw [if_pos (wanted true (by rw [hwants, hw]))]
   left
   have haop : aop P o (play E (fun i => listed.getD i false) 0 s) (fun s' => s' = (play E (fun i => listed.getD i false) 0 s).ap e) := by
    refine stepF_sound ?_
    rw [hstep]
    unfold runs at hrun
    rcases hrun with ⟨p, h1, h2, h3⟩ | ⟨F, args, h1, h2, h3, h4, h5⟩
    ·rw [h1]
     refine ⟨h2, ?_, by rw [hn]; exact hdin, by rw [← hdst]; rfl⟩
     unfold laid at h3 ⊢
     cases hnw : e.nw with
     | none => simp
     | some o' =>
      cases hod : o.dst with
      | none => simp
      | some id =>
       rw [hnw, hod] at h3
       simp only at h3 ⊢
       rw [hhere.obj id ?_, h3]
       unfold touch
       refine List.mem_append_right _ ?_
       unfold Ev.ids
       rw [hnw, hdst, hod]
       simp
    ·rw [h1]
     refine ⟨h2, .ac h3 (dstIn_of (by rw [hn]; exact hdin)) ?_⟩
     rw [← hdst, St.ap, h4, h5]
   refine Oper.wp_mono (fun a' w' ⟨s', β', hr', hs'⟩ => ?_) (aop_wp hr haop)
   subst hs'
   exact next a' w' β' hr'
  ·rw [if_neg (by rw [wanted false (by rw [hwants, hw])]; simp)]
   refine next _ _ β ?_
   have := hr.skip (dst := o.dst) (dstIn_of (by rw [hn]; exact hdin)) undef
   rw [St.ap, hdst, hd1, hu1, hn1]
   exact this
end
end Go.Lw
end
section
namespace Go.Lw
section
variable (P : Program) (Q : Exit → St → Prop) (k : List Kt) (A : Array Oper) (M : List Nat)
def goD : List Oper → List (List Nat × List Nat) → St → Prop
 | [], T, s => dynOk M T = true ∧ go P Q k s
 | o :: os, T, s => dstIn o.dst s.n ∧ ∃ b, wants A s o = some b ∧
     (b = true → (match stepF P o.dst s.ev s.obj o.op with
      | .no => False
      | .ok p d us nw => p ∧ laid o.dst s nw ∧ goD os (T ++ [touch o s ⟨o.dst, d, us, nw⟩]) (s.app o.dst d us nw)
      | .call F args => hasBody P F = true ∧ ∃ r, AC P F args r ∧ goD os (T ++ [touch o s ⟨o.dst, r, [], none⟩]) (s.app o.dst r [] none)
      | .unk _ _ => False)) ∧
     (b = false → goD os (T ++ [touch o s ⟨o.dst, .any, [], none⟩]) (s.app o.dst .any [] none))
theorem goD_txt : ∀ (os : List Oper) (T : List (List Nat × List Nat)) (s : St), goD P Q k A M os T s → ∃ E, Txt P A os s E ∧ dynOk M (T ++ touches os s E) = true ∧ ∀ j, go P Q k (play E (fun _ => true) j s)
 | [], T, s, h => ⟨[], .nil s, by simpa [touches] using h.1, fun _ => h.2⟩
 | o :: os, T, s, h => by
  obtain ⟨hd, b, hb, h1, h2⟩ := h
  have fin : ∀ e : Ev, okEv P A o s e → goD P Q k A M os (T ++ [touch o s e]) (s.ap e) → ∃ E, Txt P A (o :: os) s E ∧ dynOk M (T ++ touches (o :: os) s E) = true ∧ ∀ j, go P Q k (play E (fun _ => true) j s) := by
   intro e hok h
   obtain ⟨E, a1, a2, a3⟩ := goD_txt os _ _ h
   refine ⟨e :: E, .cons o os s e E hok a1, ?_, fun j => ?_⟩
   ·simpa [touches] using a2
   ·simp only [play, if_true]; exact a3 (j + 1)
  cases b with
  | true =>
   have h1 := h1 rfl
   split at h1
   ·exact h1.elim
   ·rename_i p d us nw hst
    exact fin ⟨o.dst, d, us, nw⟩ ⟨rfl, hd, .inl ⟨hb, .inl ⟨p, hst, h1.1, h1.2.1⟩⟩⟩ h1.2.2
   ·rename_i F args hst
    obtain ⟨a1, r, a2, a3⟩ := h1
    exact fin ⟨o.dst, r, [], none⟩ ⟨rfl, hd, .inl ⟨hb, .inr ⟨F, args, hst, a1, a2, rfl, rfl⟩⟩⟩ a3
   ·exact h1.elim
  | false => exact fin ⟨o.dst, .any, [], none⟩ ⟨rfl, hd, .inr ⟨hb, rfl, rfl, rfl⟩⟩ (h2 rfl)
end
theorem Rel.drawn {P : Program} {c : Ctx} {s : St} {a : Act} {w w' : World} {β : Nat → Nat} (h : Rel P c s a w β) (hh : w'.heap = w.heap) (ho : w'.os = w.os) (ht : w'.tape = w.tape) (hp : w'.output = w.output) : Rel P c s a w' β := by
 have hk : Keeps (c.g w β s.obj) (c.g w' β s.obj) := ⟨by show w.heap.size ≤ w'.heap.size; rw [hh]; exact Nat.le_refl _, fun b _ _ => by show w'.heap[b]? = w.heap[b]?; rw [hh], fun _ _ h => h, fun id o h1 => ⟨o, true, h1, .refl o, fun _ => rfl, fun _ cur E h2 => ⟨cur, by show w'.heap[_]? = _; rw [hh]; exact h2, rfl⟩⟩⟩
 have hm := h.mem
 refine ⟨⟨by rw [hh]; exact hm.size, ho.trans hm.os, ht.trans hm.tape, hp.trans hm.output, fun b hb hl => by rw [hh]; exact hm.frame b hb hl, hm.mlt, fun id o h1 => ?_, hm.inj, fun id o h1 => by rw [hh]; exact hm.lt id o h1, hm.mine⟩, h.defers, h.size, fun t => (h.slot t).keeps hk⟩
 exact (hm.obs id o h1).keeps hk rfl (by show w'.heap[_]? = w.heap[_]?; rw [hh])
theorem go_drawn {P : Program} {Q : Exit → St → Prop} {k : List Kt} {A : Array Oper} {id : Nat} {s : St} (hm : P.follows .mixedOrders = true) (hst : statOk A (ancs A.toList []) = true)
  (h : goD P Q k A (ancs A.toList []) A.toList [] s) : go P Q (.code (.region id A true) :: k) s := by
 obtain ⟨E, h1, h2, h3⟩ := goD_txt P Q k A _ _ _ _ h
 have h3 := go_sound _ _ _ (Nat.le_refl _) (h3 0)
 rw [go]
 show Aw P (.region id A true) _ s
 intro c a w β hr
 refine wp_region_any hm ?_
 refine any_sound (c := c) (statOk_spec hst) h1 (by simpa using h2) (fun a w β hr' => ⟨_, β, hr', h3⟩) A.size _ a _ β (by simp) ?_ ?_ ?_
 ·intro j o ho hj
  exfalso
  have hlt := (Array.getElem?_eq_some_iff.1 ho).1
  simp [Array.getD, hlt] at hj
 ·unfold unl
  have := List.length_filter_le (fun i => !(Array.replicate A.size false).getD i false) (List.range A.size)
  simpa using this
 ·rw [play_off]
  ·exact hr.drawn rfl rfl rfl rfl
  ·intro i _
   rcases Nat.lt_or_ge i A.size with h | h <;> simp [Array.getD, h]
section
variable (P : Program) (Q : Exit → St → Prop) (k : List Kt) (A : Array Oper) (M : List Nat) (os : List Oper) (T : List (List Nat × List Nat))
def aftD (o : Oper) (s : St) : Sr → Prop
 | .no => False
 | .ok p d us nw => p ∧ laid o.dst s nw ∧ goD P Q k A M os (T ++ [touch o s ⟨o.dst, d, us, nw⟩]) (s.app o.dst d us nw)
 | .call F args => hasBody P F = true ∧ ∃ r, AC P F args r ∧ goD P Q k A M os (T ++ [touch o s ⟨o.dst, r, [], none⟩]) (s.app o.dst r [] none)
 | .unk _ _ => False
def skipD (o : Oper) (s : St) : Prop := goD P Q k A M os (T ++ [touch o s ⟨o.dst, .any, [], none⟩]) (s.app o.dst .any [] none)
def runD (o : Oper) (s : St) : Prop := aftD P Q k A M os T o s (stepF P o.dst s.ev s.obj o.op)
def kbD (o : Oper) (s : St) : Bool → Prop
 | true => runD P Q k A M os T o s
 | false => skipD P Q k A M os T o s
def boolD (o : Oper) (want : Bool) (s : St) : I → Prop
 | .bool b => (b = want → runD P Q k A M os T o s) ∧ (b = !want → skipD P Q k A M os T o s)
 | _ => False
def valD (o : Oper) (want : Bool) (s : St) : D → Prop
 | .kb b => kbD P Q k A M os T o s (b == want)
 | .i y => boolD P Q k A M os T o want s y
 | _ => False
def grdD (o : Oper) (want : Bool) (s : St) : Option Nat → Prop
 | none => False
 | some t => valD P Q k A M os T o want s (s.get t)
variable {P Q k A M os T} {s : St}
theorem goD_nil : goD P Q k A M [] T s = (dynOk M T = true ∧ go P Q k s) := rfl
theorem run_eq (o : Oper) : (match stepF P o.dst s.ev s.obj o.op with
        | .no => False
        | .ok p d us nw => p ∧ laid o.dst s nw ∧ goD P Q k A M os (T ++ [touch o s ⟨o.dst, d, us, nw⟩]) (s.app o.dst d us nw)
        | .call F args => hasBody P F = true ∧ ∃ r, AC P F args r ∧ goD P Q k A M os (T ++ [touch o s ⟨o.dst, r, [], none⟩]) (s.app o.dst r [] none)
        | .unk _ _ => False) = runD P Q k A M os T o s := by
 unfold runD
 generalize stepF P o.dst s.ev s.obj o.op = r
 cases r <;> rfl
theorem goD_opF (dst : Option Nat) (op : Op) (type : TypeId) (pos : String) (after : Array Edge) : goD P Q k A M (⟨dst, op, type, pos, after, none⟩ :: os) T s = (dstIn dst s.n ∧ runD P Q k A M os T ⟨dst, op, type, pos, after, none⟩ s) := by
 rw [goD, run_eq]
 simp [wants]
theorem goD_opgF (dst : Option Nat) (op : Op) (type : TypeId) (pos : String) (after : Array Edge) (j : Nat) (want : Bool) :
  goD P Q k A M (⟨dst, op, type, pos, after, some (j, want)⟩ :: os) T s = (dstIn dst s.n ∧ grdD P Q k A M os T ⟨dst, op, type, pos, after, none⟩ want s (gslot A j)) := by
 rw [goD, run_eq]
 have e1 : runD P Q k A M os T ⟨dst, op, type, pos, after, some (j, want)⟩ s = runD P Q k A M os T ⟨dst, op, type, pos, after, none⟩ s := by
  unfold runD
  generalize stepF P _ s.ev s.obj _ = r
  cases r <;> rfl
 have e2 : goD P Q k A M os (T ++ [touch ⟨dst, op, type, pos, after, some (j, want)⟩ s ⟨dst, .any, [], none⟩]) (s.app dst .any [] none) = skipD P Q k A M os T ⟨dst, op, type, pos, after, none⟩ s := rfl
 rw [e1]
 simp only [e2, wants]
 generalize hX : runD P Q k A M os T ⟨dst, op, type, pos, after, none⟩ s = X
 generalize gslot A j = gs
 congr 1
 cases gs with
 | none => simp [grdD]
 | some t =>
  simp only [grdD]
  generalize s.get t = d
  cases d with
  | kb b => cases b <;> cases want <;> simp [valD, D.norm, kbD, hX]
  | i y =>
   simp only [valD, D.norm]
   cases y with
   | bool b => cases b <;> cases want <;> simp [boolD, hX]
   | _ => simp [boolD, hX]
  | _ => simp [valD, D.norm]
end
theorem retQ_ret {P : Program} {rs : List ResultVar} {r : D} {s : St} : retQ P rs r .ret s = (retD P rs s = some r) := rfl
theorem retQ_normal {P : Program} {rs : List ResultVar} {r : D} {s : St} : retQ P rs r .normal s = (retD P rs s = some r) := rfl
end Go.Lw
end
section
namespace Go.Lw
def frozen (q : Nat → Option Ob) (S : List Nat) : Nat → Option Ob := fun id => if S.contains id then q id else none
def left (q : Nat → Option Ob) (S : List Nat) : Nat → Bool := fun id => (q id).isSome && !S.contains id
def frzOr (x : Option I) : D := match x with
 | some x => .i x
 | none => .any
def frzD (q : Nat → Option Ob) (S : List Nat) (d : D) : D := match d.ok (left q S) with
 | true => d
 | false => frzOr (settle (frozen q S) 8 d)
def frzC (q : Nat → Option Ob) (S : List Nat) (d : D) : D := match d.ok1 (left q S) with
 | true => d
 | false => frzOr (settle (frozen q S) 8 d)
def frzO (q : Nat → Option Ob) (S : List Nat) (o : Ob) : Ob := match o with
 | .var T cs => .var T (cs.map (frzC q S))
 | .arrd E ver xs => .arrd E ver (xs.map (frzC q S))
 | o => o
def frzP (q : Nat → Option Ob) (S : List Nat) (p : Nat × Option Ob) : Nat × Option Ob := (p.1, match S.contains p.1 with
 | true => none
 | false => match p.2 with
  | some o => some (frzO q S o)
  | none => none)
def St.frz (S : List Nat) (s : St) : St := ⟨s.n, s.sl.map fun p => (p.1, frzD s.obj S p.2), s.ob.map (frzP s.obj S)⟩
theorem frz_get (S : List Nat) (s : St) (t : Nat) : (s.frz S).get t = frzD s.obj S (s.get t) := by
 unfold St.frz St.get
 simp only
 generalize s.obj = q
 induction s.sl with
 | nil => rfl
 | cons p l ih =>
  obtain ⟨k, d⟩ := p
  simp only [List.map_cons, look]
  split
  ·rfl
  ·exact ih
theorem frz_look (q : Nat → Option Ob) (S : List Nat) (id : Nat) (l : List (Nat × Option Ob)) : lookO (l.map (frzP q S)) id = match S.contains id with
 | true => none
 | false => (lookO l id).map (frzO q S) := by
 induction l with
 | nil => cases h : S.contains id <;> rfl
 | cons p l ih =>
  obtain ⟨k, o⟩ := p
  simp only [List.map_cons, lookO, frzP]
  split
  ·rename_i e
   subst e
   cases S.contains id <;> cases o <;> rfl
  ·exact ih
theorem frz_obj (S : List Nat) (s : St) (id : Nat) : (s.frz S).obj id = match S.contains id with
 | true => none
 | false => (s.obj id).map (frzO s.obj S) := frz_look s.obj S id s.ob
theorem frz_ob_sub {S : List Nat} {s : St} {id : Nat} {o : Ob} (h : (s.frz S).obj id = some o) : ∃ o', s.obj id = some o' ∧ o = frzO s.obj S o' ∧ S.contains id = false := by
 rw [frz_obj] at h
 cases hc : S.contains id with
 | true => rw [hc] at h; cases h
 | false =>
  rw [hc] at h
  obtain ⟨o', h1, h2⟩ := Option.map_eq_some_iff.1 h
  exact ⟨o', h1, h2.symm, rfl⟩
theorem frz_left {S : List Nat} {s : St} {id : Nat} : ((s.frz S).obj id).isSome = left s.obj S id := by
 rw [frz_obj]
 unfold left
 cases S.contains id <;> simp
section
variable {P : Program} {c : Ctx} {s : St} {w : World} {β : Nat → Nat} {S : List Nat}
theorem VD.frz0 {g g' : G} (hw : g'.w = g.w) (hβ : g'.β = g.β) (hF : ∀ b, g'.F b → g.F b) {q : Nat → Bool} (hob : ∀ id o, g.ob id = some o → q id = true → ∃ o', g'.ob id = some o' ∧ (match o with
  | .var T cs => ∃ cs', o' = .var T cs'
  | .arrd E ver xs => ∃ xs', o' = .arrd E ver xs' ∧ xs'.length = xs.length
  | o => o' = o)) {d : D} {v : Value} (hv : VD P g d v) (hok : d.ok0 q = true) : VD P g' d v := by
 cases hv with
 | any => exact .any _
 | i x v hx => exact .i _ _ (by rw [hw]; exact hx.mono (Nat.le_refl _) (fun _ _ _ => rfl) fun b _ hb => hF b hb)
 | nils A => exact .nils A
 | kb b => exact .kb b
 | own id ver off len cap E xs cur ho hl hc hb hcap hm =>
  obtain ⟨o', h1, h2⟩ := hob _ _ ho hok
  subst h2
  rw [← hβ]; exact .own id ver off len cap E xs cur h1 hl hc (by rw [hβ, hw]; exact hb) hcap hm
 | ownd id ver off len cap E xs ho hl hc =>
  obtain ⟨o', h1, xs', h2, h3⟩ := hob _ _ ho hok
  subst h2
  rw [← hβ]; exact .ownd id ver off len cap E xs' h1 (by omega) hc
 | ownStale id ver ver' off len E xs v ho hlt hv =>
  obtain ⟨o', h1, h2⟩ := hob _ _ ho hok
  subst h2
  exact .ownStale id ver ver' off len E xs v h1 hlt hv
 | loc id c T cs ho =>
  obtain ⟨o', h1, cs', h2⟩ := hob _ _ ho hok
  subst h2
  rw [← hβ]; exact .loc id c T cs' h1
 | el id ver idx off E xs ho hi =>
  obtain ⟨o', h1, h2⟩ := hob _ _ ho hok
  subst h2
  rw [← hβ]; exact .el id ver idx off E xs h1 hi
 | eld id ver idx off E xs ho hi =>
  obtain ⟨o', h1, xs', h2, h3⟩ := hob _ _ ho hok
  subst h2
  rw [← hβ]; exact .eld id ver idx off E xs' h1 (by omega)
 | elStale id ver ver' idx off E xs v ho hlt hv =>
  obtain ⟨o', h1, h2⟩ := hob _ _ ho hok
  subst h2
  exact .elStale id ver ver' idx off E xs v h1 hlt hv
 | lmap id es ho =>
  obtain ⟨o', h1, h2⟩ := hob _ _ ho hok
  subst h2
  rw [← hβ]; exact .lmap id es h1
 | it id s pos ho =>
  obtain ⟨o', h1, h2⟩ := hob _ _ ho hok
  subst h2
  rw [← hβ]; exact .it id s pos h1
 | _ => cases hok
theorem VD.frz1 {g g' : G} {q : Nat → Bool} (h0 : ∀ d v, VD P g d v → d.ok0 q = true → VD P g' d v) {d : D} {v : Value} (hv : VD P g d v) (hok : d.ok1 q = true) : VD P g' d v := by
 cases d with
 | agg xs => cases hv with
  | agg _ vs hl hh h1 => exact .agg xs vs hl (fun j x v hx hv => h0 _ _ (hh j x v hx hv) (List.all_eq_true.1 hok x (List.mem_of_getElem? hx))) h1
 | fn f xs => cases hv with
  | fn _ _ vs hl hh => exact .fn f xs vs hl (fun j x v hx hv => h0 _ _ (hh j x v hx hv) (List.all_eq_true.1 hok x (List.mem_of_getElem? hx)))
 | tup xs => cases hok
 | _ => exact h0 _ _ hv hok
theorem VD.frz2 {g g' : G} {q : Nat → Bool} (h0 : ∀ d v, VD P g d v → d.ok0 q = true → VD P g' d v) {d : D} {v : Value} (hv : VD P g d v) (hok : d.ok q = true) : VD P g' d v := by
 cases d with
 | tup xs => cases hv with
  | tup _ vs hl hh => exact .tup xs vs hl (fun j x v hx hv => (hh j x v hx hv).frz1 h0 (List.all_eq_true.1 hok x (List.mem_of_getElem? hx)))
 | _ => exact hv.frz1 h0 hok
theorem frz_all (S : List Nat) (hm : Mem P c s.obj w β) : (∀ b, (c.g w β (s.frz S).obj).F b → (c.g w β s.obj).F b) ∧ (∀ d v, VD P (c.g w β s.obj) d v → VD P (c.g w β (s.frz S).obj) (frzD s.obj S d) v) ∧
  (∀ d v, VD P (c.g w β s.obj) d v → VD P (c.g w β (s.frz S).obj) (frzC s.obj S d) v) := by
 have hFs : ∀ b, (c.g w β (s.frz S).obj).F b → (c.g w β s.obj).F b := fun b hb => by
  rcases hb with hb | ⟨i, o, h1, h2⟩
  ·exact .inl hb
  ·obtain ⟨o', h3, _⟩ := frz_ob_sub h1
   exact .inr ⟨i, o', h3, h2⟩
 have h0 : ∀ d v, VD P (c.g w β s.obj) d v → d.ok0 (left s.obj S) = true → VD P (c.g w β (s.frz S).obj) d v := fun d v hv hok => by
  refine VD.frz0 (g := c.g w β s.obj) (g' := c.g w β (s.frz S).obj) rfl rfl hFs (q := left s.obj S) (fun id o ho hl => ?_) hv hok
  refine ⟨frzO s.obj S o, ?_, ?_⟩
  ·show (s.frz S).obj id = _
   rw [frz_obj]
   have ho' : s.obj id = some o := ho
   unfold left at hl
   simp only [Bool.and_eq_true, Bool.not_eq_true'] at hl
   rw [hl.2, ho']
   rfl
  ·cases o with
   | var T cs => exact ⟨_, rfl⟩
   | arrd E ver xs => exact ⟨_, rfl, by simp⟩
   | _ => rfl
 have hset : ∀ d v x, VD P (c.g w β s.obj) d v → settle (frozen s.obj S) 8 d = some x → V P w (c.g w β (s.frz S).obj).F x v := fun d v x hv hs =>
  settle_VS hm hFs (q := frozen s.obj S) (fun id o ho => by unfold frozen at ho; split at ho; exact ho; cases ho) (fun id o ho hF => by
   unfold frozen at ho
   split at ho
   ·rename_i hc
    rcases hF with hF | ⟨i, o', h1, h2⟩
    ·have := hm.mlt _ hF
     rcases hm.mine id o ho with h3 | h3
     ·omega
     ·exact this.2 h3
    ·obtain ⟨o2, h3, _, h4⟩ := frz_ob_sub h1
     have := hm.inj i id o2 o h3 ho h2
     subst this
     rw [hc] at h4
     cases h4
   ·cases ho) 8 d v x hv hs
 have hor : ∀ d v, VD P (c.g w β s.obj) d v → VD P (c.g w β (s.frz S).obj) (frzOr (settle (frozen s.obj S) 8 d)) v := fun d v hv => by
  cases hs : settle (frozen s.obj S) 8 d with
  | none => exact .any v
  | some x => exact .i x v (hset d v x hv hs)
 have hD : ∀ d v, VD P (c.g w β s.obj) d v → VD P (c.g w β (s.frz S).obj) (frzD s.obj S d) v := fun d v hv => by
  unfold frzD
  split
  ·rename_i hok; exact hv.frz2 h0 hok
  ·exact hor d v hv
 have hC : ∀ d v, VD P (c.g w β s.obj) d v → VD P (c.g w β (s.frz S).obj) (frzC s.obj S d) v := fun d v hv => by
  unfold frzC
  split
  ·rename_i hok; exact hv.frz1 h0 hok
  ·exact hor d v hv
 exact ⟨hFs, hD, hC⟩
theorem Rel.frz {a : Act} (S : List Nat) (h : Rel P c s a w β) : Rel P c (s.frz S) a w β := by
 have hm := h.mem
 obtain ⟨hFs, hD, hC⟩ := frz_all S hm
 have sub : ∀ id o, (s.frz S).obj id = some o → ∃ o', s.obj id = some o' ∧ o = frzO s.obj S o' := fun id o ho => by
  obtain ⟨o', h1, h2, _⟩ := frz_ob_sub ho; exact ⟨o', h1, h2⟩
 refine ⟨⟨hm.size, hm.os, hm.tape, hm.output, hm.frame, hm.mlt, fun id o ho => ?_, fun id id' o o' h1 h2 hb => ?_, fun id o ho => ?_, fun id o ho => ?_⟩, h.defers, h.size, fun t => by rw [frz_get]; exact hD _ _ (h.slot t)⟩
 ·obtain ⟨o', h1, h2⟩ := sub id o ho
  have hr := hm.obs id o' h1
  subst h2
  cases hr with
  | var T cs vs hb hl hh hlv =>
   refine .var T (cs.map (frzC s.obj S)) vs hb (by simp [hl]) (fun j x v hx hv => ?_) hlv
   simp only [List.getElem?_map, Option.map_eq_some_iff] at hx
   obtain ⟨x0, hx0, rfl⟩ := hx
   exact hC _ _ (hh j x0 v hx0 hv)
  | arr E ver xs cur us hb hl ht hh hs hmm => exact .arr E ver xs cur us hb hl ht (fun j x u hx hu => (hh j x u hx hu).mono (Nat.le_refl _) (fun _ _ _ => rfl) fun b _ hb => hFs b hb) hs hmm
  | arrd E ver xs cur us hb hl ht hh hs hmm =>
   refine .arrd E ver (xs.map (frzC s.obj S)) cur us hb (by simp [hl]) (by simpa using ht) (fun j x u hx hu => ?_) hs hmm
   simp only [List.getElem?_map, Option.map_eq_some_iff] at hx
   obtain ⟨x0, hx0, rfl⟩ := hx
   exact hC _ _ (hh j x0 u hx0 hu)
  | map es ms clock hr hl hk hv => exact .map es ms clock hr hl (fun j e m a b => (hk j e m a b).mono (Nat.le_refl _) (fun _ _ _ => rfl) fun b _ hb => hFs b hb) (fun j e m a b => (hv j e m a b).mono (Nat.le_refl _) (fun _ _ _ => rfl) fun b _ hb => hFs b hb)
  | strit s pos hr => exact .strit s pos hr
 ·obtain ⟨o1, h3, _⟩ := sub id o h1
  obtain ⟨o2, h4, _⟩ := sub id' o' h2
  exact hm.inj id id' o1 o2 h3 h4 hb
 ·obtain ⟨o1, h3, _⟩ := sub id o ho; exact hm.lt id o1 h3
 ·obtain ⟨o1, h3, _⟩ := sub id o ho; exact hm.mine id o1 h3
theorem CallOk.frz {F : FuncId} {args : List D} {dst : Option Nat} {K : St → Prop} (S : List Nat) (h : CallOk P F (args.map (frzD s.obj S)) dst (s.frz S) K) : CallOk P F args dst s K := by
 intro c a w β vs hr zz
 have hr' := hr.frz S
 refine h c a w β vs hr' ⟨by have := zz.len; simpa using this, fun j x v hx hv => ?_⟩
 simp only [List.getElem?_map, Option.map_eq_some_iff] at hx
 obtain ⟨x0, hx0, rfl⟩ := hx
 exact (frz_all S hr.mem).2.1 _ _ (zz.at_ j x0 v hx0 hv)
theorem Aw.frz {x : Code} {Q : Exit → St → Prop} (S : List Nat) (h : Aw P x Q (s.frz S)) : Aw P x Q s := fun c a w β hr => h c a w β (hr.frz S)
theorem aop_frz {o : Oper} {K : St → Prop} (S : List Nat) (h : aop P o (s.frz S) K) : aop P o s K := fun c a w β Q hr => h c a w β Q (hr.frz S)
end
end Go.Lw
end
section
namespace Go.Lw
def Fresh (P : Program) (w w' : World) (F : Nat → Prop) (E : TypeId) (xs : List I) (v : Value) : Prop :=
 ∃ (b cap : Nat) (cur : Array Value) (us : List Value), v = .slice (some ⟨b, 0, none⟩) xs.length cap ∧ w.heap.size ≤ b ∧ b < w'.heap.size ∧ w'.heap[b]? = some (.cells cur E (0, 0)) ∧ us.length = xs.length ∧ xs.length ≤ top ∧ xs.length ≤ cap ∧
  cap * P.cellsOf E ≤ cur.size ∧ cap ≤ maxLen ∧ (∀ (j : Nat) (x : I) (u : Value), xs[j]? = some x → us[j]? = some u → V P w' (fun y => F y ∨ y = b) x u) ∧
  (∀ (j : Nat) (u : Value), us[j]? = some u → u.cells.size = P.cellsOf E) ∧
  (∀ (j : Nat) (u : Value) (m : Nat) (c : Value), us[j]? = some u → u.cells[m]? = some c → cur[j * P.cellsOf E + m]? = some c)
def ACo (P : Program) (f : FuncId) (args : List D) (E : TypeId) (xs : List I) : Prop :=
 ∀ (g : G) (vs : List Value), (∀ id o, g.ob id = some o → g.β id < g.w.heap.size) → (∀ b, g.F b → b < g.w.heap.size) → Z (VD P g) args vs →
  Calls P f vs.toArray g.w fun e w' => ∃ v, e = .returned v ∧ Fresh P g.w w' g.F E xs v ∧
   g.w.heap.size ≤ w'.heap.size ∧ w'.os = g.w.os ∧ w'.tape = g.w.tape ∧ w'.output = g.w.output ∧ ∀ b, b < g.w.heap.size → w'.heap[b]? = g.w.heap[b]?
theorem CallOk.aco {P : Program} {F : FuncId} {args : List D} {id : Nat} {s : St} {K : St → Prop} {E : TypeId} {xs : List I} (hc : ACo P F args E xs) (hd : id < s.n) (hid : s.obj id = none)
  (hk : K (s.app (some id) (.own id 0 0 xs.length) [] (some (.arr E 0 xs)))) : CallOk P F args (some id) s K := by
 intro c a w β vs h zz
 have hm := h.mem
 refine Calls.mono (hc (c.g w β s.obj) _ (fun id o ho => hm.lt id o ho) (fun b hb => by
  rcases hb with hb | ⟨i, o', h1, h2⟩
  ·exact Nat.lt_of_lt_of_le (hm.mlt b hb).1 hm.size
  ·exact h2 ▸ hm.lt i o' h1) zz) fun e w' he => ?_
 obtain ⟨v, rfl, ⟨b, cap, cur, us, rfl, f1, f2, f3, f4, f5, f6, f7, f8, f9, f10, f11⟩, h1, h2, h3, h4, h5⟩ := he
 have hsz : w.heap.size ≤ w'.heap.size := h1
 have hbk : ∀ x, x < w.heap.size → w'.heap[x]? = w.heap[x]? := h5
 have f1 : w.heap.size ≤ b := f1
 let o : Ob := .arr E 0 xs
 have hob : (s.app (some id) (.own id 0 0 xs.length) [] (some o)).obj = upd s.obj id (some o) := by
  funext i
  simp only [St.app, St.obj, putOb, List.map_nil, List.nil_append, lookO, upd]
 have hk2 : Keeps (c.g w β s.obj) (c.g w' (upd β id b) (upd s.obj id (some o))) := by
  refine ⟨hsz, fun x h1 _ => hbk x h1, fun x h1 h2 => ?_, fun i o1 h1 => ?_⟩
  ·rcases h2 with h2 | h2
   ·exact .inl h2
   ·rcases live_upd_new h2 with h3 | h3
    ·simp only [Ctx.g] at h1; omega
    ·exact .inr h3
  ·have hne : i ≠ id := fun e => by subst e; rw [show (c.g w β s.obj).ob i = s.obj i from rfl, hid] at h1; cases h1
   refine ⟨o1, true, by simp [Ctx.g, upd_ne _ _ hne]; exact h1, .refl o1, fun _ => by simp [Ctx.g, upd_ne _ _ hne], fun _ cur E h2 => ⟨cur, ?_, rfl⟩⟩
   simp only [Ctx.g, upd_ne _ _ hne] at h2 ⊢
   rw [← h2]; exact hbk _ (hm.lt i o1 h1)
 have hF : ∀ x, (c.g w' (upd β id b) (upd s.obj id (some o))).F x → (c.g w β s.obj).F x ∨ x = b := fun x hx => by
  rcases hx with hx | hx
  ·exact .inl (.inl hx)
  ·rcases live_upd_new hx with h3 | h3
   ·exact .inr h3
   ·exact .inl (.inr h3)
 have hr : ObRel P (c.g w' (upd β id b) (upd s.obj id (some o))) id o := by
  refine .arr E 0 xs cur us (by show w'.heap[upd β id b id]? = _; rw [upd_same]; exact f3) f4 f5 (fun j x u hx hu => ?_) f10 f11
  exact (f9 j x u hx hu).mono (Nat.le_refl _) (fun _ _ _ => rfl) (fun y _ hy => hF y hy)
 have hmem : Mem P c (upd s.obj id (some o)) w' (upd β id b) := by
  refine ⟨Nat.le_trans hm.size hsz, h2.trans hm.os, h3.trans hm.tape, h4.trans hm.output, fun x y1 y2 => (hbk x (Nat.lt_of_lt_of_le y1 hm.size)).trans (hm.frame x y1 y2), hm.mlt, fun i o1 y1 => ?_, fun i j o1 o2 y1 y2 he => ?_, fun i o1 y1 => ?_, fun i o1 y1 => ?_⟩
  ·by_cases hi : i = id
   ·subst hi; rw [upd_same] at y1; cases y1; exact hr
   ·rw [upd_ne _ _ hi] at y1
    refine (hm.obs i o1 y1).keeps hk2 (by simp [Ctx.g, upd_ne _ _ hi]) ?_
    exact hbk _ (hm.lt i o1 y1)
  ·by_cases hi : i = id <;> by_cases hj : j = id
   ·rw [hi, hj]
   ·subst hi; rw [upd_same, upd_ne _ _ hj] at he; rw [upd_ne _ _ hj] at y2; have := hm.lt j o2 y2; omega
   ·subst hj; rw [upd_same, upd_ne _ _ hi] at he; rw [upd_ne _ _ hi] at y1; have := hm.lt i o1 y1; omega
   ·rw [upd_ne _ _ hi] at he y1; rw [upd_ne _ _ hj] at he y2; exact hm.inj i j o1 o2 y1 y2 he
  ·by_cases hi : i = id
   ·subst hi; rw [upd_same]; exact f2
   ·rw [upd_ne _ _ hi] at y1 ⊢; have := hm.lt i o1 y1; omega
  ·by_cases hi : i = id
   ·subst hi; rw [upd_same]; exact .inl (Nat.le_trans hm.size f1)
   ·rw [upd_ne _ _ hi] at y1 ⊢; exact hm.mine i o1 y1
 refine ⟨_, _, upd β id b, rfl, h.put (fun t ht => by cases ht; exact hd) (by rw [hob]; exact hmem) (by rw [hob]; exact hk2) ?_, hk⟩
 rw [hob]
 have hb0 : (upd β id b) id = b := upd_same _ _ _
 have := VD.own (P := P) (g := c.g w' (upd β id b) (upd s.obj id (some o))) id 0 0 xs.length cap E xs cur (by show upd s.obj id (some o) id = _; rw [upd_same]) (by omega) f6
  (by show w'.heap[upd β id b id]? = _; rw [upd_same]; exact f3) (by simpa using f7) f8
 simp only [Nat.zero_mul] at this
 have e : (c.g w' (upd β id b) (upd s.obj id (some o))).β id = b := hb0
 rw [e] at this
 exact this
def retO (P : Program) (rs : List ResultVar) (E : TypeId) (xs : List I) : Exit → St → Prop
 | .normal, s | .ret, s => ∃ t id ver, rs = [.tmp t] ∧ s.get t = .own id ver 0 xs.length ∧ s.obj id = some (.arr E ver xs)
 | _, _ => False
theorem ACo.of_sem {P : Program} {f : FuncId} {fn : Func} {x : Code} {args : List D} {E : TypeId} {xs : List I} (hf : P.funcs[f]? = some fn) (hb : fn.body = some x) (hp : args.all D.plain = true) (hn : args.length ≤ fn.ntmps)
  (h : Aw P x (retO P fn.results.toList E xs) ⟨fn.ntmps, argSl args 0, []⟩) : ACo P f args E xs := by
 intro g vs hlt hFlt hz
 let c : Ctx := ⟨g.w, fun b => g.F b, fun _ => False⟩
 have hm0 : Mem P c (fun _ => none) g.w (fun _ => 0) :=
  ⟨Nat.le_refl _, rfl, rfl, rfl, fun _ _ _ => rfl, fun b hb => ⟨hFlt b hb, fun h => h⟩, fun id o h => (by cases h), fun id id' o o' h => (by cases h), fun id o h => (by cases h), fun id o h => (by cases h)⟩
 have hr0 : Rel P c ⟨fn.ntmps, argSl args 0, []⟩ { tmps := vs.toArray ++ Array.replicate (fn.ntmps - vs.toArray.size) undef, defers := [] } g.w (fun _ => 0) := by
  refine ⟨hm0, rfl, by have := hz.len; simp; omega, fun t => ?_⟩
  show VD P _ (look (argSl args 0) t) _
  rw [look_argSl]
  simp only [Nat.zero_le, if_true, Nat.sub_zero]
  rcases Nat.lt_or_ge t args.length with ht | ht
  ·have hta : args[t]? = some args[t] := List.getElem?_eq_getElem ht
   obtain ⟨v, hv⟩ := get_of_len hz.len.symm hta
   rw [hta, Option.getD_some]
   have hval : (vs.toArray ++ Array.replicate (fn.ntmps - vs.toArray.size) undef).getD t undef = v := by
    rw [Array.getD_eq_getD_getElem?, Array.getElem?_append_left (by have := (List.getElem?_eq_some_iff.1 hv).1; simpa using this)]
    simp [hv]
   rw [hval]
   have hd := hz.at_ t _ v hta hv
   have hpl := List.all_eq_true.1 hp _ (List.getElem_mem ht)
   generalize args[t] = dd at hd hpl ⊢
   cases hd with
   | any v => exact .any v
   | nils A => exact .nils A
   | kb b => exact .kb b
   | i x v hx => exact .i x v (hx.mono (Nat.le_refl _) (fun _ _ _ => rfl) (fun b _ hb => by
       rcases hb with hb | ⟨i, o, h1, h2⟩
       ·exact hb
       ·cases h1))
   | _ => simp [D.plain] at hpl
  ·rw [List.getElem?_eq_none ht]
   exact .any _
 refine calls_of_wp hf hb (wp_mono (h c _ _ _ hr0) fun e a' w' ⟨s', β', hr, hq⟩ => ?_)
 have fin : (∃ t id ver, fn.results.toList = [.tmp t] ∧ s'.get t = .own id ver 0 xs.length ∧ s'.obj id = some (.arr E ver xs)) → a'.defers = [] ∧ ∃ v, (results fn a'.tmps).run P w' = .ok v w' ∧ (∃ v_1, Ending.returned v = Ending.returned v_1 ∧ Fresh P g.w w' g.F E xs v_1 ∧
   g.w.heap.size ≤ w'.heap.size ∧ w'.os = g.w.os ∧ w'.tape = g.w.tape ∧ w'.output = g.w.output ∧ ∀ b, b < g.w.heap.size → w'.heap[b]? = g.w.heap[b]?) := by
  rintro ⟨t, id, ver, hrs, hg, ho⟩
  have hmem := hr.mem
  have hv := hr.slot t
  rw [hg] at hv
  have hres : (results fn a'.tmps).run P w' = .ok (a'.tmps.getD t undef) w' := by
   have hrs' : fn.results = #[.tmp t] := by apply Array.ext'; simpa using hrs
   unfold results
   simp [hrs']
  refine ⟨hr.defers, _, hres, _, rfl, ?_, hmem.size, hmem.os, hmem.tape, hmem.output, fun b hb => hmem.frame b hb (fun h => h)⟩
  generalize a'.tmps.getD t undef = v at hv
  have hor := hmem.obs id _ ho
  cases hv with
  | ownd _ _ _ _ cap E2 xs2 ho2 => have h3 : s'.obj id = some (.arrd E2 ver xs2) := ho2; rw [ho] at h3; cases h3
  | ownStale _ _ ver' _ _ E2 xs2 v ho2 hlt => have h3 : s'.obj id = some (.arr E2 ver' xs2) := ho2; rw [ho] at h3; cases h3; omega
  | own _ _ _ _ cap E2 xs2 cur ho2 hl hc hb hcap hmx =>
   have : E2 = E ∧ xs2 = xs := by have h3 : s'.obj id = some (.arr E2 ver xs2) := ho2; rw [ho] at h3; cases h3; exact ⟨rfl, rfl⟩
   obtain ⟨rfl, rfl⟩ := this
   cases hor with
   | arr _ _ _ cur2 us hb2 hl2 ht hh hsz hmm =>
    have hcur : cur2 = cur := by
     have e1 : w'.heap[β' id]? = some (.cells cur2 E2 (0, 0)) := hb2
     have e2 : w'.heap[β' id]? = some (.cells cur E2 (0, 0)) := hb
     rw [e1] at e2
     cases e2; rfl
    subst hcur
    have hge : g.w.heap.size ≤ β' id := by
     rcases hmem.mine id _ ho with h1 | h1
     ·exact h1
     ·exact h1.elim
    refine ⟨β' id, cap, cur2, us, by simp [Ctx.g], hge, hmem.lt id _ ho, hb2, hl2, ht, hc, by simpa using hcap, hmx, fun j x u hx hu => ?_, hsz, hmm⟩
    exact (hh j x u hx hu).mono (Nat.le_refl _) (fun _ _ _ => rfl) (fun y _ hy => by
     rcases hy with hy | hy
     ·exact .inl hy
     ·exact .inr ⟨id, _, ho, hy.symm⟩)
 cases e with
 | normal => exact fin hq
 | ret => exact fin hq
 | _ => exact hq.elim
theorem ACo.of_go {P : Program} {f : FuncId} {fn : Func} {x : Code} {args : List D} {E : TypeId} {xs : List I} (hf : P.funcs[f]? = some fn) (hb : fn.body = some x) (hp : args.all D.plain = true) (hn : args.length ≤ fn.ntmps)
  (h : go P (retO P fn.results.toList E xs) [.code x] ⟨fn.ntmps, argSl args 0, []⟩) : ACo P f args E xs := ACo.of_sem hf hb hp hn (go_sound _ _ _ (Nat.le_refl _) h)
theorem retO_ret {P : Program} {rs : List ResultVar} {E : TypeId} {xs : List I} {s : St} : retO P rs E xs .ret s = (∃ t id ver, rs = [.tmp t] ∧ s.get t = .own id ver 0 xs.length ∧ s.obj id = some (.arr E ver xs)) := rfl
theorem srcOf_sl {q : Nat → Option Ob} {E : TypeId} {ys : List I} : srcOf q E (.i (.sl E ys)) = some ys := by simp [srcOf]
theorem srcOf_nils {q : Nat → Option Ob} {E : TypeId} : srcOf q E .nils = some [] := rfl
theorem srcOf_own {q : Nat → Option Ob} {E id ver off len : Nat} : srcOf q E (.own id ver off len) = match q id with
  | some (.arr E' ver' xs) => if E' = E ∧ ver' = ver then some ((xs.drop off).take len) else none
  | _ => none := rfl
end Go.Lw
end
section
namespace Go.Lw
inductive Eqv : I → I → Prop
 | refl (x : I) : Eqv x x
 | sl0 (E E' : TypeId) : Eqv (.sl E []) (.sl E' [])
 | agg (xs ys : List I) (hl : xs.length = ys.length) (h : ∀ (j : Nat) (x y : I), xs[j]? = some x → ys[j]? = some y → Eqv x y) : Eqv (.agg xs) (.agg ys)
 | sl (E : TypeId) (xs ys : List I) (hl : xs.length = ys.length) (h : ∀ (j : Nat) (x y : I), xs[j]? = some x → ys[j]? = some y → Eqv x y) : Eqv (.sl E xs) (.sl E ys)
theorem V.eqv {P : Program} {w : World} {F : Nat → Prop} {x y : I} (h : Eqv x y) : ∀ {v : Value}, V P w F x v → V P w F y v := by
 induction h with
 | refl x => exact fun hv => hv
 | sl0 E E' =>
  intro v hv
  cases hv with
  | sl0 _ A cap => exact .sl0 E' A cap
  | sl _ xs b off cap us hl hc ht h hs hm hb hF => exact .sl0 E' _ _
 | agg xs ys hl h ih =>
  intro v hv
  cases hv with
  | agg _ vs hlv hh h1 =>
   refine .agg ys vs (by omega) (fun j y u hy hu => ?_) h1
   obtain ⟨x, hx⟩ := get_of_len hl.symm hy
   exact ih j x y hx hy (hh j x u hx hu)
 | sl E xs ys hl h ih =>
  intro v hv
  cases hv with
  | sl0 _ A cap =>
   have : ys = [] := List.length_eq_zero_iff.1 hl.symm
   subst this
   exact .sl0 E A cap
  | sl _ _ b off cap us hlv hc ht hh hs hm hb hF =>
   have := V.sl (P := P) (w := w) (F := F) E ys b off cap us (by omega) (by omega) (by omega) (fun j y u hy hu => by
    obtain ⟨x, hx⟩ := get_of_len hl.symm hy
    exact ih j x y hx hy (hh j x u hx hu)) hs hm hb hF
   rw [← hl] at this
   exact this
theorem AC.eqv {P : Program} {f : FuncId} {args : List D} {x y : I} (h : AC P f args (.i x)) (he : Eqv x y) : AC P f args (.i y) := fun g vs h1 h2 h3 =>
 Calls.mono (h g vs h1 h2 h3) fun e w' ⟨v, e1, hv, rest⟩ => ⟨v, e1, by
  cases hv with
  | i _ _ hv => exact .i _ _ (hv.eqv he), rest⟩
theorem Eqv.pair {a b c d : I} (h1 : Eqv a c) (h2 : Eqv b d) : Eqv (.agg [a, b]) (.agg [c, d]) := .agg _ _ rfl fun j x y hx hy => by
 match j with
 | 0 => simp at hx hy; subst hx hy; exact h1
 | 1 => simp at hx hy; subst hx hy; exact h2
 | j + 2 => simp at hx
def D.col : D → D
 | .agg ds => match allI ds with
  | some xs => .i (.agg xs)
  | none => .agg ds
 | .nils => .i (.sl 0 [])
 | d => d
theorem VD.col {P : Program} {g : G} {d : D} {v : Value} (h : VD P g d v) : VD P g d.col v := by
 cases h with
 | agg ds vs hl hh h1 =>
  simp only [D.col]
  split
  ·rename_i xs hx
   obtain ⟨hl', hg⟩ := allI_spec hx
   refine .i _ _ (.agg xs vs (by omega) (fun j x v hx hv => ?_) h1)
   obtain ⟨e, he⟩ := get_of_len hl' hx
   exact (hh j e v he hv).leafI (hg j e x he hx)
  ·exact .agg ds vs hl hh h1
 | nils A => exact .i _ _ (.sl0 0 A 0)
 | any v => exact .any v
 | i x v h => exact .i x v h
 | kb b => exact .kb b
 | own id ver off len cap E xs cur ho hl hc hb hcap hm => exact .own id ver off len cap E xs cur ho hl hc hb hcap hm
 | ownd id ver off len cap E xs ho hl hc => exact .ownd id ver off len cap E xs ho hl hc
 | ownStale id ver ver' off len E xs v ho hlt hv => exact .ownStale id ver ver' off len E xs v ho hlt hv
 | loc id c T cs ho => exact .loc id c T cs ho
 | el id ver idx off E xs ho hi => exact .el id ver idx off E xs ho hi
 | eld id ver idx off E xs ho hi => exact .eld id ver idx off E xs ho hi
 | elStale id ver ver' idx off E xs v ho hlt hv => exact .elStale id ver ver' idx off E xs v ho hlt hv
 | tup xs vs hl h => exact .tup xs vs hl h
 | lmap id es ho => exact .lmap id es ho
 | capd E xs A h => exact .capd E xs A h
 | it id s pos ho => exact .it id s pos ho
 | fn f caps vs hl h => exact .fn f caps vs hl h
theorem CallOk.col {P : Program} {F : FuncId} {args : List D} {dst : Option Nat} {s : St} {K : St → Prop} (h : CallOk P F (args.map D.col) dst s K) : CallOk P F args dst s K := fun c a w β vs hr zz =>
 h c a w β vs hr ⟨by have := zz.len; simpa using this, fun j x v hx hv => by
  simp only [List.getElem?_map, Option.map_eq_some_iff] at hx
  obtain ⟨x0, hx0, rfl⟩ := hx
  exact (zz.at_ j x0 v hx0 hv).col⟩
end Go.Lw
end
section
namespace Go.Lw
def allocG (T : TypeId) (id : Nat) : Option (List D) → Sr
 | some ds => .ok (ds.all D.leafB = true) (.loc id 0) [] (some (.var T ds))
 | none => .no
def boxG (T : TypeId) (id : Nat) : Option (List D) → Sr
 | some ds => .ok True (.loc id 0) [] (some (.var T ds))
 | none => .no
def bsliceG (P : Program) (id n : Nat) (is : List Nat) (ds : List D) : Option TypeId → Sr
 | some E => buildSliceF P id E n is ds
 | none => .no
def makeG3 (P : Program) (id : Nat) (E : TypeId) (m n : Int) : Option I → Sr
 | some x => .ok (0 < P.cellsOf E ∧ zeroOk P E = true ∧ zeroLeaf P E = true ∧ 0 ≤ m ∧ m ≤ n ∧ n.toNat * P.bytesOf E ≤ top ∧ n.toNat ≤ top) (.own id 0 0 m.toNat) [] (some (.arr E 0 (List.replicate m.toNat x)))
 | none => .no
def makeG2 (P : Program) (id : Nat) (E : TypeId) (m : Int) : Option (IntKind × Int) → Sr
 | some n => makeG3 P id E m n.2 (zeroI P E)
 | none => .no
def makeG1 (P : Program) (id : Nat) (E : TypeId) (n : Option (IntKind × Int)) : Option (IntKind × Int) → Sr
 | some m => makeG2 P id E m.2 n
 | none => .no
def makeG (P : Program) (id : Nat) (m n : Option (IntKind × Int)) : Option TypeId → Sr
 | some E => makeG1 P id E n m
 | none => .no
def appendG (P : Program) (q : Nat → Option Ob) (id : Nat) (x y : D) : Option TypeId → Sr
 | some E => appendF P q id E x y
 | none => .no
section
variable (P : Program) (ev : Operand → D) (q : Nat → Option Ob) (id : Nat) (T : TypeId)
theorem stepF_alloc : stepF P (some id) ev q (.alloc T) = allocG T id (zeroD P T) := by
 simp only [stepF]; generalize zeroD P T = z; cases z <;> rfl
theorem stepF_box (x : Operand) : stepF P (some id) ev q (.box T x) = boxG T id (ev x).box := by
 simp only [stepF]; generalize (ev x).box = z; cases z <;> rfl
theorem stepF_bslice (n : Nat) (parts : Array (Nat × Operand)) : stepF P (some id) ev q (.buildSlice T n parts) = bsliceG P id n (parts.toList.map (·.1)) (parts.toList.map fun p => ev p.2) (slE P T) := by
 simp only [stepF]; generalize slE P T = z; cases z <;> rfl
theorem stepF_make (l cp : Operand) : stepF P (some id) ev q (.makeSlice T l cp) = makeG P id (intD (ev l)) (intD (ev cp)) (slE P T) := by
 simp only [stepF]
 generalize slE P T = z; generalize intD (ev l) = a; generalize intD (ev cp) = b
 cases z with
 | none => rfl
 | some E =>
  cases a with
  | none => rfl
  | some a => cases b with
   | none => rfl
   | some b => simp only [makeG, makeG1, makeG2]; generalize zeroI P E = w; cases w <;> rfl
theorem callF_append (x y : Operand) : callF P (some id) ev q (.builtin .append) [x, y] [T, T] = appendG P q id (ev x) (ev y) (slE P T) := by
 simp only [callF]; generalize slE P T = z; cases z
 ·rfl
 ·simp [appendG]
end
theorem laid_none (dst : Option Nat) (s : St) : laid dst s none = True := by cases dst <;> rfl
theorem putOb_0 (dst : Option Nat) (l : List (Nat × Option Ob)) : putOb dst [] none l = l := by cases dst <;> rfl
theorem putOb_1 (dst : Option Nat) (p : Nat × Ob) (l : List (Nat × Option Ob)) : putOb dst [p] none l = (p.1, some p.2) :: l := by cases dst <;> rfl
end Go.Lw
end
section
namespace Go.Lw
inductive Lq : D → D → Prop
 | refl (d : D) : Lq d d
 | any (d : D) : Lq d .any
 | i (x y : I) (h : Eqv x y) : Lq (.i x) (.i y)
 | nils (E : TypeId) : Lq .nils (.i (.sl E []))
 | kb (b : Bool) : Lq (.kb b) (.i (.bool b))
 | tup (xs ys : List D) (hl : xs.length = ys.length) (h : ∀ (j : Nat) (x y : D), xs[j]? = some x → ys[j]? = some y → Lq x y) : Lq (.tup xs) (.tup ys)
 | agg (xs : List I) (n : Nat) (hl : xs.length = n) : Lq (.i (.agg xs)) (.agg (List.replicate n .any))
theorem VD.lq {P : Program} {g : G} {d d' : D} (h : Lq d d') : ∀ {v : Value}, VD P g d v → VD P g d' v := by
 induction h with
 | refl d => exact fun hv => hv
 | any d => exact fun _ => .any _
 | i x y he =>
  intro v hv
  cases hv with
  | i _ _ hv => exact .i _ _ (hv.eqv he)
 | nils E =>
  intro v hv
  cases hv with
  | nils A => exact .i _ _ (.sl0 E A 0)
 | kb b =>
  intro v hv
  cases hv with
  | kb b => exact .i _ _ (.bool b)
 | tup xs ys hl h ih =>
  intro v hv
  cases hv with
  | tup _ vs hlv hh =>
   refine .tup ys vs (by omega) fun j y u hy hu => ?_
   obtain ⟨x, hx⟩ := get_of_len hl.symm hy
   exact ih j x y hx hy (hh j x u hx hu)
 | agg xs n hl =>
  intro v hv
  cases hv with
  | i _ _ hv => cases hv with
   | agg _ vs hlv _ h1 =>
    refine .agg _ vs (by rw [List.length_replicate, hlv, hl]) (fun j x u hx _ => ?_) h1
    rw [List.getElem?_replicate] at hx
    split at hx
    ·cases hx; exact .any _
    ·cases hx
theorem AC.lq {P : Program} {f : FuncId} {args : List D} {r r' : D} (h : AC P f args r) (he : Lq r r') : AC P f args r' := fun g vs h1 h2 h3 =>
 Calls.mono (h g vs h1 h2 h3) fun e w' ⟨v, e1, hv, rest⟩ => ⟨v, e1, hv.lq he, rest⟩
theorem Lq.two {a b c d : D} (h1 : Lq a c) (h2 : Lq b d) : Lq (.tup [a, b]) (.tup [c, d]) := .tup _ _ rfl fun j x y hx hy => by
 match j with
 | 0 => simp at hx hy; subst hx hy; exact h1
 | 1 => simp at hx hy; subst hx hy; exact h2
 | j + 2 => simp at hx
def LqL (args args' : List D) : Prop := args.length = args'.length ∧ ∀ (j : Nat) (x y : D), args[j]? = some x → args'[j]? = some y → Lq x y
theorem LqL.z {P : Program} {g : G} {args args' : List D} {vs : List Value} (h : LqL args args') (hz : Z (VD P g) args vs) : Z (VD P g) args' vs := ⟨by rw [hz.len]; exact h.1, fun j y v hy hv => by
 obtain ⟨x, hx⟩ := get_of_len h.1.symm hy
 exact (hz.at_ j x v hx hv).lq (h.2 j x y hx hy)⟩
theorem LqL.nil : LqL [] [] := ⟨rfl, fun j x y h => by simp at h⟩
theorem LqL.cons {a b : D} {l m : List D} (h : Lq a b) (hl : LqL l m) : LqL (a :: l) (b :: m) := ⟨by simp [hl.1], fun j x y hx hy => by
 cases j with
 | zero => simp at hx hy; subst hx hy; exact h
 | succ j => exact hl.2 j x y (by simpa using hx) (by simpa using hy)⟩
theorem AC.args {P : Program} {f : FuncId} {args args' : List D} {r : D} (h : AC P f args' r) (hl : LqL args args') : AC P f args r := fun g vs h1 h2 h3 => h g vs h1 h2 (hl.z h3)
def retL (P : Program) (rs : List ResultVar) (r : D) : Exit → St → Prop := retP P rs fun r' => Lq r' r
theorem retL_ret {P : Program} {rs : List ResultVar} {r : D} {s : St} : retL P rs r .ret s = ∃ r', Lq r' r ∧ retD P rs s = some r' := rfl
theorem retL_normal {P : Program} {rs : List ResultVar} {r : D} {s : St} : retL P rs r .normal s = ∃ r', Lq r' r ∧ retD P rs s = some r' := rfl
theorem AC.of_goL {P : Program} {f : FuncId} {fn : Func} {x : Code} {args : List D} {r : D} (hf : P.funcs[f]? = some fn) (hb : fn.body = some x) (hp : args.all D.plain = true) (hn : args.length ≤ fn.ntmps)
  (h : go P (retL P fn.results.toList r) [.code x] ⟨fn.ntmps, argSl args 0, []⟩) : AC P f args r := fun g vs h1 h2 h3 =>
 Calls.mono (AC.of_semW hf hb hp hn (go_sound _ _ _ (Nat.le_refl _) h) g vs h1 h2 h3) fun e w' ⟨r', hr, v, e1, hv, rest⟩ => ⟨v, e1, hv.lq hr, rest⟩
def Wk (P : Program) (s s0 : St) : Prop := ∀ c a w β, Rel P c s a w β → Rel P c s0 a w β
theorem Wk.frz {P : Program} {s s0 : St} (S : List Nat) (h : (s.frz S).Tells s0) : Wk P s s0 := fun c a w β hr => (hr.frz S).weaken h
theorem Wk.tells {P : Program} {s s0 : St} (h : s.Tells s0) : Wk P s s0 := fun c a w β hr => hr.weaken h
theorem Aw.loopW {α : Type} {P : Program} {x : Code} {Q : Exit → St → Prop} {s : St} (I : α → St) (φ : α → Prop) (μ : α → Nat) (a0 : α) (hs : Wk P s (I a0)) (h0 : φ a0)
  (round : ∀ a, φ a → Aw P x (thenS (fun s' => ∃ a', φ a' ∧ Wk P s' (I a') ∧ μ a' < μ a) Q) (I a)) : Aw P (.loop x) Q s := by
 suffices h : Aw P (.loop x) Q (I a0) from fun c a w β hr => h c a w β (hs c a w β hr)
 intro c a w β hr b k cs
 have key : ∀ n y a w β, μ y = n → φ y → Rel P c (I y) a w β →
   ∃ e a' w', (∃ s' β', Rel P c s' a' w' β' ∧ Q e s') ∧ Arrives P (lone (b.at a (.code x :: .inLoop x :: k)) cs w) b k cs e a' w' := by
  intro n
  induction n using Nat.strongRecOn with
  | _ n ih =>
   intro y a w β hn hI hr
   obtain ⟨e, a₁, w₁, ⟨s', β', h1, h2⟩, harr⟩ := (round y hI) c a w β hr b (.inLoop x :: k) cs
   cases e with
   | normal =>
    obtain ⟨y', hφ, hT, hlt⟩ := h2
    obtain ⟨e₂, a₂, w₂, hq₂, harr₂⟩ := ih (μ y') (hn ▸ hlt) y' a₁ w₁ β' rfl hφ (hT c a₁ w₁ β' h1)
    exact ⟨e₂, a₂, w₂, hq₂, .of_steps (Steps.trans harr (.one step_inLoop)) harr₂⟩
   | exit id => exact ⟨_, a₁, w₁, ⟨s', β', h1, h2⟩, .pass (x := .inLoop x) rfl (fun _ _ => .inl (by simp)) harr⟩
   | goto l => exact ⟨_, a₁, w₁, ⟨s', β', h1, h2⟩, .pass (x := .inLoop x) rfl (fun _ _ => .inl (by simp)) harr⟩
   | ret => exact ⟨_, a₁, w₁, ⟨s', β', h1, h2⟩, .pass (x := .inLoop x) rfl (fun _ _ => .inl (by simp)) harr⟩
   | panic ch => exact ⟨_, a₁, w₁, ⟨s', β', h1, h2⟩, .pass (x := .inLoop x) rfl (fun _ _ => .inl (by simp)) harr⟩
   | outgrown => exact ⟨_, a₁, w₁, ⟨s', β', h1, h2⟩, .pass (x := .inLoop x) rfl (fun _ _ => .inl (by simp)) harr⟩
 obtain ⟨e, a', w', hq, harr⟩ := key _ a0 a w β rfl h0 hr
 exact ⟨e, a', w', hq, .of_steps (.one step_loop) harr⟩
theorem go_loopF {P : Program} {Q : Exit → St → Prop} {x : Code} {k : List Kt} {s : St} {α : Type} (I : α → St) (φ : α → Prop) (μ : α → Nat) (a0 : α) (hs : Wk P s (I a0)) (h0 : φ a0)
  (round : ∀ (K : St → Prop) a, φ a → (∀ s' a', φ a' → μ a' < μ a → Wk P s' (I a') → K s') → go P Q (.code x :: .stop K :: k) (I a)) : go P Q (.code (.loop x) :: k) s := by
 rw [go_loop]
 show Aw P (.loop x) (contS P Q k) s
 refine Aw.loopW I φ μ a0 hs h0 fun a ha => ?_
 have := go_sound _ _ _ (Nat.le_refl _) (round (fun s' => ∃ a', φ a' ∧ Wk P s' (I a') ∧ μ a' < μ a) a ha fun s' a' h1 h2 h3 => ⟨a', h1, h3, h2⟩)
 refine Aw.mono (show Aw P x _ _ from this) fun e s' he => ?_
 cases e with
 | normal => exact he
 | _ => exact he
theorem CallOk.norm {P : Program} {F : FuncId} {args : List D} {dst : Option Nat} {s : St} {K : St → Prop} (h : CallOk P F (args.map D.norm) dst s K) : CallOk P F args dst s K := fun c a w β vs hr zz =>
 h c a w β vs hr ⟨by have := zz.len; simpa using this, fun j x v hx hv => by
  simp only [List.getElem?_map, Option.map_eq_some_iff] at hx
  obtain ⟨x0, hx0, rfl⟩ := hx
  exact (zz.at_ j x0 v hx0 hv).norm⟩
end Go.Lw
end
