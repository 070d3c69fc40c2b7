/-
A part of the proof that the statement InitialValues holds of the given program (second form, tied card): drawn regions under the evaluator.
-/
import Derived.Test.YtleopflmnmfaeaaGreatDoorPM
import Derived.Test.YtleopflmnmfaeaaGreatDoorPN4
set_option autoImplicit false
set_option linter.unusedSimpArgs false
set_option linter.unusedVariables false
set_option linter.unnecessarySimpa false
section
namespace Go.Kr
theorem arunO_of_arun0 {α : Type} {P : Program} (t : Sem α) {a : α} : arun0 P t = some a → ∀ m, arunO P t m = some (a, m) := by
 induction t with
 | pure b => intro h m; cases h; rfl
 | program k ih => intro h m; exact ih P h m
 | mark mk k ih => intro h m; exact ih h m
 | choose q k ih =>
  intro h m
  simp only [arun0] at h
  split at h
  ·rename_i hq
   simp only [arunO, hq]
   exact ih 0 h m
  ·cases h
 | _ => intro h; cases h
def vOp (P : Program) (ρ : Operand → Value) (o : Oper) : Option Value := match o.op with
 | .move x => some (ρ x)
 | .assign x => some (ρ x)
 | .pick c a b => match ρ c with
  | .bool true => some (ρ a)
  | .bool false => some (ρ b)
  | _ => none
 | .build T parts => match zeroCls P T with
  | true => arun0 P (Instr.build T (parts.map fun (i, x) => (i, ρ x)))
  | false => none
 | .nilCheck x => match ρ x with
  | .pointer (some a) => some (.pointer (some a))
  | .func (.func f) a b => some (.func (.func f) a b)
  | _ => none
 | .makeFunc (.func f) first captured => some (.func (.func f) (first.map ρ) (captured.map ρ))
 | .fieldAddr S x i => arun0 P (Instr.fieldAt S (ρ x) i)
 | .indexAddr T x i => match ρ x, ρ i with
  | .slice (some a) l c, .int k n => arun0 P (Instr.indexAt T (.slice (some a) l c) (.int k n))
  | .pointer (some a), .int k n => arun0 P (Instr.indexAt T (.pointer (some a)) (.int k n))
  | _, _ => none
 | .extract x i => arun0 P (Instr.extract (ρ x) i)
 | .binOp op T x y _ => match nilCmp P op T (ρ x) (ρ y) with
  | some b => some (.bool b)
  | none => match pureOp P ρ ⟨fun _ => none, [], 0, 0, []⟩ o with
   | some r => some r.1
   | none => none
 | .unOp _ _ _ => match pureOp P ρ ⟨fun _ => none, [], 0, 0, []⟩ o with
  | some r => some r.1
  | none => none
 | .convert _ _ _ => match pureOp P ρ ⟨fun _ => none, [], 0, 0, []⟩ o with
  | some r => some r.1
  | none => none
 | .index _ _ _ => match pureOp P ρ ⟨fun _ => none, [], 0, 0, []⟩ o with
  | some r => some r.1
  | none => none
 | .slice T x lo hi mx => match ρ x with
  | .string _ => match pureOp P ρ ⟨fun _ => none, [], 0, 0, []⟩ o with
   | some r => some r.1
   | none => none
  | _ => cutS P T (ρ x) (lo.map ρ) (hi.map ρ) (mx.map ρ)
 | .call c => match c.callee with
  | .value _ => match pureOp P ρ ⟨fun _ => none, [], 0, 0, []⟩ o with
   | some r => some r.1
   | none => none
  | _ => none
 | _ => none
theorem pureOp_any {P : Program} {ρ : Operand → Value} {m0 : Ms} {o : Oper} {r : Value × Ms} (h : pureOp P ρ m0 o = some r) (m : Ms) : pureOp P ρ m o = some (r.1, m) := by
 unfold pureOp at h ⊢
 split at h
 ·split at h
  ·cases h; rfl
  ·cases h
 ·cases h
theorem vOp_op1 {P : Program} {ρ : Operand → Value} {o : Oper} {v : Value} (h : vOp P ρ o = some v) (m : Ms) : op1 P ρ m o = some (v, m) := by
 obtain ⟨dst, op, ty, pos, after, guard⟩ := o
 have pu : ∀ {o : Oper}, (match pureOp P ρ ⟨fun _ => none, [], 0, 0, []⟩ o with
  | some r => some r.1
  | none => none) = some v → pureOp P ρ m o = some (v, m) := fun {o} h => by
  split at h
  ·rename_i r hr; cases h; exact pureOp_any hr m
  ·cases h
 unfold vOp at h
 dsimp only at h
 unfold op1
 dsimp only
 split at h
 ·cases h; rfl
 ·cases h; rfl
 ·dsimp only
  split at h
  ·rename_i e; cases h; rw [e]
  ·rename_i e; cases h; rw [e]
  ·cases h
 ·dsimp only
  split at h
  ·rename_i hz; rw [hz]; exact arunO_of_arun0 _ h m
  ·cases h
 ·dsimp only
  split at h
  ·rename_i e; cases h; rw [e]
  ·rename_i e; cases h; rw [e]
  ·cases h
 ·cases h; rfl
 ·exact arunO_of_arun0 _ h m
 ·dsimp only
  split at h
  ·rename_i e1 e2; rw [e1, e2]; exact arunO_of_arun0 _ h m
  ·rename_i e1 e2; rw [e1, e2]; exact arunO_of_arun0 _ h m
  ·cases h
 ·exact arunO_of_arun0 _ h m
 ·dsimp only
  split at h
  ·rename_i b hb; cases h; rw [hb]
  ·rename_i hb; rw [hb]; exact pu h
 ·exact pu h
 ·exact pu h
 ·exact pu h
 ·dsimp only
  split at h
  ·rename_i s e; rw [e]; exact pu h
  ·rename_i hx
   split
   ·rename_i s e; exact absurd e (hx s)
   ·rw [h]
 ·rename_i c
  split at h
  ·rename_i f hf
   dsimp only
   unfold callB
   rw [hf]
   exact pu h
  ·cases h
 ·cases h
def noRef (bad : Nat → Bool) : Nat → Value → Bool
 | _, .pointer (some a) => !bad a.block
 | _, .slice (some a) _ _ => !bad a.block
 | _, .map (some r) => !bad r
 | _, .bool _ | _, .int .. | _, .string _ | _, .pointer none | _, .slice none _ _ | _, .map none | _, .nilFunc | _, .nilIface => true
 | n + 1, .agg xs => xs.toList.all (noRef bad n)
 | n + 1, .tuple xs => xs.toList.all (noRef bad n)
 | n + 1, .func _ xs ys => xs.toList.all (noRef bad n) && ys.toList.all (noRef bad n)
 | _, _ => false
theorem AR.lift {γ γ' : Gm} {bad : Nat → Bool} (h : ∀ r, bad r = false → γ r ≠ none → γ' r = γ r) {a a' : Addr} (hb : bad a.block = false) (ha : AR γ a a') : AR γ' a a' := by
 have hn : γ a.block ≠ none := fun e => by have := ha.2; rw [e] at this; exact this
 refine ⟨ha.1, ?_⟩
 rw [h _ hb hn]
 exact ha.2
theorem VR.lift {γ γ' : Gm} {bad : Nat → Bool} (h : ∀ r, bad r = false → γ r ≠ none → γ' r = γ r) : ∀ (n : Nat) (v v' : Value), noRef bad n v = true → VR γ v v' → VR γ' v v' := by
 have base : ∀ (n : Nat) (v v' : Value), (∀ xs, v ≠ .agg xs) → (∀ xs, v ≠ .tuple xs) → (∀ f xs ys, v ≠ .func f xs ys) → noRef bad n v = true → VR γ v v' → VR γ' v v' := by
  intro n v v' h1 h2 h3 hn hv
  cases hv with
  | bool b => exact .bool b
  | int k n => exact .int k n
  | str s => exact .str s
  | ptrN => exact .ptrN
  | ptr a a' ha =>
   have hb : bad a.block = false := by cases n <;> simpa [noRef] using hn
   exact .ptr _ _ (ha.lift h hb)
  | slN l c => exact .slN l c
  | sl a a' l c c' ha hc =>
   have hb : bad a.block = false := by cases n <;> simpa [noRef] using hn
   have hne : γ a.block ≠ none := fun e => by have := ha.2; rw [e] at this; exact this
   refine .sl _ _ _ _ _ (ha.lift h hb) ⟨hc.1, fun hbg => ⟨(hc.2 hbg).1, ?_⟩⟩
   rw [h _ hb hne]
   exact (hc.2 hbg).2
  | mapN => exact .mapN
  | map r r' hm =>
   have hb : bad r = false := by cases n <;> simpa [noRef] using hn
   have hne : γ r ≠ none := fun e => by rcases hm with hm | ⟨κ, hm⟩ <;> rw [e] at hm <;> cases hm
   exact .map _ _ (by rw [h _ hb hne]; exact hm)
  | fn f xs ys cs ds => exact absurd rfl (h3 _ _ _)
  | nilF => exact .nilF
  | nilI => exact .nilI
  | agg xs ys => exact absurd rfl (h1 _)
  | tup xs ys => exact absurd rfl (h2 _)
 intro n
 induction n with
 | zero =>
  intro v v' hn hv
  refine base 0 v v' ?_ ?_ ?_ hn hv
  ·intro xs e; subst e; simp [noRef] at hn
  ·intro xs e; subst e; simp [noRef] at hn
  ·intro f xs ys e; subst e; simp [noRef] at hn
 | succ n ih =>
  intro v v' hn hv
  cases hv with
  | agg xs ys hl hh =>
   simp only [noRef, List.all_eq_true] at hn
   exact .agg xs ys hl fun j x y hx hy => ih x y (hn x (by rw [Array.mem_toList_iff]; exact Array.mem_of_getElem? hx)) (hh j x y hx hy)
  | tup xs ys hl hh =>
   simp only [noRef, List.all_eq_true] at hn
   exact .tup xs ys hl fun j x y hx hy => ih x y (hn x (by rw [Array.mem_toList_iff]; exact Array.mem_of_getElem? hx)) (hh j x y hx hy)
  | fn f xs ys cs ds h1 h2 h3 h4 =>
   simp only [noRef, Bool.and_eq_true, List.all_eq_true] at hn
   exact .fn f xs ys cs ds h1 h2 (fun j x y hx hy => ih x y (hn.1 x (by rw [Array.mem_toList_iff]; exact Array.mem_of_getElem? hx)) (h3 j x y hx hy))
    fun j x y hx hy => ih x y (hn.2 x (by rw [Array.mem_toList_iff]; exact Array.mem_of_getElem? hx)) (h4 j x y hx hy)
  | _ =>
   refine base (n + 1) _ _ ?_ ?_ ?_ hn ?_
   ·intro xs e; cases e
   ·intro xs e; cases e
   ·intro f xs ys e; cases e
   ·first
     | exact .bool _ | exact .int _ _ | exact .str _ | exact .ptrN | exact .slN _ _ | exact .mapN | exact .nilF | exact .nilI
     | (apply VR.ptr; assumption) | (apply VR.sl <;> assumption) | (apply VR.map; assumption)
def noRefO (bad : Nat → Bool) : Obj → Bool
 | .cells c _ _ => c.toList.all (noRef bad 8)
 | .map es _ => es.toList.all fun e => noRef bad 8 e.key && noRef bad 8 e.val
 | .stringIter _ _ => true
 | .mapIter m _ _ _ => noRef bad 1 (.map m)
 | _ => false
theorem AbR.lift {γ γ' : Gm} {bad : Nat → Bool} (h : ∀ r, bad r = false → γ r ≠ none → γ' r = γ r) {w : World} {ab : Ab} {p : Pl} (hn : noRefO bad ab.o = true) (ha : AbR γ w ab p) : AbR γ' w ab p := by
 cases ha with
 | own c cur E b κ hκ h1 hl h2 =>
  simp only [noRefO, List.all_eq_true] at hn
  exact .own c cur E b κ hκ h1 hl fun j x y hx hy => VR.lift h 8 x y (hn x (by simpa using List.mem_of_getElem? hx)) (h2 j x y hx hy)
 | frz c E f b δ κ h1 =>
  simp only [noRefO, List.all_eq_true] at hn
  refine .frz c E f b δ κ fun j x hx => ?_
  obtain ⟨y, hy, hv⟩ := h1 j x hx
  exact ⟨y, hy, VR.lift h 8 x y (hn x (by simpa using List.mem_of_getElem? hx)) hv⟩
 | map o es es' cl cl' b κ h1 hl h2 hc =>
  simp only [noRefO, List.all_eq_true, Bool.and_eq_true] at hn
  refine .map o es es' cl cl' b κ h1 hl (fun j x y hx hy => ?_) hc
  obtain ⟨a1, a2, a3⟩ := h2 j x y hx hy
  have := hn x (by simpa using List.mem_of_getElem? hx)
  exact ⟨VR.lift h 8 _ _ this.1 a1, VR.lift h 8 _ _ this.2 a2, a3⟩
 | strit o s pos b κ h1 => exact .strit o s pos b κ h1
 | mapit o m m' since seen last b κ h1 hm => exact .mapit o m m' since seen last b κ h1 (VR.lift h 1 _ _ hn hm)
def dem (ab : Ab) : Ab := ⟨false, ab.o⟩
theorem AbR.dem {γ : Gm} {w : World} {ab : Ab} {p : Pl} (ha : AbR γ w ab p) : AbR γ w (dem ab) p := by
 cases ha with
 | own c cur E b κ hκ h1 hl h2 =>
  refine .frz c E (0, 0) b 0 κ fun j x hx => ?_
  have hlt : j < cur.length := by have := (List.getElem?_eq_some_iff.1 hx).1; omega
  exact ⟨cur[j], by simp [World.cell?, h1, hlt], h2 j x _ hx (List.getElem?_eq_getElem hlt)⟩
 | frz c E f b δ κ h1 => exact .frz c E f b δ κ h1
 | map o es es' cl cl' b κ h1 hl h2 hc => exact .map false es es' cl cl' b κ h1 hl (fun j x y hx hy => by obtain ⟨a1, a2, a3⟩ := h2 j x y hx hy; exact ⟨a1, a2, fun e => by cases e⟩) fun e => by cases e
 | strit o s pos b κ h1 => exact .strit false s pos b κ h1
 | mapit o m m' since seen last b κ h1 hm => exact .mapit false m m' since seen last b κ h1 hm
end Go.Kr
end
section
namespace Go.Kr
def Ms.ext (m : Ms) (g' : Nat → Option Ab) : Ms := ⟨g', m.u, m.nx, m.hi, m.log⟩
structure Ext (m : Ms) (g' : Nat → Option Ab) : Prop where
 le : ∀ id ab, m.g id = some ab → g' id = some ab
 fr : ∀ id, m.nx ≤ id → id < m.hi → g' id = none
section
variable {P : Program} {m m' : Ms} {g' : Nat → Option Ab}
theorem lookU_le {u : List (Nat × Option Ab)} {g g' : Nat → Option Ab} (h : ∀ id ab, g id = some ab → g' id = some ab) {id : Nat} {ab : Ab} (hc : lookU u g id = some ab) : lookU u g' id = some ab := by
 induction u with
 | nil => exact h _ _ hc
 | cons p u ih =>
  obtain ⟨k, x⟩ := p
  simp only [lookU] at hc ⊢
  split at hc
  ·exact hc
  ·exact ih hc
theorem lookU_fr {u : List (Nat × Option Ab)} {g g' : Nat → Option Ab} {id : Nat} (h : g' id = none) (hc : lookU u g id = none) : lookU u g' id = none := by
 induction u with
 | nil => exact h
 | cons p u ih =>
  obtain ⟨k, x⟩ := p
  simp only [lookU] at hc ⊢
  split at hc
  ·exact hc
  ·exact ih hc
theorem Ext.cur (h : Ext m g') {id : Nat} {ab : Ab} (hc : m.cur id = some ab) : (m.ext g').cur id = some ab := lookU_le h.le hc
theorem Ext.new (h : Ext m g') (hn : m.nx < m.hi) (hc : m.cur m.nx = none) : (m.ext g').cur m.nx = none := lookU_fr (h.fr _ (Nat.le_refl _) hn) hc
theorem Ext.set (h : Ext m g') (id : Nat) (x : Option Ab) : Ext (m.set id x) g' := ⟨h.le, h.fr⟩
theorem Ext.see (h : Ext m g') (id : Nat) : Ext (m.see id) g' := ⟨h.le, h.fr⟩
theorem Ext.born (h : Ext m g') (x : Ab) : Ext (m.born x) g' := ⟨h.le, fun id h1 h2 => h.fr id (Nat.le_of_succ_le h1) h2⟩
theorem blt_lt {a b : Nat} (h : Nat.blt a b = true) : a < b := by simp [Nat.blt] at h; omega
theorem loadM_ext (h : Ext m g') {a : Addr} {v : Value} (hl : loadM m a = some v) : loadM (m.ext g') a = some v := by
 unfold loadM at hl ⊢
 split at hl
 ·cases hl
 ·split at hl
  ·rename_i hc; rw [h.cur hc]; exact hl
  ·cases hl
theorem storeM_ext (h : Ext m g') {a : Addr} {v : Value} (hl : storeM m a v = some m') : storeM (m.ext g') a v = some (m'.ext g') ∧ Ext m' g' := by
 unfold storeM at hl ⊢
 split at hl
 ·cases hl
 ·split at hl
  ·rename_i hc
   rw [h.cur hc]
   split at hl
   ·rename_i hb
    cases hl
    simp only [hb]
    exact ⟨rfl, h.set _ _⟩
   ·cases hl
  ·cases hl
theorem newM_ext (h : Ext m g') {o : Obj} (hl : newM m o = some m') : newM (m.ext g') o = some (m'.ext g') ∧ Ext m' g' := by
 unfold newM at hl ⊢
 split at hl
 ·rename_i hb
  simp only [Bool.and_eq_true] at hb
  split at hl
  ·rename_i hc
   cases hl
   have e1 : (bornOk o && Nat.blt (m.ext g').nx (m.ext g').hi) = true := by simp only [Bool.and_eq_true]; exact hb
   rw [e1]
   simp only
   have e2 : (m.ext g').cur (m.ext g').nx = none := h.new (blt_lt hb.2) hc
   rw [e2]
   exact ⟨rfl, h.born _⟩
  ·cases hl
 ·cases hl
theorem arunO_ext {α : Type} (t : Sem α) : ∀ {m m' : Ms} {a : α}, Ext m g' → arunO P t m = some (a, m') → arunO P t (m.ext g') = some (a, m'.ext g') := by
 induction t with
 | pure a => intro m m' b he h; cases h; rfl
 | load md a k ih =>
  intro m m' b he h
  cases md with
  | atomic => cases h
  | plain =>
   simp only [arunO] at h ⊢
   split at h
   ·rename_i v hv
    rw [loadM_ext he hv]
    exact ih v (he.see _) h
   ·cases h
 | store md a v k ih =>
  intro m m' b he h
  cases md with
  | atomic => cases h
  | plain =>
   simp only [arunO] at h ⊢
   split at h
   ·rename_i m1 h1
    obtain ⟨e1, e2⟩ := storeM_ext he h1
    rw [e1]
    exact ih e2 h
   ·cases h
 | new o k ih =>
  intro m m' b he h
  simp only [arunO] at h ⊢
  split at h
  ·rename_i m1 h1
   obtain ⟨e1, e2⟩ := newM_ext he h1
   rw [e1]
   exact ih _ e2 h
  ·cases h
 | choose q k ih =>
  intro m m' b he h
  simp only [arunO] at h ⊢
  split at h
  ·rename_i hq; exact ih _ he h
  ·cases h
 | program k ih => intro m m' b he h; exact ih _ he h
 | mark mk k ih => intro m m' b he h; exact ih he h
 | _ => intro m m' b he h; cases h
theorem rowM_ext (h : Ext m g') {b : Addr} {k : Nat} {l : List Value} (hl : rowM m b k = some l) : rowM (m.ext g') b k = some l := by
 unfold rowM at hl ⊢
 split at hl
 ·cases hl
 ·split at hl
  ·rename_i hc; rw [h.cur hc]; exact hl
  ·cases hl
theorem growM_ext (h : Ext m g') {E sz k bytes : Nat} {cs : List Value} {v : Value} (hl : growM m E sz k bytes cs = some (v, m')) : growM (m.ext g') E sz k bytes cs = some (v, m'.ext g') := by
 unfold growM at hl ⊢
 split at hl
 ·rename_i hb
  have hb' := hb
  simp only [Bool.and_eq_true] at hb'
  split at hl
  ·rename_i hc
   cases hl
   have e1 : (fits k bytes && cs.all leafB && Nat.blt (m.ext g').nx (m.ext g').hi) = true := hb
   rw [e1]
   (try simp only)
   have e2 : (m.ext g').cur (m.ext g').nx = none := h.new (blt_lt hb'.2) hc
   rw [e2]
   rfl
  ·cases hl
 ·cases hl
theorem appB_ext (h : Ext m g') {E sz bytes : Nat} {a : Addr} {len cap : Nat} {b : Addr} {n : Nat} {new : List Value} {v : Value} (hl : appB m E sz bytes a len cap b n new = some (v, m')) : appB (m.ext g') E sz bytes a len cap b n new = some (v, m'.ext g') := by
 unfold appB at hl ⊢
 split at hl
 ·rename_i h1
  (try rw [h1])
  (try simp only)
  split at hl
  ·rename_i h2
   (try rw [h2])
   (try simp only)
   split at hl
   ·rename_i h3 h4 hc
    rw [h3, h4, h.cur hc]
    (try simp only)
    split at hl
    ·rename_i h5; (try rw [h5]); cases hl; rfl
    ·cases hl
   ·cases hl
  ·rename_i h2
   (try rw [h2])
   (try simp only)
   split at hl
   ·rename_i old ho
    rw [rowM_ext h ho]
    exact growM_ext (h.see _) hl
   ·cases hl
 ·rename_i h1
  (try rw [h1])
  (try simp only)
  split at hl
  ·rename_i h3 h4 hc
   rw [h3, h4, h.cur hc]
   (try simp only)
   split at hl
   ·rename_i h5; (try rw [h5]); exact growM_ext (h.set _ _) hl
   ·cases hl
  ·cases hl
theorem appE_ext {x : Value} {v : Value} (hl : appE m x = some (v, m')) : appE (m.ext g') x = some (v, m'.ext g') := by
 unfold appE at hl ⊢
 repeat' split at hl
 all_goals first | (cases hl; done) | (rename_i hb; cases hl; simp only [hb])
theorem appM_ext (h : Ext m g') {T : TypeId} {x y v : Value} (hl : appM P m T x y = some (v, m')) : appM P (m.ext g') T x y = some (v, m'.ext g') := by
 unfold appM at hl ⊢
 split at hl
 ·cases hl
 ·rename_i h1
  (try rw [h1])
  (try simp only)
  split at hl
  ·cases hl
  ·rename_i h2
   (try rw [h2])
   (try simp only)
   split at hl
   ·exact appE_ext hl
   ·split at hl
    ·rename_i h3 h4
     rw [h3, rowM_ext h h4]
     (try simp only)
     split at hl
     ·exact growM_ext (h.see _) hl
     ·exact appB_ext (h.see _) hl
     ·cases hl
    ·cases hl
   ·cases hl
theorem mapAt_ext (h : Ext m g') {r : Nat} {es : List MapEntry} (hl : mapAt m r = some es) : mapAt (m.ext g') r = some es := by
 unfold mapAt at hl ⊢
 split at hl
 ·rename_i hc; rw [h.cur hc]; exact hl
 ·cases hl
theorem lookA_ext (h : Ext m g') {T : TypeId} {x k v : Value} {ok : Bool} (hl : lookA P m T x k ok = some (v, m')) : lookA P (m.ext g') T x k ok = some (v, m'.ext g') := by
 unfold lookA at hl ⊢
 split at hl
 ·rename_i h1
  (try rw [h1])
  (try simp only)
  split at hl
  ·rename_i h2
   (try rw [h2])
   (try simp only)
   split at hl
   ·split at hl
    ·rename_i v0 b0 h3; cases hl; rw [show lookE P (m.ext g') _ _ k [] = some (v0, b0) from h3]
    ·cases hl
   ·split at hl
    ·rename_i h3
     rw [mapAt_ext h h3]
     (try simp only)
     split at hl
     ·rename_i es0 _ h3 _ v0 b0 h4; cases hl; rw [show lookE P (m.ext g') _ _ k _ = some (v0, b0) from h4]; rfl
     ·cases hl
    ·cases hl
   ·cases hl
  ·cases hl
 ·cases hl
theorem updA_ext (h : Ext m g') {T : TypeId} {x k v : Value} (hl : updA P m T x k v = some m') : updA P (m.ext g') T x k v = some (m'.ext g') := by
 unfold updA at hl ⊢
 split at hl
 ·rename_i h1
  (try rw [h1])
  (try simp only)
  split at hl
  ·rename_i h2
   (try rw [h2])
   (try simp only)
   split at hl
   ·rename_i hc
    rw [h.cur hc]
    (try simp only)
    split at hl
    ·rename_i h3 h4 h5
     (try rw [h3]); (try rw [h4]); (try rw [h5])
     (try simp only)
     split at hl
     ·rename_i h6
      (try rw [h6])
      (try simp only)
      split at hl
      ·rename_i h7; (try rw [h7]); cases hl; rfl
      ·cases hl
     ·cases hl
    ·rename_i h3 h4 h5
     (try rw [h3]); (try rw [h4]); (try rw [h5])
     cases hl; rfl
    ·cases hl
   ·cases hl
  ·cases hl
 ·cases hl
theorem rangeA_ext (h : Ext m g') {x v : Value} (hl : rangeA m x = some (v, m')) : rangeA (m.ext g') x = some (v, m'.ext g') := by
 unfold rangeA at hl ⊢
 split at hl
 ·rename_i h1 h2
  have e1 : Nat.blt (m.ext g').nx (m.ext g').hi = true := h1
  have e2 : (m.ext g').cur (m.ext g').nx = none := h.new (blt_lt h1) h2
  rw [e1, e2]
  (try simp only)
  split at hl
  ·cases hl; rfl
  ·split at hl
   ·rename_i hc; rw [h.cur hc]; cases hl; rfl
   ·cases hl
  ·cases hl
 ·cases hl
theorem strNext_ext (h : Ext m g') {x v : Value} (hl : strNext m x = some (v, m')) : strNext (m.ext g') x = some (v, m'.ext g') := by
 unfold strNext at hl ⊢
 split at hl
 ·split at hl
  ·rename_i hc
   rw [h.cur hc]
   split at hl
   ·rename_i hb; cases hl; simp only [hb]; rfl
   ·rename_i hb; cases hl; simp only [hb]; rfl
  ·cases hl
 ·cases hl
theorem iterAt_ext (h : Ext m g') {x : Value} {r : Nat × Option Nat × Nat × Array Nat × Nat} (hl : iterAt m x = some r) : iterAt (m.ext g') x = some r := by
 unfold iterAt at hl ⊢
 split at hl
 ·split at hl
  ·rename_i hc; rw [h.cur hc]; exact hl
  ·cases hl
 ·cases hl
theorem ownMapAt_ext (h : Ext m g') {r : Nat} {x : List MapEntry × Nat} (hl : ownMapAt m r = some x) : ownMapAt (m.ext g') r = some x := by
 unfold ownMapAt at hl ⊢
 split at hl
 ·rename_i hc; rw [h.cur hc]; exact hl
 ·cases hl
theorem entryA_ext (h : Ext m g') {x v : Value} (hl : entryA m x = some (v, m')) : entryA (m.ext g') x = some (v, m'.ext g') := by
 unfold entryA at hl ⊢
 split at hl
 ·rename_i h1
  rw [iterAt_ext h h1]
  simp only
  split at hl
  ·rename_i h2 h3
   rw [ownMapAt_ext h h2]
   (try simp only [h3])
   split at hl
   ·rename_i h4 h5; (try simp only [h4, h5]); cases hl; rfl
   ·cases hl
  ·cases hl
 ·cases hl
theorem lenA_ext (h : Ext m g') {T : TypeId} {x v : Value} (hl : lenA P m T x = some (v, m')) : lenA P (m.ext g') T x = some (v, m'.ext g') := by
 unfold lenA at hl ⊢
 split at hl
 ·rename_i h1; (try rw [h1]); cases hl; rfl
 ·rename_i h1; (try rw [h1]); cases hl; rfl
 ·rename_i h1
  (try rw [h1])
  (try simp only)
  split at hl
  ·rename_i h2; rw [mapAt_ext h h2]; cases hl; rfl
  ·cases hl
 ·cases hl
theorem pureOp_ext {ρ : Operand → Value} {o : Oper} {v : Value} (hl : pureOp P ρ m o = some (v, m')) : pureOp P ρ (m.ext g') o = some (v, m'.ext g') := by
 have e := pureOp_any hl (m.ext g')
 have e2 : m' = m := by
  unfold pureOp at hl
  repeat' split at hl
  all_goals first | (cases hl; rfl) | cases hl
 rw [e, e2]
theorem callB_ext (h : Ext m g') {ρ : Operand → Value} {o : Oper} {c : Call} {v : Value} (hl : callB P ρ m o c = some (v, m')) : callB P ρ (m.ext g') o c = some (v, m'.ext g') := by
 unfold callB at hl ⊢
 repeat' split at hl
 all_goals (try (cases hl; done))
 all_goals (try simp only [*])
 all_goals first | exact pureOp_ext hl | exact lenA_ext h hl | exact appM_ext h hl | exact arunO_ext _ h hl | skip
theorem skipR_ext {α : Type} (h : Ext m g') {t : Sem α} {v : Value} (hl : skipR (arunO P t m) = some (v, m')) : skipR (arunO P t (m.ext g')) = some (v, m'.ext g') := by
 cases hs : arunO P t m with
 | none => rw [hs] at hl; cases hl
 | some r =>
  obtain ⟨u, m1⟩ := r
  rw [hs] at hl
  cases hl
  rw [arunO_ext t h hs]
  rfl
theorem op1_ext (h : Ext m g') {ρ : Operand → Value} {o : Oper} {v : Value} (hl : op1 P ρ m o = some (v, m')) : op1 P ρ (m.ext g') o = some (v, m'.ext g') := by
 unfold op1 at hl ⊢
 split at hl
 all_goals (try (cases hl; done))
 all_goals (try simp only [*])
 all_goals try first
  | (cases hl; rfl) | exact pureOp_ext hl | exact arunO_ext _ h hl | exact skipR_ext h hl | exact lookA_ext h hl | exact entryA_ext h hl | exact callB_ext h hl | exact strNext_ext h hl
 all_goals try (split at hl)
 all_goals (try (cases hl; done))
 all_goals (try simp only [*])
 all_goals try first
  | (cases hl; rfl) | exact pureOp_ext hl | exact arunO_ext _ h hl | exact rangeA_ext h hl
 ·rename_i hu; rw [updA_ext h hu]; cases hl; rfl
 ·rename_i hu; rw [updA_ext h hu]; cases hl; rfl
 all_goals try (split at hl)
 all_goals (try (cases hl; done))
 all_goals (try simp only [*])
 all_goals try first
  | (cases hl; rfl) | exact pureOp_ext hl | exact arunO_ext _ h hl | exact rangeA_ext h hl
 all_goals skip
end
end Go.Kr
end
section
namespace Go.Kr
def memN : List Nat → Nat → Bool
 | [], _ => false
 | k :: r, id => match Nat.beq id k with
  | true => true
  | false => memN r id
theorem memN_iff {l : List Nat} {id : Nat} : memN l id = true ↔ id ∈ l := by
 induction l with
 | nil => simp [memN]
 | cons k r ih =>
  simp only [memN, List.mem_cons]
  split
  ·rename_i h; simp [Nat.eq_of_beq_eq_true h]
  ·rename_i h; rw [ih]; simp [Nat.ne_of_beq_eq_false h]
def viewH (h : Hp) (lo : Nat) (hid : List Nat) : Nat → Option Ab := fun id => match Nat.blt id lo with
 | true => match memN hid id with
  | true => none
  | false => h.t.get id
 | false => none
theorem viewH_some {h : Hp} {lo : Nat} {hid : List Nat} {id : Nat} {ab : Ab} (hv : viewH h lo hid id = some ab) : h.t.get id = some ab ∧ id < lo ∧ id ∉ hid := by
 unfold viewH at hv
 split at hv
 ·rename_i h1
  split at hv
  ·cases hv
  ·rename_i h2
   exact ⟨hv, blt_lt h1, fun h3 => by rw [memN_iff.2 h3] at h2; cases h2⟩
 ·cases hv
theorem viewH_le {h : Hp} {lo : Nat} {hid hid' : List Nat} (hh : ∀ k ∈ hid, k ∈ hid') {id : Nat} {ab : Ab} (hv : viewH h lo hid' id = some ab) : viewH h lo hid id = some ab := by
 obtain ⟨h1, h2, h3⟩ := viewH_some hv
 unfold viewH
 have e1 : Nat.blt id lo = true := by simp [Nat.blt]; omega
 rw [e1]
 simp only
 have e2 : memN hid id = false := by
  cases hm : memN hid id with
  | false => rfl
  | true => exact absurd (hh _ (memN_iff.1 hm)) h3
 rw [e2]
 exact h1
theorem viewH_fr {h : Hp} {lo : Nat} {hid : List Nat} {id : Nat} (hl : lo ≤ id) : viewH h lo hid id = none := by
 unfold viewH
 have e1 : Nat.blt id lo = false := by
  cases hb : Nat.blt id lo with
  | false => rfl
  | true => have := blt_lt hb; omega
 rw [e1]
inductive Rk where
 | v
 | s
 | o (g : FuncId) (vs : List Value)
 | b (g : FuncId) (vs : List Value)
structure Rc where
 o : Oper
 s : Sl
 h : Hp
 k : Rk
 hid : List Nat
 v : Value
 u : List (Nat × Option Ab)
 h' : Hp
abbrev OrcS := FuncId → List Value → (Nat → Option Ab) → Nat → Option (Value × List (Nat × Option Ab) × Nat)
abbrev Clf := FuncId → List Value → Hp → Option (Value × Hp)
section
variable (P : Program) (cl : Clf) (orcS : OrcS) (A : Array Oper) (M : List Nat) (n : Nat)
def hidOf (j : Nat) : List (Nat × List Nat) → List Nat
 | [] => []
 | (i, ks) :: r => match Lw.pre M i j with
  | true => hidOf j r
  | false => ks ++ hidOf j r
def stepC (g : FuncId) (vs : List Value) (hid : List Nat) (s : Sl) (h : Hp) (o : Oper) : Option Rc := match orcS g vs (viewH h h.nx hid) h.nx with
 | some (v, u, nx') => some ⟨o, s, h, .o g vs, hid, v, u, ⟨applyU u h.t, nx'⟩⟩
 | none => match cl g vs h with
  | some (v, h') => some ⟨o, s, h, .b g vs, [], v, [], h'⟩
  | none => none
def stepD (hid : List Nat) (s : Sl) (h : Hp) (o : Oper) : Option Rc := match dstOk o.dst n && opsOk o.op with
 | false => none
 | true => match wants A s o with
  | none => none
  | some false => some ⟨o, s, h, .v, [], .tuple #[], [], h⟩
  | some true => match ckind o.op with
   | .next _ => none
   | .call fo args => match calleeA s fo args with
    | none => none
    | some (g, vs) => match goodF P g with
     | none => match vOp P (sev s) o with
      | some v => some ⟨o, s, h, .v, [], v, [], h⟩
      | none => none
     | some _ => stepC cl orcS g vs hid s h o
   | .other => match vOp P (sev s) o with
    | some v => some ⟨o, s, h, .v, [], v, [], h⟩
    | none => match op1 P (sev s) ⟨viewH h h.nx hid, [], h.nx, h.nx + 4, []⟩ o with
     | some (v, m) => some ⟨o, s, h, .s, hid, v, m.u, ⟨applyU m.u h.t, h.nx + 4⟩⟩
     | none => none
def keysU : List (Nat × Option Ab) → List Nat
 | [] => []
 | p :: r => p.1 :: keysU r
def accD (j : Nat) (r : Rc) (acc : List (Nat × List Nat)) : List (Nat × List Nat) := match r.k with
 | .v => acc
 | _ => (j, keysU r.u) :: acc
def goD : List Oper → Nat → Sl → Hp → List (Nat × List Nat) → Option (Sl × Hp × List Rc)
 | [], _, s, h, _ => some (s, h, [])
 | o :: os, j, s, h, acc => match stepD P cl orcS A n (hidOf M j acc) s h o with
  | none => none
  | some r => match goD os (j + 1) (sputT s o.dst r.v) r.h' (accD j r acc) with
   | none => none
   | some (s', h', rs) => some (s', h', r :: rs)
def Rk.isV : Rk → Bool
 | .v => true
 | _ => false
def Rk.isB : Rk → Bool
 | .b _ _ => true
 | _ => false
def disjN : List Nat → List Nat → Bool
 | [], _ => true
 | k :: r, l => match memN l k with
  | true => false
  | false => disjN r l
def keepN (lo : Nat) (hid : List Nat) : List Nat → List Nat → List Nat
 | [], acc => acc
 | k :: r, acc => match Nat.blt k lo with
  | true => match memN hid k with
   | true => keepN lo hid r acc
   | false => k :: keepN lo hid r acc
  | false => keepN lo hid r acc
def need (i : Nat) (r : Rc) : List (Nat × Rc) → Option (List Nat)
 | [] => some []
 | (k, x) :: l => match Nat.beq i k with
  | true => need i r l
  | false => match Lw.pre M i k with
   | true => need i r l
   | false => match Lw.pre M k i with
    | true => need i r l
    | false => match r.k.isB, x.k.isB with
     | false, false => match disjN (keysU r.u) (keysU x.u) with
      | true => match need i r l with
       | some acc => some (keepN r.h.nx r.hid (keysU x.u) acc)
       | none => none
      | false => none
     | _, _ => none
def again (r : Rc) (hid : List Nat) : Bool := match r.k with
 | .s => match op1 P (sev r.s) ⟨viewH r.h r.h.nx hid, [], r.h.nx, r.h.nx + 4, []⟩ r.o with
  | some _ => true
  | none => false
 | _ => false
def memsD : List Rc → Nat → List (Nat × Rc)
 | [], _ => []
 | r :: rs, i => match r.k.isV with
  | true => memsD rs (i + 1)
  | false => (i, r) :: memsD rs (i + 1)
def chkD (L : List (Nat × Rc)) : List (Nat × Rc) → Bool
 | [] => true
 | (i, r) :: l => match Nat.ble r.h.nx r.h'.nx with
  | true => match need M i r L with
   | some [] => chkD L l
   | some (k :: ks) => match again P r (k :: ks ++ r.hid) with
    | true => chkD L l
    | false => false
   | none => false
  | false => false
end
def drwE (P : Program) (orcS : OrcS) : Drw := fun cl A n s h => match Lw.statOk A (Lw.ancs A.toList []) with
 | true => match goD P cl orcS A (Lw.ancs A.toList []) n A.toList 0 s h [] with
  | some (s', h', rs) => match chkD P (Lw.ancs A.toList []) (memsD rs 0) (memsD rs 0) && Nat.ble h'.nx HI with
   | true => some (s', h')
   | false => none
  | none => none
 | false => none
section
variable {ε β : Type}
def lastD (f : ε → Option β) : List ε → (Nat → Bool) → Nat → Option β
 | [], _, _ => none
 | e :: E, m, k => (lastD f E m (k + 1)).or (if m k then f e else none)
theorem lastD_congr {f : ε → Option β} : ∀ {E : List ε} {m m' : Nat → Bool} {k : Nat}, (∀ i e, E[i]? = some e → f e ≠ none → m (k + i) = m' (k + i)) → lastD f E m k = lastD f E m' k
 | [], _, _, _, _ => rfl
 | e :: E, m, m', k, h => by
  simp only [lastD]
  rw [lastD_congr (m := m) (m' := m') (k := k + 1) fun i e' he hf => by have := h (i + 1) e' (by simpa using he) hf; rwa [show k + (i + 1) = k + 1 + i by omega] at this]
  by_cases hf : f e = none
  ·simp [hf]
  ·rw [show m k = m' k from h 0 e (by simp) hf]
theorem lastD_none {f : ε → Option β} : ∀ {E : List ε} {m : Nat → Bool} {k : Nat}, (∀ i e, E[i]? = some e → m (k + i) = true → f e = none) → lastD f E m k = none
 | [], _, _, _ => rfl
 | e :: E, m, k, h => by
  simp only [lastD]
  rw [lastD_none (m := m) (k := k + 1) fun i e' he hm => h (i + 1) e' (by simpa using he) (by rwa [show k + (i + 1) = k + 1 + i by omega])]
  split
  ·rename_i hm; rw [h 0 e (by simp) hm]; rfl
  ·rfl
theorem lastD_ins {f : ε → Option β} : ∀ {E : List ε} {m m' : Nat → Bool} {k j : Nat} {e : ε}, E[j]? = some e → (∀ i, m' i = (m i || i == k + j)) →
  (∀ i e', j < i → E[i]? = some e' → m (k + i) = true → f e = none ∨ f e' = none) → lastD f E m' k = (f e).or (lastD f E m k)
 | [], _, _, _, _, _, h, _, _ => by simp at h
 | e0 :: E, m, m', k, 0, e, h, hm, hd => by
  simp at h
  subst h
  simp only [lastD]
  rw [lastD_congr (m := m') (m' := m) (k := k + 1) fun i e' he hf => by rw [hm]; simp; omega]
  have hk : m' k = true := by rw [hm]; simp
  rw [hk]
  cases hf : f e0 with
  | none => simp
  | some v =>
   rw [lastD_none (k := k + 1) fun i e' he hmi => by
    rcases hd (i + 1) e' (by omega) (by simpa using he) (by rwa [show k + (i + 1) = k + 1 + i by omega]) with h1 | h1
    ·rw [hf] at h1; cases h1
    ·exact h1]
   simp
 | e0 :: E, m, m', k, j + 1, e, h, hm, hd => by
  simp only [lastD]
  rw [lastD_ins (E := E) (m := m) (m' := m') (k := k + 1) (j := j) (e := e) (by simpa using h) (fun i => by rw [hm]; congr 2; omega) fun i e' hji he hmi =>
   hd (i + 1) e' (by omega) (by simpa using he) (by rwa [show k + (i + 1) = k + 1 + i by omega])]
  have hk : m' k = m k := by rw [hm]; simp
  rw [hk, Option.or_assoc]
end
def lookK : List (Nat × Option Ab) → Nat → Option (Option Ab)
 | [], _ => none
 | (k, x) :: r, id => match Nat.beq id k with
  | true => some x
  | false => lookK r id
theorem lookU_K (u : List (Nat × Option Ab)) (g : Nat → Option Ab) (id : Nat) : lookU u g id = (lookK u id).getD (g id) := by
 induction u with
 | nil => rfl
 | cons p u ih =>
  obtain ⟨k, x⟩ := p
  simp only [lookU, lookK]
  split
  ·rename_i e; rw [e]; rfl
  ·rename_i e; rw [e]; exact ih
theorem lookK_mem {u : List (Nat × Option Ab)} {id : Nat} (h : lookK u id ≠ none) : id ∈ keysU u := by
 induction u with
 | nil => exact absurd rfl h
 | cons p u ih =>
  obtain ⟨k, x⟩ := p
  simp only [lookK] at h
  split at h
  ·rename_i e; rw [Nat.eq_of_beq_eq_true e]; simp [keysU]
  ·simp only [keysU, List.mem_cons]; exact .inr (ih h)
def Rc.gets (t : Nat) (r : Rc) : Option Value := if r.o.dst = some t then some r.v else none
def Rc.sets (id : Nat) (r : Rc) : Option (Option Ab) := match r.k with
 | .v => none
 | .b _ _ => some (r.h'.t.get id)
 | _ => lookK r.u id
end Go.Kr
end
