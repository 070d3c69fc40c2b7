/-
A part of the proof that the statement InitialValues holds of the given program (second form, tied card): an abstract memory.
-/
import Derived.Test.YtleopflmnmfaeaaGreatDoorPA
import GoSem.Dispatch
import Derived.KernelRfl
import Derived.Laws.Entries
import Derived.Laws.Rows
import Derived.Orders
set_option autoImplicit false
set_option linter.unusedSimpArgs false
set_option linter.unusedVariables false
set_option linter.unnecessarySimpa false
section
namespace Go.Kr
inductive Tr (α : Type) where
 | e
 | n (v : Option α) (l r : Tr α)
def Tr.get {α : Type} : Tr α → Nat → Option α
 | .e, _ => none
 | .n v l r, k => match Nat.beq k 0 with
  | true => v
  | false => match Nat.beq (Nat.mod k 2) 1 with
   | true => l.get (Nat.div k 2)
   | false => r.get (Nat.sub (Nat.div k 2) 1)
def Tr.root {α : Type} : Tr α → Option α
 | .e => none
 | .n v _ _ => v
def Tr.lf {α : Type} : Tr α → Tr α
 | .e => .e
 | .n _ l _ => l
def Tr.rt {α : Type} : Tr α → Tr α
 | .e => .e
 | .n _ _ r => r
def Tr.put {α : Type} : Nat → Tr α → Nat → Option α → Tr α
 | 0, t, _, _ => t
 | f + 1, t, k, x => match Nat.beq k 0 with
  | true => .n x t.lf t.rt
  | false => match Nat.beq (Nat.mod k 2) 1 with
   | true => .n t.root (t.lf.put f (Nat.div k 2) x) t.rt
   | false => .n t.root t.lf (t.rt.put f (Nat.sub (Nat.div k 2) 1) x)
structure Ab where
 own : Bool
 o : Obj
structure Hp where
 t : Tr Ab
 nx : Nat
def leafB : Value → Bool
 | .agg _ | .tuple _ => false
 | _ => true
def loadC (h : Hp) (a : Addr) : Option Value := match a.spot with
 | some _ => none
 | none => match h.t.get a.block with
  | some ⟨_, .cells c _ _⟩ => c.toList[a.off]?
  | _ => none
def storeC (h : Hp) (a : Addr) (v : Value) : Option Hp := match a.spot with
 | some _ => none
 | none => match h.t.get a.block with
  | some ⟨true, .cells c E f⟩ => match leafB v && Nat.ble (a.off + 1) c.toList.length with
   | true => some ⟨h.t.put 64 a.block (some ⟨true, .cells (c.toList.set a.off v).toArray E f⟩), h.nx⟩
   | false => none
  | _ => none
def notCells : Obj → Bool
 | .cells .. => false
 | _ => true
def arun {α : Type} (P : Program) : Sem α → Hp → Option (α × Hp)
 | .pure a, h => some (a, h)
 | .load .plain a k, h => match loadC h a with
  | some v => arun P (k v) h
  | none => none
 | .store .plain a v k, h => match storeC h a v with
  | some h' => arun P k h'
  | none => none
 | .new o k, h => arun P (k h.nx) ⟨h.t.put 64 h.nx (some ⟨true, o⟩), h.nx + 1⟩
 | .getObj r k, h => match h.t.get r with
  | some ⟨_, o⟩ => match notCells o with
   | true => arun P (k o) h
   | false => none
  | none => none
 | .setObj r o k, h => match h.t.get r with
  | some ⟨true, o'⟩ => match notCells o' with
   | true => arun P k ⟨h.t.put 64 r (some ⟨true, o⟩), h.nx⟩
   | false => none
  | _ => none
 | .choose q k, h => match q.forced with
  | true => arun P (k 0) h
  | false => none
 | .program k, h => arun P (k P) h
 | .mark _ k, h => arun P k h
 | _, _ => none
abbrev Sl := Tr Value
def sget (s : Sl) (t : Nat) : Value := match s.get t with
 | some v => v
 | none => .tuple #[]
def sev (s : Sl) : Operand → Value
 | .tmp t => sget s t
 | .const v => v
 | .global g => .pointer (some ⟨g, 0, none⟩)
 | .func f => .func (.func f) #[] #[]
def sput (s : Sl) (d : Option Nat) (v : Value) : Sl := match d with
 | some t => s.put 64 t (some v)
 | none => s
inductive Ki where
 | code (x : Code)
 | ops (A : Array Oper) (os : List Oper)
 | blk (id : Nat)
 | lp (x : Code)
 | ret (rs : List ResultVar) (s : Sl) (dst : Option Nat)
def popK (id : Nat) : List Ki → Option (List Ki)
 | [] => none
 | .blk j :: k => match Nat.beq j id with
  | true => some k
  | false => popK id k
 | .ret .. :: _ => none
 | _ :: k => popK id k
def popR : List Ki → Option (List ResultVar × Sl × Option Nat × List Ki)
 | [] => none
 | .ret rs s d :: k => some (rs, s, d, k)
 | _ :: k => popR k
def argS : List Value → Nat → Sl → Sl
 | [], _, s => s
 | v :: vs, k, s => argS vs (k + 1) (s.put 64 k (some v))
def resV (P : Program) (s : Sl) (h : Hp) : ResultVar → Option Value
 | .tmp t => some (sget s t)
 | .cell a t => match sget s a with
  | .pointer (some ad) => match arun P (loadVar t ad) h with
   | some (v, _) => some v
   | none => none
  | _ => none
def resVs (P : Program) (s : Sl) (h : Hp) : List ResultVar → Option (List Value)
 | [] => some []
 | r :: rs => match resV P s h r, resVs P s h rs with
  | some v, some vs => some (v :: vs)
  | _, _ => none
def mkR : List Value → Value
 | [v] => v
 | vs => .tuple vs.toArray
def big : Nat := 18446744073709551616
def cellsOf (h : Hp) (n : Nat) : Value → Option (List Value)
 | .slice none _ _ => some []
 | .slice (some a) len _ => match Nat.beq len 0 with
  | true => some []
  | false => match a.spot, h.t.get a.block with
   | none, some ⟨_, .cells c _ _⟩ => some ((c.toList.drop a.off).take n)
   | _, _ => none
 | .string s => some (s.data.toList.map fun b => .int .u8 b.toNat)
 | _ => none
def lenV : Value → Option Nat
 | .slice _ n _ => some n
 | .string s => some s.size
 | _ => none
def elemT (P : Program) (T : TypeId) : Option TypeId := match P.underlying T with
 | some (.slice E) => some E
 | _ => none
def appendV (P : Program) (h : Hp) (T : TypeId) (x y : Value) : Option (Value × Hp) := match elemT P T, x, lenV y with
 | some E, .slice base len cap, some n =>
  match cellsOf h (n * P.cellsOf E) y with
  | none => none
  | some new => match Nat.ble (len + n) cap && Nat.blt cap big, base with
   | true, none => some (.slice none len cap, h)
   | true, some a => match arun P (storeCells (a.add (len * P.cellsOf E)) new) h with
    | some (_, h') => some (.slice base (len + n) cap, h')
    | none => none
   | false, _ => match Nat.beq (len + n) 0 with
    | true => some (.slice none 0 0, h)
    | false => match cellsOf h (len * P.cellsOf E) x with
     | none => none
     | some old =>
      let t := match base with
       | some a => (match h.t.get a.block with
        | some ⟨true, _⟩ => h.t.put 64 a.block none
        | _ => h.t)
       | none => h.t
      some (.slice (some ⟨h.nx, 0, none⟩) (len + n) (big + (len + n)), ⟨t.put 64 h.nx (some ⟨true, .cells (old ++ new).toArray E (0, 0)⟩), h.nx + 1⟩)
 | _, _, _ => none
def nextV (h : Hp) (x : Value) : Option (List (Value × Hp)) := match x with
 | .pointer (some ⟨r, 0, none⟩) => match h.t.get r with
  | some ⟨true, .mapIter none _ _ _⟩ => some [(.tuple #[.bool false], h)]
  | some ⟨true, .mapIter (some m) since seen last⟩ => match h.t.get m with
   | some ⟨_, .map es clock⟩ => match Nat.beq since clock && Nat.beq last clock with
    | true => match es.toList.filter (fun e => !seen.toList.any (Nat.beq e.born)) with
     | [] => some [(.tuple #[.bool false], h)]
     | l => some (l.map fun e => (.tuple #[.bool true, e.key, e.val], ⟨h.t.put 64 r (some ⟨true, .mapIter (some m) since (seen.push e.born) clock⟩), h.nx⟩))
    | false => none
   | _ => none
  | _ => none
 | _ => none
inductive Out where
 | val (v : Value) (h : Hp)
 | enter (f : FuncId) (args : List Value) (h : Hp)
 | bad
def opX (P : Program) (s : Sl) (h : Hp) (o : Oper) : Out := match o.op with
 | .call { callee := .builtin .append, args, argTypes } => match args.toList, argTypes.toList with
  | [x, y], T :: _ => match appendV P h T (sev s x) (sev s y) with
   | some (v, h') => .val v h'
   | none => .bad
  | _, _ => .bad
 | .next x false => match nextV h (sev s x) with
  | some ((v, h') :: _) => .val v h'
  | _ => .bad
 | _ => match arun P (execOp (sev s) o) h with
  | some (.value v, h') => .val v h'
  | some (.skip, h') => .val (.tuple #[]) h'
  | some (.enter f args, h') => .enter f args.toList h'
  | _ => .bad
def gslot (A : Array Oper) (j : Nat) : Option Nat := (A.toList[j]?).bind (·.dst)
def wants (A : Array Oper) (s : Sl) (o : Oper) : Option Bool := match o.guard with
 | none => some true
 | some (j, w) => match gslot A j with
  | none => none
  | some t => match sget s t with
   | .bool b => some (b == w)
   | _ => some false
inductive Res where
 | done (v : Value) (h : Hp) (left : Nat)
 | bad (why : List Ki) (s : Sl) (h : Hp)
 | out
def ev (P : Program) (orc : FuncId → List Value → Hp → Option (Value × Hp)) : Nat → List Ki → Sl → Hp → Res
 | 0, _, _, _ => .out
 | f + 1, K, s, h => match K with
  | [] => .bad K s h
  | .blk _ :: k => ev P orc f k s h
  | .lp x :: k => ev P orc f (.code x :: .lp x :: k) s h
  | .ops _ [] :: k => ev P orc f k s h
  | .ops A (o :: os) :: k => match wants A s o with
   | none => .bad K s h
   | some false => ev P orc f (.ops A os :: k) (sput s o.dst (.tuple #[])) h
   | some true => match opX P s h o with
    | .val v h' => ev P orc f (.ops A os :: k) (sput s o.dst v) h'
    | .enter g args h' => match orc g args h' with
     | some (v, h2) => ev P orc f (.ops A os :: k) (sput s o.dst v) h2
     | none => match P.funcs[g]? with
     | some fn => match fn.body with
      | some x => ev P orc f (.code x :: .ret fn.results.toList s o.dst :: .ops A os :: k) (argS args 0 .e) h'
      | none => .bad K s h
     | none => .bad K s h
    | .bad => .bad K s h
  | .ret rs s' d :: k => match resVs P s h rs with
   | some vs => match k with
    | [] => .done (mkR vs) h f
    | _ => ev P orc f k (sput s' d (mkR vs)) h
   | none => .bad K s h
  | .code x :: k => match x with
   | .skip => ev P orc f k s h
   | .label _ => ev P orc f k s h
   | .seq a b => ev P orc f (.code a :: .code b :: k) s h
   | .block id b => ev P orc f (.code b :: .blk id :: k) s h
   | .loop b => ev P orc f (.code b :: .lp b :: k) s h
   | .region _ A _ => ev P orc f (.ops A A.toList :: k) s h
   | .cond c a b => match sev s c with
    | .bool true => ev P orc f (.code a :: k) s h
    | .bool false => ev P orc f (.code b :: k) s h
    | _ => .bad K s h
   | .exit id => match popK id k with
    | some k' => ev P orc f k' s h
    | none => .bad K s h
   | .ret => match popR k with
    | some (rs, s', d, k') => ev P orc f (.ret rs s' d :: k') s h
    | none => .bad K s h
   | _ => .bad K s h
def start (P : Program) (orc : FuncId → List Value → Hp → Option (Value × Hp)) (f : FuncId) (args : List Value) (fuel : Nat) (h : Hp) : Res := match P.funcs[f]? with
 | some fn => match fn.body with
  | some x => ev P orc fuel [.code x, .ret fn.results.toList .e none] (argS args 0 .e) h
  | none => .out
 | none => .out
end Go.Kr
end
section
namespace Go.Kr
structure Pl where
 b : Nat
 δ : Nat
 κ : Nat
abbrev Gm := Nat → Option (Option Pl)
def AR (γ : Gm) (a a' : Addr) : Prop := a.spot = none ∧ match γ a.block with
 | none => False
 | some none => True
 | some (some p) => a' = ⟨p.b, a.off + p.δ, none⟩
def CapR (γ : Gm) (a : Addr) (l c c' : Nat) : Prop := (c < big → c' = c) ∧ (big ≤ c → l ≤ c' ∧ match γ a.block with
 | some (some p) => a.off + c' * (c - big) ≤ p.κ
 | _ => True)
inductive VR (γ : Gm) : Value → Value → Prop
 | bool (b : Bool) : VR γ (.bool b) (.bool b)
 | int (k : IntKind) (n : Int) : VR γ (.int k n) (.int k n)
 | str (s : ByteArray) : VR γ (.string s) (.string s)
 | ptrN : VR γ (.pointer none) (.pointer none)
 | ptr (a a' : Addr) (h : AR γ a a') : VR γ (.pointer (some a)) (.pointer (some a'))
 | slN (l c : Nat) : VR γ (.slice none l c) (.slice none l c)
 | sl (a a' : Addr) (l c c' : Nat) (h : AR γ a a') (hc : CapR γ a l c c') : VR γ (.slice (some a) l c) (.slice (some a') l c')
 | mapN : VR γ (.map none) (.map none)
 | map (r r' : Nat) (h : γ r = some none ∨ ∃ κ, γ r = some (some ⟨r', 0, κ⟩)) : VR γ (.map (some r)) (.map (some r'))
 | fn (f : Fn) (xs ys cs ds : Array Value) (h1 : ys.size = xs.size) (h2 : ds.size = cs.size)
   (h3 : ∀ (j : Nat) (x y : Value), xs[j]? = some x → ys[j]? = some y → VR γ x y)
   (h4 : ∀ (j : Nat) (x y : Value), cs[j]? = some x → ds[j]? = some y → VR γ x y) : VR γ (.func f xs cs) (.func f ys ds)
 | nilF : VR γ .nilFunc .nilFunc
 | nilI : VR γ .nilIface .nilIface
 | agg (xs ys : Array Value) (hl : ys.size = xs.size) (h : ∀ (j : Nat) (x y : Value), xs[j]? = some x → ys[j]? = some y → VR γ x y) : VR γ (.agg xs) (.agg ys)
 | tup (xs ys : Array Value) (hl : ys.size = xs.size) (h : ∀ (j : Nat) (x y : Value), xs[j]? = some x → ys[j]? = some y → VR γ x y) : VR γ (.tuple xs) (.tuple ys)
def Keep (γ γ' : Gm) : Prop := ∀ id, (∀ p, γ id = some (some p) → γ' id = some (some p) ∨ γ' id = some none) ∧ (γ id = some none → γ' id = some none)
theorem Keep.refl (γ : Gm) : Keep γ γ := fun _ => ⟨fun _ h => .inl h, fun h => h⟩
theorem Keep.trans {γ γ1 γ2 : Gm} (h : Keep γ γ1) (k : Keep γ1 γ2) : Keep γ γ2 := fun id => ⟨fun p hp => by
 rcases (h id).1 p hp with h1 | h1
 ·exact (k id).1 p h1
 ·exact .inr ((k id).2 h1), fun hp => (k id).2 ((h id).2 hp)⟩
theorem AR.keep {γ γ' : Gm} (hk : Keep γ γ') {a a' : Addr} (h : AR γ a a') : AR γ' a a' := by
 refine ⟨h.1, ?_⟩
 have h2 := h.2
 cases hg : γ a.block with
 | none => rw [hg] at h2; exact h2.elim
 | some x =>
  cases x with
  | none => rw [(hk _).2 hg]; trivial
  | some p =>
   rw [hg] at h2
   rcases (hk _).1 p hg with e | e <;> rw [e]
   ·exact h2
   ·trivial
theorem CapR.keep {γ γ' : Gm} (hk : Keep γ γ') {a : Addr} {l c c' : Nat} (ha : ∃ a', AR γ a a') (h : CapR γ a l c c') : CapR γ' a l c c' := by
 refine ⟨h.1, fun hb => ⟨(h.2 hb).1, ?_⟩⟩
 have h2 := (h.2 hb).2
 obtain ⟨a', _, ha⟩ := ha
 cases hg : γ a.block with
 | none => rw [hg] at ha; exact ha.elim
 | some x =>
  cases x with
  | none => rw [(hk _).2 hg]; trivial
  | some p =>
   rw [hg] at h2
   rcases (hk _).1 p hg with e | e <;> rw [e]
   ·exact h2
   ·trivial
theorem VR.keep {γ γ' : Gm} (hk : Keep γ γ') {v v' : Value} (h : VR γ v v') : VR γ' v v' := by
 induction h with
 | bool b => exact .bool b
 | int k n => exact .int k n
 | str s => exact .str s
 | ptrN => exact .ptrN
 | ptr a a' h => exact .ptr a a' (h.keep hk)
 | slN l c => exact .slN l c
 | sl a a' l c c' h hc => exact .sl a a' l c c' (h.keep hk) (hc.keep hk ⟨_, h⟩)
 | mapN => exact .mapN
 | map r r' h =>
  refine .map r r' ?_
  rcases h with h | h
  ·exact .inl ((hk _).2 h)
  ·obtain ⟨κ, h⟩ := h
   rcases (hk _).1 _ h with e | e
   ·exact .inr ⟨κ, e⟩
   ·exact .inl e
 | fn f xs ys cs ds h1 h2 _ _ ih3 ih4 => exact .fn f xs ys cs ds h1 h2 ih3 ih4
 | nilF => exact .nilF
 | nilI => exact .nilI
 | agg xs ys hl _ ih => exact .agg xs ys hl ih
 | tup xs ys hl _ ih => exact .tup xs ys hl ih
theorem VR.leaf {γ : Gm} {v v' : Value} (h : VR γ v v') : leafB v' = leafB v := by cases h <;> rfl
structure LR (γ : Gm) (xs ys : List Value) : Prop where
 len : ys.length = xs.length
 at_ : ∀ (j : Nat) (x y : Value), xs[j]? = some x → ys[j]? = some y → VR γ x y
theorem LR.nil (γ : Gm) : LR γ [] [] := ⟨rfl, fun j x y h => by simp at h⟩
theorem LR.cons {γ : Gm} {x y : Value} {xs ys : List Value} (h : VR γ x y) (hs : LR γ xs ys) : LR γ (x :: xs) (y :: ys) := by
 refine ⟨by simp [hs.len], fun j a b ha hb => ?_⟩
 cases j with
 | zero => simp at ha hb; subst ha hb; exact h
 | succ j => exact hs.at_ j a b (by simpa using ha) (by simpa using hb)
theorem LR.head {γ : Gm} {x y : Value} {xs ys : List Value} (h : LR γ (x :: xs) (y :: ys)) : VR γ x y := h.at_ 0 x y rfl rfl
theorem LR.tail {γ : Gm} {x y : Value} {xs ys : List Value} (h : LR γ (x :: xs) (y :: ys)) : LR γ xs ys :=
 ⟨by simpa using h.len, fun j a b ha hb => h.at_ (j + 1) a b (by simpa using ha) (by simpa using hb)⟩
theorem LR.inv_cons {γ : Gm} {x : Value} {xs ys : List Value} (h : LR γ (x :: xs) ys) : ∃ y zs, ys = y :: zs ∧ VR γ x y ∧ LR γ xs zs := by
 cases ys with
 | nil => have := h.len; simp at this
 | cons y zs => exact ⟨y, zs, rfl, h.head, h.tail⟩
theorem LR.inv_nil {γ : Gm} {ys : List Value} (h : LR γ [] ys) : ys = [] := List.length_eq_zero_iff.1 (by simpa using h.len)
theorem LR.keep {γ γ' : Gm} (hk : Keep γ γ') {xs ys : List Value} (h : LR γ xs ys) : LR γ' xs ys := ⟨h.len, fun j x y hx hy => (h.at_ j x y hx hy).keep hk⟩
theorem LR.append {γ : Gm} {xs ys as bs : List Value} (h : LR γ xs ys) (k : LR γ as bs) : LR γ (xs ++ as) (ys ++ bs) := by
 induction xs generalizing ys with
 | nil => rw [h.inv_nil]; exact k
 | cons x xs ih => obtain ⟨y, zs, rfl, h1, h2⟩ := h.inv_cons; exact .cons h1 (ih h2)
theorem LR.take {γ : Gm} {xs ys : List Value} (h : LR γ xs ys) (n : Nat) : LR γ (xs.take n) (ys.take n) :=
 ⟨by simp [h.len], fun j x y hx hy => by
  rw [List.getElem?_take] at hx hy
  split at hx
  ·rename_i hj; rw [if_pos hj] at hy; exact h.at_ j x y hx hy
  ·cases hx⟩
theorem LR.drop {γ : Gm} {xs ys : List Value} (h : LR γ xs ys) (n : Nat) : LR γ (xs.drop n) (ys.drop n) :=
 ⟨by simp [h.len], fun j x y hx hy => by rw [List.getElem?_drop] at hx hy; exact h.at_ _ x y hx hy⟩
theorem LR.get {γ : Gm} {xs ys : List Value} (h : LR γ xs ys) {j : Nat} {x : Value} (hx : xs[j]? = some x) : ∃ y, ys[j]? = some y ∧ VR γ x y := by
 have hlt : j < ys.length := by rw [h.len]; exact (List.getElem?_eq_some_iff.1 hx).1
 exact ⟨ys[j], List.getElem?_eq_getElem hlt, h.at_ j x _ hx (List.getElem?_eq_getElem hlt)⟩
theorem LR.set {γ : Gm} {xs ys : List Value} (h : LR γ xs ys) (i : Nat) {x y : Value} (hv : VR γ x y) : LR γ (xs.set i x) (ys.set i y) :=
 ⟨by simp [h.len], fun j a b ha hb => by
  rw [List.getElem?_set] at ha hb
  split at ha
  ·rename_i e
   rw [if_pos e] at hb
   split at ha
   ·cases ha
    split at hb
    ·cases hb; exact hv
    ·cases hb
   ·cases ha
  ·rename_i e; rw [if_neg e] at hb; exact h.at_ j a b ha hb⟩
theorem VR.agg' {γ : Gm} {xs ys : Array Value} (h : LR γ xs.toList ys.toList) : VR γ (.agg xs) (.agg ys) :=
 .agg xs ys (by simpa using h.len) fun j x y hx hy => h.at_ j x y (by simpa using hx) (by simpa using hy)
theorem VR.tup' {γ : Gm} {xs ys : Array Value} (h : LR γ xs.toList ys.toList) : VR γ (.tuple xs) (.tuple ys) :=
 .tup xs ys (by simpa using h.len) fun j x y hx hy => h.at_ j x y (by simpa using hx) (by simpa using hy)
theorem VR.agg_inv {γ : Gm} {xs : Array Value} {v : Value} (h : VR γ (.agg xs) v) : ∃ ys, v = .agg ys ∧ LR γ xs.toList ys.toList := by
 cases h with
 | agg _ ys hl h => exact ⟨ys, rfl, by simpa using hl, fun j x y hx hy => h j x y (by simpa using hx) (by simpa using hy)⟩
theorem VR.tup_inv {γ : Gm} {xs : Array Value} {v : Value} (h : VR γ (.tuple xs) v) : ∃ ys, v = .tuple ys ∧ LR γ xs.toList ys.toList := by
 cases h with
 | tup _ ys hl h => exact ⟨ys, rfl, by simpa using hl, fun j x y hx hy => h j x y (by simpa using hx) (by simpa using hy)⟩
theorem VR.cells {γ : Gm} {v v' : Value} (h : VR γ v v') : LR γ v.cells.toList v'.cells.toList := by
 cases h with
 | agg xs ys hl h => exact ⟨by simpa [Value.cells] using hl, fun j x y hx hy => h j x y (by simpa [Value.cells] using hx) (by simpa [Value.cells] using hy)⟩
 | _ =>
  refine .cons ?_ (.nil γ)
  first
   | exact .bool _ | exact .int _ _ | exact .str _ | exact .ptrN | exact .slN _ _ | exact .mapN | exact .nilF | exact .nilI
   | (apply VR.ptr; assumption) | (apply VR.sl <;> assumption) | (apply VR.map; assumption) | (apply VR.fn <;> assumption) | (apply VR.tup <;> assumption)
inductive AbR (γ : Gm) (w : World) : Ab → Pl → Prop
 | own (c cur : List Value) (E : TypeId) (b κ : Nat) (hκ : cur.length = κ) (hb : w.heap[b]? = some (.cells cur.toArray E (0, 0))) (hl : c.length ≤ cur.length)
   (h : ∀ (j : Nat) (x y : Value), c[j]? = some x → cur[j]? = some y → VR γ x y) : AbR γ w ⟨true, .cells c.toArray E (0, 0)⟩ ⟨b, 0, κ⟩
 | frz (c : List Value) (E : TypeId) (f : Nat × Nat) (b δ κ : Nat) (h : ∀ (j : Nat) (x : Value), c[j]? = some x → ∃ y, w.cell? ⟨b, j + δ, none⟩ = some y ∧ VR γ x y) : AbR γ w ⟨false, .cells c.toArray E f⟩ ⟨b, δ, κ⟩
 | map (o : Bool) (es es' : List MapEntry) (cl cl' b κ : Nat) (hb : w.heap[b]? = some (.map es'.toArray cl')) (hl : es'.length = es.length)
   (hk : ∀ (j : Nat) (x y : MapEntry), es[j]? = some x → es'[j]? = some y → VR γ x.key y.key ∧ VR γ x.val y.val ∧ (o = true → y.born = x.born)) (hc : o = true → cl' = cl) : AbR γ w ⟨o, .map es.toArray cl⟩ ⟨b, 0, κ⟩
 | strit (o : Bool) (s : ByteArray) (pos b κ : Nat) (hb : w.heap[b]? = some (.stringIter s pos)) : AbR γ w ⟨o, .stringIter s pos⟩ ⟨b, 0, κ⟩
 | mapit (o : Bool) (m m' : Option Nat) (since : Nat) (seen : Array Nat) (last b κ : Nat) (hb : w.heap[b]? = some (.mapIter m' since seen last)) (hm : VR γ (.map m) (.map m')) : AbR γ w ⟨o, .mapIter m since seen last⟩ ⟨b, 0, κ⟩
structure HR (H : Nat → Option Ab) (γ : Gm) (w : World) : Prop where
 obj : ∀ id ab, H id = some ab → ∃ p, γ id = some (some p) ∧ AbR γ w ab p ∧ p.b < w.heap.size
 dead : ∀ id, H id = none → ∀ p, γ id ≠ some (some p)
 inj : ∀ id id' ab ab' p p', H id = some ab → ab.own = true → H id' = some ab' → id ≠ id' → γ id = some (some p) → γ id' = some (some p') → p.b ≠ p'.b
def Own (H : Nat → Option Ab) (γ : Gm) (b : Nat) : Prop := ∃ id ab p, H id = some ab ∧ ab.own = true ∧ γ id = some (some p) ∧ p.b = b
def Free (γ : Gm) (lo hi : Nat) : Prop := ∀ id, lo ≤ id → id < hi → γ id = none
structure Post (H : Nat → Option Ab) (nx hi : Nat) (γ : Gm) (w : World) (H' : Nat → Option Ab) (nx' : Nat) (γ' : Gm) (w' : World) : Prop where
 hr : HR H' γ' w'
 le : nx ≤ nx'
 free : Free γ' nx' hi
 keep : Keep γ γ'
 unb : ∀ id, ¬ (nx ≤ id ∧ id < hi) → γ id = none → γ' id = none
 size : w.heap.size ≤ w'.heap.size
 os : w'.os = w.os
 tape : w'.tape = w.tape
 output : w'.output = w.output
 out : ∀ b, b < w.heap.size → ¬ Own H γ b → w'.heap[b]? = w.heap[b]?
 own : ∀ b, Own H' γ' b → Own H γ b ∨ w.heap.size ≤ b
theorem Post.refl {H : Nat → Option Ab} {nx hi : Nat} {γ : Gm} {w : World} (h : HR H γ w) (hf : Free γ nx hi) : Post H nx hi γ w H nx γ w :=
 ⟨h, Nat.le_refl _, hf, .refl γ, fun _ _ h => h, Nat.le_refl _, rfl, rfl, rfl, fun _ _ _ => rfl, fun _ h => .inl h⟩
theorem Post.trans {H H1 H2 : Nat → Option Ab} {nx nx1 nx2 hi : Nat} {γ γ1 γ2 : Gm} {w w1 w2 : World} (h : Post H nx hi γ w H1 nx1 γ1 w1) (k : Post H1 nx1 hi γ1 w1 H2 nx2 γ2 w2) : Post H nx hi γ w H2 nx2 γ2 w2 := {
 hr := k.hr
 le := Nat.le_trans h.le k.le
 free := k.free
 keep := h.keep.trans k.keep
 unb := fun id h1 h2 => k.unb id (fun h3 => h1 ⟨Nat.le_trans h.le h3.1, h3.2⟩) (h.unb id h1 h2)
 size := Nat.le_trans h.size k.size
 os := k.os.trans h.os
 tape := k.tape.trans h.tape
 output := k.output.trans h.output
 out := fun b hb ho => (k.out b (Nat.lt_of_lt_of_le hb h.size) (fun h1 => by
  rcases h.own b h1 with h2 | h2
  ·exact ho h2
  ·omega)).trans (h.out b hb ho)
 own := fun b hb => by
  rcases k.own b hb with h1 | h1
  ·exact h.own b h1
  ·exact .inr (Nat.le_trans h.size h1) }
end Go.Kr
end
section
namespace Go.Kr
def updF {α : Type} (f : Nat → α) (i : Nat) (x : α) : Nat → α := fun j => if j = i then x else f j
theorem updF_same {α : Type} (f : Nat → α) (i : Nat) (x : α) : updF f i x i = x := by simp [updF]
theorem updF_ne {α : Type} (f : Nat → α) {i j : Nat} (x : α) (h : j ≠ i) : updF f i x j = f j := by simp [updF, h]
theorem cell_of_block {w w' : World} {a : Addr} (h : w'.heap[a.block]? = w.heap[a.block]?) : w'.cell? a = w.cell? a := by simp [World.cell?, h]
theorem AbR.mono {γ γ' : Gm} {w w' : World} {ab : Ab} {p : Pl} (h : AbR γ w ab p) (hk : Keep γ γ') (hb : w'.heap[p.b]? = w.heap[p.b]?) : AbR γ' w' ab p := by
 cases h with
 | own c cur E b κ hκ h1 hl h2 => exact .own c cur E b κ hκ (hb.trans h1) hl fun j x y hx hy => (h2 j x y hx hy).keep hk
 | frz c E f b δ κ h1 =>
  refine .frz c E f b δ κ fun j x hx => ?_
  obtain ⟨y, hy, hv⟩ := h1 j x hx
  exact ⟨y, by rw [cell_of_block hb]; exact hy, hv.keep hk⟩
 | map o es es' cl cl' b κ h1 hl h2 hc => exact .map o es es' cl cl' b κ (hb.trans h1) hl (fun j x y hx hy => by obtain ⟨a1, a2, a3⟩ := h2 j x y hx hy; exact ⟨a1.keep hk, a2.keep hk, a3⟩) hc
 | strit o s pos b κ h1 => exact .strit o s pos b κ (hb.trans h1)
 | mapit o m m' since seen last b κ h1 hm => exact .mapit o m m' since seen last b κ (hb.trans h1) (hm.keep hk)
theorem HR.write {H : Nat → Option Ab} {γ : Gm} {w w' : World} {nx hi : Nat} (h : HR H γ w) (hf : Free γ nx hi) {id b : Nat} {ab ab' : Ab} {δ κ : Nat} (hid : H id = some ab) (hown : ab.own = true) (hg : γ id = some (some ⟨b, δ, κ⟩))
  (hs : w'.heap.size = w.heap.size) (ho : w'.os = w.os) (ht : w'.tape = w.tape) (hp : w'.output = w.output) (hb : ∀ k, k ≠ b → w'.heap[k]? = w.heap[k]?) (hown' : ab'.own = true) (hab : AbR γ w' ab' ⟨b, δ, κ⟩) :
  Post H nx hi γ w (updF H id (some ab')) nx γ w' := {
 hr := {
  obj := fun k ab1 hk => by
   by_cases e : k = id
   ·subst e
    rw [updF_same] at hk
    cases hk
    obtain ⟨p, h1, h2, h3⟩ := h.obj k ab hid
    rw [hg] at h1
    cases h1
    exact ⟨_, hg, hab, by rw [hs]; exact h3⟩
   ·rw [updF_ne _ _ e] at hk
    obtain ⟨p, h1, h2, h3⟩ := h.obj k ab1 hk
    have hne : p.b ≠ b := fun e2 => h.inj id k ab ab1 ⟨b, δ, κ⟩ p hid hown hk (fun e3 => e e3.symm) hg h1 e2.symm
    exact ⟨p, h1, h2.mono (.refl γ) (hb _ hne), by rw [hs]; exact h3⟩
  dead := fun k hk => by
   by_cases e : k = id
   ·subst e; rw [updF_same] at hk; cases hk
   ·rw [updF_ne _ _ e] at hk; exact h.dead k hk
  inj := fun k k' a1 a2 p p' h1 h2 h3 h4 h5 h6 => by
   have look : ∀ k a, updF H id (some ab') k = some a → ∃ a', H k = some a' ∧ (a.own = true → a'.own = true) := fun k a hk => by
    by_cases e : k = id
    ·subst e; exact ⟨ab, hid, fun _ => hown⟩
    ·rw [updF_ne _ _ e] at hk; exact ⟨a, hk, fun h => h⟩
   obtain ⟨b1, c1, c2⟩ := look k a1 h1
   obtain ⟨b2, d1, d2⟩ := look k' a2 h3
   exact h.inj k k' b1 b2 p p' c1 (c2 h2) d1 h4 h5 h6 }
 le := Nat.le_refl _
 free := hf
 keep := .refl γ
 unb := fun _ _ h => h
 size := by omega
 os := ho
 tape := ht
 output := hp
 out := fun k hk hno => hb k fun e => hno ⟨id, ab, ⟨b, δ, κ⟩, hid, hown, hg, e.symm⟩
 own := fun k ⟨i, a, p, h1, h2, h3, h4⟩ => by
  by_cases e : i = id
  ·subst e; exact .inl ⟨i, ab, p, hid, hown, h3, h4⟩
  ·rw [updF_ne _ _ e] at h1; exact .inl ⟨i, a, p, h1, h2, h3, h4⟩ }
theorem Keep.born {γ : Gm} {id : Nat} (h : γ id = none) (x : Option Pl) : Keep γ (updF γ id (some x)) := fun k => by
 by_cases e : k = id
 ·subst e; rw [h]; exact ⟨fun p hp => (by cases hp), fun hp => (by cases hp)⟩
 ·rw [updF_ne _ _ e]; exact ⟨fun p hp => .inl hp, fun hp => hp⟩
theorem HR.new {H : Nat → Option Ab} {γ : Gm} {w : World} {nx hi : Nat} (h : HR H γ w) (hf : Free γ nx hi) (hlt : nx < hi) {o : Obj} {ab : Ab} (hn : H nx = none) (κ : Nat)
  (hab : AbR (updF γ nx (some (some ⟨w.heap.size, 0, κ⟩))) { w with heap := w.heap.push o } ab ⟨w.heap.size, 0, κ⟩) :
  Post H nx hi γ w (updF H nx (some ab)) (nx + 1) (updF γ nx (some (some ⟨w.heap.size, 0, κ⟩))) { w with heap := w.heap.push o } := by
 have hγ : γ nx = none := hf nx (Nat.le_refl _) hlt
 have hkeep := Keep.born hγ (some ⟨w.heap.size, 0, κ⟩)
 have hblk : ∀ k, k < w.heap.size → (w.heap.push o)[k]? = w.heap[k]? := fun k hk => by rw [Array.getElem?_push]; rw [if_neg (by omega)]
 refine ⟨⟨fun k a hk => ?_, fun k hk p => ?_, fun k k' a1 a2 p p' h1 h2 h3 h4 h5 h6 => ?_⟩, Nat.le_succ _, fun k h1 h2 => ?_, hkeep, fun k h1 h2 => ?_, by simp, rfl, rfl, rfl, fun b hb _ => hblk b hb, fun b ⟨i, a, p, h1, h2, h3, h4⟩ => ?_⟩
 ·by_cases e : k = nx
  ·subst e
   rw [updF_same] at hk
   cases hk
   exact ⟨_, updF_same _ _ _, hab, by simp⟩
  ·rw [updF_ne _ _ e] at hk
   obtain ⟨p, h1, h2, h3⟩ := h.obj k a hk
   exact ⟨p, by rw [updF_ne _ _ e]; exact h1, h2.mono hkeep (hblk _ h3), by simp; omega⟩
 ·by_cases e : k = nx
  ·subst e; rw [updF_same] at hk; cases hk
  ·rw [updF_ne _ _ e] at hk ⊢; exact h.dead k hk p
 ·have place : ∀ k a p, updF H nx (some ab) k = some a → updF γ nx (some (some ⟨w.heap.size, 0, κ⟩)) k = some (some p) → (k = nx ∧ p.b = w.heap.size) ∨ (k ≠ nx ∧ H k = some a ∧ γ k = some (some p) ∧ p.b < w.heap.size) := fun k a p hk hp => by
   by_cases e : k = nx
   ·subst e; rw [updF_same] at hp; cases hp; exact .inl ⟨rfl, rfl⟩
   ·rw [updF_ne _ _ e] at hk hp
    obtain ⟨q, h1, _, h3⟩ := h.obj k a hk
    rw [hp] at h1; cases h1
    exact .inr ⟨e, hk, hp, h3⟩
  rcases place k a1 p h1 h5 with ⟨e1, e2⟩ | ⟨e1, e2, e3, e4⟩ <;> rcases place k' a2 p' h3 h6 with ⟨f1, f2⟩ | ⟨f1, f2, f3, f4⟩
  ·exact absurd (e1.trans f1.symm) h4
  ·omega
  ·omega
  ·exact h.inj k k' a1 a2 p p' e2 h2 f2 h4 e3 f3
 ·rw [updF_ne _ _ (by omega)]; exact hf k (by omega) h2
 ·rw [updF_ne _ _ (fun e => h1 (by subst e; exact ⟨Nat.le_refl _, hlt⟩))]; exact h2
 ·by_cases e : i = nx
  ·subst e; rw [updF_same] at h3; cases h3; exact .inr (by simp only at h4; omega)
  ·rw [updF_ne _ _ e] at h1 h3; exact .inl ⟨i, a, p, h1, h2, h3, h4⟩
theorem HR.kill {H : Nat → Option Ab} {γ : Gm} {w : World} {nx hi : Nat} (h : HR H γ w) (hf : Free γ nx hi) {id : Nat} (hid : H id ≠ none) :
  Post H nx hi γ w (updF H id none) nx (updF γ id (some none)) w := by
 have hg : γ id ≠ none := fun e => by
  cases hh : H id with
  | none => exact hid hh
  | some ab => obtain ⟨p, h1, _⟩ := h.obj id ab hh; rw [e] at h1; cases h1
 have hkeep : Keep γ (updF γ id (some none)) := fun k => by
  by_cases e : k = id
  ·subst e; rw [updF_same]; exact ⟨fun p hp => .inr rfl, fun _ => rfl⟩
  ·rw [updF_ne _ _ e]; exact ⟨fun p hp => .inl hp, fun hp => hp⟩
 refine ⟨⟨fun k a hk => ?_, fun k hk p => ?_, fun k k' a1 a2 p p' h1 h2 h3 h4 h5 h6 => ?_⟩, Nat.le_refl _, fun k h1 h2 => ?_, hkeep, fun k h1 h2 => ?_, Nat.le_refl _, rfl, rfl, rfl, fun b hb _ => rfl, fun b ⟨i, a, p, h1, h2, h3, h4⟩ => ?_⟩
 ·by_cases e : k = id
  ·subst e; rw [updF_same] at hk; cases hk
  ·rw [updF_ne _ _ e] at hk
   obtain ⟨p, h1, h2, h3⟩ := h.obj k a hk
   exact ⟨p, by rw [updF_ne _ _ e]; exact h1, h2.mono hkeep rfl, h3⟩
 ·by_cases e : k = id
  ·subst e; rw [updF_same]; intro e; cases e
  ·rw [updF_ne _ _ e] at hk ⊢; exact h.dead k hk p
 ·by_cases e : k = id
  ·subst e; rw [updF_same] at h1; cases h1
  ·by_cases e' : k' = id
   ·subst e'; rw [updF_same] at h3; cases h3
   ·rw [updF_ne _ _ e] at h1 h5; rw [updF_ne _ _ e'] at h3 h6; exact h.inj k k' a1 a2 p p' h1 h2 h3 h4 h5 h6
 ·rw [updF_ne _ _ (fun e => by subst e; exact hg (hf k h1 h2))]; exact hf k h1 h2
 ·rw [updF_ne _ _ (fun e => by subst e; exact hg h2)]; exact h2
 ·by_cases e : i = id
  ·subst e; rw [updF_same] at h1; cases h1
  ·rw [updF_ne _ _ e] at h1 h3; exact .inl ⟨i, a, p, h1, h2, h3, h4⟩
def lookU : List (Nat × Option Ab) → (Nat → Option Ab) → Nat → Option Ab
 | [], g, id => g id
 | (k, x) :: r, g, id => match Nat.beq id k with
  | true => x
  | false => lookU r g id
structure Ms where
 g : Nat → Option Ab
 u : List (Nat × Option Ab)
 nx : Nat
 hi : Nat
 log : List Nat
def Ms.cur (m : Ms) : Nat → Option Ab := lookU m.u m.g
def Ms.set (m : Ms) (id : Nat) (x : Option Ab) : Ms := ⟨m.g, (id, x) :: m.u, m.nx, m.hi, id :: m.log⟩
def Ms.see (m : Ms) (id : Nat) : Ms := ⟨m.g, m.u, m.nx, m.hi, id :: m.log⟩
def Ms.born (m : Ms) (x : Ab) : Ms := ⟨m.g, (m.nx, some x) :: m.u, m.nx + 1, m.hi, m.nx :: m.log⟩
theorem cur_set (m : Ms) (id : Nat) (x : Option Ab) : (m.set id x).cur = updF m.cur id x := by
 funext k
 unfold Ms.set Ms.cur updF
 simp only [lookU]
 split
 ·rename_i e; rw [if_pos (Nat.eq_of_beq_eq_true e)]
 ·rename_i e; rw [if_neg (Nat.ne_of_beq_eq_false e)]
theorem cur_born (m : Ms) (x : Ab) : (m.born x).cur = updF m.cur m.nx (some x) := by
 funext k
 unfold Ms.born Ms.cur updF
 simp only [lookU]
 split
 ·rename_i e; rw [if_pos (Nat.eq_of_beq_eq_true e)]
 ·rename_i e; rw [if_neg (Nat.ne_of_beq_eq_false e)]
theorem cur_see (m : Ms) (id : Nat) : (m.see id).cur = m.cur := rfl
def loadM (m : Ms) (a : Addr) : Option Value := match a.spot with
 | some _ => none
 | none => match m.cur a.block with
  | some ⟨_, .cells c _ _⟩ => c.toList[a.off]?
  | _ => none
def noFrz (f : Nat × Nat) : Bool := Nat.beq f.1 0 && Nat.beq f.2 0
def storeM (m : Ms) (a : Addr) (v : Value) : Option Ms := match a.spot with
 | some _ => none
 | none => match m.cur a.block with
  | some ⟨true, .cells c E f⟩ => match leafB v && Nat.ble (a.off + 1) c.toList.length with
   | true => some (m.set a.block (some ⟨true, .cells (c.toList.set a.off v).toArray E f⟩))
   | false => none
  | _ => none
def bornOk : Obj → Bool
 | .cells _ _ f => noFrz f
 | .map .. | .stringIter .. | .mapIter .. => true
 | _ => false
def newM (m : Ms) (o : Obj) : Option Ms := match bornOk o && Nat.blt m.nx m.hi with
 | true => match m.cur m.nx with
  | none => some (m.born ⟨true, o⟩)
  | some _ => none
 | false => none
def setM (m : Ms) (r : Nat) (o : Obj) : Option Ms := match m.cur r with
 | some ⟨true, o'⟩ => match notCells o', bornOk o && notCells o with
  | true, true => some (m.set r (some ⟨true, o⟩))
  | _, _ => none
 | _ => none
def getM (m : Ms) (r : Nat) : Option Obj := match m.cur r with
 | some ⟨_, o⟩ => match notCells o with
  | true => some o
  | false => none
 | none => none
def arunO {α : Type} (P : Program) : Sem α → Ms → Option (α × Ms)
 | .pure a, m => some (a, m)
 | .load .plain a k, m => match loadM m a with
  | some v => arunO P (k v) (m.see a.block)
  | none => none
 | .store .plain a v k, m => match storeM m a v with
  | some m' => arunO P k m'
  | none => none
 | .new o k, m => match newM m o with
  | some m' => arunO P (k m.nx) m'
  | none => none
 | .choose q k, m => match q.forced with
  | true => arunO P (k 0) m
  | false => none
 | .program k, m => arunO P (k P) m
 | .mark _ k, m => arunO P k m
 | _, _ => none
theorem arunO_bind {α β : Type} (P : Program) (t : Sem α) (f : α → Sem β) : ∀ m, arunO P (t >>= f) m = (arunO P t m).bind fun r => arunO P (f r.1) r.2 := by
 show ∀ m, arunO P (Sem.bind t f) m = _
 induction t with
 | pure a => intro m; rfl
 | load md a k ih =>
  intro m
  cases md with
  | atomic => rfl
  | plain =>
   simp only [Sem.bind, arunO]
   cases loadM m a with
   | none => rfl
   | some v => exact ih v _
 | store md a v k ih =>
  intro m
  cases md with
  | atomic => rfl
  | plain =>
   simp only [Sem.bind, arunO]
   cases storeM m a v with
   | none => rfl
   | some m' => exact ih _
 | new o k ih =>
  intro m
  simp only [Sem.bind, arunO]
  cases newM m o with
  | none => rfl
  | some m' => exact ih _ _
 | choose q k ih =>
  intro m
  simp only [Sem.bind, arunO]
  cases q.forced with
  | true => exact ih _ _
  | false => rfl
 | program k ih => intro m; exact ih _ _
 | mark mk k ih => intro m; exact ih _
 | _ => intro m; rfl
def Sim {α β : Type} (P : Program) (R : Gm → α → β → Prop) (γ : Gm) (t : Sem α) (t' : Sem β) : Prop :=
 ∀ m w a m', arunO P t m = some (a, m') → HR m.cur γ w → Free γ m.nx m.hi → ∃ a' w' γ', t'.run P w = .ok a' w' ∧ R γ' a a' ∧ m'.hi = m.hi ∧ Post m.cur m.nx m.hi γ w m'.cur m'.nx γ' w'
section
variable {P : Program} {γ : Gm}
theorem Sim.pure {α β : Type} {R : Gm → α → β → Prop} {a : α} {b : β} (h : R γ a b) : Sim P R γ (Pure.pure a) (Pure.pure b) := fun m w x m' he hr hf => by
 cases he
 exact ⟨b, w, γ, rfl, h, rfl, .refl hr hf⟩
theorem Sim.bind {α β α' β' : Type} {RA : Gm → α → α' → Prop} {RB : Gm → β → β' → Prop} {t : Sem α} {t' : Sem α'} {f : α → Sem β} {f' : α' → Sem β'} (h : Sim P RA γ t t')
  (k : ∀ γ' a a', Keep γ γ' → RA γ' a a' → Sim P RB γ' (f a) (f' a')) : Sim P RB γ (t >>= f) (t' >>= f') := fun m w b m' he hr hf => by
 rw [arunO_bind] at he
 obtain ⟨⟨a, m1⟩, h1, h2⟩ := Option.bind_eq_some_iff.1 he
 obtain ⟨a', w1, γ1, e1, ra, hh1, p1⟩ := h m w a m1 h1 hr hf
 have hf1 : Free γ1 m1.nx m1.hi := by rw [hh1]; exact p1.free
 obtain ⟨b', w2, γ2, e2, rb, hh2, p2⟩ := k γ1 a a' p1.keep ra m1 w1 b m' h2 p1.hr hf1
 refine ⟨b', w2, γ2, ?_, rb, hh2.trans hh1, p1.trans (by rw [← hh1]; exact p2)⟩
 rw [Sem.run_bind, e1]
 exact e2
theorem Sim.halt {α β : Type} {R : Gm → α → β → Prop} (h : Halt) (t' : Sem β) : Sim P R γ (Sem.halt h : Sem α) t' := fun m w a m' he => by cases he
theorem Sim.mono {α β : Type} {R R' : Gm → α → β → Prop} {t : Sem α} {t' : Sem β} (h : Sim P R γ t t') (hr : ∀ γ' a b, Keep γ γ' → R γ' a b → R' γ' a b) : Sim P R' γ t t' := fun m w a m' he h1 h2 => by
 obtain ⟨a', w', γ', e, r, hh, p⟩ := h m w a m' he h1 h2
 exact ⟨a', w', γ', e, hr _ _ _ p.keep r, hh, p⟩
def Q0 {α : Type} (P : Program) (t : Sem α) : Prop := ∀ m a m', arunO P t m = some (a, m') → m' = m ∧ ∀ w, t.run P w = .ok a w
theorem Q0.pure {α : Type} (a : α) : Q0 P (Pure.pure a : Sem α) := fun m x m' h => by cases h; exact ⟨rfl, fun _ => rfl⟩
theorem Q0.halt {α : Type} (h : Halt) : Q0 P (Sem.halt h : Sem α) := fun m x m' he => by cases he
theorem Q0.program : Q0 P program := fun m x m' he => by cases he; exact ⟨rfl, fun _ => rfl⟩
theorem Q0.mark (k : Mark) : Q0 P (Go.mark k) := fun m x m' he => by cases he; exact ⟨rfl, fun _ => rfl⟩
theorem Q0.bind {α β : Type} {t : Sem α} {f : α → Sem β} (h : Q0 P t) (k : ∀ a, Q0 P (f a)) : Q0 P (t >>= f) := fun m b m' he => by
 rw [arunO_bind] at he
 obtain ⟨⟨a, m1⟩, h1, h2⟩ := Option.bind_eq_some_iff.1 he
 obtain ⟨e1, r1⟩ := h m a m1 h1
 obtain ⟨e2, r2⟩ := k a m1 b m' h2
 exact ⟨e2.trans e1, fun w => by rw [Sem.run_bind, r1 w]; exact r2 w⟩
theorem Sim.of_q0 {α : Type} {t : Sem α} (h : Q0 P t) : Sim P (fun _ a a' => a' = a) γ t t := fun m w a m' he hr hf => by
 obtain ⟨e, r⟩ := h m a m' he
 subst e
 exact ⟨a, w, γ, r w, rfl, rfl, .refl hr hf⟩
theorem q0_underlying (t : TypeId) : Q0 P (underlying t) := .bind .program fun p => by split <;> first | exact .pure _ | exact .halt _
theorem q0_typeInfo (t : TypeId) : Q0 P (typeInfo t) := .bind .program fun p => by split <;> first | exact .pure _ | exact .halt _
theorem q0_sizeOf (t : TypeId) : Q0 P (sizeOf t) := .bind (q0_typeInfo t) fun _ => .pure _
theorem q0_zeroValue (t : TypeId) : Q0 P (zeroValue t) := .bind (q0_typeInfo t) fun i => by split <;> first | exact .pure _ | exact .halt _
theorem q0_isAgg (t : TypeId) : Q0 P (isAgg t) := .bind (q0_underlying t) fun d => by split <;> exact .pure _
theorem q0_asIntOf (v : Value) : Q0 P (asIntOf v) := by unfold asIntOf; split <;> first | exact .pure _ | exact .halt _
theorem q0_asInt (v : Value) : Q0 P (asInt v) := .bind (q0_asIntOf v) fun _ => .pure _
theorem q0_asBool (v : Value) : Q0 P (asBool v) := by unfold asBool; split <;> first | exact .pure _ | exact .halt _
theorem q0_askRoom (n : Nat) : Q0 P (askRoom n) := by unfold askRoom; split; exact .mark _; exact .pure _
theorem toList_toArray {α : Type} (A : Array α) : A = A.toList.toArray := by simp
theorem sim_load {a a' : Addr} (ha : AR γ a a') : Sim P VR γ (load a) (load a') := by
 intro m w v m' he hr hf
 unfold load at he
 simp only [arunO] at he
 cases hl : loadM m a with
 | none => rw [hl] at he; cases he
 | some v0 =>
  rw [hl] at he
  cases he
  unfold loadM at hl
  obtain ⟨hs, ha2⟩ := ha
  rw [hs] at hl
  simp only at hl
  cases hc : m.cur a.block with
  | none => rw [hc] at hl; cases hl
  | some ab =>
   obtain ⟨o, ob⟩ := ab
   rw [hc] at hl
   cases ob with
   | cells c E f =>
    simp only at hl
    obtain ⟨p, hp, hab, hlt⟩ := hr.obj _ _ hc
    rw [hp] at ha2
    simp only at ha2
    have : ∃ y, w.cell? a' = some y ∧ VR γ v y := by
     rw [ha2]
     generalize hX : Obj.cells c E f = X at hab
     cases hab with
     | own c0 cur E0 b κ hκ hb hlen h =>
      cases hX
      have hl' : c0[a.off]? = some v := by simpa using hl
      have hlt2 : a.off < cur.length := by have := (List.getElem?_eq_some_iff.1 hl').1; omega
      refine ⟨cur[a.off], ?_, h a.off v _ hl' (List.getElem?_eq_getElem hlt2)⟩
      simp [World.cell?, hb, hlt2]
     | frz c0 E0 f0 b δ κ h =>
      cases hX
      exact h a.off v (by simpa using hl)
     | map => cases hX
     | strit => cases hX
     | mapit => cases hX
    obtain ⟨y, hy, hv⟩ := this
    refine ⟨y, w, γ, ?_, hv, rfl, ?_⟩
    ·unfold load; simp [Sem.run, hy]
    ·exact .refl hr hf
   | _ => cases hl
theorem sim_store {a a' : Addr} {v v' : Value} (ha : AR γ a a') (hv : VR γ v v') : Sim P (fun _ _ _ => True) γ (store a v) (store a' v') := by
 intro m w x m' he hr hf
 unfold store at he
 simp only [arunO] at he
 cases hl : storeM m a v with
 | none => rw [hl] at he; cases he
 | some m1 =>
  rw [hl] at he
  cases he
  unfold storeM at hl
  obtain ⟨hs, ha2⟩ := ha
  rw [hs] at hl
  simp only at hl
  cases hc : m.cur a.block with
  | none => rw [hc] at hl; cases hl
  | some ab =>
   obtain ⟨o, ob⟩ := ab
   rw [hc] at hl
   cases o with
   | false => cases ob <;> cases hl
   | true =>
    cases ob with
    | cells c E f =>
     simp only at hl
     split at hl
     ·rename_i hcond
      cases hl
      simp only [Bool.and_eq_true] at hcond
      obtain ⟨hleaf, hoff⟩ := hcond
      have hoff : a.off < c.toList.length := Nat.le_of_ble_eq_true hoff
      obtain ⟨p, hp, hab, hlt⟩ := hr.obj _ _ hc
      rw [hp] at ha2
      simp only at ha2
      generalize hX : (⟨true, Obj.cells c E f⟩ : Ab) = X at hab
      cases hab with
      | own c0 cur E0 b κ hκ hb hlen h =>
       cases hX
       have hlt2 : a.off < cur.length := by simp at hoff; omega
       have hcell : w.cell? ⟨b, a.off, none⟩ = some cur[a.off] := by simp [World.cell?, hb, hlt2]
       have hfz : w.frozen? ⟨b, a.off, none⟩ = false := by simp [World.frozen?, hb]
       have hrun : (store a' v').run P w = .ok () (w.setCell ⟨b, a.off, none⟩ v') := by
        have hlv : leafB v' = true := by rw [hv.leaf]; exact hleaf
        rw [ha2]
        unfold store
        cases v' <;> first | (simp [leafB] at hlv; done) | simp [Sem.run, hcell, hfz]
       have hheap : ∀ k, k ≠ b → (w.setCell ⟨b, a.off, none⟩ v').heap[k]? = w.heap[k]? := fun k hk => by
        simp only [World.setCell, Array.getElem?_modify]
        rw [if_neg (fun e => hk e.symm)]
       have hb' : (w.setCell ⟨b, a.off, none⟩ v').heap[b]? = some (.cells (cur.set a.off v').toArray E (0, 0)) := by
        simp [World.setCell, Array.getElem?_modify, hb]
       refine ⟨(), _, γ, hrun, trivial, rfl, ?_⟩
       have := HR.write (w' := w.setCell ⟨b, a.off, none⟩ v') (ab' := ⟨true, .cells (c0.set a.off v).toArray E (0, 0)⟩) (nx := m.nx) (hi := m.hi) hr hf hc rfl hp (by simp [World.setCell]) rfl rfl rfl hheap rfl
        (.own _ _ _ _ _ (by simpa using hκ) hb' (by simpa using hlen) (fun j x y hx hy => by
         by_cases e : a.off = j
         ·subst e
          rw [List.getElem?_set_self (by simpa using hoff)] at hx
          rw [List.getElem?_set_self hlt2] at hy
          cases hx; cases hy; exact hv
         ·rw [List.getElem?_set_ne e] at hx hy
          exact h j x y hx hy))
       rw [cur_set]
       show Post m.cur m.nx m.hi γ w (updF m.cur a.block _) m.nx γ _
       simpa using this
      | frz => cases hX
      | map => cases hX
      | strit => cases hX
      | mapit => cases hX
     ·cases hl
    | _ => cases hl
inductive ObjR (γ : Gm) : Obj → Obj → Prop
 | cells (c c' : List Value) (E : TypeId) (h : LR γ c c') : ObjR γ (.cells c.toArray E (0, 0)) (.cells c'.toArray E (0, 0))
 | map (es es' : List MapEntry) (cl : Nat) (hl : es'.length = es.length) (hk : ∀ (j : Nat) (x y : MapEntry), es[j]? = some x → es'[j]? = some y → VR γ x.key y.key ∧ VR γ x.val y.val ∧ y.born = x.born) : ObjR γ (.map es.toArray cl) (.map es'.toArray cl)
 | strit (s : ByteArray) (pos : Nat) : ObjR γ (.stringIter s pos) (.stringIter s pos)
 | mapit (m m' : Option Nat) (since : Nat) (seen : Array Nat) (last : Nat) (hm : VR γ (.map m) (.map m')) : ObjR γ (.mapIter m since seen last) (.mapIter m' since seen last)
def szO : Obj → Nat
 | .cells c _ _ => c.size
 | _ => 0
theorem ObjR.ab {γ γ' : Gm} {w : World} {o o' : Obj} {b : Nat} (h : ObjR γ o o') (hk : Keep γ γ') (hb : w.heap[b]? = some o') : AbR γ' w ⟨true, o⟩ ⟨b, 0, szO o'⟩ := by
 cases h with
 | cells c c' E h =>
  exact .own c c' E b _ (by simp [szO]) hb (by rw [h.len]; exact Nat.le_refl _) fun j x y hx hy => (h.at_ j x y hx hy).keep hk
 | map es es' cl hl h => exact .map true es es' cl cl b _ hb hl (fun j x y hx hy => by obtain ⟨a1, a2, a3⟩ := h j x y hx hy; exact ⟨a1.keep hk, a2.keep hk, fun _ => a3⟩) fun _ => rfl
 | strit s pos => exact .strit true s pos b _ hb
 | mapit m m' since seen last hm => exact .mapit true m m' since seen last b _ hb (hm.keep hk)
theorem sim_newObj {o o' : Obj} (ho : ObjR γ o o') : Sim P (fun γ' a a' => γ' a = some (some ⟨a', 0, szO o'⟩)) γ (newObj o) (newObj o') := by
 intro m w x m' he hr hf
 unfold newObj at he
 simp only [arunO] at he
 cases hl : newM m o with
 | none => rw [hl] at he; cases he
 | some m1 =>
  rw [hl] at he
  cases he
  unfold newM at hl
  split at hl
  ·rename_i hcond
   simp only [Bool.and_eq_true] at hcond
   have hlt : m.nx < m.hi := by have := hcond.2; simp [Nat.blt] at this; omega
   split at hl
   ·rename_i hcur
    cases hl
    refine ⟨w.heap.size, { w with heap := w.heap.push o' }, updF γ m.nx (some (some ⟨w.heap.size, 0, szO o'⟩)), rfl, updF_same _ _ _, rfl, ?_⟩
    rw [cur_born]
    exact HR.new hr hf hlt hcur _ (ho.ab (Keep.born (hf _ (Nat.le_refl _) hlt) _) (by simp))
   ·cases hl
  ·cases hl
end
end Go.Kr
end
section
namespace Go.Kr
def cls : Nat → Value → Bool
 | _, .bool _ | _, .int .. | _, .string _ | _, .pointer none | _, .slice none _ _ | _, .map none | _, .nilFunc | _, .nilIface => true
 | n + 1, .agg xs => xs.toList.all (cls n)
 | n + 1, .tuple xs => xs.toList.all (cls n)
 | n + 1, .func _ xs ys => xs.toList.all (cls n) && ys.toList.all (cls n)
 | _, _ => false
theorem array_ext_get {xs ys : Array Value} (hl : ys.size = xs.size) (h : ∀ (j : Nat) (x y : Value), xs[j]? = some x → ys[j]? = some y → y = x) : ys = xs := by
 apply Array.ext hl
 intro j h1 h2
 exact h j xs[j] ys[j] (Array.getElem?_eq_getElem h2) (Array.getElem?_eq_getElem h1)
theorem VR.cls_eq {γ : Gm} : ∀ (n : Nat) (v v' : Value), VR γ v v' → cls n v = true → v' = v := by
 intro n
 induction n with
 | zero => intro v v' h hc; cases h <;> first | rfl | cases hc
 | succ n ih =>
  intro v v' h hc
  cases h with
  | agg xs ys hl h =>
   simp only [cls, List.all_eq_true] at hc
   rw [array_ext_get hl fun j x y hx hy => ih x y (h j x y hx hy) (hc x (by rw [Array.mem_toList_iff]; exact Array.mem_of_getElem? hx))]
  | tup xs ys hl h =>
   simp only [cls, List.all_eq_true] at hc
   rw [array_ext_get hl fun j x y hx hy => ih x y (h j x y hx hy) (hc x (by rw [Array.mem_toList_iff]; exact Array.mem_of_getElem? hx))]
  | fn f xs ys cs ds h1 h2 h3 h4 =>
   simp only [cls, Bool.and_eq_true, List.all_eq_true] at hc
   rw [array_ext_get h1 fun j x y hx hy => ih x y (h3 j x y hx hy) (hc.1 x (by rw [Array.mem_toList_iff]; exact Array.mem_of_getElem? hx)),
    array_ext_get h2 fun j x y hx hy => ih x y (h4 j x y hx hy) (hc.2 x (by rw [Array.mem_toList_iff]; exact Array.mem_of_getElem? hx))]
  | _ => first | rfl | (simp [cls] at hc; done)
theorem VR.refl_cls {γ : Gm} : ∀ (n : Nat) (v : Value), cls n v = true → VR γ v v := by
 intro n
 induction n with
 | zero =>
  intro v hc
  unfold cls at hc
  split at hc <;> first
   | exact .bool _ | exact .int _ _ | exact .str _ | exact .ptrN | exact .slN _ _ | exact .mapN | exact .nilF | exact .nilI | (cases hc; done) | simp_all
 | succ n ih =>
  intro v hc
  have arr : ∀ xs : Array Value, xs.toList.all (cls n) = true → ∀ (j : Nat) (x y : Value), xs[j]? = some x → xs[j]? = some y → VR γ x y := fun xs h j x y hx hy => by
   rw [hx] at hy; cases hy
   exact ih x (List.all_eq_true.1 h x (by rw [Array.mem_toList_iff]; exact Array.mem_of_getElem? hx))
  cases v with
  | bool b => exact .bool b
  | int k n => exact .int k n
  | string s => exact .str s
  | nilFunc => exact .nilF
  | nilIface => exact .nilI
  | pointer a => cases a with
   | none => exact .ptrN
   | some a => cases hc
  | slice a l c => cases a with
   | none => exact .slN l c
   | some a => cases hc
  | map r => cases r with
   | none => exact .mapN
   | some r => cases hc
  | agg xs => simp only [cls] at hc; exact .agg xs xs rfl (arr xs hc)
  | tuple xs => simp only [cls] at hc; exact .tup xs xs rfl (arr xs hc)
  | func f xs ys => simp only [cls, Bool.and_eq_true] at hc; exact .fn f xs xs ys ys rfl rfl (arr xs hc.1) (arr ys hc.2)
  | _ => cases hc
section
variable {P : Program} {γ : Gm}
theorem AR.add {a a' : Addr} (h : AR γ a a') (n : Nat) : AR γ (a.add n) (a'.add n) := by
 unfold Addr.add
 obtain ⟨h1, h2⟩ := h
 by_cases e : n = 0
 ·rw [if_pos e, if_pos e]; exact ⟨h1, h2⟩
 ·rw [if_neg e, if_neg e]
  refine ⟨rfl, ?_⟩
  simp only
  revert h2
  cases γ a.block with
  | none => exact id
  | some x =>
   cases x with
   | none => exact id
   | some p => intro h2; subst h2; simp; omega
theorem sim_loadCellsFrom {a a' : Addr} (ha : AR γ a a') : ∀ (n i : Nat) (acc acc' : Array Value), LR γ acc.toList acc'.toList → Sim P (fun γ x y => LR γ x.toList y.toList) γ (loadCellsFrom a i n acc) (loadCellsFrom a' i n acc') := by
 intro n
 induction n generalizing γ with
 | zero => intro i acc acc' h; exact .pure h
 | succ n ih =>
  intro i acc acc' h
  unfold loadCellsFrom
  refine .bind (sim_load (ha.add i)) fun γ1 v v' hk hv => ?_
  refine ih (ha.keep hk) (i + 1) _ _ ?_
  simp only [Array.toList_push]
  exact (h.keep hk).append (.cons hv (.nil _))
theorem sim_loadCells {a a' : Addr} (ha : AR γ a a') (n : Nat) : Sim P (fun γ x y => LR γ x.toList y.toList) γ (loadCells a n) (loadCells a' n) := sim_loadCellsFrom ha n 0 _ _ (.nil _)
theorem sim_storeCells {a a' : Addr} (ha : AR γ a a') : ∀ (vs vs' : List Value) (i : Nat), LR γ vs vs' → Sim P (fun _ _ _ => True) γ (storeCells a vs i) (storeCells a' vs' i) := by
 intro vs
 induction vs generalizing γ with
 | nil => intro vs' i h; rw [h.inv_nil]; unfold storeCells; exact .pure trivial
 | cons v vs ih =>
  intro vs' i h
  obtain ⟨y, zs, rfl, h1, h2⟩ := h.inv_cons
  unfold storeCells
  exact .bind (sim_store (ha.add i) h1) fun γ1 _ _ hk _ => ih (ha.keep hk) zs (i + 1) (h2.keep hk)
theorem sim_loadVar (t : TypeId) {a a' : Addr} (ha : AR γ a a') : Sim P VR γ (loadVar t a) (loadVar t a') := by
 unfold loadVar
 refine .bind (.of_q0 (q0_isAgg t)) fun γ1 b b' hk e => ?_
 subst e
 cases b' with
 | true =>
  refine .bind (.of_q0 (q0_sizeOf t)) fun γ2 n n' hk2 e => ?_
  subst e
  exact .bind (sim_loadCells ((ha.keep hk).keep hk2) n') fun γ3 x y hk3 h => .pure (VR.agg' h)
 | false => exact sim_load (ha.keep hk)
theorem VR.cells_size {v v' : Value} (h : VR γ v v') : v'.cells.size = v.cells.size := by have := h.cells.len; simpa using this
theorem sim_storeVar (t : TypeId) {a a' : Addr} {v v' : Value} (ha : AR γ a a') (hv : VR γ v v') : Sim P (fun _ _ _ => True) γ (storeVar t a v) (storeVar t a' v') := by
 unfold storeVar
 refine .bind (.of_q0 (q0_sizeOf t)) fun γ1 n n' hk e => ?_
 subst e
 rw [hv.cells_size]
 split
 ·exact .halt _ _
 ·exact sim_storeCells (ha.keep hk) _ _ 0 (hv.cells.keep hk)
theorem sim_newRow (E : TypeId) {c c' : Array Value} (h : LR γ c.toList c'.toList) : Sim P AR γ (newRow E c) (newRow E c') := by
 unfold newRow
 refine .bind (sim_newObj (o := .cells c E) (o' := .cells c' E) ?_) fun γ1 r r' hk e => .pure ⟨rfl, by simp only [e]⟩
 have := ObjR.cells c.toList c'.toList E h
 simpa using this
theorem sim_newVar (t : TypeId) {v v' : Value} (hv : VR γ v v') : Sim P AR γ (newVar t v) (newVar t v') := sim_newRow t hv.cells
theorem sim_zeroValue (t : TypeId) (hz : ∀ z, (P.info? t).bind (·.zero) = some z → cls 8 z = true) : Sim P VR γ (zeroValue t) (zeroValue t) := by
 intro m w v m' he hr hf
 obtain ⟨e, r⟩ := q0_zeroValue t m v m' he
 subst e
 refine ⟨v, w, γ, r w, VR.refl_cls 8 v (hz v ?_), rfl, .refl hr hf⟩
 have := r w
 simp only [zeroValue, typeInfo, program, Sem.run_bind] at this
 revert this
 cases hi : P.info? t with
 | none => simp [Sem.run, hi, stuck]
 | some i =>
  cases hz : i.zero with
  | none => simp [Sem.run, hi, hz, unsupported]
  | some z => simp [Sem.run, hi, hz]
theorem sim_alloc (t : TypeId) (hz : ∀ z, (P.info? t).bind (·.zero) = some z → cls 8 z = true) (b : Bool) : Sim P VR γ (Instr.alloc t true (.tuple #[])) (Instr.alloc t true (.tuple #[])) := by
 unfold Instr.alloc
 refine .bind (sim_zeroValue t hz) fun γ1 z z' hk h => ?_
 exact .bind (sim_newVar t h) fun γ2 a a' hk2 ha => .pure (.ptr _ _ ha)
theorem sim_box (t : TypeId) {v v' : Value} (hv : VR γ v v') : Sim P VR γ (Instr.box t v) (Instr.box t v') := by
 unfold Instr.box
 exact .bind (sim_newVar t hv) fun γ2 a a' hk2 ha => .pure (.ptr _ _ ha)
theorem sim_sureAddr {x x' : Value} (hx : VR γ x x') : Sim P AR γ (Instr.sureAddr x) (Instr.sureAddr x') := by
 cases hx with
 | ptr a a' h => exact .pure h
 | _ => exact .halt _ _
theorem sim_loadAt (t : TypeId) {x x' : Value} (hx : VR γ x x') : Sim P VR γ (Instr.loadAt t x) (Instr.loadAt t x') := .bind (sim_sureAddr hx) fun _ _ _ hk ha => sim_loadVar t ha
theorem sim_storeAt (t : TypeId) {x x' v v' : Value} (hx : VR γ x x') (hv : VR γ v v') : Sim P (fun _ _ _ => True) γ (Instr.storeAt t x v) (Instr.storeAt t x' v') := .bind (sim_sureAddr hx) fun _ _ _ hk ha => sim_storeVar t ha (hv.keep hk)
theorem sim_fieldPlace (f : Field) (hs : P.cellsOf f.type ≠ 0) {a a' : Addr} (ha : AR γ a a') : Sim P AR γ (fieldPlace a f) (fieldPlace a' f) := by
 unfold fieldPlace
 intro m w v m' he hr hf
 have hsz : ∀ n m1, arunO P (sizeOf f.type) m = some (n, m1) → n ≠ 0 := fun n m1 h => by
  obtain ⟨_, r⟩ := q0_sizeOf f.type m n m1 h
  have := r w
  simp only [sizeOf, typeInfo, program, Sem.run_bind] at this
  intro e
  subst e
  revert this
  unfold Program.cellsOf at hs
  cases hi : P.info? f.type with
  | none => simp [Sem.run, hi, stuck]
  | some i => simp [hi] at hs; simp [Sem.run, hi]; exact hs
 refine Sim.bind (RA := fun _ a a' => a' = a ∧ a ≠ 0) (f := fun x => if x = 0 then partAt a f.offset f.byteOffset else Pure.pure (a.add f.offset)) (f' := fun x => if x = 0 then partAt a' f.offset f.byteOffset else Pure.pure (a'.add f.offset)) ?_ (fun γ1 n n' hk e => ?_) m w v m' he hr hf
 ·intro m1 w1 n m2 h1 hr1 hf1
  obtain ⟨e, r⟩ := q0_sizeOf f.type m1 n m2 h1
  refine ⟨n, w1, γ, r w1, ⟨rfl, ?_⟩, by rw [e], by rw [e]; exact .refl hr1 hf1⟩
  intro e0
  subst e0
  have := r w1
  simp only [sizeOf, typeInfo, program, Sem.run_bind] at this
  revert this
  unfold Program.cellsOf at hs
  cases hi : P.info? f.type with
  | none => simp [Sem.run, hi, stuck]
  | some i => simp [hi] at hs; simp [Sem.run, hi]; exact hs
 ·obtain ⟨rfl, h0⟩ := e
  rw [if_neg h0, if_neg h0]
  exact .pure ((ha.keep hk).add _)
end
end Go.Kr
end
section
namespace Go.Kr
section
variable {P : Program} {γ : Gm}
theorem partAt_none {a : Addr} (h : a.spot = none) (c b : Nat) (m : Ms) : arunO P (partAt a c b) m = none := by
 unfold partAt byteOf
 simp only [h, arunO_bind]
 simp [program, arunO, noView, viewAt, shape, arunO_bind, Bind.bind, Sem.bind]
theorem sim_fieldPlace' (f : Field) {a a' : Addr} (ha : AR γ a a') : Sim P AR γ (fieldPlace a f) (fieldPlace a' f) := by
 unfold fieldPlace
 refine .bind (.of_q0 (q0_sizeOf _)) fun γ1 n n' hk e => ?_
 subst e
 split
 ·intro m w v m' he
  rw [partAt_none (ha.keep hk).1] at he
  cases he
 ·exact .pure ((ha.keep hk).add _)
theorem sim_fieldAt (s : TypeId) (i : Nat) {x x' : Value} (hx : VR γ x x') : Sim P VR γ (Instr.fieldAt s x i) (Instr.fieldAt s x' i) := by
 unfold Instr.fieldAt
 refine .bind (.of_q0 (q0_underlying s)) fun γ1 d d' hk e => ?_
 subst e
 split
 ·rename_i fields
  cases fields[i]? with
  | none => exact .halt _ _
  | some f =>
   exact .bind (sim_sureAddr (hx.keep hk)) fun γ2 a a' hk2 ha => .bind (sim_fieldPlace' f ha) fun γ3 b b' hk3 hb => .pure (.ptr _ _ hb)
 ·exact .halt _ _
def Bad {α : Type} (P : Program) (t : Sem α) : Prop := ∀ m, arunO P t m = none
theorem Bad.sim {α β : Type} {R : Gm → α → β → Prop} {t : Sem α} (h : Bad P t) (t' : Sem β) : Sim P R γ t t' := fun m w a m' he => by rw [h m] at he; cases he
theorem Bad.halt {α : Type} (h : Halt) : Bad P (Sem.halt h : Sem α) := fun _ => rfl
theorem Bad.bind {α β : Type} {t : Sem α} {f : α → Sem β} (h : ∀ a, Bad P (f a)) : Bad P (t >>= f) := fun m => by
 rw [arunO_bind]
 cases arunO P t m with
 | none => rfl
 | some r => exact h _ _
theorem bad_runtimePanic {α : Type} (e : RuntimeError) : Bad P (runtimePanic e : Sem α) := by
 unfold runtimePanic
 refine .bind fun p => ?_
 cases e <;> simp only [] <;> first
  | exact .halt _
  | exact .bind fun _ => .bind fun _ => .halt _
  | exact .bind fun _ => .halt _
  | (unfold newVar; exact .bind fun _ => .bind fun _ => .halt _)
theorem bad_boundsPanic {α : Type} (k : IntKind) (x y : Int) (c : BoundsCode) : Bad P (boundsPanic k x y c : Sem α) := by
 unfold boundsPanic
 dsimp only
 split
 ·exact .bind fun _ => bad_runtimePanic _
 ·exact .bind fun _ => bad_runtimePanic _
theorem sim_indexAt (t : TypeId) {l c c' : Nat} {a a' : Addr} (k : IntKind) (n : Int) (ha : AR γ a a') : Sim P VR γ (Instr.indexAt t (.slice (some a) l c) (.int k n)) (Instr.indexAt t (.slice (some a') l c') (.int k n)) := by
 unfold Instr.indexAt
 refine .bind (RA := fun _ a a' => a' = a) (.pure rfl) fun γ1 p p' hk e => ?_
 subst e
 refine .bind (.of_q0 (q0_underlying t)) fun γ2 d d' hk2 e => ?_
 subst e
 have ha2 := (ha.keep hk).keep hk2
 cases d' with
 | slice elem =>
  dsimp only
  refine .bind (RA := fun γ p p' => ∃ a a', p = (some a, l, elem) ∧ p' = (some a', l, elem) ∧ AR γ a a') (.pure ⟨a, a', rfl, rfl, ha2⟩) fun γ3 p p' hk3 e => ?_
  obtain ⟨a, a', rfl, rfl, ha3⟩ := e
  dsimp only
  refine .bind (.of_q0 (q0_underlying t)) fun γ4 d d' hk4 e => ?_
  subst e
  split
  ·refine .bind (.of_q0 (q0_sizeOf _)) fun γ5 s s' hk5 e => ?_
   subst e
   exact .pure (.ptr _ _ (((ha3.keep hk4).keep hk5).add _))
  ·have hb : ∀ (c : Bool) (w : String), Bad P (if c = true then unsupported (.noEntry w) else boundsPanic p'.1 p'.2 (l : Int) .index : Sem Value) := fun c w => by
    cases c
    ·exact bad_boundsPanic _ _ _ _
    ·exact .halt _
   exact (hb _ _).sim _
 | _ => intro m w v m' he; cases he
theorem sim_indexArr (t : TypeId) {a a' : Addr} (k : IntKind) (n : Int) (ha : AR γ a a') : Sim P VR γ (Instr.indexAt t (.pointer (some a)) (.int k n)) (Instr.indexAt t (.pointer (some a')) (.int k n)) := by
 unfold Instr.indexAt
 refine .bind (RA := fun _ a a' => a' = a) (.pure rfl) fun γ1 p p' hk e => ?_
 subst e
 refine .bind (.of_q0 (q0_underlying t)) fun γ2 d d' hk2 e => ?_
 subst e
 have ha2 := (ha.keep hk).keep hk2
 cases d' with
 | array len elem =>
  dsimp only
  refine .bind (RA := fun γ p p' => ∃ a1 a2, p = (some a1, len, elem) ∧ p' = (some a2, len, elem) ∧ AR γ a1 a2) ?_ fun γ3 p p' hk3 e => ?_
  ·exact .pure ⟨a, a', rfl, rfl, ha2⟩
  obtain ⟨a, a', rfl, rfl, ha3⟩ := e
  dsimp only
  refine .bind (.of_q0 (q0_underlying t)) fun γ4 d d' hk4 e => ?_
  subst e
  split
  ·refine .bind (.of_q0 (q0_sizeOf _)) fun γ5 s s' hk5 e => ?_
   subst e
   exact .pure (.ptr _ _ (((ha3.keep hk4).keep hk5).add _))
  ·have hb : ∀ (c : Bool) (w : String), Bad P (if c = true then unsupported (.noEntry w) else boundsPanic p'.1 p'.2 (len : Int) .index : Sem Value) := fun c w => by
    cases c
    ·exact bad_boundsPanic _ _ _ _
    ·exact .halt _
   exact (hb _ _).sim _
 | _ => intro m w v m' he; cases he
structure PR (γ : Gm) (ps qs : List (Nat × Value)) : Prop where
 len : qs.length = ps.length
 at_ : ∀ (j : Nat) (x y : Nat × Value), ps[j]? = some x → qs[j]? = some y → y.1 = x.1 ∧ VR γ x.2 y.2
theorem PR.inv_cons {x : Nat × Value} {xs ys : List (Nat × Value)} (h : PR γ (x :: xs) ys) : ∃ y zs, ys = (x.1, y) :: zs ∧ VR γ x.2 y ∧ PR γ xs zs := by
 cases ys with
 | nil => have := h.len; simp at this
 | cons y zs =>
  obtain ⟨e, hv⟩ := h.at_ 0 x y rfl rfl
  refine ⟨y.2, zs, by rw [← e], hv, ⟨by simpa using h.len, fun j a b ha hb => h.at_ (j + 1) a b (by simpa using ha) (by simpa using hb)⟩⟩
theorem PR.keep {γ' : Gm} (hk : Keep γ γ') {xs ys : List (Nat × Value)} (h : PR γ xs ys) : PR γ' xs ys := ⟨h.len, fun j x y hx hy => ⟨(h.at_ j x y hx hy).1, (h.at_ j x y hx hy).2.keep hk⟩⟩
theorem fold_LR (off : Nat) : ∀ (vs vs' : List Value) (k : Nat) (cs ds : Array Value), LR γ vs vs' → LR γ cs.toList ds.toList →
  LR γ ((vs.zipIdx k).foldl (fun (cs : Array Value) (p : Value × Nat) => cs.setIfInBounds (off + p.2) p.1) cs).toList ((vs'.zipIdx k).foldl (fun (cs : Array Value) (p : Value × Nat) => cs.setIfInBounds (off + p.2) p.1) ds).toList
 | [], vs', k, cs, ds, h, hc => by rw [h.inv_nil]; exact hc
 | v :: vs, vs', k, cs, ds, h, hc => by
  obtain ⟨y, zs, rfl, h1, h2⟩ := h.inv_cons
  simp only [List.zipIdx_cons, List.foldl_cons]
  exact fold_LR off vs zs (k + 1) _ _ h2 (by simp only [Array.toList_setIfInBounds]; exact hc.set _ h1)
theorem fill_LR (place : Nat → Option (Nat × Nat)) : ∀ (ps qs : List (Nat × Value)) (cs ds es : Array Value), PR γ ps qs → LR γ cs.toList ds.toList → Instr.fill place cs ps = some es →
  ∃ fs, Instr.fill place ds qs = some fs ∧ LR γ es.toList fs.toList
 | [], qs, cs, ds, es, hp, hc, h => by
  have : qs = [] := List.length_eq_zero_iff.1 (by simpa using hp.len)
  subst this
  simp only [Instr.fill, Option.some.injEq] at h
  subst h
  exact ⟨ds, rfl, hc⟩
 | (i, v) :: ps, qs, cs, ds, es, hp, hc, h => by
  obtain ⟨y, zs, rfl, hv, hp'⟩ := hp.inv_cons
  simp only [Instr.fill] at h ⊢
  cases hpl : place i with
  | none => simp [hpl] at h
  | some p =>
   obtain ⟨off, size⟩ := p
   simp only [hpl] at h ⊢
   have hs : ds.size = cs.size := by have := hc.len; simpa using this
   simp only at hv
   rw [hv.cells_size, hs]
   split at h
   ·cases h
   ·rename_i hn
    rw [if_neg hn]
    refine fill_LR place ps zs _ _ es hp' ?_ h
    rw [← Array.foldl_toList, ← Array.foldl_toList, Array.toList_zipIdx, Array.toList_zipIdx]
    exact fold_LR off _ _ 0 cs ds hv.cells hc
theorem sim_build (t : TypeId) (hz : ∀ z, (P.info? t).bind (·.zero) = some z → cls 8 z = true) {ps qs : Array (Nat × Value)} (hp : PR γ ps.toList qs.toList) : Sim P VR γ (Instr.build t ps) (Instr.build t qs) := by
 unfold Instr.build
 refine .bind (sim_zeroValue t hz) fun γ1 z z' hk hzz => ?_
 refine .bind (.of_q0 (q0_underlying t)) fun γ2 d d' hk2 e => ?_
 subst e
 have hp2 := (hp.keep hk).keep hk2
 have hz2 := (hzz.keep hk2).cells
 split
 ·refine .bind (.of_q0 ?_) fun γ3 pl pl' hk3 e => ?_
  ·intro m a m' he
   rename_i fields
   have key : ∀ (l : List Field), Q0 P (l.mapM fun f => do Pure.pure (f.offset, ← sizeOf f.type)) := fun l => by
    induction l with
    | nil => exact .pure _
    | cons f l ih =>
     rw [List.mapM_cons]
     exact .bind (.bind (q0_sizeOf _) fun _ => .pure _) fun _ => .bind ih fun _ => .pure _
   rw [Array.mapM_eq_mapM_toList] at he ⊢
   have : Q0 P (List.toArray <$> fields.toList.mapM fun f => do Pure.pure (f.offset, ← sizeOf f.type)) := by
    rw [map_eq_pure_bind]
    exact .bind (key _) fun _ => .pure _
   exact this m a m' he
  ·subst e
   cases hf : Instr.fill (fun x => pl'[x]?) z.cells ps.toList with
   | none => simp only [hf]; exact .halt _ _
   | some es =>
    obtain ⟨fs, h1, h2⟩ := fill_LR _ _ _ _ _ _ (hp2.keep hk3) (hz2.keep hk3) hf
    simp only [hf, h1]
    exact .pure (VR.agg' h2)
 ·refine .bind (.of_q0 (q0_sizeOf _)) fun γ3 s s' hk3 e => ?_
  subst e
  cases hf : Instr.fill (fun i => some (i * s', s')) z.cells ps.toList with
  | none => simp only [hf]; exact .halt _ _
  | some es =>
   obtain ⟨fs, h1, h2⟩ := fill_LR _ _ _ _ _ _ (hp2.keep hk3) (hz2.keep hk3) hf
   simp only [hf, h1]
   exact .pure (VR.agg' h2)
 ·exact .halt _ _
end
end Go.Kr
end
section
namespace Go.Kr
def arun0 {α : Type} (P : Program) : Sem α → Option α
 | .pure a => some a
 | .program k => arun0 P (k P)
 | .mark _ k => arun0 P k
 | .choose q k => match q.forced with
  | true => arun0 P (k 0)
  | false => none
 | _ => none
theorem arun0_run {α : Type} {P : Program} (t : Sem α) {a : α} : arun0 P t = some a → ∀ w, t.run P w = .ok a w := by
 induction t with
 | pure b => intro h w; cases h; rfl
 | program k ih => intro h w; exact ih P h w
 | mark mk k ih => intro h w; exact ih h w
 | choose q k ih =>
  intro h w
  simp only [arun0] at h
  split at h
  ·rename_i hq
   simp only [Sem.run, hq, if_true]
   exact ih 0 h w
  ·cases h
 | _ => intro h; cases h
section
variable {P : Program} {γ : Gm}
theorem LR.cyc {γ : Gm} {z z' : Array Value} (h : LR γ z.toList z'.toList) (hd : VR γ default default) (n : Nat) : LR γ ((Array.range n).map (z[· % z.size]!)).toList ((Array.range n).map (z'[· % z'.size]!)).toList := by
 have hs : z'.size = z.size := by have := h.len; simpa using this
 refine ⟨by simp, fun j x y hx hy => ?_⟩
 simp only [Array.toList_map, Array.toList_range, List.getElem?_map, Option.map_eq_some_iff] at hx hy
 obtain ⟨i, hj, hx⟩ := hx
 obtain ⟨i', hj', hy⟩ := hy
 rw [hj] at hj'
 cases hj'
 rw [hs] at hy
 subst hx hy
 by_cases hlt : i % z.size < z.size
 ·rw [getElem!_pos z _ hlt, getElem!_pos z' _ (by rw [hs]; exact hlt)]
  exact h.at_ (i % z.size) _ _ (by simp [hlt]) (by simp [hs, hlt])
 ·rw [getElem!_neg z _ hlt, getElem!_neg z' _ (by rw [hs]; exact hlt)]
  exact hd
theorem sim_underlying (t : TypeId) : Sim P (fun _ d d' => d' = d ∧ P.underlying t = some d) γ (underlying t) (underlying t) := by
 intro m w d m1 h1 hr hf
 have hd : P.underlying t = some d := by
  unfold underlying program at h1
  rw [arunO_bind] at h1
  simp only [arunO, Option.bind_some] at h1
  cases hd : P.underlying t with
  | none => rw [hd] at h1; cases h1
  | some d' => rw [hd] at h1; cases h1; rfl
 obtain ⟨e1, r1⟩ := q0_underlying t m d m1 h1
 subst e1
 exact ⟨d, w, γ, r1 w, ⟨rfl, hd⟩, rfl, .refl hr hf⟩
theorem VR.dflt : VR γ default default := VR.refl_cls 8 _ rfl
theorem sim_buildSlice (t : TypeId) (n : Nat) (hz : ∀ e, P.underlying t = some (.slice e) → ∀ z, (P.info? e).bind (·.zero) = some z → cls 8 z = true) (hn : n < big) {ps qs : Array (Nat × Value)} (hp : PR γ ps.toList qs.toList) :
  Sim P VR γ (Instr.buildSlice t n ps) (Instr.buildSlice t n qs) := by
 unfold Instr.buildSlice
 refine .bind (sim_underlying t) fun γ0 d d' hk0 e => ?_
 obtain ⟨rfl, hd⟩ := e
 have hp := hp.keep hk0
 cases d' with
 | slice elem =>
  dsimp only
  refine .bind (.of_q0 (q0_sizeOf _)) fun γ1 s s' hk e => ?_
  subst e
  have fin : ∀ (γ2 : Gm) (z z' : Array Value), Keep γ1 γ2 → LR γ2 z.toList z'.toList → Sim P VR γ2
    (match Instr.fill (fun i => some (i * s', s')) ((Array.range (n * s')).map (z[· % z.size]!)) ps.toList with
     | some cells => do Pure.pure (.slice (some (← newRow elem cells)) n n)
     | _ => stuck "buildSlice: a part of the wrong size")
    (match Instr.fill (fun i => some (i * s', s')) ((Array.range (n * s')).map (z'[· % z'.size]!)) qs.toList with
     | some cells => do Pure.pure (.slice (some (← newRow elem cells)) n n)
     | _ => stuck "buildSlice: a part of the wrong size") := fun γ2 z z' hk2 hzz => by
   cases hfl : Instr.fill (fun i => some (i * s', s')) ((Array.range (n * s')).map (z[· % z.size]!)) ps.toList with
   | none => exact (Bad.halt _).sim _
   | some es =>
    obtain ⟨fs, h1, h2⟩ := fill_LR _ _ _ _ _ _ ((hp.keep hk).keep hk2) (LR.cyc hzz VR.dflt _) hfl
    rw [h1]
    exact .bind (sim_newRow elem h2) fun γ3 a a' hk3 ha => .pure (.sl _ _ _ _ _ ha ⟨fun _ => rfl, fun h => absurd hn (Nat.not_lt.2 h)⟩)
  split
  ·intro m w v m' he
   rw [arunO_bind] at he
   cases he
  ·split
   ·exact .bind (RA := fun γ z z' => LR γ z.toList z'.toList) (.pure (.nil _)) fun γ2 z z' hk2 hzz => fin γ2 z z' hk2 hzz
   ·exact .bind (sim_zeroValue elem (hz elem hd)) fun γ2 z z' hk2 hzz => .bind (RA := fun γ z z' => LR γ z.toList z'.toList) (.pure hzz.cells) fun γ3 z z' hk3 hz3 => fin γ3 z z' (hk2.trans hk3) hz3
 | _ => exact (Bad.halt _).sim _
theorem sim_extract {x x' : Value} (hx : VR γ x x') (i : Nat) : Sim P VR γ (Instr.extract x i) (Instr.extract x' i) := by
 cases hx with
 | tup xs ys hl h =>
  unfold Instr.extract
  dsimp only
  cases hxi : xs[i]? with
  | none => exact (Bad.halt _).sim _
  | some v =>
   have hlt : i < ys.size := by rw [hl]; exact (Array.getElem?_eq_some_iff.1 hxi).1
   rw [Array.getElem?_eq_getElem hlt]
   exact .pure (h i v _ hxi (Array.getElem?_eq_getElem hlt))
 | _ => exact (Bad.halt _).sim _
theorem sim_makeMap (t : TypeId) : Sim P VR γ (Instr.makeMap t none) (Instr.makeMap t none) := by
 unfold Instr.makeMap
 exact .bind (sim_newObj (.map [] [] 0 rfl fun j x y h => by simp at h)) fun γ1 r r' hk h => .pure (.map r r' (.inr ⟨_, h⟩))
end
end Go.Kr
end
section
namespace Go.Kr
section
variable {P : Program} {γ : Gm}
theorem Bad.bindL {α β : Type} {t : Sem α} (h : Bad P t) (f : α → Sem β) : Bad P (t >>= f) := fun m => by rw [arunO_bind, h m]; rfl
theorem wrap_i64_lt (n : Int) : (IntKind.i64.wrap n).toNat < big := by
 have : IntKind.i64.wrap n < 9223372036854775808 := by simp [IntKind.wrap, IntKind.bits, IntKind.signed]; omega
 unfold big
 omega
theorem sim_makeSlice (t : TypeId) (hz : ∀ e, P.underlying t = some (.slice e) → ∀ z, (P.info? e).bind (·.zero) = some z → cls 8 z = true) (k k' : IntKind) (n n' : Int) :
  Sim P VR γ (Instr.makeSlice t (.int k n) (.int k' n')) (Instr.makeSlice t (.int k n) (.int k' n')) := by
 unfold Instr.makeSlice
 refine .bind (sim_underlying t) fun γ0 d d' hk0 e => ?_
 obtain ⟨rfl, hd⟩ := e
 cases d' with
 | slice elem =>
  refine .bind (RA := fun _ a a' => a' = a) (.pure rfl) fun γ1 p p' hk e => ?_
  subst e
  refine .bind (RA := fun _ a a' => a' = a) (.pure rfl) fun γ1 q q' hk e => ?_
  subst e
  refine .bind (.of_q0 (q0_typeInfo _)) fun γ1 i i' hk e => ?_
  subst e
  dsimp only
  have rest : ∀ γ2 : Gm, Sim P VR γ2
    (do
     askRoom ((IntKind.i64.wrap q').toNat * i'.bytes)
     let n := (IntKind.i64.wrap q').toNat * (← sizeOf elem)
     let zero ← if n = 0 then Pure.pure #[] else do Pure.pure (← zeroValue elem).cells
     let a ← newRow elem ((Array.range n).map (zero[· % zero.size]!))
     Pure.pure (.slice (some a) (IntKind.i64.wrap p').toNat (IntKind.i64.wrap q').toNat))
    (do
     askRoom ((IntKind.i64.wrap q').toNat * i'.bytes)
     let n := (IntKind.i64.wrap q').toNat * (← sizeOf elem)
     let zero ← if n = 0 then Pure.pure #[] else do Pure.pure (← zeroValue elem).cells
     let a ← newRow elem ((Array.range n).map (zero[· % zero.size]!))
     Pure.pure (.slice (some a) (IntKind.i64.wrap p').toNat (IntKind.i64.wrap q').toNat)) := fun γ2 => by
   refine .bind (.of_q0 (q0_askRoom _)) fun γ3 _ _ hk3 _ => ?_
   refine .bind (.of_q0 (q0_sizeOf _)) fun γ4 s s' hk4 e => ?_
   subst e
   dsimp only
   have fin : ∀ (γ5 : Gm) (z z' : Array Value), LR γ5 z.toList z'.toList → Sim P VR γ5
     (do let a ← newRow elem ((Array.range ((IntKind.i64.wrap q').toNat * s')).map (z[· % z.size]!)); Pure.pure (.slice (some a) (IntKind.i64.wrap p').toNat (IntKind.i64.wrap q').toNat))
     (do let a ← newRow elem ((Array.range ((IntKind.i64.wrap q').toNat * s')).map (z'[· % z'.size]!)); Pure.pure (.slice (some a) (IntKind.i64.wrap p').toNat (IntKind.i64.wrap q').toNat)) := fun γ5 z z' hzz =>
    .bind (sim_newRow elem (LR.cyc hzz VR.dflt _)) fun γ6 a a' hk6 ha => .pure (.sl _ _ _ _ _ ha ⟨fun _ => rfl, fun h => absurd (wrap_i64_lt q') (Nat.not_lt.2 h)⟩)
   split
   ·exact .bind (RA := fun γ z z' => LR γ z.toList z'.toList) (.pure (.nil _)) fun γ5 z z' hk2 hzz => fin γ5 z z' hzz
   ·exact .bind (sim_zeroValue elem (hz elem hd)) fun γ5 z z' hk2 hzz => .bind (RA := fun γ z z' => LR γ z.toList z'.toList) (.pure hzz.cells) fun γ6 z z' hk3 hz3 => fin γ6 z z' hz3
  split
  ·refine Bad.sim ?_ _
   split
   ·exact (bad_runtimePanic _).bindL _
   ·split
    ·exact (bad_runtimePanic _).bindL _
    ·refine .bind fun _ => ?_
     exact (bad_runtimePanic _).bindL _
  ·exact rest _
 | _ => exact (Bad.halt _).sim _
theorem sim_firstCells (size n : Nat) {x x' : Value} (hx : VR γ x x') : Sim P (fun γ a b => LR γ a.toList b.toList) γ (Builtin.firstCells size n x) (Builtin.firstCells size n x') := by
 cases hx with
 | slN l c => exact .pure (.nil _)
 | sl a a' l c c' h hc => exact sim_loadCells h _
 | str s =>
  refine .pure ⟨rfl, fun j x y hx hy => ?_⟩
  have e := Option.some.inj (hx.symm.trans hy)
  subst e
  have hm := List.mem_of_getElem? hx
  simp only [Array.toList_map, List.mem_map] at hm
  obtain ⟨b, _, rfl⟩ := hm
  exact .int _ _
 | _ => exact (Bad.halt _).sim _
theorem sim_lenOf {x x' : Value} (hx : VR γ x x') : Sim P (fun _ a b => b = a) γ (Builtin.lenOf x) (Builtin.lenOf x') := by
 cases hx with
 | slN l c => exact .pure rfl
 | sl a a' l c c' h hc => exact .pure rfl
 | str s => exact .pure rfl
 | _ => exact (Bad.halt _).sim _
theorem sim_copy (T T' ty : TypeId) {x x' y y' : Value} (hx : VR γ x x') (hy : VR γ y y') : Sim P VR γ (Builtin.copy_ #[T, T'] ty #[x, y]) (Builtin.copy_ #[T, T'] ty #[x', y']) := by
 unfold Builtin.copy_
 dsimp only [List.getElem?_toArray, List.getElem?_cons_zero, List.getElem?_cons_succ]
 refine .bind (sim_underlying T) fun γ0 d d' hk0 e => ?_
 obtain ⟨rfl, hd⟩ := e
 have hx0 := hx.keep hk0
 have hy0 := hy.keep hk0
 cases d' with
 | slice elem =>
  dsimp only
  have key : ∀ (base base' : Option Addr) (l : Nat), (base = none ∧ base' = none ∨ ∃ a a', base = some a ∧ base' = some a' ∧ AR γ0 a a') → Sim P VR γ0
   (do
    let n := Nat.min (← Builtin.lenOf y) l
    let cells ← Builtin.firstCells (← sizeOf elem) n y
    if let some a := base then storeCells a cells.toList
    Pure.pure (goInt n))
   (do
    let n := Nat.min (← Builtin.lenOf y') l
    let cells ← Builtin.firstCells (← sizeOf elem) n y'
    if let some a := base' then storeCells a cells.toList
    Pure.pure (goInt n)) := fun base base' l hb => by
   refine .bind (sim_lenOf hy0) fun γ1 n n' hk1 e => ?_
   subst e
   refine .bind (.of_q0 (q0_sizeOf _)) fun γ2 s s' hk2 e => ?_
   subst e
   refine .bind (sim_firstCells _ _ ((hy0.keep hk1).keep hk2)) fun γ3 c c' hk3 hc => ?_
   rcases hb with ⟨rfl, rfl⟩ | ⟨a, a', rfl, rfl, ha⟩
   ·exact .pure (.int _ _)
   ·exact .bind (sim_storeCells (((ha.keep hk1).keep hk2).keep hk3) _ _ 0 hc) fun _ _ _ _ _ => .pure (.int _ _)
  cases hx0 with
  | slN l c => exact key none none l (.inl ⟨rfl, rfl⟩)
  | sl a a' l c c' h hc => exact key (some a) (some a') l (.inr ⟨a, a', rfl, rfl, h⟩)
  | _ => exact (Bad.halt _).sim _
 | _ => exact (Bad.halt _).sim _
end
end Go.Kr
end
section
namespace Go.Kr
def Okv (P : Program) (t' : Sem Value) (m : Ms) (γ : Gm) (w : World) (v : Value) (m' : Ms) : Prop :=
 ∃ v' w' γ', t'.run P w = .ok v' w' ∧ VR γ' v v' ∧ m'.hi = m.hi ∧ Post m.cur m.nx m.hi γ w m'.cur m'.nx γ' w'
def rowM (m : Ms) (b : Addr) (k : Nat) : Option (List Value) := match b.spot with
 | some _ => none
 | none => match m.cur b.block with
  | some ⟨_, .cells c _ _⟩ => match Nat.beq ((c.toList.drop b.off).take k).length k with
   | true => some ((c.toList.drop b.off).take k)
   | false => none
  | _ => none
def topB : Nat := 140737488355328
def szE (P : Program) (E : TypeId) : Option (Nat × Nat) := match P.info? E with
 | some i => match i.zero with
  | some z => match Nat.beq z.cells.size i.size && Nat.ble 1 i.size with
   | true => some (i.size, i.bytes)
   | false => none
  | none => none
 | none => none
def elT (P : Program) (T : TypeId) : Option TypeId := match P.underlying T with
 | some (.slice E) => some E
 | _ => none
def fits (k bytes : Nat) : Bool := Nat.ble (k * bytes) topB && Nat.ble k topB
def growM (m : Ms) (E sz k bytes : Nat) (cs : List Value) : Option (Value × Ms) := match fits k bytes && cs.all leafB && Nat.blt m.nx m.hi with
 | true => match m.cur m.nx with
  | none => some (.slice (some ⟨m.nx, 0, none⟩) k (big + sz), m.born ⟨true, .cells cs.toArray E (0, 0)⟩)
  | some _ => none
 | false => none
def appB (m : Ms) (E sz bytes : Nat) (a : Addr) (len cap : Nat) (b : Addr) (n : Nat) (new : List Value) : Option (Value × Ms) := match Nat.blt cap big with
 | true => match Nat.ble (len + n) cap with
  | true => match a.spot, Nat.beq a.off 0 && new.all leafB, m.cur a.block with
   | none, true, some ⟨true, .cells c E' f⟩ => match Nat.beq E' E && Nat.ble (len * sz + new.length) c.toList.length with
    | true => some (.slice (some a) (len + n) cap, m.set a.block (some ⟨true, .cells (c.toList.take (len * sz) ++ new ++ c.toList.drop (len * sz + new.length)).toArray E f⟩))
    | false => none
   | _, _, _ => none
  | false => match rowM m a (len * sz) with
   | some old => growM (m.see a.block) E sz (len + n) bytes (old ++ new)
   | none => none
 | false => match Nat.beq cap (big + sz) && Nat.beq a.off 0, a.spot, m.cur a.block with
  | true, none, some ⟨true, .cells c E' f⟩ => match Nat.beq E' E && Nat.ble (len * sz) c.toList.length with
   | true => growM (m.set a.block none) E sz (len + n) bytes (c.toList.take (len * sz) ++ new)
   | false => none
  | _, _, _ => none
def appE (m : Ms) (x : Value) : Option (Value × Ms) := match x with
 | .slice none len cap => match Nat.ble len cap with
  | true => some (x, m)
  | false => none
 | .slice (some _) len cap => match Nat.ble big cap || Nat.ble len cap with
  | true => some (x, m)
  | false => none
 | _ => none
def appM (P : Program) (m : Ms) (T : TypeId) (x y : Value) : Option (Value × Ms) := match elT P T with
 | none => none
 | some E => match szE P E with
  | none => none
  | some (sz, bytes) => match y with
   | .slice none 0 _ => appE m x
   | .slice (some b) n _ => match Nat.ble 1 n, rowM m b (n * sz) with
    | true, some new => match x with
     | .slice none 0 0 => growM (m.see b.block) E sz n bytes new
     | .slice (some a) len cap => appB (m.see b.block) E sz bytes a len cap b n new
     | _ => none
    | _, _ => none
   | _ => none
section
variable {P : Program} {γ : Gm}
theorem leaf_one (v : Value) (h : leafB v = true) : v.oneCell' = true := by cases v <;> first | rfl | cases h
theorem LR.leaf {γ : Gm} {xs ys : List Value} (h : LR γ xs ys) (hx : xs.all leafB = true) : ∀ y ∈ ys, y.oneCell' = true := fun y hy => by
 obtain ⟨j, hj⟩ := List.getElem?_of_mem hy
 have hlt : j < xs.length := by rw [← h.len]; exact (List.getElem?_eq_some_iff.1 hj).1
 have hv := h.at_ j xs[j] y (List.getElem?_eq_getElem hlt) hj
 exact leaf_one y (by rw [hv.leaf]; exact List.all_eq_true.1 hx _ (List.getElem_mem hlt))
theorem rowM_real {m : Ms} {w : World} (hr : HR m.cur γ w) {b b' : Addr} (hb : AR γ b b') {k : Nat} {cs : List Value} (h : rowM m b k = some cs) :
  cs.length = k ∧ ∃ cs', LR γ cs cs' ∧ ∀ (j : Nat) (v : Value), cs'[j]? = some v → w.cell? (b'.add j) = some v := by
 unfold rowM at h
 obtain ⟨hs, hb2⟩ := hb
 rw [hs] at h
 simp only at h
 cases hc : m.cur b.block with
 | none => rw [hc] at h; cases h
 | some ab =>
  obtain ⟨o, ob⟩ := ab
  rw [hc] at h
  cases ob with
  | cells c E f =>
   simp only at h
   split at h
   ·rename_i hl
    have hl := Nat.eq_of_beq_eq_true hl
    cases h
    refine ⟨hl, ?_⟩
    obtain ⟨p, hp, hab, hlt⟩ := hr.obj _ _ hc
    rw [hp] at hb2
    simp only at hb2
    have each : ∀ j, j < ((c.toList.drop b.off).take k).length → ∃ y, w.cell? (b'.add j) = some y ∧ ∀ x, ((c.toList.drop b.off).take k)[j]? = some x → VR γ x y := fun j hj => by
     have hx : ((c.toList.drop b.off).take k)[j]? = c.toList[b.off + j]? := by
      rw [List.getElem?_take, if_pos (by simp at hj; omega), List.getElem?_drop]
     have hx2 : c.toList[b.off + j]? = some ((c.toList.drop b.off).take k)[j] := by rw [← hx]; exact List.getElem?_eq_getElem hj
     have hadd : b'.add j = ⟨p.b, b.off + p.δ + j, none⟩ := by rw [hb2]; exact Addr.add_lit ..
     rw [hadd, hx]
     generalize hX : (⟨o, Obj.cells c E f⟩ : Ab) = X at hab
     cases hab with
     | own c0 cur E0 b0 κ hκ hblk hlen hh =>
      cases hX
      have hl2 : b.off + j < c0.length := by have := (List.getElem?_eq_some_iff.1 hx2).1; simpa using this
      refine ⟨cur[b.off + j]'(by omega), ?_, fun x hx => hh _ x _ (by simpa using hx) (List.getElem?_eq_getElem _)⟩
      simp [World.cell?, hblk, show b.off + j < cur.length by omega]
     | frz c0 E0 f0 b0 δ κ hh =>
      cases hX
      obtain ⟨y, h1, h2⟩ := hh (b.off + j) _ (by rw [← hx2])
      refine ⟨y, by rw [← h1]; congr 1; simp; omega, fun x hx => ?_⟩
      rw [hx2] at hx
      cases hx
      exact h2
     | map => cases hX
     | strit => cases hX
     | mapit => cases hX
    generalize hcs : (c.toList.drop b.off).take k = cs at each
    have : ∀ (cs : List Value) (i : Nat), (∀ j, j < cs.length → ∃ y, w.cell? (b'.add (i + j)) = some y ∧ ∀ x, cs[j]? = some x → VR γ x y) → ∃ cs', LR γ cs cs' ∧ ∀ (j : Nat) (v : Value), cs'[j]? = some v → w.cell? (b'.add (i + j)) = some v := by
     intro cs
     induction cs with
     | nil => intro i _; exact ⟨[], .nil γ, fun j v h => by simp at h⟩
     | cons x xs ih =>
      intro i hh
      obtain ⟨y, h1, h2⟩ := hh 0 (by simp)
      obtain ⟨ys, h3, h4⟩ := ih (i + 1) fun j hj => by
       obtain ⟨y, h1, h2⟩ := hh (j + 1) (by simpa using hj)
       exact ⟨y, by rw [← h1]; congr 1; congr 1; omega, fun x hx => h2 x (by simpa using hx)⟩
      refine ⟨y :: ys, .cons (h2 x rfl) h3, fun j v hv => ?_⟩
      cases j with
      | zero => simp at hv; subst hv; exact h1
      | succ j => rw [← h4 j v (by simpa using hv)]; congr 1; congr 1; omega
    obtain ⟨cs', h1, h2⟩ := this cs 0 (fun j hj => by simpa using each j hj)
    exact ⟨cs', h1, fun j v hv => by simpa using h2 j v hv⟩
   ·cases h
  | _ => cases h
theorem Post.quiet {H : Nat → Option Ab} {nx hi : Nat} {w w' : World} (h : HR H γ w) (hf : Free γ nx hi) (hh : w'.heap = w.heap) (ho : w'.os = w.os) (ht : w'.tape = w.tape) (hp : w'.output = w.output) : Post H nx hi γ w H nx γ w' :=
 ⟨⟨fun id ab hk => by obtain ⟨p, h1, h2, h3⟩ := h.obj id ab hk; exact ⟨p, h1, h2.mono (.refl γ) (by rw [hh]), by rw [hh]; exact h3⟩, h.dead, h.inj⟩, Nat.le_refl _, hf, .refl γ, fun _ _ h => h, by rw [hh]; exact Nat.le_refl _, ho, ht, hp, fun b _ _ => by rw [hh], fun b h => .inl h⟩
theorem szE_spec {E sz bytes : Nat} (h : szE P E = some (sz, bytes)) : ∃ i z, P.info? E = some i ∧ i.zero = some z ∧ z.cells.size = i.size ∧ i.size = sz ∧ i.bytes = bytes ∧ 0 < sz := by
 unfold szE at h
 split at h
 ·rename_i i hi
  split at h
  ·rename_i z hz
   split at h
   ·rename_i hc
    simp only [Bool.and_eq_true] at hc
    cases h
    exact ⟨i, z, hi, hz, Nat.eq_of_beq_eq_true hc.1, rfl, rfl, Nat.le_of_ble_eq_true hc.2⟩
   ·cases h
  ·cases h
 ·cases h
theorem elT_spec {T E : TypeId} (h : elT P T = some E) : P.underlying T = some (.slice E) := by
 unfold elT at h
 split at h
 ·rename_i hd; cases h; exact hd
 ·cases h
theorem grow_new {m : Ms} {w : World} (hr : HR m.cur γ w) (hf : Free γ m.nx m.hi) {E sz k bytes : Nat} {cs cs' : List Value} {v : Value} {m' : Ms} (hg : growM m E sz k bytes cs = some (v, m')) (h : LR γ cs cs') (hl : cs.length = k * sz)
  (z : Array Value) (hz : z.size = sz) (cap : Nat) (hcap : k ≤ cap) :
  ∃ γ', VR γ' v (.slice (some ⟨w.heap.size, 0, none⟩) k cap) ∧ m'.hi = m.hi ∧ Post m.cur m.nx m.hi γ w m'.cur m'.nx γ' ({ w with heap := w.heap.push (.cells (cs'.toArray ++ Builtin.zeroCells z (cap - k)) E (0, 0)) }) := by
 unfold growM at hg
 split at hg
 ·rename_i hc
  simp only [Bool.and_eq_true] at hc
  have hlt : m.nx < m.hi := by have := hc.2; simp [Nat.blt] at this; omega
  split at hg
  ·rename_i hcur
   cases hg
   have hsz : (cs'.toArray ++ Builtin.zeroCells z (cap - k)).toList.length = cap * sz := by
    simp only [Array.length_toList, Array.size_append, List.size_toArray, h.len, hl, size_zeroCells, hz]
    rw [← Nat.add_mul]; congr 1; omega
   have hk := Keep.born (hf _ (Nat.le_refl _) hlt) (some ⟨w.heap.size, 0, cap * sz⟩)
   have hnew := HR.new (w := w) hr hf hlt (o := .cells (cs'.toArray ++ Builtin.zeroCells z (cap - k)) E (0, 0)) (ab := ⟨true, .cells cs.toArray E (0, 0)⟩) hcur (cap * sz)
    (.own cs (cs'.toArray ++ Builtin.zeroCells z (cap - k)).toList E _ _ hsz (by simp) (by rw [hsz, hl]; exact Nat.mul_le_mul_right _ hcap) fun j x y hx hy => by
     have hlt2 : j < cs'.length := by rw [h.len]; exact (List.getElem?_eq_some_iff.1 hx).1
     have : cs'[j]? = some y := by
      rw [← hy, Array.toList_append, List.getElem?_append_left (by simpa using hlt2)]
     exact (h.at_ j x y hx this).keep hk)
   refine ⟨_, .sl _ _ _ _ _ ⟨rfl, ?_⟩ ⟨fun hb => ?_, fun hb => ⟨hcap, ?_⟩⟩, rfl, by rw [cur_born]; exact hnew⟩
   ·simp only [updF_same]
   ·exact absurd hb (by omega)
   ·simp [updF_same]
  ·cases hg
 ·cases hg
theorem run_append_empty {T ty E : TypeId} (hT : P.underlying T = some (.slice E)) {i : TypeInfo} (hi : P.info? E = some i) (A B : Option Addr) (n cap c' : Nat) (h : n ≤ cap) (w : World) :
  (Builtin.append_ #[T, T] ty #[.slice A n cap, .slice B 0 c']).run P w = .ok (.slice A n cap) w := by
 cases B with
 | none => cases A <;> simp [Builtin.append_, run_underlying hT, sizeOf, typeInfo, hi, Builtin.lenOf, h, Builtin.firstCells, storeCells]
 | some a => cases A <;> simp [Builtin.append_, run_underlying hT, sizeOf, typeInfo, hi, Builtin.lenOf, h, Builtin.firstCells, storeCells, loadCells, loadCellsFrom]
theorem fits_spec {k bytes : Nat} (h : fits k bytes = true) : k * bytes ≤ 140737488355328 ∧ k ≤ 140737488355328 := by
 unfold fits topB at h
 simp only [Bool.and_eq_true] at h
 exact ⟨Nat.le_of_ble_eq_true h.1, Nat.le_of_ble_eq_true h.2⟩
theorem growM_fits {m : Ms} {E sz k bytes : Nat} {cs : List Value} {r : Value × Ms} (h : growM m E sz k bytes cs = some r) : fits k bytes = true := by
 unfold growM at h
 split at h
 ·rename_i hc; simp only [Bool.and_eq_true] at hc; exact hc.1.1
 ·cases h
theorem appE_sound {m m' : Ms} {w : World} (hr : HR m.cur γ w) (hf : Free γ m.nx m.hi) {T ty E : TypeId} {x x' v : Value} (hT : P.underlying T = some (.slice E)) {i : TypeInfo} (hi : P.info? E = some i) (hx : VR γ x x') (h : appE m x = some (v, m')) (B : Option Addr) (c' : Nat) :
  Okv P (Builtin.append_ #[T, T] ty #[x', .slice B 0 c']) m γ w v m' := by
 have hle : v = x ∧ m' = m ∧ ∃ A' len cap', x' = .slice A' len cap' ∧ len ≤ cap' := by
  unfold appE at h
  split at h
  ·rename_i len cap
   split at h
   ·rename_i hc
    cases h
    cases hx
    exact ⟨rfl, rfl, none, len, cap, rfl, Nat.le_of_ble_eq_true hc⟩
   ·cases h
  ·rename_i a len cap
   split at h
   ·rename_i hc
    cases h
    cases hx with
    | sl _ a' _ _ c' ha hcap =>
     refine ⟨rfl, rfl, some a', len, c', rfl, ?_⟩
     rcases Nat.lt_or_ge cap big with hb | hb
     ·rw [hcap.1 hb]
      simp only [Bool.or_eq_true] at hc
      rcases hc with hc | hc
      ·have := Nat.le_of_ble_eq_true hc; omega
      ·exact Nat.le_of_ble_eq_true hc
     ·exact (hcap.2 hb).1
   ·cases h
  ·cases h
 obtain ⟨rfl, rfl, A', len, cap', rfl, hle⟩ := hle
 exact ⟨_, w, γ, run_append_empty hT hi A' B len cap' c' hle w, hx, rfl, .refl hr hf⟩
theorem drew_heap (w : World) : w.drew.heap = w.heap := rfl
theorem grow_sound {m1 m' : Ms} {w : World} {T ty E sz bytes : Nat} (hT : P.underlying T = some (.slice E)) (hsz : szE P E = some (sz, bytes)) {γ1 : Gm} (hr : HR m1.cur γ1 w) (hf : Free γ1 m1.nx m1.hi)
  {b' : Option Addr} {len cap' : Nat} {olds : List Value} (hb : b' = none → len = 0 ∧ cap' = 0) (hlo : olds.length = len * sz) (holds : ∀ b, b' = some b → ∀ (j : Nat) (v : Value), olds[j]? = some v → w.cell? (b.add j) = some v)
  {a' : Addr} {n c : Nat} {news : List Value} (hln : news.length = n * sz) (hnews : ∀ (j : Nat) (v : Value), news[j]? = some v → w.cell? (a'.add j) = some v) (hn : 0 < n) (hgt : cap' < len + n)
  {cs : List Value} (hcs : LR γ1 cs (olds ++ news)) {v : Value} (hg : growM m1 E sz (len + n) bytes cs = some (v, m')) :
  ∃ v' w' γ', (Builtin.append_ #[T, T] ty #[.slice b' len cap', .slice (some a') n c]).run P w = .ok v' w' ∧ VR γ' v v' ∧ m'.hi = m1.hi ∧ Post m1.cur m1.nx m1.hi γ1 w m'.cur m'.nx γ' w' := by
 obtain ⟨i, z, hi, hz, hzs, his, hby, hpos⟩ := szE_spec hsz
 have hfit := fits_spec (growM_fits hg)
 subst his
 have hlen : cs.length = (len + n) * i.size := by rw [← hcs.len, List.length_append, hlo, hln, Nat.add_mul]
 have hrd : HR m1.cur γ1 w.drew := (Post.quiet (nx := m1.nx) (hi := m1.hi) hr hf (w' := w.drew) rfl rfl rfl rfl).hr
 have hpd : Post m1.cur m1.nx m1.hi γ1 w m1.cur m1.nx γ1 w.drew := Post.quiet hr hf rfl rfl rfl rfl
 cases b' with
 | none =>
  obtain ⟨rfl, rfl⟩ := hb rfl
  have ho : olds = [] := List.eq_nil_of_length_eq_zero (by simpa using hlo)
  subst ho
  have hrun := run_append_nil (P := P) w T ty E i z hT hi hz a' n c news hln hnews hn (by omega) (by rw [hby]; have := hfit.1; simp only [Nat.zero_add] at this; omega)
  have hcap := grownCap_ge w n 0 E
  simp only [Nat.zero_add, List.nil_append] at hg hcs hlen ⊢
  obtain ⟨γ', h1, h2, h3⟩ := grow_new hrd hf hg hcs hlen z.cells hzs (grownCap w n 0 E) hcap
  exact ⟨_, _, γ', hrun, h1, h2, hpd.trans h3⟩
 | some b =>
  have hrun := run_append_grow (P := P) w T ty E i z hT hi hz b len cap' olds hlo (holds b rfl) a' n c news hln hnews hgt (by omega) (growslice_fits hgt (by rw [hby]; exact hfit.1))
  have hcap := grownCap_ge w (len + n) cap' E
  obtain ⟨γ', h1, h2, h3⟩ := grow_new hrd hf hg hcs hlen z.cells hzs (grownCap w (len + n) cap' E) hcap
  have e : olds.toArray ++ news.toArray = (olds ++ news).toArray := by simp
  rw [e] at hrun
  exact ⟨_, _, γ', hrun, h1, h2, hpd.trans h3⟩
theorem see_hr {m : Ms} {w : World} (h : HR m.cur γ w) (id : Nat) : HR (m.see id).cur γ w := h
theorem own_at {H : Nat → Option Ab} {w : World} (hr : HR H γ w) {a a' : Addr} (ha : AR γ a a') (h0 : a.off = 0) {c0 : Array Value} {E : TypeId} {f : Nat × Nat} (hcur : H a.block = some ⟨true, .cells c0 E f⟩) :
  ∃ (b κ : Nat) (cur : List Value), f = (0, 0) ∧ γ a.block = some (some ⟨b, 0, κ⟩) ∧ a' = ⟨b, 0, none⟩ ∧ cur.length = κ ∧ w.heap[b]? = some (.cells cur.toArray E (0, 0)) ∧ c0.toList.length ≤ cur.length ∧
   ∀ (j : Nat) (x y : Value), c0.toList[j]? = some x → cur[j]? = some y → VR γ x y := by
 obtain ⟨p, hp, hab, hplt⟩ := hr.obj _ _ hcur
 have ha2 := ha.2
 rw [hp] at ha2
 generalize hX : (⟨true, Obj.cells c0 E f⟩ : Ab) = X at hab
 cases hab with
 | own cc cur E0 b0 κ hκ hblk hlen2 hh =>
  cases hX
  exact ⟨b0, κ, cur, rfl, hp, ha2.trans (by simp [h0]), hκ, hblk, by simpa using hlen2, fun j x y hx hy => hh j x y (by simpa using hx) hy⟩
 | frz => cases hX
 | map => cases hX
 | strit => cases hX
 | mapit => cases hX
theorem LR.takes {c cur : List Value} (hl : c.length ≤ cur.length) (hh : ∀ (j : Nat) (x y : Value), c[j]? = some x → cur[j]? = some y → VR γ x y) {n : Nat} (hn : n ≤ c.length) : LR γ (c.take n) (cur.take n) :=
 ⟨by simp; omega, fun j x y hx hy => by
  rw [List.getElem?_take] at hx hy
  split at hx
  ·rename_i hj; rw [if_pos hj] at hy; exact hh j x y hx hy
  ·cases hx⟩
theorem LR.patch {c cur new new' : List Value} (hl : c.length ≤ cur.length) (hh : ∀ (j : Nat) (x y : Value), c[j]? = some x → cur[j]? = some y → VR γ x y) {n : Nat} (hn : n ≤ c.length) (hnew : LR γ new new') (tl : List Value) (htl : ∀ (j : Nat) (x y : Value), tl[j]? = some x → (cur.drop (n + new.length))[j]? = some y → VR γ x y) :
  ∀ (j : Nat) (x y : Value), (c.take n ++ new ++ tl)[j]? = some x → (cur.take n ++ new' ++ cur.drop (n + new'.length))[j]? = some y → VR γ x y := fun j x y hx hy => by
 have h1 : LR γ (c.take n ++ new) (cur.take n ++ new') := (LR.takes hl hh hn).append hnew
 have e1 : (c.take n ++ new).length = n + new.length := by simp; omega
 have e2 : (cur.take n ++ new').length = n + new.length := by rw [h1.len, e1]
 rw [hnew.len] at hy
 rw [List.getElem?_append, e1] at hx
 rw [List.getElem?_append, e2] at hy
 split at hx
 ·rename_i hj; rw [if_pos hj] at hy; exact h1.at_ j x y hx hy
 ·rename_i hj
  rw [if_neg hj] at hy
  exact htl _ x y hx hy
theorem HR.rename {H : Nat → Option Ab} {w : World} {nx hi : Nat} (h : HR H γ w) (hf : Free γ nx hi) (hlt : nx < hi) {id : Nat} {ab : Ab} (hid : H id = some ab) {p : Pl} (hp : γ id = some (some p)) :
  Post H nx hi γ w (updF (updF H id none) nx (some ab)) (nx + 1) (updF (updF γ id (some none)) nx (some (some p))) w := by
 have hγ : γ nx = none := hf nx (Nat.le_refl _) hlt
 have hne : nx ≠ id := fun e => by rw [← e] at hp; rw [hγ] at hp; cases hp
 have hkill := HR.kill (nx := nx) (hi := hi) h hf (id := id) (by rw [hid]; simp)
 have hγ1 : updF γ id (some none) nx = none := by rw [updF_ne _ _ hne]; exact hγ
 have hk2 := Keep.born hγ1 (some p)
 have hkeep := hkill.keep.trans hk2
 obtain ⟨q, hq, hab, hqlt⟩ := h.obj id ab hid
 rw [hp] at hq
 cases hq
 refine ⟨⟨fun k a hk => ?_, fun k hk q => ?_, fun k k' a1 a2 q q' h1 h2 h3 h4 h5 h6 => ?_⟩, Nat.le_succ _, fun k h1 h2 => ?_, hkeep, fun k h1 h2 => ?_, Nat.le_refl _, rfl, rfl, rfl, fun b hb _ => rfl, fun b ⟨i, a, q, h1, h2, h3, h4⟩ => .inl ?_⟩
 ·by_cases e : k = nx
  ·subst e
   rw [updF_same] at hk
   cases hk
   exact ⟨p, updF_same _ _ _, hab.mono hkeep rfl, hqlt⟩
  ·rw [updF_ne _ _ e] at hk
   obtain ⟨q, g1, g2, g3⟩ := hkill.hr.obj k a hk
   exact ⟨q, by rw [updF_ne _ _ e]; exact g1, g2.mono hk2 rfl, g3⟩
 ·by_cases e : k = nx
  ·subst e; rw [updF_same] at hk; cases hk
  ·rw [updF_ne _ _ e] at hk ⊢; exact hkill.hr.dead k hk q
 ·have place : ∀ k a q, updF (updF H id none) nx (some ab) k = some a → updF (updF γ id (some none)) nx (some (some p)) k = some (some q) → ∃ k0, H k0 = some a ∧ γ k0 = some (some q) ∧ (k0 = id ↔ k = nx) ∧ (k0 ≠ id → k0 = k) := fun k a q hk hq => by
   by_cases e : k = nx
   ·subst e; rw [updF_same] at hk hq; cases hk; cases hq; exact ⟨id, hid, hp, by simp, fun h => absurd rfl h⟩
   ·rw [updF_ne _ _ e] at hk hq
    by_cases e2 : k = id
    ·subst e2; rw [updF_same] at hk; cases hk
    ·rw [updF_ne _ _ e2] at hk hq; exact ⟨k, hk, hq, by simp [e, e2], fun _ => rfl⟩
  obtain ⟨k0, f1, f2, f3, f4⟩ := place k a1 q h1 h5
  obtain ⟨k1, g1, g2, g3, g4⟩ := place k' a2 q' h3 h6
  refine h.inj k0 k1 a1 a2 q q' f1 h2 g1 (fun e => ?_) f2 g2
  by_cases e0 : k0 = id
  ·exact h4 ((f3.1 e0).trans (g3.1 (e ▸ e0)).symm)
  ·exact h4 ((f4 e0).symm.trans (e.trans (g4 (e ▸ e0))))
 ·rw [updF_ne _ _ (by omega)]; exact hkill.free k (by omega) h2
 ·rw [updF_ne _ _ (fun e => h1 (by subst e; exact ⟨Nat.le_refl _, hlt⟩))]; exact hkill.unb k h1 h2
 ·by_cases e : i = nx
  ·subst e; rw [updF_same] at h1 h3; cases h1; cases h3; exact ⟨id, ab, p, hid, h2, hp, h4⟩
  ·rw [updF_ne _ _ e] at h1 h3
   by_cases e2 : i = id
   ·subst e2; rw [updF_same] at h1; cases h1
   ·rw [updF_ne _ _ e2] at h1 h3; exact ⟨i, a, q, h1, h2, h3, h4⟩
section
variable {m : Ms} {w : World} {T ty E sz bytes : Nat}
theorem app_room (hr : HR m.cur γ w) (hf : Free γ m.nx m.hi) (hT : P.underlying T = some (.slice E)) {i : TypeInfo} (hi : P.info? E = some i) (his : i.size = sz) {a a' b' : Addr} (ha : AR γ a a') (h0 : a.off = 0) {c0 : Array Value} {f : Nat × Nat}
  (hcur : m.cur a.block = some ⟨true, .cells c0 E f⟩) {len cap n c' : Nat} {new new' : List Value} (hnew : LR γ new new') (hleaf : new.all leafB = true) (hnl : new.length = n * sz) (hcells : ∀ (j : Nat) (v : Value), new'[j]? = some v → w.cell? (b'.add j) = some v)
  (hroom : len + n ≤ cap) (hfit : len * sz + new.length ≤ c0.toList.length) :
  ∃ w', (Builtin.append_ #[T, T] ty #[.slice (some a') len cap, .slice (some b') n c']).run P w = .ok (.slice (some a') (len + n) cap) w' ∧
   Post m.cur m.nx m.hi γ w (updF m.cur a.block (some ⟨true, .cells (c0.toList.take (len * sz) ++ new ++ c0.toList.drop (len * sz + new.length)).toArray E f⟩)) m.nx γ w' := by
 obtain ⟨b0, κ, cur, rfl, hp, rfl, hκ, hblk, hlen2, hh⟩ := own_at hr ha h0 hcur
 have hnl2 : new'.length = new.length := hnew.len
 have hrun := run_append_room (P := P) w T ty E i hT hi b0 len cap cur.toArray hblk b' n c' new' (by rw [hnl2, hnl, his]) hcells (hnew.leaf hleaf) hroom (by rw [his]; simp; omega)
 simp only [his] at hrun
 refine ⟨_, hrun, ?_⟩
 refine HR.write (nx := m.nx) (hi := m.hi) hr hf hcur rfl hp (by simp) rfl rfl rfl (fun k hk => setRow_other _ _ _ _ hk) rfl ?_
 refine .own _ _ _ _ _ ?_ (setRow_heap w b0 _ _ _ _ hblk) ?_ ?_
 ·simp [hnl2]; omega
 ·simp only [List.length_append, List.length_take, List.length_drop, hnl2, Array.length_toList] at hfit hlen2 ⊢; omega
 ·exact LR.patch hlen2 hh (by omega) hnew _ fun j x y hx hy => by
   rw [List.getElem?_drop] at hx hy
   exact hh _ x y hx hy
theorem app_over (hr : HR m.cur γ w) (hf : Free γ m.nx m.hi) (hT : P.underlying T = some (.slice E)) {i : TypeInfo} (hi : P.info? E = some i) (his : i.size = sz) {a a' b' : Addr} (ha : AR γ a a') (h0 : a.off = 0) {c0 : Array Value} {f : Nat × Nat}
  (hcur : m.cur a.block = some ⟨true, .cells c0 E f⟩) {len cap n c' : Nat} {new new' : List Value} (hnew : LR γ new new') (hleaf : new.all leafB = true) (hnl : new.length = n * sz) (hcells : ∀ (j : Nat) (v : Value), new'[j]? = some v → w.cell? (b'.add j) = some v)
  (hroom : len + n ≤ cap) (hfit : len * sz ≤ c0.toList.length) (hcap : ∀ p, γ a.block = some (some p) → cap * sz ≤ p.κ) (hlt : m.nx < m.hi) :
  ∃ w' γ', (Builtin.append_ #[T, T] ty #[.slice (some a') len cap, .slice (some b') n c']).run P w = .ok (.slice (some a') (len + n) cap) w' ∧
   VR γ' (.slice (some ⟨m.nx, 0, none⟩) (len + n) (big + sz)) (.slice (some a') (len + n) cap) ∧
   Post m.cur m.nx m.hi γ w (updF (updF m.cur a.block none) m.nx (some ⟨true, .cells (c0.toList.take (len * sz) ++ new).toArray E (0, 0)⟩)) (m.nx + 1) γ' w' := by
 obtain ⟨b0, κ, cur, rfl, hp, rfl, hκ, hblk, hlen2, hh⟩ := own_at hr ha h0 hcur
 have hnl2 : new'.length = new.length := hnew.len
 have hck := hcap _ hp
 have hbig : len * sz + new.length ≤ cur.length := by rw [hnl, ← Nat.add_mul, hκ]; exact Nat.le_trans (Nat.mul_le_mul_right _ hroom) hck
 have hrun := run_append_room (P := P) w T ty E i hT hi b0 len cap cur.toArray hblk b' n c' new' (by rw [hnl2, hnl, his]) hcells (hnew.leaf hleaf) hroom (by rw [his]; simp; omega)
 simp only [his] at hrun
 have h1 := HR.write (nx := m.nx) (hi := m.hi) (w' := w.setRow b0 (cur.take (len * sz) ++ new' ++ cur.drop (len * sz + new'.length)).toArray) (ab' := ⟨true, .cells (c0.toList.take (len * sz) ++ new ++ []).toArray E (0, 0)⟩) hr hf hcur rfl hp (by simp) rfl rfl rfl (fun k hk => setRow_other _ _ _ _ hk) rfl
  (by
   refine .own _ _ _ _ _ ?_ (setRow_heap w b0 _ _ _ _ hblk) ?_ ?_
   ·simp [hnl2]; omega
   ·simp [hnl2]; omega
   ·exact LR.patch hlen2 hh hfit hnew [] fun j x y hx hy => by simp at hx)
 have h2 := HR.rename h1.hr h1.free hlt (id := a.block) (updF_same _ _ _) hp
 have h3 := h1.trans h2
 refine ⟨_, updF (updF γ a.block (some none)) m.nx (some (some ⟨b0, 0, κ⟩)), hrun, .sl _ _ _ _ _ ⟨rfl, by simp only [updF_same]⟩ ⟨fun hb => absurd hb (by omega), fun hb => ⟨hroom, ?_⟩⟩, ?_⟩
 ·simp only [updF_same]
  simpa using hck
 ·have e : updF (updF (updF m.cur a.block (some ⟨true, .cells (c0.toList.take (len * sz) ++ new ++ []).toArray E (0, 0)⟩)) a.block none) m.nx (some ⟨true, .cells (c0.toList.take (len * sz) ++ new ++ []).toArray E (0, 0)⟩) =
    updF (updF m.cur a.block none) m.nx (some ⟨true, .cells (c0.toList.take (len * sz) ++ new).toArray E (0, 0)⟩) := by
   funext k
   simp only [updF, List.append_nil]
   split
   ·rfl
   ·split <;> rfl
  rw [e] at h3
  exact h3
end
end
end Go.Kr
end
section
namespace Go.Kr
section
variable {P : Program} {γ : Gm}
theorem appB_sound {m : Ms} {w : World} (hr : HR m.cur γ w) (hf : Free γ m.nx m.hi) {T ty E sz bytes : Nat} (hT : P.underlying T = some (.slice E)) (hsz : szE P E = some (sz, bytes)) {a a' b' : Addr} {len cap cap' n c' : Nat} (ha : AR γ a a') (hcap : CapR γ a len cap cap')
  {b : Addr} {new new' : List Value} (hnew : LR γ new new') (hnl : new.length = n * sz) (hcells : ∀ (j : Nat) (v : Value), new'[j]? = some v → w.cell? (b'.add j) = some v) (hn1 : 0 < n) {v : Value} {m' : Ms}
  (h : appB m E sz bytes a len cap b n new = some (v, m')) : Okv P (Builtin.append_ #[T, T] ty #[.slice (some a') len cap', .slice (some b') n c']) m γ w v m' := by
 obtain ⟨i, z, hi, hz, hzs, his, hby, hpos⟩ := szE_spec hsz
 unfold appB at h
 split at h
 ·-- a capacity that is known
  rename_i hbig
  have hlt : cap < big := by simp [Nat.blt] at hbig; omega
  have e := hcap.1 hlt
  subst e
  split at h
  ·-- room
   rename_i hroom
   split at h
   ·rename_i c0 E' f hs h0 hcur
    split at h
    ·rename_i hc
     simp only [Bool.and_eq_true] at h0 hc
     have hE' := Nat.eq_of_beq_eq_true hc.1
     subst hE'
     cases h
     obtain ⟨w', h1, h2⟩ := app_room (ty := ty) (c' := c') hr hf hT hi his ha (Nat.eq_of_beq_eq_true h0.1) hcur hnew h0.2 hnl hcells (Nat.le_of_ble_eq_true hroom) (Nat.le_of_ble_eq_true hc.2)
     refine ⟨_, w', γ, h1, .sl _ _ _ _ _ ha ⟨fun _ => rfl, fun hb => absurd hlt (by omega)⟩, rfl, ?_⟩
     rw [cur_set]
     exact h2
    ·cases h
   ·cases h
  ·-- no room
   rename_i hroom
   have hroom : cap' < len + n := by
    rcases Nat.lt_or_ge cap' (len + n) with h | h
    ·exact h
    ·rw [Nat.ble_eq_true_of_le h] at hroom; cases hroom
   split at h
   ·rename_i old hrowa
    obtain ⟨hol, old', hold, hcellsa⟩ := rowM_real hr ha hrowa
    exact grow_sound (m1 := m.see a.block) hT hsz hr hf (b' := some a') (fun e => by cases e) (by rw [hold.len, hol]) (fun b e => by cases e; exact hcellsa) (by rw [hnew.len, hnl]) hcells hn1 hroom (c := c') (ty := ty) (hold.append hnew) h
   ·cases h
 ·-- one that is not
  split at h
  ·rename_i c0 E' f hc hs hcur
   split at h
   ·rename_i hc2
    simp only [Bool.and_eq_true] at hc hc2
    have hE' := Nat.eq_of_beq_eq_true hc2.1
    subst hE'
    have hlen := Nat.le_of_ble_eq_true hc2.2
    have hoff := Nat.eq_of_beq_eq_true hc.2
    have hcb2 := Nat.eq_of_beq_eq_true hc.1
    subst hcb2
    obtain ⟨hcl, hcr⟩ := hcap.2 (Nat.le_add_right _ _)
    have hkill := HR.kill (nx := m.nx) (hi := m.hi) hr hf (id := a.block) (by rw [hcur]; simp)
    by_cases hroom : len + n ≤ cap'
    ·-- in place
     have h' := h
     unfold growM at h'
     split at h'
     ·rename_i hg
      simp only [Bool.and_eq_true] at hg
      have hlt : m.nx < m.hi := by have := hg.2; simp [Nat.blt, Ms.set] at this; omega
      have hleaf : new.all leafB = true := by
       rw [List.all_eq_true]
       intro x hx
       exact List.all_eq_true.1 hg.1.2 x (by simp [hx])
      split at h'
      ·cases h'
       obtain ⟨w', γ', h1, h2, h3⟩ := app_over (ty := ty) (c' := c') hr hf hT hi his ha hoff hcur hnew hleaf hnl hcells hroom hlen (fun p hp => by rw [hp, hoff] at hcr; simpa using hcr) hlt
       refine ⟨_, w', γ', h1, h2, rfl, ?_⟩
       rw [cur_born, cur_set]
       exact h3
      ·cases h'
     ·cases h'
    ·have hkr : HR (m.set a.block none).cur (updF γ a.block (some none)) w := by rw [cur_set]; exact hkill.hr
     obtain ⟨b0, κ, cur, rfl, hp, rfl, hκ, hblk, hlen2, hh⟩ := own_at hr ha hoff hcur
     have hold := LR.takes hlen2 hh hlen
     have hocells : ∀ (j : Nat) (v : Value), (cur.take (len * sz))[j]? = some v → w.cell? ((⟨b0, 0, none⟩ : Addr).add j) = some v := fun j v hv => by
      rw [List.getElem?_take] at hv
      split at hv
      ·rw [Addr.add_lit]; simp [World.cell?, hblk, hv]
      ·cases hv
     obtain ⟨v', w', γ', h1, h2, h3, h4⟩ := grow_sound (m1 := m.set a.block none) hT hsz hkr hkill.free (b' := some ⟨b0, 0, none⟩) (fun e => by cases e) (by rw [hold.len, List.length_take]; exact Nat.min_eq_left hlen) (fun b e => by cases e; exact hocells) (by rw [hnew.len, hnl]) hcells hn1 (Nat.lt_of_not_le hroom) (c := c') (ty := ty) ((hold.append hnew).keep hkill.keep) h
     refine ⟨v', w', γ', h1, h2, h3, Post.trans hkill ?_⟩
     rw [cur_set] at h4
     exact h4
   ·cases h
  ·cases h
theorem app_sound {m : Ms} {w : World} (hr : HR m.cur γ w) (hf : Free γ m.nx m.hi) {T ty : TypeId} {x y x' y' v : Value} {m' : Ms} (hx : VR γ x x') (hy : VR γ y y') (h : appM P m T x y = some (v, m')) :
  Okv P (Builtin.append_ #[T, T] ty #[x', y']) m γ w v m' := by
 unfold appM at h
 split at h
 ·cases h
 ·rename_i E hE
  have hT := elT_spec hE
  split at h
  ·cases h
  ·rename_i sz bytes hsz
   obtain ⟨i, z, hi, hz, hzs, his, hby, hpos⟩ := szE_spec hsz
   split at h
   ·cases hy
    exact appE_sound hr hf hT hi hx h _ _
   ·rename_i b n cy
    cases hy with
    | sl _ b' _ _ c' hb hcb =>
    split at h
    ·rename_i new hn hrow
     have hn1 : 0 < n := Nat.le_of_ble_eq_true hn
     obtain ⟨hnl, new', hnew, hcells⟩ := rowM_real hr hb hrow
     split at h
     ·cases hx
      exact grow_sound (m1 := m.see b.block) (cs := new) (olds := []) hT hsz hr hf (b' := none) (fun _ => ⟨rfl, rfl⟩) (by simp) (fun b e => by cases e) (by rw [hnew.len, hnl]) hcells hn1 (by omega) (c := c') (ty := ty) (by simpa using hnew) (v := v) (m' := m') (by simpa using h)
     ·cases hx with
      | sl _ a' _ _ cap' ha hcap => exact appB_sound (m := m.see b.block) hr hf hT hsz ha hcap hnew hnl hcells hn1 h
     ·cases h
    ·cases h
   ·cases h
def vI : Value → Option Int
 | .int _ n => some n
 | _ => none
def bI (v : Value) (y : Nat) : Option Nat := match vI v with
 | some i => if 0 ≤ i ∧ i ≤ y then some i.toNat else none
 | none => none
def cutA (len cap : Nat) (lo hi mx : Option Value) : Option (Nat × Nat × Nat) := match (match mx with
    | some v => (bI v (if Nat.blt cap big then cap else len)).filter (Nat.blt · big)
    | none => if Nat.blt cap big then some cap else none) with
 | none => none
 | some m => match (match hi, mx with
   | some v, _ => bI v m
   | none, none => some len
   | none, some _ => none) with
  | none => none
  | some h => match (match lo with
    | some v => bI v h
    | none => some 0) with
   | none => none
   | some l => some (l, h, m)
inductive OR (γ : Gm) : Option Value → Option Value → Prop
 | none : OR γ none none
 | some (v v' : Value) (h : VR γ v v') : OR γ (some v) (some v')
theorem bI_run {v v' : Value} (hv : VR γ v v') {y y' n : Nat} (h : bI v y = some n) (hy : y ≤ y') (code : BoundsCode) (w : World) : (Instr.sliceBound v' y' code).run P w = .ok n w ∧ n ≤ y := by
 unfold bI vI at h
 split at h
 ·rename_i i hi
  split at hi
  ·rename_i k j
   cases hi
   cases hv
   split at h
   ·rename_i hc
    cases h
    refine ⟨?_, by omega⟩
    simp only [Instr.sliceBound, asIntOf, Sem.run_bind, Sem.run_pure, Result.andThen_ok]
    rw [if_pos ⟨hc.1, by omega⟩]
    rfl
   ·cases h
  ·cases hi
 ·cases h
theorem cutA_run {a : Addr} {len cap cap' : Nat} (hcap : CapR γ a len cap cap') {lo lo' hi hi' mx mx' : Option Value} (h1 : OR γ lo lo') (h2 : OR γ hi hi') (h3 : OR γ mx mx') {l h m : Nat} (hc : cutA len cap lo hi mx = some (l, h, m)) (w : World) :
  (Instr.sliceBounds true len cap' lo' hi' mx').run P w = .ok (l, h, m) w ∧ m < big ∧ (mx = none → cap < big) := by
 unfold cutA at hc
 have hle : (if Nat.blt cap big then cap else len) ≤ cap' := by
  split
  ·rename_i hb; rw [hcap.1 (by simp [Nat.blt] at hb; omega)]; exact Nat.le_refl _
  ·rename_i hb; exact (hcap.2 (by simp [Nat.blt] at hb; omega)).1
 unfold Instr.sliceBounds
 cases h3 with
 | none =>
  simp only at hc
  split at hc
  ·cases hc
  ·rename_i m0 hm
   split at hm
   ·rename_i hb
    have hlt : cap < big := by simp [Nat.blt] at hb; omega
    cases hm
    have e := hcap.1 hlt
    subst e
    cases h2 with
    | none =>
     simp only at hc
     cases h1 with
     | none => simp only at hc; cases hc; exact ⟨by simp, hlt, fun _ => hlt⟩
     | some v v' hv =>
      simp only at hc
      split at hc
      ·cases hc
      ·rename_i l0 hl
       cases hc
       obtain ⟨r1, _⟩ := bI_run (P := P) hv hl (Nat.le_refl _) .sliceB w
       exact ⟨by simp [r1], hlt, fun _ => hlt⟩
    | some u u' hu =>
     simp only at hc
     split at hc
     ·cases hc
     ·rename_i h0 hh
      obtain ⟨r2, _⟩ := bI_run (P := P) hu hh (Nat.le_refl _) .sliceAcap w
      cases h1 with
      | none => simp only at hc; cases hc; exact ⟨by simp [r2], hlt, fun _ => hlt⟩
      | some v v' hv =>
       simp only at hc
       split at hc
       ·cases hc
       ·rename_i l0 hl
        cases hc
        obtain ⟨r1, _⟩ := bI_run (P := P) hv hl (Nat.le_refl _) .sliceB w
        exact ⟨by simp [r1, r2], hlt, fun _ => hlt⟩
   ·cases hm
 | some t t' ht =>
  simp only at hc
  split at hc
  ·cases hc
  ·rename_i m0 hm
   obtain ⟨hm, hmb⟩ := Option.filter_eq_some_iff.1 hm
   obtain ⟨r3, hmle⟩ := bI_run (P := P) ht hm hle .slice3Acap w
   have hmb : m0 < big := by simp [Nat.blt] at hmb; omega
   cases h2 with
   | none => simp only at hc; cases hc
   | some u u' hu =>
    simp only at hc
    split at hc
    ·cases hc
    ·rename_i h0 hh
     obtain ⟨r2, _⟩ := bI_run (P := P) hu hh (Nat.le_refl _) .slice3B w
     cases h1 with
     | none => simp only at hc; cases hc; exact ⟨by simp [r2, r3], hmb, fun e => by cases e⟩
     | some v v' hv =>
      simp only at hc
      split at hc
      ·cases hc
      ·rename_i l0 hl
       cases hc
       obtain ⟨r1, _⟩ := bI_run (P := P) hv hl (Nat.le_refl _) .slice3C w
       exact ⟨by simp [r1, r2, r3], hmb, fun e => by cases e⟩
end
end Go.Kr
end
section
namespace Go.Kr
def nowIx (d : TypeDesc) (k : Value) : List Value → Nat → Option (Option Nat)
 | [], _ => some none
 | e :: es, i => match Instr.sameNow d k e with
  | some true => some (some i)
  | some false => nowIx d k es (i + 1)
  | none => none
def askIx (P : Program) (kT : TypeId) (k : Value) : List Value → Nat → Option (Option Nat)
 | [], _ => some none
 | e :: es, i => match arun0 P (Op.equal kT k e) with
  | some true => some (some i)
  | some false => askIx P kT k es (i + 1)
  | none => none
def keyIx (P : Program) (kT : TypeId) (k : Value) (keys : List Value) : Option (Option Nat) := match P.underlying kT with
 | none => none
 | some d => match nowIx d k keys 0 with
  | some r => some r
  | none => askIx P kT k keys 0
section
variable {P : Program} {γ : Gm}
def Found (es : List MapEntry) (i : Nat) : Option Nat → Option (Nat × Value) → Prop
 | none, r => r = none
 | some j, r => ∃ e, es[j - i]? = some e ∧ i ≤ j ∧ r = some (j, e.val)
theorem Found.cons {e : MapEntry} {es : List MapEntry} {i : Nat} {r : Option Nat} {x : Option (Nat × Value)} (h : Found es (i + 1) r x) : Found (e :: es) i r x := by
 cases r with
 | none => exact h
 | some j =>
  obtain ⟨e', h1, h2, h3⟩ := h
  refine ⟨e', ?_, by omega, h3⟩
  have : j - i = (j - (i + 1)) + 1 := by omega
  rw [this]
  simpa using h1
theorem findNow_ix (d : TypeDesc) (k : Value) : ∀ (es : List MapEntry) (i : Nat), match nowIx d k (es.map (·.key)) i with
  | some r => ∃ x, Instr.findNow d k es i = some x ∧ Found es i r x
  | none => Instr.findNow d k es i = none
 | [], i => ⟨none, rfl, rfl⟩
 | e :: es, i => by
  simp only [List.map_cons, nowIx, Instr.findNow]
  cases Instr.sameNow d k e.key with
  | none => rfl
  | some b =>
   cases b with
   | true => exact ⟨_, rfl, e, by simp, Nat.le_refl _, rfl⟩
   | false =>
    have ih := findNow_ix d k es (i + 1)
    dsimp only
    split at ih
    ·obtain ⟨x, h1, h2⟩ := ih
     exact ⟨x, h1, h2.cons⟩
    ·exact ih
theorem findAsking_ix (kT : TypeId) (k : Value) (w : World) : ∀ (es : List MapEntry) (i : Nat) (r : Option Nat), askIx P kT k (es.map (·.key)) i = some r → ∃ x, (Instr.findAsking kT k es i).run P w = .ok x w ∧ Found es i r x
 | [], i, r, h => by cases h; exact ⟨none, rfl, rfl⟩
 | e :: es, i, r, h => by
  simp only [List.map_cons, askIx] at h
  unfold Instr.findAsking
  split at h
  ·rename_i he
   cases h
   refine ⟨_, ?_, e, by simp, Nat.le_refl _, rfl⟩
   rw [Sem.run_bind, arun0_run _ he w]
   rfl
  ·rename_i he
   obtain ⟨x, h1, h2⟩ := findAsking_ix kT k w es (i + 1) r h
   refine ⟨x, ?_, h2.cons⟩
   rw [Sem.run_bind, arun0_run _ he w]
   exact h1
  ·cases h
theorem findKey_ix {kT : TypeId} {k : Value} {es : List MapEntry} {r : Option Nat} (h : keyIx P kT k (es.map (·.key)) = some r) (w : World) : ∃ x, (Instr.findKey kT k es).run P w = .ok x w ∧ Found es 0 r x := by
 unfold keyIx at h
 unfold Instr.findKey
 split at h
 ·cases h
 ·rename_i d hd
  rw [Sem.run_bind, run_underlying hd]
  dsimp only [Result.andThen_ok]
  have hn := findNow_ix d k es 0
  split at h
  ·rename_i r' hr
   cases h
   rw [hr] at hn
   obtain ⟨x, h1, h2⟩ := hn
   rw [h1]
   exact ⟨x, rfl, h2⟩
  ·rename_i hr
   rw [hr] at hn
   rw [hn]
   exact findAsking_ix kT k w es 0 r h
def mkOk (ok : Bool) (v : Value) (b : Bool) : Value := match ok with
 | true => .tuple #[v, .bool b]
 | false => v
def zeroA (P : Program) (eT : TypeId) : Option Value := match arun0 P (zeroValue eT) with
 | some z => match cls 8 z with
  | true => some z
  | false => none
 | none => none
def lookE (P : Program) (m : Ms) (kT eT : TypeId) (k : Value) (es : List MapEntry) : Option (Value × Bool) := match arun0 P (Instr.checkKey es.toArray.isEmpty 10000 kT k), es.all (fun e => cls 8 e.key), keyIx P kT k (es.map (·.key)) with
 | some _, true, some (some j) => match es[j]? with
  | some e => some (e.val, true)
  | none => none
 | some _, true, some none => match zeroA P eT with
  | some z => some (z, false)
  | none => none
 | _, _, _ => none
def mapAt (m : Ms) (r : Nat) : Option (List MapEntry) := match m.cur r with
 | some ⟨_, .map es _⟩ => some es.toList
 | _ => none
def lookA (P : Program) (m : Ms) (T : TypeId) (x k : Value) (ok : Bool) : Option (Value × Ms) := match P.underlying T with
 | some (.map kT eT) => match cls 8 k with
  | true => match x with
   | .map none => match lookE P m kT eT k [] with
    | some (v, b) => some (mkOk ok v b, m)
    | none => none
   | .map (some r) => match mapAt m r with
    | some es => match lookE P m kT eT k es with
     | some (v, b) => some (mkOk ok v b, m.see r)
     | none => none
    | none => none
   | _ => none
  | false => none
 | _ => none
structure ER (γ : Gm) (es es' : List MapEntry) : Prop where
 len : es'.length = es.length
 at_ : ∀ (j : Nat) (x y : MapEntry), es[j]? = some x → es'[j]? = some y → VR γ x.key y.key ∧ VR γ x.val y.val
theorem ER.keys {es es' : List MapEntry} (h : ER γ es es') (hc : es.all (fun e => cls 8 e.key) = true) : es'.map (·.key) = es.map (·.key) := by
 apply List.ext_getElem (by simp [h.len])
 intro j h1 h2
 simp only [List.getElem_map]
 have hj : j < es.length := by simpa using h2
 have hj' : j < es'.length := by simpa using h1
 exact ((h.at_ j es[j] es'[j] (List.getElem?_eq_getElem hj) (List.getElem?_eq_getElem hj')).1).cls_eq 8 _ _ (List.all_eq_true.1 hc _ (List.getElem_mem hj))
theorem map_at {H : Nat → Option Ab} {w : World} (hr : HR H γ w) {r r' : Nat} (hv : VR γ (.map (some r)) (.map (some r'))) {o : Bool} {es : Array MapEntry} {cl : Nat} (hc : H r = some ⟨o, .map es cl⟩) :
  ∃ es' cl' κ, γ r = some (some ⟨r', 0, κ⟩) ∧ w.heap[r']? = some (.map es' cl') ∧ ER γ es.toList es'.toList ∧ (o = true → cl' = cl ∧ ∀ (j : Nat) (x y : MapEntry), es.toList[j]? = some x → es'.toList[j]? = some y → y.born = x.born) := by
 obtain ⟨p, hp, hab, hlt⟩ := hr.obj _ _ hc
 cases hv with
 | map _ _ hm =>
  rcases hm with hm | ⟨κ, hm⟩
  ·rw [hp] at hm; cases hm
  ·rw [hp] at hm
   cases hm
   generalize hX : (⟨o, Obj.map es cl⟩ : Ab) = X at hab
   cases hab with
   | map o2 es2 es' cl2 cl' b κ hb hl hk hcl =>
    cases hX
    exact ⟨es'.toArray, cl', κ, hp, hb, ⟨by simpa using hl, fun j x y hx hy => by obtain ⟨a, b, _⟩ := hk j x y (by simpa using hx) (by simpa using hy); exact ⟨a, b⟩⟩, fun ho => ⟨hcl ho, fun j x y hx hy => (hk j x y (by simpa using hx) (by simpa using hy)).2.2 ho⟩⟩
   | own => cases hX
   | frz => cases hX
   | strit => cases hX
   | mapit => cases hX
theorem lookE_run {m : Ms} {kT eT : TypeId} {k v : Value} {b : Bool} {es es' : List MapEntry} (he : ER γ es es') (h : lookE P m kT eT k es = some (v, b)) (w : World) :
  ∃ v', VR γ v v' ∧ (Instr.checkKey es'.toArray.isEmpty 10000 kT k).run P w = .ok () w ∧ ∃ x, (Instr.findKey kT k es').run P w = .ok x w ∧ ((b = true ∧ ∃ j, x = some (j, v')) ∨ (b = false ∧ x = none ∧ (zeroValue eT).run P w = .ok v' w)) := by
 unfold lookE at h
 have hemp : es'.toArray.isEmpty = es.toArray.isEmpty := by
  have := he.len
  cases es <;> cases es' <;> simp_all
 split at h
 ·rename_i j hck hall hix
  split at h
  ·rename_i e hj
   cases h
   rw [← he.keys hall] at hix
   obtain ⟨x, h1, e', h2, _, h3⟩ := findKey_ix hix w
   rw [Nat.sub_zero] at h2
   refine ⟨e'.val, (he.at_ j e e' hj h2).2, by rw [hemp]; exact arun0_run _ hck w, x, h1, .inl ⟨rfl, j, h3⟩⟩
  ·cases h
 ·rename_i hck hall hix
  rw [← he.keys hall] at hix
  obtain ⟨x, h1, h2⟩ := findKey_ix hix w
  split at h
  ·rename_i z hz
   cases h
   unfold zeroA at hz
   split at hz
   ·rename_i z0 hz0
    split at hz
    ·rename_i hcl
     cases hz
     exact ⟨v, VR.refl_cls 8 v hcl, by rw [hemp]; exact arun0_run _ hck w, x, h1, .inr ⟨rfl, h2, arun0_run _ hz0 w⟩⟩
    ·cases hz
   ·cases hz
  ·cases h
 ·cases h
theorem mkOk_VR (ok b : Bool) {v v' : Value} (h : VR γ v v') : VR γ (mkOk ok v b) (mkOk ok v' b) := by
 cases ok with
 | false => exact h
 | true => exact VR.tup' (.cons h (.cons (.bool b) (.nil γ)))
theorem look_sound {m : Ms} {w : World} (hr : HR m.cur γ w) (hf : Free γ m.nx m.hi) {T : TypeId} {x x' k k' v : Value} {ok : Bool} {m' : Ms} (hx : VR γ x x') (hk : VR γ k k') (h : lookA P m T x k ok = some (v, m')) :
  Okv P (Instr.lookup T x' k' ok) m γ w v m' := by
 unfold lookA at h
 split at h
 ·rename_i kT eT hT
  split at h
  ·rename_i hcl
   have ek := hk.cls_eq 8 _ _ hcl
   subst ek
   split at h
   ·cases hx
    split at h
    ·rename_i v0 b hl
     cases h
     obtain ⟨v', h1, h2, y, h3, h4⟩ := lookE_run (γ := γ) (es' := []) ⟨rfl, fun j x y h => by simp at h⟩ hl w
     refine ⟨mkOk ok v' b, w, γ, ?_, mkOk_VR ok b h1, rfl, .refl hr hf⟩
     unfold Instr.lookup
     rw [Sem.run_bind, run_underlying hT]
     simp only [Result.andThen_ok, Sem.run_bind, Sem.run_pure]
     have h2' : (Instr.checkKey (#[] : Array MapEntry).isEmpty 10000 kT k').run P w = .ok () w := h2
     have h3' : (Instr.findKey kT k' (#[] : Array MapEntry).toList).run P w = .ok y w := h3
     simp only [h2', h3', Result.andThen_ok]
     rcases h4 with ⟨rfl, j, rfl⟩ | ⟨rfl, rfl, hz⟩
     ·cases ok <;> simp [mkOk]
     ·cases ok <;> simp [mkOk, hz]
    ·cases h
   ·rename_i r
    cases hx with
    | map _ r' hm =>
    split at h
    ·rename_i es hes
     split at h
     ·rename_i v0 b hl
      cases h
      unfold mapAt at hes
      split at hes
      ·rename_i o es0 cl hcur
       cases hes
       obtain ⟨es', cl', κ, hp, hblk, her, _⟩ := map_at hr (.map _ _ hm) hcur
       obtain ⟨v', h1, h2, y, h3, h4⟩ := lookE_run her hl w
       refine ⟨mkOk ok v' b, w, γ, ?_, mkOk_VR ok b h1, rfl, .refl hr hf⟩
       unfold Instr.lookup
       rw [Sem.run_bind, run_underlying hT]
       simp only [Array.toArray_toList] at h2
       have hget : (getObj r').run P w = .ok (.map es' cl') w := by simp [getObj, Sem.run, hblk]
       simp only [Result.andThen_ok, Sem.run_bind, Sem.run_pure, hget, h2, h3]
       rcases h4 with ⟨rfl, j, rfl⟩ | ⟨rfl, rfl, hz⟩
       ·cases ok <;> simp [mkOk]
       ·cases ok <;> simp [mkOk, hz]
      ·cases hes
     ·cases h
    ·cases h
   ·cases h
  ·cases h
 ·cases h
end
end Go.Kr
end
section
namespace Go.Kr
def updA (P : Program) (m : Ms) (T : TypeId) (x k v : Value) : Option Ms := match P.underlying T with
 | some (.map kT _) => match cls 8 k, x with
  | true, .map (some r) => match m.cur r with
   | some ⟨true, .map es cl⟩ => match arun0 P (Instr.checkKey false 10000 kT k), es.toList.all (fun e => cls 8 e.key), keyIx P kT k (es.toList.map (·.key)) with
    | some _, true, some (some j) => match es.toList[j]? with
     | some e => match Instr.sameBits 10000 e.key k with
      | true => some (m.set r (some ⟨true, .map (es.toList.set j { e with key := k, val := v }).toArray cl⟩))
      | false => none
     | none => none
    | some _, true, some none => some (m.set r (some ⟨true, .map (es.toList ++ [(⟨k, v, cl⟩ : MapEntry)]).toArray (cl + 1)⟩))
    | _, _, _ => none
   | _ => none
  | _, _ => none
 | _ => none
section
variable {P : Program} {γ : Gm}
theorem set_map {m : Ms} {w : World} (hr : HR m.cur γ w) (hf : Free γ m.nx m.hi) {r r' κ : Nat} (hp : γ r = some (some ⟨r', 0, κ⟩)) {es : Array MapEntry} {cl : Nat} (hcur : m.cur r = some ⟨true, .map es cl⟩) {o : Obj} (hblk : w.heap[r']? = some o) (hnc : notCells o = true) {fs fs' : List MapEntry} {cl2 : Nat}
  (hl : fs'.length = fs.length) (hk : ∀ (j : Nat) (x y : MapEntry), fs[j]? = some x → fs'[j]? = some y → VR γ x.key y.key ∧ VR γ x.val y.val ∧ y.born = x.born) :
  ∃ w', (setObj r' (.map fs'.toArray cl2)).run P w = .ok () w' ∧ Post m.cur m.nx m.hi γ w (updF m.cur r (some ⟨true, .map fs.toArray cl2⟩)) m.nx γ w' := by
 have hlt : r' < w.heap.size := (Array.getElem?_eq_some_iff.1 hblk).1
 refine ⟨{ w with heap := w.heap.setIfInBounds r' (.map fs'.toArray cl2) }, ?_, ?_⟩
 ·unfold setObj
  cases o <;> first | (simp [notCells] at hnc; done) | simp [Sem.run, hblk]
 ·refine HR.write hr hf hcur rfl hp (by simp) rfl rfl rfl (fun k hk => ?_) rfl (.map true fs fs' cl2 cl2 r' κ ?_ hl (fun j x y hx hy => by obtain ⟨a, b, c⟩ := hk j x y hx hy; exact ⟨a, b, fun _ => c⟩) fun _ => rfl)
  ·simp only [Array.getElem?_setIfInBounds]
   rw [if_neg (fun e => hk e.symm)]
  ·simp [hlt]
theorem upd_sound {m : Ms} {w : World} (hr : HR m.cur γ w) (hf : Free γ m.nx m.hi) {T : TypeId} {x x' k k' v v' : Value} {m' : Ms} (hx : VR γ x x') (hk : VR γ k k') (hv : VR γ v v') (h : updA P m T x k v = some m') :
  ∃ w', (Instr.mapUpdate T x' k' v').run P w = .ok () w' ∧ m'.hi = m.hi ∧ Post m.cur m.nx m.hi γ w m'.cur m'.nx γ w' := by
 unfold updA at h
 split at h
 ·rename_i kT eT hT
  split at h
  ·rename_i r hcl
   have ek := hk.cls_eq 8 _ _ hcl
   subst ek
   cases hx with
   | map _ r' hm =>
   split at h
   ·rename_i es cl hcur
    obtain ⟨es', cl', κ, hp, hblk, her, hown⟩ := map_at hr (.map _ _ hm) hcur
    obtain ⟨hcl', hborn⟩ := hown rfl
    subst hcl'
    have hget : (getObj r').run P w = .ok (.map es' cl') w := by simp [getObj, Sem.run, hblk]
    split at h
    ·rename_i j hck hall hix
     split at h
     ·rename_i e hj
      split at h
      ·rename_i hsb
       cases h
       rw [← her.keys hall] at hix
       obtain ⟨y, h1, e', h2, _, h3⟩ := findKey_ix hix w
       rw [Nat.sub_zero] at h2
       have hke : e'.key = e.key := (her.at_ j e e' hj h2).1.cls_eq 8 _ _ (List.all_eq_true.1 hall e (List.mem_of_getElem? hj))
       obtain ⟨w', hs, hpost⟩ := set_map (P := P) hr hf hp hcur hblk rfl (cl2 := cl') (fs := es.toList.set j { e with key := k', val := v }) (fs' := (es'.modify j fun e => { e with key := k', val := v' }).toList) (by have := her.len; simpa using this) (fun n a b ha hb => by
        have hb2 : (es'.modify j fun e => { e with key := k', val := v' })[n]? = some b := by rw [← hb, Array.getElem?_toList]
        rw [Array.getElem?_modify] at hb2
        by_cases e0 : j = n
        ·subst e0
         have hlt : j < es.toList.length := (List.getElem?_eq_some_iff.1 hj).1
         rw [List.getElem?_set_self hlt] at ha
         rw [if_pos rfl] at hb2
         have h2' : es'[j]? = some e' := by simpa using h2
         rw [h2'] at hb2
         cases ha
         cases hb2
         exact ⟨VR.refl_cls 8 _ hcl, hv, hborn j e e' hj h2⟩
        ·rw [List.getElem?_set_ne e0] at ha
         rw [if_neg e0] at hb2
         have hb3 : es'.toList[n]? = some b := by simpa using hb2
         obtain ⟨a1, a2⟩ := her.at_ n a b ha hb3
         exact ⟨a1, a2, hborn n a b ha hb3⟩)
       refine ⟨w', ?_, rfl, by rw [cur_set]; exact hpost⟩
       unfold Instr.mapUpdate
       rw [Sem.run_bind, run_underlying hT]
       simp only [Result.andThen_ok, Sem.run_bind, hget, arun0_run _ hck w, h1, h3]
       have h2' : es'[j]? = some e' := by simpa using h2
       have hks : (Instr.keyThatStays (((es'[j]?).map (·.key)).getD k') k').run P w = .ok k' w := by
        rw [h2']
        simp only [Option.map_some, Option.getD_some, Instr.keyThatStays, hke, hsb, if_true]
        rfl
       rw [hks]
       simp only [Result.andThen_ok]
       have e : (es'.modify j fun e => { e with key := k', val := v' }).toList.toArray = es'.modify j fun e => { e with key := k', val := v' } := Array.toArray_toList
       rw [e] at hs
       exact hs
      ·cases h
     ·cases h
    ·rename_i hck hall hix
     cases h
     rw [← her.keys hall] at hix
     obtain ⟨y, h1, h2⟩ := findKey_ix hix w
     have h2 : y = none := h2
     subst h2
     obtain ⟨w', hs, hpost⟩ := set_map (P := P) hr hf hp hcur hblk rfl (cl2 := cl' + 1) (fs := es.toList ++ [(⟨k', v, cl'⟩ : MapEntry)]) (fs' := es'.toList ++ [(⟨k', v', cl'⟩ : MapEntry)]) (by have := her.len; simp; simpa using this) (fun n a b ha hb => by
      have hl := her.len
      rcases Nat.lt_or_ge n es.toList.length with hn | hn
      ·rw [List.getElem?_append_left hn] at ha
       rw [List.getElem?_append_left (by omega)] at hb
       obtain ⟨a1, a2⟩ := her.at_ n a b ha hb
       exact ⟨a1, a2, hborn n a b ha hb⟩
      ·rw [List.getElem?_append_right hn] at ha
       rw [List.getElem?_append_right (by omega), hl] at hb
       have hz : n - es.toList.length = 0 := by
        have := (List.getElem?_eq_some_iff.1 ha).1
        simp only [List.length_cons, List.length_nil] at this
        omega
       rw [hz] at ha hb
       cases ha
       cases hb
       exact ⟨VR.refl_cls 8 _ hcl, hv, rfl⟩)
     refine ⟨w', ?_, rfl, by rw [cur_set]; exact hpost⟩
     unfold Instr.mapUpdate
     rw [Sem.run_bind, run_underlying hT]
     simp only [Result.andThen_ok, Sem.run_bind, hget, arun0_run _ hck w, h1]
     have e : es'.push ⟨k', v', cl'⟩ = (es'.toList ++ [(⟨k', v', cl'⟩ : MapEntry)]).toArray := by
      apply Array.ext'; simp
     rw [e]
     exact hs
    ·cases h
   ·cases h
  ·cases h
 ·cases h
end
def rangeA (m : Ms) (x : Value) : Option (Value × Ms) := match Nat.blt m.nx m.hi, m.cur m.nx with
 | true, none => match x with
  | .map none => some (.pointer (some ⟨m.nx, 0, none⟩), m.born ⟨true, .mapIter none 0 #[] 0⟩)
  | .map (some r) => match m.cur r with
   | some ⟨true, .map _ cl⟩ => some (.pointer (some ⟨m.nx, 0, none⟩), (m.see r).born ⟨true, .mapIter (some r) cl #[] cl⟩)
   | _ => none
  | _ => none
 | _, _ => none
def isMapT (P : Program) (T : TypeId) : Bool := match P.underlying T with
 | some (.map _ _) => true
 | _ => false
section
variable {P : Program} {γ : Gm}
theorem born_iter {m : Ms} {w : World} (hr : HR m.cur γ w) (hf : Free γ m.nx m.hi) (hlt : m.nx < m.hi) (hcur : m.cur m.nx = none) {mm mm' : Option Nat} {since last : Nat} {seen : Array Nat} (hv : VR γ (.map mm) (.map mm')) :
  ∃ w' γ', (newObj (.mapIter mm' since seen last)).run P w = .ok w.heap.size w' ∧ γ' m.nx = some (some ⟨w.heap.size, 0, 0⟩) ∧ Post m.cur m.nx m.hi γ w (updF m.cur m.nx (some ⟨true, .mapIter mm since seen last⟩)) (m.nx + 1) γ' w' :=
 ⟨_, _, rfl, updF_same _ _ _, HR.new hr hf hlt hcur 0 (.mapit true mm mm' since seen last _ 0 (by simp) (hv.keep (Keep.born (hf _ (Nat.le_refl _) hlt) _)))⟩
theorem range_sound {m : Ms} {w : World} (hr : HR m.cur γ w) (hf : Free γ m.nx m.hi) {T : TypeId} (hT : isMapT P T = true) {x x' v : Value} {m' : Ms} (hx : VR γ x x') (h : rangeA m x = some (v, m')) : Okv P (Instr.range T x') m γ w v m' := by
 unfold isMapT at hT
 split at hT
 ·rename_i kT eT hTT
  unfold rangeA at h
  split at h
  ·rename_i hlt hcur
   have hlt : m.nx < m.hi := by simp [Nat.blt] at hlt; omega
   split at h
   ·cases h
    cases hx
    obtain ⟨w', γ', h1, h2, h3⟩ := born_iter (P := P) (since := 0) (last := 0) (seen := #[]) hr hf hlt hcur .mapN
    refine ⟨_, w', γ', ?_, .ptr _ ⟨w.heap.size, 0, none⟩ ⟨rfl, by simp only [h2]⟩, rfl, by rw [cur_born]; exact h3⟩
    unfold Instr.range
    rw [Sem.run_bind, run_underlying hTT]
    simp only [Result.andThen_ok, Sem.run_bind, Sem.run_pure, h1]
   ·rename_i r
    split at h
    ·rename_i es cl hc
     cases h
     cases hx with
     | map _ r' hm =>
     obtain ⟨es', cl', κ, hp, hblk, her, hown⟩ := map_at hr (.map _ _ hm) hc
     have e := (hown rfl).1
     subst e
     obtain ⟨w', γ', h1, h2, h3⟩ := born_iter (P := P) (since := cl') (last := cl') (seen := #[]) hr hf hlt hcur (.map _ _ hm)
     refine ⟨_, w', γ', ?_, .ptr _ ⟨w.heap.size, 0, none⟩ ⟨rfl, by simp only [Ms.see, h2]⟩, rfl, by rw [cur_born]; exact h3⟩
     unfold Instr.range
     rw [Sem.run_bind, run_underlying hTT]
     have hget : (getObj r').run P w = .ok (.map es' cl') w := by simp [getObj, Sem.run, hblk]
     simp only [Result.andThen_ok, Sem.run_bind, Sem.run_pure, hget, h1]
    ·cases h
   ·cases h
  ·cases h
 ·cases hT
end
end Go.Kr
end
section
namespace Go.Kr
inductive EB (γ : Gm) : List MapEntry → List MapEntry → Prop
 | nil : EB γ [] []
 | cons (x y : MapEntry) (xs ys : List MapEntry) (h1 : VR γ x.key y.key) (h2 : VR γ x.val y.val) (h3 : y.born = x.born) (h : EB γ xs ys) : EB γ (x :: xs) (y :: ys)
theorem EB.of {γ : Gm} : ∀ (xs ys : List MapEntry), ER γ xs ys → (∀ (j : Nat) (x y : MapEntry), xs[j]? = some x → ys[j]? = some y → y.born = x.born) → EB γ xs ys
 | [], ys, h, _ => by have := List.length_eq_zero_iff.1 (by simpa using h.len : ys.length = 0); subst this; exact .nil
 | x :: xs, [], h, _ => by have := h.len; simp at this
 | x :: xs, y :: ys, h, hb => .cons x y xs ys (h.at_ 0 x y rfl rfl).1 (h.at_ 0 x y rfl rfl).2 (hb 0 x y rfl rfl)
     (EB.of xs ys ⟨by simpa using h.len, fun j a b ha hb => h.at_ (j + 1) a b (by simpa using ha) (by simpa using hb)⟩ fun j a b ha hb' => hb (j + 1) a b (by simpa using ha) (by simpa using hb'))
theorem EB.filter {γ : Gm} (p : Nat → Bool) {xs ys : List MapEntry} (h : EB γ xs ys) : EB γ (xs.filter fun e => p e.born) (ys.filter fun e => p e.born) := by
 induction h with
 | nil => exact .nil
 | cons x y xs ys h1 h2 h3 _ ih =>
  simp only [List.filter_cons, h3]
  split
  ·exact .cons x y _ _ h1 h2 h3 ih
  ·exact ih
theorem EB.all {γ : Gm} (p : Nat → Bool) {xs ys : List MapEntry} (h : EB γ xs ys) : (ys.all fun e => p e.born) = (xs.all fun e => p e.born) := by
 induction h with
 | nil => rfl
 | cons x y xs ys h1 h2 h3 _ ih => simp only [List.all_cons, h3, ih]
theorem EB.len {γ : Gm} {xs ys : List MapEntry} (h : EB γ xs ys) : ys.length = xs.length := by
 induction h with
 | nil => rfl
 | cons x y xs ys h1 h2 h3 _ ih => simp [ih]
theorem EB.get {γ : Gm} {xs ys : List MapEntry} (h : EB γ xs ys) : ∀ {j : Nat} {y : MapEntry}, ys[j]? = some y → ∃ x, xs[j]? = some x ∧ VR γ x.key y.key ∧ VR γ x.val y.val ∧ y.born = x.born := by
 induction h with
 | nil => intro j y hy; simp at hy
 | cons x y xs ys h1 h2 h3 _ ih =>
  intro j z hz
  cases j with
  | zero => simp at hz; subst hz; exact ⟨x, rfl, h1, h2, h3⟩
  | succ j => obtain ⟨x', a, b⟩ := ih (by simpa using hz); exact ⟨x', by simpa using a, b⟩
theorem EB.find {γ : Gm} (p : Nat → Bool) {xs ys : List MapEntry} (h : EB γ xs ys) : ∀ {x : MapEntry}, xs.find? (fun e => p e.born) = some x → ∃ y, ys.find? (fun e => p e.born) = some y ∧ VR γ x.key y.key ∧ VR γ x.val y.val := by
 induction h with
 | nil => intro x hx; cases hx
 | cons x y xs ys h1 h2 h3 _ ih =>
  intro z hz
  simp only [List.find?_cons, h3] at hz ⊢
  split at hz
  ·cases hz; exact ⟨y, rfl, h1, h2⟩
  ·exact ih hz
def iterAt (m : Ms) (x : Value) : Option (Nat × Option Nat × Nat × Array Nat × Nat) := match x with
 | .pointer (some ⟨r, 0, none⟩) => match m.cur r with
  | some ⟨true, .mapIter mm since seen last⟩ => some (r, mm, since, seen, last)
  | _ => none
 | _ => none
def ownMapAt (m : Ms) (r : Nat) : Option (List MapEntry × Nat) := match m.cur r with
 | some ⟨true, .map es cl⟩ => some (es.toList, cl)
 | _ => none
def outsA (m : Ms) (r mm since : Nat) (seen : Array Nat) (clock : Nat) : List MapEntry → List (Value × Ms)
 | [] => [(.tuple #[.bool false], (m.see r).see mm)]
 | l => l.map fun e => (.tuple #[.bool true, e.key, e.val], (m.see mm).set r (some ⟨true, .mapIter (some mm) since (seen.push e.born) clock⟩))
def nextA (m : Ms) (x : Value) : Option (List (Value × Ms)) := match iterAt m x with
 | some (r, none, _, _, _) => some [(.tuple #[.bool false], m.see r)]
 | some (r, some mm, since, seen, last) => match ownMapAt m mm with
  | some (es, clock) => match !seen.isEmpty && !es.isEmpty && es.all (fun e => decide (e.born ≥ last)), (es.filter fun e => !seen.contains e.born).all (fun e => decide (e.born < since)) with
   | false, true => some (outsA m r mm since seen clock (es.filter fun e => !seen.contains e.born))
   | _, _ => none
  | none => none
 | none => none
def entryA (m : Ms) (x : Value) : Option (Value × Ms) := match iterAt m x with
 | some (r, some mm, _, seen, stepped) => match ownMapAt m mm, seen.back? with
  | some (es, clock), some stamp => match Nat.beq clock stepped, es.find? (fun e => e.born == stamp) with
   | true, some e => some (.tuple #[e.key, e.val], (m.see r).see mm)
   | _, _ => none
  | _, _ => none
 | _ => none
section
variable {P : Program} {γ : Gm}
theorem iter_at {m : Ms} {w : World} (hr : HR m.cur γ w) {x x' : Value} (hx : VR γ x x') {r since last : Nat} {mm : Option Nat} {seen : Array Nat} (h : iterAt m x = some (r, mm, since, seen, last)) :
  ∃ r' mm' κ, x' = .pointer (some ⟨r', 0, none⟩) ∧ m.cur r = some ⟨true, .mapIter mm since seen last⟩ ∧ γ r = some (some ⟨r', 0, κ⟩) ∧ w.heap[r']? = some (.mapIter mm' since seen last) ∧ VR γ (.map mm) (.map mm') := by
 unfold iterAt at h
 split at h
 ·rename_i r0
  split at h
  ·rename_i mm0 since0 seen0 last0 hc
   cases h
   cases hx with
   | ptr _ a' ha =>
   obtain ⟨p, hp, hab, hlt⟩ := hr.obj _ _ hc
   have ha2 := ha.2
   simp only [hp] at ha2
   generalize hX : (⟨true, Obj.mapIter mm since seen last⟩ : Ab) = X at hab
   cases hab with
   | mapit o1 m1 m1' s1 se1 l1 b κ hb hm =>
    cases hX
    exact ⟨b, m1', κ, by rw [ha2]; simp, hc, hp, hb, hm⟩
   | own => cases hX
   | frz => cases hX
   | strit => cases hX
   | map => cases hX
  ·cases h
 ·cases h
theorem ownMap_at {m : Ms} {w : World} (hr : HR m.cur γ w) {r r' : Nat} (hv : VR γ (.map (some r)) (.map (some r'))) {es : List MapEntry} {cl : Nat} (h : ownMapAt m r = some (es, cl)) :
  ∃ es', w.heap[r']? = some (.map es' cl) ∧ EB γ es es'.toList := by
 unfold ownMapAt at h
 split at h
 ·rename_i es0 cl0 hc
  cases h
  obtain ⟨es', cl', κ, hp, hblk, her, hown⟩ := map_at hr hv hc
  obtain ⟨e, hb⟩ := hown rfl
  subst e
  exact ⟨es', hblk, .of _ _ her hb⟩
 ·cases h
theorem set_iter {m : Ms} {w : World} (hr : HR m.cur γ w) (hf : Free γ m.nx m.hi) {r r' κ : Nat} (hp : γ r = some (some ⟨r', 0, κ⟩)) {mm mm' : Option Nat} {s0 l0 : Nat} {se0 : Array Nat} (hcur : m.cur r = some ⟨true, .mapIter mm s0 se0 l0⟩) (hblk : w.heap[r']? = some (.mapIter mm' s0 se0 l0)) (hv : VR γ (.map mm) (.map mm')) (s1 l1 : Nat) (se1 : Array Nat) :
  ∃ w', (setObj r' (.mapIter mm' s1 se1 l1)).run P w = .ok () w' ∧ Post m.cur m.nx m.hi γ w (updF m.cur r (some ⟨true, .mapIter mm s1 se1 l1⟩)) m.nx γ w' := by
 have hlt : r' < w.heap.size := (Array.getElem?_eq_some_iff.1 hblk).1
 refine ⟨{ w with heap := w.heap.setIfInBounds r' (.mapIter mm' s1 se1 l1) }, by simp [setObj, Sem.run, hblk], ?_⟩
 refine HR.write hr hf hcur rfl hp (by simp) rfl rfl rfl (fun k hk => ?_) rfl (.mapit true mm mm' s1 se1 l1 r' κ ?_ hv)
 ·simp only [Array.getElem?_setIfInBounds]
  rw [if_neg (fun e => hk e.symm)]
 ·simp [hlt]
theorem entry_sound {m : Ms} {w : World} (hr : HR m.cur γ w) (hf : Free γ m.nx m.hi) {x x' v : Value} {m' : Ms} (hx : VR γ x x') (h : entryA m x = some (v, m')) : Okv P (Instr.entry x') m γ w v m' := by
 unfold entryA at h
 split at h
 ·rename_i r mm since seen stepped hit
  obtain ⟨r', mm', κ, rfl, hc, hp, hblk, hv⟩ := iter_at hr hx hit
  cases hv with
  | map _ q hm =>
  split at h
  ·rename_i es clock stamp hmap hback
   obtain ⟨es', hblk2, heb⟩ := ownMap_at hr (.map _ q hm) hmap
   split at h
   ·rename_i e hcl hfind
    cases h
    obtain ⟨y, h1, h2, h3⟩ := heb.find (fun b => b == stamp) hfind
    have hcl := Nat.eq_of_beq_eq_true hcl
    subst hcl
    refine ⟨.tuple #[y.key, y.val], w, γ, ?_, VR.tup' (.cons h2 (.cons h3 (.nil γ))), rfl, .refl hr hf⟩
    have hget : (getObj r').run P w = .ok (.mapIter (some q) since seen clock) w := by simp [getObj, Sem.run, hblk]
    have hget2 : (getObj q).run P w = .ok (.map es' clock) w := by simp [getObj, Sem.run, hblk2]
    have hf2 : es'.find? (fun e => e.born == stamp) = some y := by rw [← Array.find?_toList]; exact h1
    unfold Instr.entry
    simp only [Sem.run_bind, hget, Result.andThen_ok, hback, hget2, hf2, bne_self_eq_false, Bool.false_eq_true, if_false, Sem.run_pure]
   ·cases h
  ·cases h
 ·cases h
theorem choose_run (n : Nat) (h : 0 < n) (w : World) : ∃ i w', i < n ∧ (choose (.mapNext n)).run P w = .ok i w' ∧ w'.heap = w.heap ∧ w'.os = w.os ∧ w'.tape = w.tape ∧ w'.output = w.output := by
 by_cases h1 : n ≤ 1
 ·exact ⟨0, w, h, by simp [choose, Sem.run, Question.forced, h1], rfl, rfl, rfl, rfl⟩
 ·exact ⟨w.tape w.drawn (.mapNext n) % n, w.drew, Nat.mod_lt _ h, by simp [choose, Sem.run, Question.forced, h1, Question.cut], rfl, rfl, rfl, rfl⟩
theorem next_sound {m : Ms} {w : World} (hr : HR m.cur γ w) (hf : Free γ m.nx m.hi) {ty : TypeId} {x x' : Value} {outs : List (Value × Ms)} (hx : VR γ x x') (h : nextA m x = some outs) : ∃ r ∈ outs, Okv P (Instr.next x' false ty) m γ w r.1 r.2 := by
 unfold nextA at h
 split at h
 ·rename_i r since seen last hit
  cases h
  obtain ⟨r', mm', κ, rfl, hc, hp, hblk, hv⟩ := iter_at hr hx hit
  cases hv
  refine ⟨_, List.mem_singleton_self _, .tuple #[.bool false], w, γ, ?_, VR.tup' (.cons (.bool false) (.nil γ)), rfl, .refl hr hf⟩
  have hget : (getObj r').run P w = .ok (.mapIter none since seen last) w := by simp [getObj, Sem.run, hblk]
  unfold Instr.next
  simp only [Sem.run_bind, hget, Result.andThen_ok, Sem.run_pure]
 ·rename_i r mm since seen last hit
  obtain ⟨r', mm', κ, rfl, hc, hp, hblk, hv⟩ := iter_at hr hx hit
  have hv0 := hv
  cases hv with
  | map _ q hm =>
  split at h
  ·rename_i es clock hmap
   obtain ⟨es', hblk2, heb⟩ := ownMap_at hr hv0 hmap
   split at h
   ·rename_i hc1 hc2
    cases h
    have hget : (getObj r').run P w = .ok (.mapIter (some q) since seen last) w := by simp [getObj, Sem.run, hblk]
    have hget2 : (getObj q).run P w = .ok (.map es' clock) w := by simp [getObj, Sem.run, hblk2]
    obtain ⟨L, hL⟩ : ∃ L, L = es'.filter fun e => !seen.contains e.born := ⟨_, rfl⟩
    have hLl : L.toList = es'.toList.filter fun e => !seen.contains e.born := by rw [hL, Array.toList_filter]
    have hleb : EB γ (es.filter fun e => !seen.contains e.born) L.toList := by rw [hLl]; exact heb.filter fun b => !seen.contains b
    have hcond : (!seen.isEmpty && !es'.isEmpty && es'.all (fun e => decide (e.born ≥ last))) = false := by
     have e1 : es'.isEmpty = es.isEmpty := by
      have := heb.len
      cases es <;> simp_all [Array.isEmpty]
     have e2 : es'.all (fun e => decide (e.born ≥ last)) = es.all (fun e => decide (e.born ≥ last)) := by rw [← Array.all_toList]; exact heb.all fun b => decide (b ≥ last)
     rw [e1, e2]; exact hc1
    have hall : ∀ e ∈ L, e.born < since := fun e he => by
     have := hleb.all fun b => decide (b < since)
     rw [hc2] at this
     simpa using List.all_eq_true.1 this e (by simpa using he)
    have hold : L.filter (fun e => decide (e.born < since)) = L := by
     rw [Array.filter_eq_self]; intro e he; simpa using hall e he
    have hnew : L.filter (fun e => decide (e.born ≥ since)) = #[] := by
     rw [Array.filter_eq_empty_iff]; intro e he; have := hall e he; simp; omega
    cases hl : (es.filter fun e => !seen.contains e.born) with
    | nil =>
     rw [hl] at hleb
     have hLe : L = #[] := by
      have := hleb.len
      apply Array.ext'
      simpa using this
     refine ⟨_, List.mem_singleton_self _, .tuple #[.bool false], w, γ, ?_, VR.tup' (.cons (.bool false) (.nil γ)), rfl, .refl hr hf⟩
     unfold Instr.next
     simp only [Sem.run_bind, hget, Result.andThen_ok, hget2, hcond, Bool.false_eq_true, if_false, ← hL, hLe]
     simp [choose, Sem.run, Question.forced]
    | cons e0 l0 =>
     rw [hl] at hleb
     have hLs : 0 < L.size := by have := hleb.len; simp at this; omega
     have hLn : L.isEmpty = false := by simp [Array.isEmpty]; intro e; rw [e] at hLs; simp at hLs
     obtain ⟨i, w1, hi, hrun, q1, q2, q3, q4⟩ := choose_run (P := P) L.size hLs w
     have hLi : L.toList[i]? = some L[i] := by simp [hi]
     obtain ⟨e, he, hk, hval, hbn⟩ := hleb.get hLi
     have hquiet := Post.quiet (nx := m.nx) (hi := m.hi) hr hf q1 q2 q3 q4
     obtain ⟨w2, hset, hpost⟩ := set_iter (P := P) (m := m) hquiet.hr hf hp hc (by rw [q1]; exact hblk) hv0 since clock (seen.push e.born)
     refine ⟨_, List.mem_map.2 ⟨e, List.mem_of_getElem? he, rfl⟩, .tuple #[.bool true, L[i].key, L[i].val], w2, γ, ?_, VR.tup' (.cons (.bool true) (.cons hk (.cons hval (.nil γ)))), rfl, ?_⟩
     ·unfold Instr.next
      simp only [Sem.run_bind, hget, Result.andThen_ok, hget2, hcond, Bool.false_eq_true, if_false, ← hL, hold, hnew, hLn, Array.append_empty, Array.empty_append, Array.size_map, hrun, Array.getElem?_map]
      rw [Array.getElem?_eq_getElem hi]
      simp only [Option.map_some, Sem.run_bind]
      rw [hbn, hset]
      rfl
     ·dsimp only
      rw [cur_set]
      exact hquiet.trans hpost
   ·cases h
  ·cases h
 ·cases h
end
end Go.Kr
end
section
namespace Go.Kr
section
variable {P : Program} {γ : Gm}
theorem sim_rangeStr (T : TypeId) (s : ByteArray) : Sim P VR γ (Instr.range T (.string s)) (Instr.range T (.string s)) := by
 unfold Instr.range
 refine .bind (.of_q0 (q0_underlying T)) fun γ1 d d' hk e => ?_
 subst e
 cases d' with
 | string =>
  refine .bind (RA := fun γ o o' => ObjR γ o o') (.pure (.strit s 0)) fun γ2 o o' hk2 ho => ?_
  exact .bind (sim_newObj ho) fun γ3 a a' hk3 ha => .pure (.ptr _ _ ⟨rfl, by simp only [ha]⟩)
 | _ => intro m w v m' he; cases he
def strNext (m : Ms) (x : Value) : Option (Value × Ms) := match x with
 | .pointer (some ⟨r, 0, none⟩) => match m.cur r with
  | some ⟨true, .stringIter s pos⟩ => match Nat.blt pos s.size with
   | true => some (.tuple #[.bool true, goInt pos, .int .i32 (Utf8.decode s pos).1], m.set r (some ⟨true, .stringIter s (pos + (Utf8.decode s pos).2)⟩))
   | false => some (.tuple #[.bool false], m.see r)
  | _ => none
 | _ => none
theorem strNext_sound {m m' : Ms} {w : World} (hr : HR m.cur γ w) (hf : Free γ m.nx m.hi) {ty : TypeId} {x x' v : Value} (hx : VR γ x x') (h : strNext m x = some (v, m')) : Okv P (Instr.next x' true ty) m γ w v m' := by
 unfold strNext at h
 split at h
 ·rename_i r
  split at h
  ·rename_i s pos hc
   cases hx with
   | ptr _ a' ha =>
   obtain ⟨p, hp, hab, hlt⟩ := hr.obj _ _ hc
   have ha2 := ha.2
   simp only [hp] at ha2
   generalize hX : (⟨true, Obj.stringIter s pos⟩ : Ab) = X at hab
   cases hab with
   | strit o1 s1 pos1 b κ hb =>
    cases hX
    have ea : a' = ⟨b, 0, none⟩ := by rw [ha2]; simp
    subst ea
    have hget : (getObj b).run P w = .ok (.stringIter s pos) w := by simp [getObj, Sem.run, hb]
    split at h
    ·rename_i hpos
     have hpos : pos < s.size := by simp [Nat.blt] at hpos; omega
     cases h
     have hset : (setObj b (.stringIter s (pos + (Utf8.decode s pos).2))).run P w = .ok () { w with heap := w.heap.setIfInBounds b (.stringIter s (pos + (Utf8.decode s pos).2)) } := by
      simp [setObj, Sem.run, hb]
     refine ⟨.tuple #[.bool true, goInt pos, .int .i32 (Utf8.decode s pos).1], { w with heap := w.heap.setIfInBounds b (.stringIter s (pos + (Utf8.decode s pos).2)) }, γ, ?_, VR.refl_cls 2 _ rfl, rfl, ?_⟩
     ·unfold Instr.next
      simp only [Sem.run_bind, hget, Result.andThen_ok, hpos, if_true, hset]
      rfl
     ·rw [cur_set]
      refine HR.write hr hf hc rfl hp ?_ rfl rfl rfl ?_ rfl ?_
      ·simp
      ·intro k hk
       simp only [Array.getElem?_setIfInBounds_ne (fun e => hk e.symm)]
      ·refine .strit true s _ b κ ?_
       simp only
       rw [Array.getElem?_setIfInBounds_self_of_lt hlt]
    ·rename_i hpos
     have hpos : ¬ pos < s.size := by
      intro h1
      have : Nat.blt pos s.size = true := by simp [Nat.blt]; omega
      rw [this] at hpos; cases hpos
     cases h
     refine ⟨.tuple #[.bool false], w, γ, ?_, VR.refl_cls 2 _ rfl, rfl, .refl hr hf⟩
     unfold Instr.next
     simp only [Sem.run_bind, hget, Result.andThen_ok, hpos, if_false, Sem.run_pure]
   | own => cases hX
   | frz => cases hX
   | map => cases hX
   | mapit => cases hX
  ·cases h
 ·cases h
end
end Go.Kr
end
