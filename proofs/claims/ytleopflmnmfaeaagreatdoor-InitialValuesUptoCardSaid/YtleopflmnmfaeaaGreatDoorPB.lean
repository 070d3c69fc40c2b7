/-
A part of the proof that the statement InitialValues holds of the given program (second form, tied card): abstract states, steps.
-/
import Derived.Test.YtleopflmnmfaeaaGreatDoorPA
set_option autoImplicit false
set_option linter.unusedSimpArgs false
set_option linter.unusedVariables false
set_option linter.unnecessarySimpa false
section
namespace Go.Lw
def look : List (Nat × D) → Nat → D
 | [], _ => .any
 | (k, d) :: r, t => if t = k then d else look r t
def lookO : List (Nat × Option Ob) → Nat → Option Ob
 | [], _ => none
 | (k, d) :: r, t => if t = k then d else lookO r t
structure St where
 n : Nat
 sl : List (Nat × D)
 ob : List (Nat × Option Ob)
def St.get (s : St) (t : Nat) : D := look s.sl t
def St.obj (s : St) (id : Nat) : Option Ob := lookO s.ob id
def St.ev (s : St) : Operand → D
 | .tmp t => s.get t
 | .const v => constD v
 | .func f => .fn f []
 | .global _ => .any
def putSl (dst : Option Nat) (d : D) (l : List (Nat × D)) : List (Nat × D) := match dst with
 | some t => (t, d) :: l
 | none => l
def putOb (dst : Option Nat) (us : List (Nat × Ob)) (nw : Option Ob) (l : List (Nat × Option Ob)) : List (Nat × Option Ob) := match dst, nw with
 | some t, some o => us.map (fun p => (p.1, some p.2)) ++ (t, some o) :: l
 | _, _ => us.map (fun p => (p.1, some p.2)) ++ l
def St.app (s : St) (dst : Option Nat) (d : D) (us : List (Nat × Ob)) (nw : Option Ob) : St := ⟨s.n, putSl dst d s.sl, putOb dst us nw s.ob⟩
structure Rel (P : Program) (c : Ctx) (s : St) (a : Act) (w : World) (β : Nat → Nat) : Prop where
 mem : Mem P c s.obj w β
 defers : a.defers = []
 size : a.tmps.size = s.n
 slot : ∀ t, VD P (c.g w β s.obj) (s.get t) (a.tmps.getD t undef)
theorem Rel.ev {P : Program} {c : Ctx} {s : St} {a : Act} {w : World} {β : Nat → Nat} (h : Rel P c s a w β) (x : Operand) : VD P (c.g w β s.obj) (s.ev x) (a.eval x) := by
 cases x with
 | tmp t => exact h.slot t
 | const v => exact .const v
 | func f => exact .fn f [] [] rfl (by simp)
 | global g => exact .any _
def AC (P : Program) (f : FuncId) (args : List D) (r : D) : Prop :=
 ∀ (g : G) (vs : List Value), (∀ id o, g.ob id = some o → g.β id < g.w.heap.size) → (∀ b, g.F b → b < g.w.heap.size) → Z (VD P g) args vs →
  Calls P f vs.toArray g.w fun e w' => ∃ v, e = .returned v ∧ VD P { g with w := w' } r v ∧
   g.w.heap.size ≤ w'.heap.size ∧ w'.os = g.w.os ∧ w'.tape = g.w.tape ∧ w'.output = g.w.output ∧ ∀ b, b < g.w.heap.size → w'.heap[b]? = g.w.heap[b]?
def D.norm : D → D
 | .kb b => .i (.bool b)
 | d => d
def allToI : List D → Option (List I)
 | [] => some []
 | d :: ds => match d.toI, allToI ds with
  | some x, some xs => some (x :: xs)
  | _, _ => none
theorem allToI_spec {ds : List D} {xs : List I} (h : allToI ds = some xs) : xs.length = ds.length ∧ ∀ (j : Nat) (d : D) (x : I), ds[j]? = some d → xs[j]? = some x → d.toI = some x := by
 induction ds generalizing xs with
 | nil => simp [allToI] at h; subst h; simp
 | cons d ds ih =>
  simp only [allToI] at h
  split at h
  ·rename_i y ys h1 h2
   cases h
   obtain ⟨a, b⟩ := ih h2
   refine ⟨by simp [a], fun j e x he hx => ?_⟩
   cases j with
   | zero => simp at he hx; subst he hx; exact h1
   | succ j => exact b j e x (by simpa using he) (by simpa using hx)
  ·cases h
inductive R (P : Program) (o : Oper) (ev : Operand → D) (q : Nat → Option Ob) : D → List (Nat × Ob) → Option Ob → Prop
 | move (x : Operand) (h : o.op = .move x ∨ o.op = .assign x) : R P o ev q (ev x) [] none
 | pick (c a b : Operand) (h : o.op = .pick c a b) (t : Bool) (hc : (ev c).norm = .i (.bool t)) : R P o ev q (if t then ev a else ev b) [] none
 | alloc (T : TypeId) (id : Nat) (h : o.op = .alloc T) (hd : o.dst = some id) (ds : List D) (hz : zeroD P T = some ds) (hl : ds.all D.leafB = true) : R P o ev q (.loc id 0) [] (some (.var T ds))
 | box (T : TypeId) (x : Operand) (id : Nat) (h : o.op = .box T x) (hd : o.dst = some id) (ds : List D) (hb : (ev x).box = some ds) : R P o ev q (.loc id 0) [] (some (.var T ds))
 | build (T : TypeId) (parts : Array (Nat × Operand)) (h : o.op = .build T parts) (ps : List (Nat × Nat)) (hp : places P T = some ps) (hpos : ∀ p ∈ ps, 0 < p.2) (ds es : List D) (hz : zeroD P T = some ds)
   (hl : ds.all D.leafB = true) (hf : fillD ps ds (parts.toList.map fun p => (p.1, ev p.2)) = some es) : R P o ev q (mkAgg es) [] none
 | buildSlice (T : TypeId) (n id : Nat) (parts : Array (Nat × Operand)) (h : o.op = .buildSlice T n parts) (hd : o.dst = some id) (E : TypeId) (hT : slE P T = some E) (h0 : 0 < P.cellsOf E) (hz : zeroOk P E = true)
   (hi : parts.toList.map (·.1) = List.range n) (xs : List I) (hx : allToI (parts.toList.map fun p => ev p.2) = some xs) (hs : ∀ x ∈ xs, x.cells.length = P.cellsOf E) (hb : n * P.cellsOf E ≤ 16777216) :
   R P o ev q (.own id 0 0 n) [] (some (.arr E 0 xs))
 | buildSliceD (T : TypeId) (n id : Nat) (parts : Array (Nat × Operand)) (h : o.op = .buildSlice T n parts) (hd : o.dst = some id) (E : TypeId) (hT : slE P T = some E) (h0 : 0 < P.cellsOf E) (hz : zeroOk P E = true)
   (hi : parts.toList.map (·.1) = List.range n) (hs : ∀ x ∈ (parts.toList.map fun p => ev p.2), (x.box.map List.length) = some (P.cellsOf E)) (hb : n * P.cellsOf E ≤ 16777216) :
   R P o ev q (.own id 0 0 n) [] (some (.arrd E 0 (parts.toList.map fun p => ev p.2)))
 | load (T : TypeId) (x : Operand) (h : o.op = .load T x) (ds : List D) (hc : cellsAt q (ev x) = some ds) (d : D) (hl : loadD P T ds = some d) : R P o ev q d [] none
 | storeVar (T : TypeId) (a x : Operand) (h : o.op = .store T a x) (id k : Nat) (ha : ev a = .loc id k) (T' : TypeId) (cs : List D) (ho : q id = some (.var T' cs)) (ds : List D) (hb : (ev x).box = some ds)
   (hs : P.cellsOf T = ds.length) (h0 : 0 < ds.length) (hk : k + ds.length ≤ cs.length) : R P o ev q .any [(id, .var T' (splice cs k ds))] none
 | storeEl (T : TypeId) (a x : Operand) (h : o.op = .store T a x) (id ver idx k : Nat) (ha : ev a = .el id ver idx k) (E : TypeId) (xs : List I) (ho : q id = some (.arr E ver xs)) (y : I) (hy : xs[idx]? = some y)
   (ds : List D) (hb : (ev x).box = some ds) (ys : List I) (hys : allI ds = some ys) (hs : P.cellsOf T = ds.length) (h0 : 0 < ds.length) (hk : k + ds.length ≤ y.cells.length) :
   R P o ev q .any [(id, .arr E ver (xs.set idx (spliceI y k ys)))] none
 | nilCheck (x : Operand) (h : o.op = .nilCheck x) (hn : (ev x).notNil = true) (hq : ∀ id ver idx off, ev x = .el id ver idx off → fresh q id ver = true) : R P o ev q (ev x) [] none
 | binI (op : BinOp) (T T' : TypeId) (x y : Operand) (h : o.op = .binOp op T x y T') (a b r : I) (hx : (ev x).norm = .i a) (hy : (ev y).norm = .i b) (hr : binI op a b = some r) : R P o ev q (.i r) [] none
 | boolI (op : BinOp) (T T' : TypeId) (x y : Operand) (h : o.op = .binOp op T x y T') (hT : P.underlying T = some .bool) (a b r : I) (hx : (ev x).norm = .i a) (hy : (ev y).norm = .i b) (hr : boolI op a b = some r) : R P o ev q (.i r) [] none
 | unI (op : UnOp) (T : TypeId) (x : Operand) (h : o.op = .unOp op T x) (a r : I) (hx : (ev x).norm = .i a) (hr : unI op a = some r) : R P o ev q (.i r) [] none
 | convertBytes (S T : TypeId) (x : Operand) (h : o.op = .convert S T x) (hS : convS P S T = true) (id ver off len : Nat) (hx : ev x = .own id ver off len) (E : TypeId) (xs : List I) (ho : q id = some (.arr E ver xs)) (h1 : P.cellsOf E = 1)
   (hu : ((xs.drop off).take len).all isU8 = true) : R P o ev q (.i (.str (strB ((xs.drop off).take len)))) [] none
 | convertInt (S T : TypeId) (x : Operand) (h : o.op = .convert S T x) (hS : (P.underlying S).isSome = true) (k' : IntKind) (hT : kindI P T = some k') (k : IntKind) (n : Int) (hx : ev x = .i (.int k n)) :
   R P o ev q (.i (.int k' (k'.wrap n))) [] none
 | makeSlice (T : TypeId) (l cp : Operand) (id : Nat) (h : o.op = .makeSlice T l cp) (hd : o.dst = some id) (E : TypeId) (hT : slE P T = some E) (h0 : 0 < P.cellsOf E) (hz : zeroOk P E = true) (hzl : zeroLeaf P E = true) (x : I) (hx : zeroI P E = some x)
   (kl kc : IntKind) (m n : Int) (hm : ev l = .i (.int kl m)) (hn : ev cp = .i (.int kc n)) (h1 : 0 ≤ m) (h2 : m ≤ n) (hb : n.toNat * P.bytesOf E ≤ top) (ht : n.toNat ≤ top) :
   R P o ev q (.own id 0 0 m.toNat) [] (some (.arr E 0 (List.replicate m.toNat x)))
 | sliceStr (T : TypeId) (x : Operand) (lo hi : Option Operand) (h : o.op = .slice T x lo hi none) (hT : P.underlying T = some .string) (s : ByteArray) (hx : ev x = .i (.str s)) (l u : Nat)
   (hl : bnd 0 (lo.map ev) = some l) (hu : bnd s.size (hi.map ev) = some u) (h1 : l ≤ u) (h2 : u ≤ s.size) : R P o ev q (.i (.str (s.extract l u))) [] none
 | sliceSl (T : TypeId) (x : Operand) (lo hi : Option Operand) (h : o.op = .slice T x lo hi none) (E : TypeId) (hT : slE P T = some E) (h0 : 0 < P.cellsOf E) (xs : List I) (hx : ev x = .i (.sl E xs)) (l u : Nat)
   (hl : bnd 0 (lo.map ev) = some l) (hu : bnd xs.length (hi.map ev) = some u) (h1 : l ≤ u) (h2 : u ≤ xs.length) : R P o ev q (.i (.sl E ((xs.take u).drop l))) [] none
 | slice3 (T : TypeId) (x hi mx : Operand) (h : o.op = .slice T x none (some hi) (some mx)) (E : TypeId) (hT : slE P T = some E) (h0 : 0 < P.cellsOf E) (xs : List I) (hx : ev x = .i (.sl E xs)) (k k' : IntKind) (n : Int)
   (hh : ev hi = .i (.int k n)) (hm : ev mx = .i (.int k' n)) (hn : 0 ≤ n) (h2 : n.toNat ≤ xs.length) : R P o ev q (.capd E (xs.take n.toNat)) [] none
 | sliceOwn (T : TypeId) (x : Operand) (lo hi : Option Operand) (h : o.op = .slice T x lo hi none) (E : TypeId) (hT : slE P T = some E) (h0 : 0 < P.cellsOf E) (id ver off len : Nat) (hx : ev x = .own id ver off len) (xs : List I)
   (ho : q id = some (.arr E ver xs)) (l u : Nat) (hl : bnd 0 (lo.map ev) = some l) (hu : bnd len (hi.map ev) = some u) (h1 : l = 0 ∨ l < u) (h2 : u ≤ len) : R P o ev q (.own id ver (off + l) (u - l)) [] none
 | fieldAddr (S : TypeId) (x : Operand) (i : Nat) (h : o.op = .fieldAddr S x i) (r : Nat × TypeId) (hf : fldT P S i = some r) (h0 : 0 < P.cellsOf r.2) (d : D) (hs : (ev x).shift q r.1 = some d) : R P o ev q d [] none
 | field (S : TypeId) (x : Operand) (i : Nat) (h : o.op = .field S x i) (r : Nat × TypeId) (hf : fldT P S i = some r) (ds : List D) (hx : (ev x).aggC = some ds) (d : D) (hl : loadD P r.2 (ds.drop r.1) = some d) : R P o ev q d [] none
 | indexSl (T : TypeId) (x i : Operand) (h : o.op = .indexAddr T x i) (E : TypeId) (hT : slE P T = some E) (h0 : 0 < P.cellsOf E) (xs : List I) (hx : ev x = .i (.sl E xs)) (k : IntKind) (n : Int) (hn : ev i = .i (.int k n)) (h1 : 0 ≤ n)
   (y : I) (hy : xs[n.toNat]? = some y) : R P o ev q (.i (.ptr y.cells)) [] none
 | indexOwn (T : TypeId) (x i : Operand) (h : o.op = .indexAddr T x i) (E : TypeId) (hT : slE P T = some E) (h0 : 0 < P.cellsOf E) (id ver off len : Nat) (hx : ev x = .own id ver off len) (xs : List I) (ho : q id = some (.arr E ver xs))
   (k : IntKind) (n : Int) (hn : ev i = .i (.int k n)) (h1 : 0 ≤ n) (h2 : n < len) : R P o ev q (.el id ver (off + n.toNat) 0) [] none
 | indexOwnD (T : TypeId) (x i : Operand) (h : o.op = .indexAddr T x i) (E : TypeId) (hT : slE P T = some E) (h0 : 0 < P.cellsOf E) (id ver off len : Nat) (hx : ev x = .own id ver off len) (xs : List D) (ho : q id = some (.arrd E ver xs))
   (k : IntKind) (n : Int) (hn : ev i = .i (.int k n)) (h1 : 0 ≤ n) (h2 : n < len) : R P o ev q (.el id ver (off + n.toNat) 0) [] none
 | indexStr (T : TypeId) (x i : Operand) (h : o.op = .index T x i) (hT : P.underlying T = some .string) (s : ByteArray) (hx : ev x = .i (.str s)) (k : IntKind) (n : Int) (hn : ev i = .i (.int k n)) (h1 : 0 ≤ n) (b : UInt8) (hb : s[n.toNat]? = some b) :
   R P o ev q (.i (.int .u8 b.toNat)) [] none
 | extract (x : Operand) (i : Nat) (h : o.op = .extract x i) (ds : List D) (hx : ev x = .tup ds) (d : D) (hd : ds[i]? = some d) : R P o ev q d [] none
 | makeFunc (f : FuncId) (captured : Array Operand) (h : o.op = .makeFunc (.func f) #[] captured) : R P o ev q (.fn f (captured.toList.map ev)) [] none
 | lenSl (x : Operand) (T : TypeId) (h : o.op = .call { callee := .builtin .len, args := #[x], argTypes := #[T] }) (E E' : TypeId) (hT : slE P T = some E) (xs : List I) (hx : ev x = .i (.sl E' xs)) : R P o ev q (.i (.int .i64 xs.length)) [] none
 | lenOwn (x : Operand) (T : TypeId) (h : o.op = .call { callee := .builtin .len, args := #[x], argTypes := #[T] }) (E : TypeId) (hT : slE P T = some E) (id ver off len : Nat) (hx : ev x = .own id ver off len) (hf : fresh q id ver = true) :
   R P o ev q (.i (.int .i64 len)) [] none
 | lenNils (x : Operand) (T : TypeId) (h : o.op = .call { callee := .builtin .len, args := #[x], argTypes := #[T] }) (E : TypeId) (hT : slE P T = some E) (hx : ev x = .nils) : R P o ev q (.i (.int .i64 0)) [] none
 | lenStr (x : Operand) (T : TypeId) (h : o.op = .call { callee := .builtin .len, args := #[x], argTypes := #[T] }) (hT : P.underlying T = some .string) (s : ByteArray) (hx : ev x = .i (.str s)) : R P o ev q (.i (.int .i64 s.size)) [] none
 | max (x y : Operand) (tys : Array TypeId) (h : o.op = .call { callee := .builtin .max, args := #[x, y], argTypes := tys }) (k : IntKind) (a b : Int) (hx : ev x = .i (.int k a)) (hy : ev y = .i (.int k b)) : R P o ev q (.i (.int k (Max.max a b))) [] none
 | appendNils (x y : Operand) (T : TypeId) (id : Nat) (h : o.op = .call { callee := .builtin .append, args := #[x, y], argTypes := #[T, T] }) (hd : o.dst = some id) (E : TypeId) (hT : slE P T = some E) (h0 : 0 < P.cellsOf E) (hz : zeroOk P E = true)
   (hx : ev x = .nils) (ys : List I) (hs : srcOf q E (ev y) = some ys) (hpos : 0 < ys.length) (hb : ys.length * P.bytesOf E ≤ top) : R P o ev q (.own id 0 0 ys.length) [] (some (.arr E 0 ys))
 | appendData (x y : Operand) (T : TypeId) (h : o.op = .call { callee := .builtin .append, args := #[x, y], argTypes := #[T, T] }) (E : TypeId) (hT : slE P T = some E) (h0 : 0 < P.cellsOf E) (hz : zeroOk P E = true)
   (hx : ev x = .nils) (ys : List I) (hs : srcOf q E (ev y) = some ys) (hb : ys.length * P.bytesOf E ≤ top) : R P o ev q (.i (.sl E ys)) [] none
 | appendCap (x y : Operand) (T : TypeId) (h : o.op = .call { callee := .builtin .append, args := #[x, y], argTypes := #[T, T] }) (E : TypeId) (hT : slE P T = some E) (h0 : 0 < P.cellsOf E) (hz : zeroOk P E = true)
   (xs : List I) (hx : ev x = .capd E xs) (ys : List I) (hs : srcOf q E (ev y) = some ys) (hb : (xs.length + ys.length) * P.bytesOf E ≤ top) (hb1 : xs.length + ys.length ≤ top) : R P o ev q (.i (.sl E (xs ++ ys))) [] none
 | appendOwn (x y : Operand) (T : TypeId) (h : o.op = .call { callee := .builtin .append, args := #[x, y], argTypes := #[T, T] }) (E : TypeId) (hT : slE P T = some E) (h0 : 0 < P.cellsOf E) (hz : zeroOk P E = true)
   (id ver : Nat) (xs : List I) (hx : ev x = .own id ver 0 xs.length) (ho : q id = some (.arr E ver xs)) (ys : List I) (hs : srcOf q E (ev y) = some ys) (hb : (xs.length + ys.length) * P.bytesOf E ≤ top) (hb1 : xs.length + ys.length ≤ top) :
   R P o ev q (.own id (ver + 1) 0 (xs.length + ys.length)) [(id, .arr E (ver + 1) (xs ++ ys))] none
 | rangeStr (T : TypeId) (x : Operand) (id : Nat) (h : o.op = .range T x) (hd : o.dst = some id) (hT : P.underlying T = some .string) (s : ByteArray) (hx : ev x = .i (.str s)) : R P o ev q (.it id) [] (some (.strit s 0))
 | nextStr (x : Operand) (h : o.op = .next x true) (id : Nat) (s : ByteArray) (pos : Nat) (hx : ev x = .it id) (ho : q id = some (.strit s pos)) (hl : pos < s.size) (h8 : (s.data.getD pos 0).toNat < 128) :
   R P o ev q (.tup [.kb true, .i (.int .i64 pos), .i (.int .i32 ((s.data.getD pos 0).toNat : Int))]) [(id, .strit s (pos + 1))] none
 | nextEnd (x : Operand) (h : o.op = .next x true) (id : Nat) (s : ByteArray) (pos : Nat) (hx : ev x = .it id) (ho : q id = some (.strit s pos)) (hl : ¬ pos < s.size) : R P o ev q (.tup [.kb false]) [] none
 | call (f : Operand) (args : Array Operand) (tys : Array TypeId) (h : o.op = .call { callee := .value f, args, argTypes := tys }) (F : FuncId) (caps : List D) (hf : ev f = .fn F caps)
   (hF : ((P.funcs[F]?).map fun fn => fn.name != "runtime.NumGoroutine" && fn.body.isSome) = some true) (r : D) (hc : AC P F (args.toList.map ev ++ caps) r) : R P o ev q r [] none
end Go.Lw
end
section
namespace Go.Lw
section
variable {P : Program} {c : Ctx} {s : St} {a : Act} {w : World} {β : Nat → Nat} {o : Oper} {Q : Exit → Act → World → Prop}
theorem VD.norm {g : G} {d : D} {v : Value} (h : VD P g d v) : VD P g d.norm v := by
 cases h with
 | kb b => exact .i _ _ (.bool b)
 | any v => exact .any v
 | i x v h => exact .i x v h
 | nils A => exact .nils A
 | own id ver off len cap E xs cur ho hl hc hb hcap hm => exact .own id ver off len cap E xs cur ho hl hc hb hcap hm
 | ownd id ver off len cap E xs ho hl hc => exact .ownd id ver off len cap E xs ho hl hc
 | ownStale id ver ver' off len E xs v ho hlt hv => exact .ownStale id ver ver' off len E xs v ho hlt hv
 | loc id c T cs ho => exact .loc id c T cs ho
 | el id ver idx off E xs ho hi => exact .el id ver idx off E xs ho hi
 | eld id ver idx off E xs ho hi => exact .eld id ver idx off E xs ho hi
 | elStale id ver ver' idx off E xs v ho hlt hv => exact .elStale id ver ver' idx off E xs v ho hlt hv
 | agg xs vs hl h h1 => exact .agg xs vs hl h h1
 | tup xs vs hl h => exact .tup xs vs hl h
 | lmap id es ho => exact .lmap id es ho
 | capd E xs A h => exact .capd E xs A h
 | it id s pos ho => exact .it id s pos ho
 | fn f caps vs hl h => exact .fn f caps vs hl h
theorem VD.bool_inv {g : G} {b : Bool} {v : Value} (h : VD P g (.i (.bool b)) v) : v = .bool b := by cases h with | i _ _ h => cases h; rfl
theorem VD.int_inv {g : G} {k : IntKind} {n : Int} {v : Value} (h : VD P g (.i (.int k n)) v) : v = .int k n := by cases h with | i _ _ h => cases h; rfl
theorem VD.loc_inv {g : G} {id k : Nat} {v : Value} (h : VD P g (.loc id k) v) : v = .pointer (some ⟨g.β id, k, none⟩) := by cases h; rfl
theorem VD.nils_inv {g : G} {v : Value} (h : VD P g .nils v) : ∃ A, v = .slice A 0 0 := by cases h; exact ⟨_, rfl⟩
theorem VD.el_inv {g : G} {id ver idx k : Nat} {E : TypeId} {xs : List I} (ho : g.ob id = some (.arr E ver xs)) {v : Value} (h : VD P g (.el id ver idx k) v) : v = .pointer (some ⟨g.β id, idx * P.cellsOf E + k, none⟩) := by
 cases h with
 | el _ _ _ _ E2 xs2 ho2 hi2 => rw [ho] at ho2; cases ho2; rfl
 | eld _ _ _ _ E2 xs2 ho2 hi2 => rw [ho] at ho2; cases ho2
 | elStale _ _ ver' _ _ E2 xs2 v ho2 hlt => rw [ho] at ho2; cases ho2; omega
theorem VD.tup_inv {g : G} {ds : List D} {v : Value} (h : VD P g (.tup ds) v) : ∃ vs : List Value, v = .tuple vs.toArray ∧ Z (VD P g) ds vs := by cases h with | tup _ vs hl hh => exact ⟨vs, rfl, hl, hh⟩
theorem VD.fn_inv {g : G} {f : FuncId} {ds : List D} {v : Value} (h : VD P g (.fn f ds) v) : ∃ vs : List Value, v = .func (.func f) #[] vs.toArray ∧ Z (VD P g) ds vs := by cases h with | fn _ _ vs hl hh => exact ⟨vs, rfl, hl, hh⟩
theorem obj_app0 (s : St) (dst : Option Nat) (d : D) : (s.app dst d [] none).obj = s.obj := by
 funext id; cases dst <;> rfl
theorem obj_app1 (s : St) (dst : Option Nat) (d : D) (i : Nat) (o : Ob) : (s.app dst d [(i, o)] none).obj = upd s.obj i (some o) := by
 funext id; cases dst <;> simp [St.app, St.obj, putOb, lookO, upd]
theorem obj_appN (s : St) (t : Nat) (d : D) (o : Ob) : (s.app (some t) d [] (some o)).obj = upd s.obj t (some o) := by
 funext id; simp [St.app, St.obj, putOb, lookO, upd]
theorem get_app (s : St) (dst : Option Nat) (d : D) (us : List (Nat × Ob)) (nw : Option Ob) (t : Nat) : (s.app dst d us nw).get t = if dst = some t then d else s.get t := by
 cases dst with
 | none => simp [St.app, St.get, putSl]
 | some k => simp [St.app, St.get, putSl, look]; split <;> split <;> simp_all
theorem Rel.put (h : Rel P c s a w β) {w' : World} {β' : Nat → Nat} {dst : Option Nat} {d : D} {us : List (Nat × Ob)} {nw : Option Ob} {v : Value} (hd : ∀ t, dst = some t → t < s.n)
  (hm : Mem P c (s.app dst d us nw).obj w' β') (hk : Keeps (c.g w β s.obj) (c.g w' β' (s.app dst d us nw).obj)) (hv : VD P (c.g w' β' (s.app dst d us nw).obj) d v) :
  Rel P c (s.app dst d us nw) (a.put dst v) w' β' := by
 refine ⟨hm, by cases dst <;> exact h.defers, by cases dst <;> simp [Act.put, h.size, St.app], fun t => ?_⟩
 rw [get_app]
 cases dst with
 | none => exact (h.slot t).keeps hk
 | some k =>
  have hk' := hd k rfl
  simp only [Option.some.injEq, Act.put]
  split
  ·rename_i e; subst e
   simp only [Array.getD_eq_getD_getElem?]
   rw [Array.getElem?_setIfInBounds_self_of_lt (by rw [h.size]; exact hk')]
   exact hv
  ·rename_i e
   have := (h.slot t).keeps hk
   simp only [Array.getD_eq_getD_getElem?] at this ⊢
   rw [Array.getElem?_setIfInBounds_ne e]
   exact this
theorem wp_of_gives (h : Rel P c s a w β) {x : Sem Value} {d : D} {us : List (Nat × Ob)} {nw : Option Ob} (hx : execOp a.eval o = (do pure (.value (← x)))) (hd : ∀ t, o.dst = some t → t < s.n)
  (hg : Gives P c s.obj w β x d (s.app o.dst d us nw).obj) : o.wp P a w (fun a' w' => ∃ β', Rel P c (s.app o.dst d us nw) a' w' β') Q := by
 obtain ⟨v, w', β', hr, hm, hk, hv⟩ := hg
 unfold Oper.wp
 rw [hx]
 simp only [Sem.run_bind, hr, Result.andThen_ok, Sem.run_pure, Oper.upon]
 exact ⟨β', h.put hd hm hk hv⟩
theorem wp_of_givesU (h : Rel P c s a w β) {x : Sem Unit} {us : List (Nat × Ob)} (hx : execOp a.eval o = (do x; pure .skip)) (hd : ∀ t, o.dst = some t → t < s.n)
  (hg : GivesU P c s.obj w β x (s.app o.dst .any us none).obj) : o.wp P a w (fun a' w' => ∃ β', Rel P c (s.app o.dst .any us none) a' w' β') Q := by
 obtain ⟨w', β', hr, hm, hk⟩ := hg
 unfold Oper.wp
 rw [hx]
 simp only [Sem.run_bind, hr, Result.andThen_ok, Sem.run_pure, Oper.upon]
 exact ⟨β', h.put hd hm hk (.any _)⟩
theorem ev_bd (h : Rel P c s a w β) {d : Nat} {x : Option Operand} {n : Nat} (hb : bnd d (x.map s.ev) = some n) : Bd P (c.g w β s.obj) (x.map s.ev) (x.map a.eval) d n := by
 refine bnd_spec hb (fun y hy => ?_) (fun hn => ?_)
 ·cases x with
  | none => cases hy
  | some x => cases hy; exact ⟨_, rfl, h.ev x⟩
 ·cases x with
  | none => rfl
  | some x => cases hn
theorem Z.evs (h : Rel P c s a w β) (xs : List Operand) : Z (VD P (c.g w β s.obj)) (xs.map s.ev) (xs.map a.eval) := ⟨by simp, fun j d v hd hv => by
 simp only [List.getElem?_map, Option.map_eq_some_iff] at hd hv
 obtain ⟨x, hx, rfl⟩ := hd
 obtain ⟨y, hy, rfl⟩ := hv
 rw [hx] at hy; cases hy
 exact h.ev x⟩
theorem zip_range {α : Type} : ∀ (ps : List (Nat × α)) (k : Nat), ps.map (·.1) = List.range' k ps.length → ps = ((ps.map (·.2)).zipIdx k).map (fun p => (p.2, p.1))
 | [], _, _ => rfl
 | (i, x) :: ps, k, h => by
  simp only [List.map_cons, List.length_cons, List.range'_succ, List.cons.injEq] at h
  obtain ⟨rfl, h⟩ := h
  simp only [List.map_cons, List.zipIdx_cons, List.cons.injEq, true_and]
  exact zip_range ps _ h
theorem R.sound (h : Rel P c s a w β) {d : D} {us : List (Nat × Ob)} {nw : Option Ob} (hr : R P o s.ev s.obj d us nw) (hd : ∀ t, o.dst = some t → t < s.n) (hn : nw ≠ none → ∀ id, o.dst = some id → s.obj id = none) :
  o.wp P a w (fun a' w' => ∃ β', Rel P c (s.app o.dst d us nw) a' w' β') Q := by
 have hm := h.mem
 cases hr with
 | move x hx =>
  refine wp_of_gives h (x := pure (a.eval x)) ?_ hd (by rw [obj_app0]; exact Gives.here hm rfl (h.ev x))
  rcases hx with hx | hx <;> simp [execOp, hx]
 | pick cc x y hx t hc =>
  refine wp_of_gives h (x := do pure (if ← asBool (a.eval cc) then a.eval x else a.eval y)) (by simp [execOp, hx]) hd ?_
  rw [obj_app0]
  have hv := (hc ▸ (h.ev cc).norm : VD P (c.g w β s.obj) (.i (.bool t)) (a.eval cc)).bool_inv
  refine Gives.here hm (v := if t then a.eval x else a.eval y) (by simp [asBool, hv]) ?_
  cases t
  ·exact h.ev y
  ·exact h.ev x
 | rangeStr T x id hx hdst hT z hz =>
  refine wp_of_gives h (by simp [execOp, hx]; rfl) hd ?_
  rw [hdst, obj_appN]
  exact gives_range hm (hn (by simp) id hdst) hT (hz ▸ h.ev x : VD P (c.g w β s.obj) (.i (.str z)) (a.eval x))
 | nextStr x hx id z pos hz ho hl h8 =>
  refine wp_of_gives h (by simp [execOp, hx]; rfl) hd ?_
  rw [obj_app1]
  exact gives_next hm ho (hz ▸ h.ev x : VD P (c.g w β s.obj) (.it id) (a.eval x)) _ hl h8
 | nextEnd x hx id z pos hz ho hl =>
  refine wp_of_gives h (by simp [execOp, hx]; rfl) hd ?_
  rw [obj_app0]
  exact gives_nextEnd hm ho (hz ▸ h.ev x : VD P (c.g w β s.obj) (.it id) (a.eval x)) _ hl
 | alloc T id hx hdst ds hz hl =>
  refine wp_of_gives h (by simp [execOp, hx]; rfl) hd ?_
  rw [hdst, obj_appN]
  exact gives_alloc hm (hn (by simp) id hdst) T hz hl
 | box T x id hx hdst ds hb =>
  refine wp_of_gives h (by simp [execOp, hx]; rfl) hd ?_
  rw [hdst, obj_appN]
  exact gives_box hm (hn (by simp) id hdst) T (h.ev x) hb
 | build T parts hx ps hp hpos ds es hz hl hf =>
  refine wp_of_gives h (by simp [execOp, hx]; rfl) hd ?_
  rw [obj_app0]
  refine gives_build hm hp hpos hz hl ⟨by simp, fun j p q hp hq => ?_⟩ hf
  simp only [List.getElem?_map, Option.map_eq_some_iff, Array.toList_map] at hp hq
  obtain ⟨x, hx, rfl⟩ := hp
  obtain ⟨y, hy, rfl⟩ := hq
  rw [hx] at hy; cases hy
  exact ⟨rfl, h.ev _⟩
 | buildSlice T n id parts hx hdst E hT h0 hz hi xs hxs hs hb =>
  refine wp_of_gives h (by simp [execOp, hx]; rfl) hd ?_
  rw [hdst, obj_appN]
  obtain ⟨a1, a2⟩ := allToI_spec hxs
  have hlen : parts.toList.length = n := by have := congrArg List.length hi; simpa using this
  refine gives_buildSlice hm hT h0 hz (hn (by simp) id hdst) (xs := xs) (vs := (parts.toList.map (·.2)).map a.eval) (by rw [a1]; simpa using hlen) ⟨by simp [a1], fun j x v hx hv => ?_⟩ hs hb _ ?_
  ·obtain ⟨dd, hdd⟩ := get_of_len a1 hx
   have := (Z.evs h (parts.toList.map (·.2))).at_ j dd v (by simpa using hdd) hv
   exact this.toI (a2 j dd x hdd hx)
  ·have hz := zip_range parts.toList 0 (by rw [hi, hlen, List.range_eq_range'])
   have := congrArg (List.map fun p : Nat × Operand => (p.1, a.eval p.2)) hz
   rw [Array.toList_map, this]
   simp only [List.map_map, List.zipIdx_map]
   rfl
 | buildSliceD T n id parts hx hdst E hT h0 hz hi hs hb =>
  refine wp_of_gives h (by simp [execOp, hx]; rfl) hd ?_
  rw [hdst, obj_appN]
  have hlen : parts.toList.length = n := by have := congrArg List.length hi; simpa using this
  refine gives_buildSlice_any hm hT h0 hz (hn (by simp) id hdst) (xs := parts.toList.map fun p => s.ev p.2) (vs := (parts.toList.map (·.2)).map a.eval) (by simpa using hlen) ?_ hs hb _ ?_
  ·have := Z.evs h (parts.toList.map (·.2))
   simpa [List.map_map, Function.comp_def] using this
  ·have hz := zip_range parts.toList 0 (by rw [hi, hlen, List.range_eq_range'])
   have := congrArg (List.map fun p : Nat × Operand => (p.1, a.eval p.2)) hz
   rw [Array.toList_map, this]
   simp only [List.map_map, List.zipIdx_map]
   rfl
 | load T x hx ds hc d hl =>
  refine wp_of_gives h (by simp [execOp, hx]; rfl) hd ?_
  rw [obj_app0]
  exact gives_load hm T (h.ev x) hc hl
 | storeVar T ad x hx id k ha T' cs ho ds hb hs h0 hk =>
  refine wp_of_givesU h (by simp [execOp, hx]; rfl) hd ?_
  rw [obj_app1]
  rw [(ha ▸ h.ev ad : VD P (c.g w β s.obj) (.loc id k) (a.eval ad)).loc_inv]
  exact givesU_store_var hm T ho (h.ev x) hb hs h0 hk
 | storeEl T ad x hx id ver idx k ha E xs ho y hy ds hb ys hys hs h0 hk =>
  refine wp_of_givesU h (by simp [execOp, hx]; rfl) hd ?_
  rw [obj_app1]
  rw [(ha ▸ h.ev ad : VD P (c.g w β s.obj) (.el id ver idx k) (a.eval ad)).el_inv ho]
  exact givesU_store_el hm T ho hy (h.ev x) hb hys hs h0 hk
 | nilCheck x hx hnn hq =>
  refine wp_of_gives h (x := pure (a.eval x)) ?_ hd (by rw [obj_app0]; exact Gives.here hm rfl (h.ev x))
  rcases (h.ev x).pointer hnn hq with ⟨ad, e⟩ | ⟨f, p, q, e⟩ <;> simp [execOp, hx, e]
 | binI op T T' x y hx u v r hu hv hr =>
  refine wp_of_gives h (x := do eqGuard op T x y (a.eval x) (a.eval y); binOp op T (a.eval x) (a.eval y)) (by simp only [execOp, hx]) hd ?_
  rw [obj_app0]
  exact gives_binI hm op T x y (by rw [← hu]; exact (h.ev x).norm) (by rw [← hv]; exact (h.ev y).norm) hr
 | boolI op T T' x y hx hT u v r hu hv hr =>
  refine wp_of_gives h (x := do eqGuard op T x y (a.eval x) (a.eval y); binOp op T (a.eval x) (a.eval y)) (by simp only [execOp, hx]) hd ?_
  rw [obj_app0]
  exact gives_boolI hm op T hT x y (by rw [← hu]; exact (h.ev x).norm) (by rw [← hv]; exact (h.ev y).norm) hr
 | unI op T x hx u r hu hr =>
  refine wp_of_gives h (by simp [execOp, hx]; rfl) hd ?_
  rw [obj_app0]
  exact gives_unI hm op (by rw [← hu]; exact (h.ev x).norm) hr
 | convertBytes S T x hx hS id ver off len hu E xs ho h1 hall =>
  refine wp_of_gives h (by simp [execOp, hx]; rfl) hd ?_
  rw [obj_app0]
  exact gives_convert_bytes hm hS (by rw [← hu]; exact h.ev x) ho h1 hall
 | convertInt S T x hx hS k' hT k n hu =>
  refine wp_of_gives h (by simp [execOp, hx]; rfl) hd ?_
  rw [obj_app0]
  exact gives_convert_int hm hS hT (by rw [← hu]; exact h.ev x)
 | makeSlice T l cp id hx hdst E hT h0 hz hzl x hx0 kl kc m n hm1 hn1 h1 h2 hb ht =>
  refine wp_of_gives h (by simp [execOp, hx]; rfl) hd ?_
  rw [hdst, obj_appN]
  rw [(hm1 ▸ h.ev l : VD P (c.g w β s.obj) (.i (.int kl m)) (a.eval l)).int_inv, (hn1 ▸ h.ev cp : VD P (c.g w β s.obj) (.i (.int kc n)) (a.eval cp)).int_inv]
  exact gives_makeSlice hm hT h0 hz hzl hx0 (hn (by simp) id hdst) kl kc m n h1 h2 hb ht
 | sliceStr T x lo hi hx hT str hs l u hl hu h1 h2 =>
  refine wp_of_gives h (by simp [execOp, hx]; rfl) hd ?_
  rw [obj_app0]
  exact gives_cut_str hm hT (by rw [← hs]; exact h.ev x) (ev_bd h hl) (ev_bd h hu) h1 h2
 | slice3 T x hi mx hx E hT h0 xs hs k k' n hh hmx hn0 h2 =>
  refine wp_of_gives h (by simp [execOp, hx]; rfl) hd ?_
  rw [obj_app0, (hh ▸ h.ev hi : VD P (c.g w β s.obj) (.i (.int k n)) (a.eval hi)).int_inv, (hmx ▸ h.ev mx : VD P (c.g w β s.obj) (.i (.int k' n)) (a.eval mx)).int_inv]
  exact gives_cut3 hm hT h0 (by rw [← hs]; exact h.ev x) hn0 h2
 | sliceSl T x lo hi hx E hT h0 xs hs l u hl hu h1 h2 =>
  refine wp_of_gives h (by simp [execOp, hx]; rfl) hd ?_
  rw [obj_app0]
  exact gives_cut_sl hm hT h0 (by rw [← hs]; exact h.ev x) (ev_bd h hl) (ev_bd h hu) h1 h2
 | sliceOwn T x lo hi hx E hT h0 id ver off len hs xs ho l u hl hu h1 h2 =>
  refine wp_of_gives h (by simp [execOp, hx]; rfl) hd ?_
  rw [obj_app0]
  exact gives_cut_own hm hT h0 ho (by rw [← hs]; exact h.ev x) (ev_bd h hl) (ev_bd h hu) h1 h2
 | fieldAddr S x i hx r hf h0 d hs =>
  refine wp_of_gives h (by simp [execOp, hx]; rfl) hd ?_
  rw [obj_app0]
  exact gives_fieldAddr hm S i hf h0 (h.ev x) hs
 | field S x i hx r hf ds hag d hl =>
  refine wp_of_gives h (by simp [execOp, hx]; rfl) hd ?_
  rw [obj_app0]
  exact gives_field hm S i hf (h.ev x) hag hl
 | indexSl T x i hx E hT h0 xs hs k n hi h1 y hy =>
  refine wp_of_gives h (by simp [execOp, hx]; rfl) hd ?_
  rw [obj_app0]
  rw [(hi ▸ h.ev i : VD P (c.g w β s.obj) (.i (.int k n)) (a.eval i)).int_inv]
  exact gives_indexAddr_sl hm hT h0 (by rw [← hs]; exact h.ev x) k n h1 hy
 | indexOwn T x i hx E hT h0 id ver off len hs xs ho k n hi h1 h2 =>
  refine wp_of_gives h (by simp [execOp, hx]; rfl) hd ?_
  rw [obj_app0]
  rw [(hi ▸ h.ev i : VD P (c.g w β s.obj) (.i (.int k n)) (a.eval i)).int_inv]
  exact gives_indexAddr_own hm hT h0 ho (by rw [← hs]; exact h.ev x) k n h1 h2
 | indexOwnD T x i hx E hT h0 id ver off len hs xs ho k n hi h1 h2 =>
  refine wp_of_gives h (by simp [execOp, hx]; rfl) hd ?_
  rw [obj_app0]
  rw [(hi ▸ h.ev i : VD P (c.g w β s.obj) (.i (.int k n)) (a.eval i)).int_inv]
  exact gives_indexAddr_ownd hm hT h0 ho (by rw [← hs]; exact h.ev x) k n h1 h2
 | indexStr T x i hx hT str hs k n hi h1 b hb =>
  refine wp_of_gives h (by simp [execOp, hx]; rfl) hd ?_
  rw [obj_app0]
  rw [(hi ▸ h.ev i : VD P (c.g w β s.obj) (.i (.int k n)) (a.eval i)).int_inv]
  exact gives_index_str hm hT (by rw [← hs]; exact h.ev x) k n h1 hb
 | extract x i hx ds hs d hd' =>
  refine wp_of_gives h (by simp [execOp, hx]; rfl) hd ?_
  rw [obj_app0]
  obtain ⟨vs, e, hz⟩ := (hs ▸ h.ev x : VD P (c.g w β s.obj) (.tup ds) (a.eval x)).tup_inv
  rw [e]
  obtain ⟨v, hv⟩ := get_of_len hz.len.symm hd'
  exact Gives.here hm (by simp [Instr.extract, hv]) (hz.at_ i d v hd' hv)
 | makeFunc f captured hx =>
  refine wp_of_gives h (by simp [execOp, hx]; rfl) hd ?_
  rw [obj_app0]
  have zz := Z.evs h captured.toList
  have := VD.fn (P := P) f (captured.toList.map s.ev) (captured.toList.map a.eval) zz.len zz.at_
  exact Gives.here hm (v := .func (.func f) #[] (captured.toList.map a.eval).toArray) (by rw [← Array.toList_map, Array.toArray_toList]; rfl) this
 | lenSl x T hx E E' hT xs hs =>
  refine wp_of_gives h (x := Builtin.len_ #[T] o.type #[a.eval x]) (by simp [execOp, hx, resolve, invoke, builtin]) hd ?_
  rw [obj_app0]
  exact gives_len_sl hm hT (E' := E') (by rw [← hs]; exact h.ev x)
 | lenOwn x T hx E hT id ver off len hs hf =>
  refine wp_of_gives h (x := Builtin.len_ #[T] o.type #[a.eval x]) (by simp [execOp, hx, resolve, invoke, builtin]) hd ?_
  rw [obj_app0]
  exact gives_len_own hm hT hf (by rw [← hs]; exact h.ev x)
 | lenNils x T hx E hT hs =>
  refine wp_of_gives h (x := Builtin.len_ #[T] o.type #[a.eval x]) (by simp [execOp, hx, resolve, invoke, builtin]) hd ?_
  rw [obj_app0]
  exact gives_len_nils hm hT (by rw [← hs]; exact h.ev x)
 | lenStr x T hx hT str hs =>
  refine wp_of_gives h (x := Builtin.len_ #[T] o.type #[a.eval x]) (by simp [execOp, hx, resolve, invoke, builtin]) hd ?_
  rw [obj_app0]
  exact gives_len_str hm hT (by rw [← hs]; exact h.ev x)
 | max x y tys hx k u v hu hv =>
  refine wp_of_gives h (x := Builtin.max_ tys o.type #[a.eval x, a.eval y]) (by simp [execOp, hx, resolve, invoke, builtin]) hd ?_
  rw [obj_app0]
  exact gives_max hm tys o.type (by rw [← hu]; exact h.ev x) (by rw [← hv]; exact h.ev y)
 | appendNils x y T id hx hdst E hT h0 hz hs ys hsrc hpos hb =>
  refine wp_of_gives h (x := Builtin.append_ #[T, T] o.type #[a.eval x, a.eval y]) (by simp [execOp, hx, resolve, invoke, builtin]) hd ?_
  rw [hdst, obj_appN]
  obtain ⟨A, e⟩ := (hs ▸ h.ev x : VD P (c.g w β s.obj) .nils (a.eval x)).nils_inv
  rw [e]
  exact gives_append_nils hm hT h0 hz (hn (by simp) id hdst) (h.ev y) hsrc hpos hb A
 | appendCap x y T hx E hT h0 hz xs hs ys hsrc hb hb1 =>
  refine wp_of_gives h (x := Builtin.append_ #[T, T] o.type #[a.eval x, a.eval y]) (by simp [execOp, hx, resolve, invoke, builtin]) hd ?_
  rw [obj_app0]
  exact gives_append_capd hm hT h0 hz (hs ▸ h.ev x) (h.ev y) hsrc hb hb1
 | appendData x y T hx E hT h0 hz hs ys hsrc hb =>
  refine wp_of_gives h (x := Builtin.append_ #[T, T] o.type #[a.eval x, a.eval y]) (by simp [execOp, hx, resolve, invoke, builtin]) hd ?_
  rw [obj_app0]
  obtain ⟨A, e⟩ := (hs ▸ h.ev x : VD P (c.g w β s.obj) .nils (a.eval x)).nils_inv
  rw [e]
  exact gives_append_data hm hT h0 hz (h.ev y) hsrc hb A
 | appendOwn x y T hx E hT h0 hz id ver xs hs ho ys hsrc hb hb1 =>
  refine wp_of_gives h (x := Builtin.append_ #[T, T] o.type #[a.eval x, a.eval y]) (by simp [execOp, hx, resolve, invoke, builtin]) hd ?_
  rw [obj_app1]
  exact gives_append_own hm hT h0 hz ho (by rw [← hs]; exact h.ev x) (h.ev y) hsrc hb hb1
 | call f args tys hx F caps hf hF r hc =>
  obtain ⟨cv, f1, hcv⟩ := (hf ▸ h.ev f : VD P (c.g w β s.obj) (.fn F caps) (a.eval f)).fn_inv
  obtain ⟨fn, hfn, hF⟩ := Option.map_eq_some_iff.1 hF
  simp only [Bool.and_eq_true, bne_iff_ne, ne_eq] at hF
  have zz : Z (VD P (c.g w β s.obj)) (args.toList.map s.ev ++ caps) (args.toList.map a.eval ++ cv) := (Z.evs h args.toList).append hcv
  have hcall := hc (c.g w β s.obj) _ (fun id o ho => hm.lt id o ho) (fun b hb => by
   rcases hb with hb | ⟨i, o', h1, h2⟩
   ·exact Nat.lt_of_lt_of_le (hm.mlt b hb).1 hm.size
   ·exact h2 ▸ hm.lt i o' h1) zz
  have hex : (execOp a.eval o).run P w = .ok (.enter F (args.toList.map a.eval ++ cv).toArray) w := by
   have hb : fn.body.isNone = false := by cases hbb : fn.body <;> simp_all
   have hnn : (fn.name == "runtime.NumGoroutine") = false := by simpa using hF.1
   have hbn : ¬ fn.body = none := by intro e; rw [e] at hb; cases hb
   have ha : (args.toList.map a.eval ++ cv).toArray = Array.map a.eval args ++ cv.toArray := by
    apply Array.ext'; simp
   rw [ha]
   simp [execOp, hx, resolve, f1, Deferred.ofValue, invoke, callFunc, hfn, hF.1, hbn]
  unfold Oper.wp
  rw [hex]
  simp only [Oper.upon]
  refine Calls.mono hcall fun e w' he => ?_
  obtain ⟨v, rfl, hv, h1, h2, h3, h4, h5⟩ := he
  obtain ⟨hmq, hkq⟩ := hm.quiet h1 h5 h2 h3 h4
  exact ⟨β, h.put hd (by rw [obj_app0]; exact hmq) (by rw [obj_app0]; exact hkq) (by rw [obj_app0]; exact hv)⟩
end
end Go.Lw
end
section
namespace Go.Lw
def gslot (ops : Array Oper) (j : Nat) : Option Nat := (ops[j]?).bind (·.dst)
theorem VD.unnorm {P : Program} {g : G} {d : D} {v : Value} (h : VD P g d.norm v) : VD P g d v := by
 cases d with
 | kb b => rw [VD.bool_inv (b := b) h]; exact .kb b
 | _ => exact h
def St.over (s : St) (t : Nat) (d : D) : St := ⟨s.n, (t, d) :: s.sl, s.ob⟩
theorem Rel.over {P : Program} {c : Ctx} {s : St} {a : Act} {w : World} {β : Nat → Nat} (h : Rel P c s a w β) {t : Nat} {d : D} (hd : (s.get t).norm = d.norm) : Rel P c (s.over t d) a w β := by
 refine ⟨h.mem, h.defers, h.size, fun k => ?_⟩
 show VD P (c.g w β s.obj) (look ((t, d) :: s.sl) k) _
 simp only [look]
 split
 ·rename_i e; subst e
  have := (h.slot k).norm
  rw [hd] at this
  exact this.unnorm
 ·exact h.slot k
def aop (P : Program) (o : Oper) (s : St) (K : St → Prop) : Prop :=
 ∀ c a w β Q, Rel P c s a w β → o.wp P a w (fun a' w' => ∃ s' β', Rel P c s' a' w' β' ∧ K s') Q
theorem aop_R {P : Program} {o : Oper} {s : St} {K : St → Prop} {d : D} {us : List (Nat × Ob)} {nw : Option Ob} (h1 : R P o s.ev s.obj d us nw) (h2 : nw ≠ none → ∀ id, o.dst = some id → s.obj id = none) (h3 : ∀ t, o.dst = some t → t < s.n) (h4 : K (s.app o.dst d us nw)) : aop P o s K :=
 fun c a w β Q h => Oper.wp_mono (fun a' w' ⟨β', hh⟩ => ⟨_, β', hh, h4⟩) (R.sound h h1 h3 h2)
theorem aop_wp {P : Program} {c : Ctx} {Q : Exit → Act → World → Prop} {o : Oper} {s : St} {a : Act} {w : World} {β : Nat → Nat} {K : St → Prop} (h : Rel P c s a w β) (hk : aop P o s K) : o.wp P a w (fun a' w' => ∃ s' β', Rel P c s' a' w' β' ∧ K s') Q := hk c a w β Q h
theorem aop_mono {P : Program} {o : Oper} {s : St} {K K' : St → Prop} (h : aop P o s K) (hk : ∀ s, K s → K' s) : aop P o s K' :=
 fun c a w β Q hr => Oper.wp_mono (fun a' w' ⟨s', β', h1, h2⟩ => ⟨s', β', h1, hk _ h2⟩) (h c a w β Q hr)
def CallOk (P : Program) (F : FuncId) (args : List D) (dst : Option Nat) (s : St) (K : St → Prop) : Prop :=
 ∀ c a w β vs, Rel P c s a w β → Z (VD P (c.g w β s.obj)) args vs → Calls P F vs.toArray w fun e w' => ∃ v s' β', e = .returned v ∧ Rel P c s' (a.put dst v) w' β' ∧ K s'
theorem aop_call {P : Program} {o : Oper} {s : St} {K : St → Prop} (f : Operand) (args : Array Operand) (tys : Array TypeId) (hx : o.op = .call { callee := .value f, args, argTypes := tys }) (F : FuncId) (caps : List D) (hf : s.ev f = .fn F caps)
  (hF : ((P.funcs[F]?).map fun fn => fn.name != "runtime.NumGoroutine" && fn.body.isSome) = some true) (hc : CallOk P F (args.toList.map s.ev ++ caps) o.dst s K) : aop P o s K := by
 intro c a w β Q h
 obtain ⟨cv, f1, hcv⟩ := (hf ▸ h.ev f : VD P (c.g w β s.obj) (.fn F caps) (a.eval f)).fn_inv
 obtain ⟨fn, hfn, hF⟩ := Option.map_eq_some_iff.1 hF
 simp only [Bool.and_eq_true, bne_iff_ne, ne_eq] at hF
 have zz : Z (VD P (c.g w β s.obj)) (args.toList.map s.ev ++ caps) (args.toList.map a.eval ++ cv) := (Z.evs h args.toList).append hcv
 have hex : (execOp a.eval o).run P w = .ok (.enter F (args.toList.map a.eval ++ cv).toArray) w := by
  have hb : fn.body.isNone = false := by cases hbb : fn.body <;> simp_all
  have hnn : (fn.name == "runtime.NumGoroutine") = false := by simpa using hF.1
  have hbn : ¬ fn.body = none := by intro e; rw [e] at hb; cases hb
  have ha : (args.toList.map a.eval ++ cv).toArray = Array.map a.eval args ++ cv.toArray := by
   apply Array.ext'; simp
  rw [ha]
  simp [execOp, hx, resolve, f1, Deferred.ofValue, invoke, callFunc, hfn, hF.1, hbn]
 unfold Oper.wp
 rw [hex]
 simp only [Oper.upon]
 refine Calls.mono (hc c a w β _ h zz) fun e w' he => ?_
 obtain ⟨v, s', β', rfl, h1, h2⟩ := he
 exact ⟨s', β', h1, h2⟩
theorem CallOk.ac {P : Program} {F : FuncId} {args : List D} {dst : Option Nat} {s : St} {K : St → Prop} {r : D} (hc : AC P F args r) (hd : ∀ t, dst = some t → t < s.n) (hk : K (s.app dst r [] none)) : CallOk P F args dst s K := by
 intro c a w β vs h zz
 have hm := h.mem
 refine Calls.mono (hc (c.g w β s.obj) _ (fun id o ho => hm.lt id o ho) (fun b hb => by
  rcases hb with hb | ⟨i, o', h1, h2⟩
  ·exact Nat.lt_of_lt_of_le (hm.mlt b hb).1 hm.size
  ·exact h2 ▸ hm.lt i o' h1) zz) fun e w' he => ?_
 obtain ⟨v, rfl, hv, h1, h2, h3, h4, h5⟩ := he
 obtain ⟨hmq, hkq⟩ := hm.quiet h1 h5 h2 h3 h4
 exact ⟨v, _, β, rfl, h.put hd (by rw [obj_app0]; exact hmq) (by rw [obj_app0]; exact hkq) (by rw [obj_app0]; exact hv), hk⟩
def aops (P : Program) (ops : Array Oper) : List Oper → St → (St → Prop) → Prop
 | [], s, K => K s
 | o :: os, s, K => match o.guard with
  | none => aop P o s fun s' => aops P ops os s' K
  | some (j, want) => (∃ t, gslot ops j = some t ∧ s.get t = .tup [] ∧ (∀ t, o.dst = some t → t < s.n) ∧ aops P ops os (s.app o.dst (.tup []) [] none) K) ∨ ∃ t b, gslot ops j = some t ∧ (s.get t).norm = .i (.bool b) ∧ (b = want → (True ∧ aop P o s fun s' => aops P ops os s' K) ∨ (aop P o (s.over t (.kb want)) fun s' => aops P ops os s' K)) ∧
   (b ≠ want → (∀ t, o.dst = some t → t < s.n) ∧ (aops P ops os (s.app o.dst (.tup []) [] none) K ∨ aops P ops os ((s.over t (.kb !want)).app o.dst (.tup []) [] none) K))
section
variable {P : Program} {c : Ctx} {s : St} {a : Act} {w : World} {β : Nat → Nat} {ops : Array Oper} {Q : Exit → Act → World → Prop}
theorem Rel.skip (h : Rel P c s a w β) {dst : Option Nat} (hd : ∀ t, dst = some t → t < s.n) (v : Value) : Rel P c (s.app dst .any [] none) (a.put dst v) w β :=
 h.put hd (by rw [obj_app0]; exact h.mem) (by rw [obj_app0]; exact .refl _) (by rw [obj_app0]; exact .any _)
theorem Rel.skipU (h : Rel P c s a w β) {dst : Option Nat} (hd : ∀ t, dst = some t → t < s.n) : Rel P c (s.app dst (.tup []) [] none) (a.put dst undef) w β :=
 h.put hd (by rw [obj_app0]; exact h.mem) (by rw [obj_app0]; exact .refl _) (by rw [obj_app0]; exact .tup [] [] rfl (by simp))
theorem wanted_undef (h : Rel P c s a w β) {o : Oper} {j t : Nat} {want : Bool} (hg : o.guard = some (j, want)) (ht : gslot ops j = some t) (hb : s.get t = .tup []) : Region.wanted o (yielded ops a.tmps) = false := by
 have hv : a.tmps.getD t undef = undef := by
  have h1 := h.slot t
  rw [hb] at h1
  generalize a.tmps.getD t undef = v at h1
  cases h1 with
  | tup _ vs hl hh =>
   have : vs = [] := List.length_eq_zero_iff.1 hl
   subst this; rfl
 unfold Region.wanted
 rw [hg]
 unfold gslot at ht
 simp only [yielded, ht, Option.bind_some]
 cases hx : a.tmps[t]? with
 | none => rfl
 | some v =>
  rw [Array.getD_eq_getD_getElem?, hx, Option.getD_some] at hv
  subst hv
  rfl
theorem wanted_of (h : Rel P c s a w β) {o : Oper} {j t : Nat} {want b : Bool} (hg : o.guard = some (j, want)) (ht : gslot ops j = some t) (hb : (s.get t).norm = .i (.bool b)) (hlt : t < s.n) : Region.wanted o (yielded ops a.tmps) = (b == want) := by
 have hv := (hb ▸ (h.slot t).norm : VD P (c.g w β s.obj) (.i (.bool b)) (a.tmps.getD t undef)).bool_inv
 have hget : a.tmps[t]? = some (.bool b) := by
  rw [Array.getD_eq_getD_getElem?] at hv
  rw [Array.getElem?_eq_getElem (by rw [h.size]; exact hlt)] at hv ⊢
  simpa using hv
 unfold Region.wanted
 rw [hg]
 unfold gslot at ht
 simp [yielded, ht, hget]
theorem get_lt (h : Rel P c s a w β) {t : Nat} {b : Bool} (hb : (s.get t).norm = .i (.bool b)) : t < s.n := by
 rcases Nat.lt_or_ge t s.n with h1 | h1
 ·exact h1
 ·have hv := (hb ▸ (h.slot t).norm : VD P (c.g w β s.obj) (.i (.bool b)) (a.tmps.getD t undef)).bool_inv
  rw [Array.getD_eq_getD_getElem?, Array.getElem?_eq_none (by rw [h.size]; exact h1)] at hv
  cases hv
theorem aops_sound {K : St → Prop} (hQ : ∀ s' a' w' β', Rel P c s' a' w' β' → K s' → Q .normal a' w') : ∀ (os : List Oper) (k : Nat) (s : St) (a : Act) (w : World) (β : Nat → Nat), (∀ i, os[i]? = ops[k + i]?) → Rel P c s a w β → aops P ops os s K →
  wpOps P ops Q (List.range' k os.length) a w
 | [], k, s, a, w, β, _, h, hk => hQ s a w β h hk
 | o :: os, k, s, a, w, β, hops, h, hk => by
  have ho : ops[k]? = some o := by have := hops 0; simpa using this.symm
  have hrest : ∀ i, os[i]? = ops[k + 1 + i]? := fun i => by have := hops (i + 1); simpa [Nat.add_assoc, Nat.add_comm 1 i] using this
  simp only [List.length_cons, List.range'_succ, wpOps, ho]
  have run : ∀ s, Rel P c s a w β → aop P o s (fun s' => aops P ops os s' K) → o.wp P a w (wpOps P ops Q (List.range' (k + 1) os.length)) Q := fun s h hr =>
   Oper.wp_mono (fun a' w' ⟨s', β', hh, h4⟩ => aops_sound hQ os (k + 1) s' a' w' β' hrest hh h4) (hr c a w β Q h)
  simp only [aops] at hk
  split at hk
  ·rename_i hg
   have hw : Region.wanted o (yielded ops a.tmps) = true := by simp [Region.wanted, hg]
   rw [if_pos hw]
   exact .inl (run s h hk)
  ·rename_i j want hg
   rcases hk with ⟨t, ht, hb, hlt, hk⟩ | hk
   ·rw [if_neg (by rw [wanted_undef h hg ht hb]; simp)]
    exact aops_sound hQ os (k + 1) _ _ w β hrest (h.skipU hlt) hk
   obtain ⟨t, b, ht, hb, hyes, hno⟩ := hk
   have hw := wanted_of h hg ht hb (get_lt h hb)
   by_cases hbw : b = want
   ·rw [if_pos (by rw [hw, hbw]; simp)]
    rcases hyes hbw with ⟨_, hy⟩ | hy
    ·exact .inl (run s h hy)
    ·exact .inl (run _ (h.over (by rw [hb, hbw]; rfl)) hy)
   ·rw [if_neg (by rw [hw]; simpa using hbw)]
    obtain ⟨h3, h4⟩ := hno hbw
    have h' : Rel P c (s.over t (.kb !want)) a w β := h.over (by rw [hb]; cases b <;> cases want <;> simp_all [D.norm])
    rcases h4 with h4 | h4
    ·exact aops_sound hQ os (k + 1) _ _ w β hrest (h.skipU h3) h4
    ·exact aops_sound hQ os (k + 1) _ _ w β hrest (h'.skipU h3) h4
def Aw (P : Program) (x : Code) (Q : Exit → St → Prop) (s : St) : Prop :=
 ∀ c a w β, Rel P c s a w β → x.wp P (fun e a' w' => ∃ s' β', Rel P c s' a' w' β' ∧ Q e s') a w
def thenS (next : St → Prop) (Q : Exit → St → Prop) : Exit → St → Prop
 | .normal, s => next s
 | e, s => Q e s
def inBlockS (id : Nat) (Q : Exit → St → Prop) : Exit → St → Prop
 | .exit id', s => if id' = id then Q .normal s else Q (.exit id') s
 | e, s => Q e s
def aopsD (P : Program) (id : Nat) (ops : Array Oper) (s : St) (K : St → Prop) : Prop := Aw P (.region id ops true) (fun e s' => match e with | .normal => K s' | _ => False) s
def awp (P : Program) : Code → (Exit → St → Prop) → St → Prop
 | .skip, Q, s => Q .normal s
 | .label _, Q, s => Q .normal s
 | .region id ops draw, Q, s => if draw then aopsD P id ops s (Q .normal) else aops P ops ops.toList s (Q .normal)
 | .seq x y, Q, s => awp P x (thenS (awp P y Q) Q) s
 | .cond c x y, Q, s => ∃ t, (s.ev c).norm = .i (.bool t) ∧ (t = true → awp P x Q s) ∧ (t = false → awp P y Q s)
 | .block id x, Q, s => awp P x (inBlockS id Q) s
 | .exit id, Q, s => Q (.exit id) s
 | .ret, Q, s => Q .ret s
 | .loop x, Q, s => Aw P (.loop x) Q s
 | _, _, _ => False
theorem Aw.mono {x : Code} {Q Q' : Exit → St → Prop} {s : St} (h : Aw P x Q s) (hq : ∀ e s, Q e s → Q' e s) : Aw P x Q' s :=
 fun c a w β hr => wp_mono (h c a w β hr) fun e a w ⟨s', β', h1, h2⟩ => ⟨s', β', h1, hq e s' h2⟩
theorem awp_sound : ∀ (x : Code) (Q : Exit → St → Prop) (s : St), awp P x Q s → Aw P x Q s
 | .skip, Q, s, h => fun c a w β hr => wp_skip ⟨s, β, hr, h⟩
 | .label _, Q, s, h => fun c a w β hr => wp_label ⟨s, β, hr, h⟩
 | .region id ops true, Q, s, h => by
  simp only [awp, if_true, aopsD] at h
  exact h.mono fun e s' h' => by cases e <;> first | exact h' | cases h'
 | .region id ops false, Q, s, h => fun c a w β hr => by
  simp only [awp, Bool.false_eq_true, if_false] at h
  refine wp_region ?_
  have := aops_sound (P := P) (c := c) (ops := ops) (Q := fun e a' w' => ∃ s' β', Rel P c s' a' w' β' ∧ Q e s') (K := Q .normal) (fun s' a' w' β' h1 h2 => ⟨s', β', h1, h2⟩) ops.toList 0 s a w β (fun i => by simp) hr h
  rw [List.range_eq_range']
  simpa using this
 | .seq x y, Q, s, h => fun c a w β hr => by
  refine wp_seq (wp_mono (awp_sound x _ s h c a w β hr) fun e a' w' ⟨s', β', h1, h2⟩ => ?_)
  cases e with
  | normal => exact awp_sound y Q s' h2 c a' w' β' h1
  | _ => exact ⟨s', β', h1, h2⟩
 | .cond cc x y, Q, s, h => fun c a w β hr => by
  obtain ⟨t, ht, h1, h2⟩ := h
  have hv := (ht ▸ (hr.ev cc).norm : VD P (c.g w β s.obj) (.i (.bool t)) (a.eval cc)).bool_inv
  refine wp_cond hv ?_
  cases t
  ·exact awp_sound y Q s (h2 rfl) c a w β hr
  ·exact awp_sound x Q s (h1 rfl) c a w β hr
 | .block id x, Q, s, h => fun c a w β hr => by
  refine wp_block (wp_mono (awp_sound x _ s h c a w β hr) fun e a' w' ⟨s', β', h1, h2⟩ => ?_)
  cases e with
  | exit id' =>
   simp only [Exit.inBlock, inBlockS] at h2 ⊢
   by_cases hid : id' = id
   ·rw [if_pos hid] at h2 ⊢; exact ⟨s', β', h1, h2⟩
   ·rw [if_neg hid] at h2 ⊢; exact ⟨s', β', h1, h2⟩
  | _ => exact ⟨s', β', h1, h2⟩
 | .exit id, Q, s, h => fun c a w β hr => wp_exit ⟨s, β, hr, h⟩
 | .ret, Q, s, h => fun c a w β hr => wp_ret ⟨s, β, hr, h⟩
 | .loop x, Q, s, h => h
 | .rangeFunc .., _, _, h => h.elim
 | .scope _, _, _, h => h.elim
 | .goto _, _, _, h => h.elim
 | .refuse _, _, _, h => h.elim
theorem Aw.loop {x : Code} {Q : Exit → St → Prop} {s : St} (I : St → Prop) (μ : St → Nat) (h0 : I s) (round : ∀ s, I s → awp P x (thenS (fun s' => I s' ∧ μ s' < μ s) Q) s) : Aw P (.loop x) Q s := by
 intro c a w β hr b k cs
 have key : ∀ n s a w β, μ s = n → I s → Rel P c s a w β →
   ∃ e a' w', (∃ s' β', Rel P c s' a' w' β' ∧ Q e s') ∧ Arrives P (lone (b.at a (.code x :: .inLoop x :: k)) cs w) b k cs e a' w' := by
  intro n
  induction n using Nat.strongRecOn with
  | _ n ih =>
   intro s a w β hn hI hr
   obtain ⟨e, a₁, w₁, ⟨s', β', h1, h2⟩, harr⟩ := awp_sound x _ s (round s hI) c a w β hr b (.inLoop x :: k) cs
   cases e with
   | normal =>
    obtain ⟨hI₁, hlt⟩ := h2
    obtain ⟨e₂, a₂, w₂, hq₂, harr₂⟩ := ih (μ s') (hn ▸ hlt) s' a₁ w₁ β' rfl hI₁ h1
    exact ⟨e₂, a₂, w₂, hq₂, .of_steps (Steps.trans harr (.one step_inLoop)) harr₂⟩
   | exit id => exact ⟨_, a₁, w₁, ⟨s', β', h1, h2⟩, .pass (x := .inLoop x) rfl (fun _ _ => .inl (by simp)) harr⟩
   | goto l => exact ⟨_, a₁, w₁, ⟨s', β', h1, h2⟩, .pass (x := .inLoop x) rfl (fun _ _ => .inl (by simp)) harr⟩
   | ret => exact ⟨_, a₁, w₁, ⟨s', β', h1, h2⟩, .pass (x := .inLoop x) rfl (fun _ _ => .inl (by simp)) harr⟩
   | panic ch => exact ⟨_, a₁, w₁, ⟨s', β', h1, h2⟩, .pass (x := .inLoop x) rfl (fun _ _ => .inl (by simp)) harr⟩
   | outgrown => exact ⟨_, a₁, w₁, ⟨s', β', h1, h2⟩, .pass (x := .inLoop x) rfl (fun _ _ => .inl (by simp)) harr⟩
 obtain ⟨e, a', w', hq, harr⟩ := key _ s a w β rfl h0 hr
 exact ⟨e, a', w', hq, .of_steps (.one step_loop) harr⟩
end
end Go.Lw
end
section
namespace Go.Lw
def sliceTold : D → Option Bool
 | .i x => match x with
  | .sl _ xs => some (!xs.isEmpty)
  | _ => none
 | .nils => some false
 | _ => none
theorem sliceTold_spec {P : Program} {g : G} {d : D} {v : Value} {t : Bool} (h : VD P g d v) (ht : sliceTold d = some t) : ∃ A n c, v = .slice A n c ∧ (t = true → A.isNone = false) := by
 cases h with
 | i x v hv =>
  cases hv with
  | sl0 E A cap => simp [sliceTold] at ht; subst ht; exact ⟨A, 0, cap, rfl, fun h => (by cases h)⟩
  | sl E xs b off cap us => exact ⟨_, _, _, rfl, fun _ => rfl⟩
  | _ => simp [sliceTold] at ht
 | nils A => simp [sliceTold] at ht; subst ht; exact ⟨A, 0, 0, rfl, fun h => (by cases h)⟩
 | _ => simp [sliceTold] at ht
theorem equalIn_nil {P : Program} {T E : TypeId} (hT : P.underlying T = some (.slice E)) (d : Nat) (A : Option Addr) (n c m k : Nat) (w : World) :
  (Op.equalIn (d + 1) T (.slice A n c) (.slice none m k)).run P w = .ok A.isNone w := by
 unfold Op.equalIn
 cases A <;> simp [run_underlying hT]
theorem nil_run {P : Program} {T E : TypeId} (hT : P.underlying T = some (.slice E)) (op : BinOp) (hop : op = .eql ∨ op = .neq) (A : Option Addr) (n c m k : Nat) (x y : Operand) (w : World) :
  (do eqGuard op T x y (.slice A n c) (.slice none m k); binOp op T (.slice A n c) (.slice none m k) : Sem Value).run P w = .ok (.bool (A.isNone == (op == .eql))) w := by
 have h := equalIn_nil hT 9999 A n c m k w
 have e : Op.equal T (.slice A n c) (.slice none m k) = Op.equalIn (9999 + 1) T (.slice A n c) (.slice none m k) := rfl
 rcases hop with rfl | rfl
 ·have e2 : binOp .eql T (.slice A n c) (.slice none m k) = (do pure (.bool (← Op.equal T (.slice A n c) (.slice none m k)))) := rfl
  rw [e2, e]
  simp only [eqGuard, Sem.run_bind]
  simp [h]
 ·have e2 : binOp .neq T (.slice A n c) (.slice none m k) = (do pure (.bool (!(← Op.equal T (.slice A n c) (.slice none m k))))) := rfl
  rw [e2, e]
  simp only [eqGuard, Sem.run_bind]
  simp [h]
  cases A <;> rfl
theorem aop_nil {P : Program} {o : Oper} {s : St} {K : St → Prop} (op : BinOp) (hop : op = .eql ∨ op = .neq) (T T' : TypeId) (x : Operand) (m k : Nat) (hx : o.op = .binOp op T x (.const (.slice none m k)) T') {E : TypeId} (hT : slE P T = some E)
  {t : Bool} (ht : sliceTold (s.ev x) = some t) (hd : ∀ t, o.dst = some t → t < s.n) (h : ∀ b, (t = true → b = (op == .neq)) → K (s.app o.dst (.kb b) [] none)) : aop P o s K := by
 intro c a w β Q hr
 obtain ⟨A, n, cp, hv, hA⟩ := sliceTold_spec (hr.ev x) ht
 have hb : t = true → (A.isNone == (op == .eql)) = (op == .neq) := fun e => by rw [hA e]; rcases hop with rfl | rfl <;> rfl
 refine Oper.wp_mono (fun a' w' ⟨β', hh⟩ => ⟨_, β', hh, h (A.isNone == (op == .eql)) hb⟩) (wp_of_gives hr (x := do eqGuard op T x (.const (.slice none m k)) (a.eval x) (a.eval (.const (.slice none m k))); binOp op T (a.eval x) (a.eval (.const (.slice none m k)))) (by simp only [execOp, hx]) hd ?_)
 rw [obj_app0, hv]
 exact Gives.here hr.mem (nil_run (slE_eq hT) op hop A n cp m k x _ w) (.kb _)
end Go.Lw
end
section
namespace Go.Lw
theorem gives_min {P : Program} {c : Ctx} {ob : Nat → Option Ob} {w : World} {β : Nat → Nat} (hm : Mem P c ob w β) (tys : Array TypeId) (ty : TypeId) {k : IntKind} {a b : Int} {v u : Value} (hv : VD P (c.g w β ob) (.i (.int k a)) v) (hu : VD P (c.g w β ob) (.i (.int k b)) u) :
  Gives P c ob w β (Builtin.min_ tys ty #[v, u]) (.i (.int k (min a b))) ob := by
 cases hv with
 | i _ _ hv => cases hv with
  | int => cases hu with
   | i _ _ hu => cases hu with
    | int =>
     refine Gives.here hm (v := .int k (min a b)) ?_ (.i _ _ (.int _ _))
     have : (if b < a then b else a) = min a b := by split <;> omega
     simp [Builtin.min_, Builtin.min2, this]
theorem aop_min {P : Program} {o : Oper} {s : St} {K : St → Prop} (x y : Operand) (tys : Array TypeId) (hx : o.op = .call { callee := .builtin .min, args := #[x, y], argTypes := tys }) {k : IntKind} {a b : Int} (h1 : s.ev x = .i (.int k a)) (h2 : s.ev y = .i (.int k b))
  (hd : ∀ t, o.dst = some t → t < s.n) (h : K (s.app o.dst (.i (.int k (min a b))) [] none)) : aop P o s K := by
 intro c a' w β Q hr
 refine Oper.wp_mono (fun a' w' ⟨β', hh⟩ => ⟨_, β', hh, h⟩) (wp_of_gives hr (x := Builtin.min_ tys o.type #[a'.eval x, a'.eval y]) (by simp [execOp, hx, resolve, invoke, builtin]) hd ?_)
 rw [obj_app0]
 exact gives_min hr.mem tys o.type (by rw [← h1]; exact hr.ev x) (by rw [← h2]; exact hr.ev y)
end Go.Lw
end
section
namespace Go.Lw
def allM {α γ : Type} (f : α → Option γ) : List α → Option (List γ)
 | [] => some []
 | d :: ds => match f d, allM f ds with
  | some x, some xs => some (x :: xs)
  | _, _ => none
theorem allM_spec {α γ : Type} {f : α → Option γ} {ds : List α} {xs : List γ} (h : allM f ds = some xs) : xs.length = ds.length ∧ ∀ (j : Nat) (d : α) (x : γ), ds[j]? = some d → xs[j]? = some x → f d = some x := by
 induction ds generalizing xs with
 | nil => simp [allM] at h; subst h; simp
 | cons d ds ih =>
  simp only [allM] at h
  split at h
  ·rename_i y ys h1 h2
   cases h
   obtain ⟨a, b⟩ := ih h2
   refine ⟨by simp [a], fun j e x he hx => ?_⟩
   cases j with
   | zero => simp at he hx; subst he hx; exact h1
   | succ j => exact b j e x (by simpa using he) (by simpa using hx)
  ·cases h
def settle (q : Nat → Option Ob) : Nat → D → Option I
 | _, .i x => some x
 | _, .nils => some (.sl 0 [])
 | _, .kb b => some (.bool b)
 | _, .own id ver off len => match q id with
  | some (.arr E ver' xs) => if ver' = ver then some (.sl E ((xs.drop off).take len)) else none
  | _ => none
 | n + 1, .loc id c => match q id with
  | some (.var _ cs) => (allM (settle q n) cs).map (fun ys => .ptr (ys.drop c))
  | _ => none
 | _, .lmap id => match q id with
  | some (.map es) => some (.map es)
  | _ => none
 | n + 1, .agg ds => (allM (settle q n) ds).map .agg
 | n + 1, .fn f caps => (allM (settle q n) caps).map (.fn f)
 | _, _ => none
section
variable {P : Program} {c : Ctx} {ob : Nat → Option Ob} {w : World} {β : Nat → Nat}
theorem settle_VS (hm : Mem P c ob w β) {F : Nat → Prop} (hF : ∀ b, F b → (c.g w β ob).F b) {q : Nat → Option Ob} (hq : ∀ id o, q id = some o → ob id = some o) (hF2 : ∀ id o, q id = some o → ¬ F (β id)) : ∀ (n : Nat) (d : D) (v : Value) (x : I), VD P (c.g w β ob) d v → settle q n d = some x → V P w F x v := by
 have mono : ∀ {x : I} {v : Value}, V P w (c.g w β ob).F x v → V P w F x v := fun h => h.mono (Nat.le_refl _) (fun _ _ _ => rfl) (fun b _ hb => hF b hb)
 intro n
 induction n with
 | zero =>
  intro d v x hv hs
  cases hv with
  | i y v h => simp [settle] at hs; subst hs; exact mono h
  | nils A => simp [settle] at hs; subst hs; exact .sl0 0 A 0
  | kb b => simp [settle] at hs; subst hs; exact .bool b
  | own id ver off len cap E xs cur ho hl hc hb hcap hmx => exact own hm mono hq hF2 ho (.own id ver off len cap E xs cur ho hl hc hb hcap hmx) (by simpa [settle] using hs)
  | ownd id ver off len cap E xs ho hl hc => exact (noD hq ho (by simpa [settle] using hs)).elim
  | ownStale id ver ver' off len E xs v ho hlt hv => exact (noS hq ho hlt (by simpa [settle] using hs)).elim
  | lmap id es ho => exact mp hm mono hq hF2 ho (by simpa [settle] using hs)
  | _ => simp [settle] at hs
 | succ n ih =>
  intro d v x hv hs
  cases hv with
  | i y v h => simp [settle] at hs; subst hs; exact mono h
  | nils A => simp [settle] at hs; subst hs; exact .sl0 0 A 0
  | kb b => simp [settle] at hs; subst hs; exact .bool b
  | own id ver off len cap E xs cur ho hl hc hb hcap hmx => exact own hm mono hq hF2 ho (.own id ver off len cap E xs cur ho hl hc hb hcap hmx) (by simpa [settle] using hs)
  | ownd id ver off len cap E xs ho hl hc => exact (noD hq ho (by simpa [settle] using hs)).elim
  | ownStale id ver ver' off len E xs v ho hlt hv => exact (noS hq ho hlt (by simpa [settle] using hs)).elim
  | lmap id es ho => exact mp hm mono hq hF2 ho (by simpa [settle] using hs)
  | loc id k T cs ho =>
   have ho' : ob id = some (.var T cs) := ho
   cases hqi : q id with
   | none => simp [settle, hqi] at hs
   | some o =>
   have h3 := hq id o hqi
   rw [ho'] at h3
   cases h3
   simp only [settle, hqi, Option.map_eq_some_iff] at hs
   obtain ⟨ys, hy, rfl⟩ := hs
   obtain ⟨a1, a2⟩ := allM_spec hy
   have hr := hm.obs id _ ho
   cases hr with
   | var _ _ vs hb hl h h1 =>
    simp only [Ctx.g] at hb
    refine .ptr (ys.drop k) (β id) k (vs.drop k) (by simp [a1, hl]) (fun j y u hy' hu => ?_) (fun u hu => h1 u (List.mem_of_mem_drop hu)) (fun m e he => ?_) (hm.lt id _ ho) (hF2 id _ hqi)
    ·have hy2 : ys[k + j]? = some y := by simpa using hy'
     obtain ⟨dd, hdd⟩ := get_of_len a1 hy2
     exact ih dd u y (h (k + j) dd u hdd (by simpa using hu)) (a2 (k + j) dd y hdd hy2)
    ·simp only [List.getElem?_drop] at he
     simp [World.cell?, hb, he]
  | agg ds vs hl h h1 =>
   simp only [settle, Option.map_eq_some_iff] at hs
   obtain ⟨ys, hy, rfl⟩ := hs
   obtain ⟨a1, a2⟩ := allM_spec hy
   refine .agg ys vs (by omega) (fun j y u hy' hu => ?_) h1
   obtain ⟨dd, hdd⟩ := get_of_len a1 hy'
   exact ih dd u y (h j dd u hdd hu) (a2 j dd y hdd hy')
  | fn f ds vs hl h =>
   simp only [settle, Option.map_eq_some_iff] at hs
   obtain ⟨ys, hy, rfl⟩ := hs
   obtain ⟨a1, a2⟩ := allM_spec hy
   refine .fn f ys vs (by omega) (fun j y u hy' hu => ?_)
   obtain ⟨dd, hdd⟩ := get_of_len a1 hy'
   exact ih dd u y (h j dd u hdd hu) (a2 j dd y hdd hy')
  | _ => simp [settle] at hs
where
 noD {q : Nat → Option Ob} {x : I} (hq : ∀ id o, q id = some o → ob id = some o) {id ver off len : Nat} {E : TypeId} {xs : List D} (ho : ob id = some (.arrd E ver xs)) (hs : (match q id with
  | some (.arr E ver' xs) => if ver' = ver then some (I.sl E ((xs.drop off).take len)) else none
  | _ => none) = some x) : False := by
  cases hqi : q id with
  | none => rw [hqi] at hs; cases hs
  | some o => have h3 := hq id o hqi; rw [ho] at h3; cases h3; rw [hqi] at hs; cases hs
 noS {q : Nat → Option Ob} {x : I} (hq : ∀ id o, q id = some o → ob id = some o) {id ver ver' off len : Nat} {E : TypeId} {xs : List I} (ho : ob id = some (.arr E ver' xs)) (hlt : ver < ver') (hs : (match q id with
  | some (.arr E ver' xs) => if ver' = ver then some (I.sl E ((xs.drop off).take len)) else none
  | _ => none) = some x) : False := by
  cases hqi : q id with
  | none => rw [hqi] at hs; cases hs
  | some o => have h3 := hq id o hqi; rw [ho] at h3; cases h3; rw [hqi] at hs; simp only at hs; rw [if_neg (by omega)] at hs; cases hs
 own {F : Nat → Prop} (hm : Mem P c ob w β) (mono : ∀ {x : I} {v : Value}, V P w (c.g w β ob).F x v → V P w F x v) {q : Nat → Option Ob} (hq : ∀ id o, q id = some o → ob id = some o) (hF2 : ∀ id o, q id = some o → ¬ F (β id)) {id ver off len : Nat} {E : TypeId} {xs : List I} {v : Value} {x : I} (ho : ob id = some (.arr E ver xs))
     (hv : VD P (c.g w β ob) (.own id ver off len) v) (hs : (match q id with
  | some (.arr E ver' xs) => if ver' = ver then some (I.sl E ((xs.drop off).take len)) else none
  | _ => none) = some x) : V P w F x v := by
  cases hqi : q id with
  | none => rw [hqi] at hs; cases hs
  | some o =>
  have h3 := hq id o hqi
  rw [ho] at h3
  cases h3
  rw [hqi] at hs
  simp only [if_true] at hs
  cases hs
  cases hv with
  | ownd _ _ _ _ cap E2 xs2 ho2 => have h3 : ob id = some (.arrd E2 ver xs2) := ho2; rw [ho] at h3; cases h3
  | ownStale _ _ ver' _ _ E2 xs2 v ho2 hlt => have h3 : ob id = some (.arr E2 ver' xs2) := ho2; rw [ho] at h3; cases h3; omega
  | own _ _ _ _ cap E2 xs2 cur ho2 hl hc hb hcap hmx =>
   have : E2 = E ∧ xs2 = xs := by have h3 : ob id = some (.arr E2 ver xs2) := ho2; rw [ho] at h3; cases h3; exact ⟨rfl, rfl⟩
   obtain ⟨rfl, rfl⟩ := this
   have hr := hm.obs id _ ho
   cases hr with
   | arr _ _ _ cur2 us hb2 hl2 ht h hsz hmm =>
    have hlen : ((xs2.drop off).take len).length = len := by simp; omega
    have zz : Z (V P w (c.g w β ob).F) ((xs2.drop off).take len) ((us.drop off).take len) := ((⟨hl2, h⟩ : Z (V P w (c.g w β ob).F) xs2 us).drop off).take len
    have := V.sl (P := P) (w := w) (F := F) E2 ((xs2.drop off).take len) (β id) (off * P.cellsOf E2) cap ((us.drop off).take len) zz.len (by omega) (by omega) (fun j y u hy hu => mono (zz.at_ j y u hy hu)) (fun j u hu => ?_) (fun j u m e hu he => ?_) (hm.lt id _ ho) (hF2 id _ hqi)
    ·rw [hlen] at this; exact this
    ·rw [List.getElem?_take] at hu
     split at hu
     ·exact hsz _ u (by simpa using hu)
     ·cases hu
    ·rw [List.getElem?_take] at hu
     split at hu
     ·have := hmm _ u m e (by simpa using hu) he
      rw [Nat.add_mul] at this
      simp only [Ctx.g] at hb2
      simp [World.cell?, hb2, this]
     ·cases hu
 mp {F : Nat → Prop} (hm : Mem P c ob w β) (mono : ∀ {x : I} {v : Value}, V P w (c.g w β ob).F x v → V P w F x v) {q : Nat → Option Ob} (hq : ∀ id o, q id = some o → ob id = some o) (hF2 : ∀ id o, q id = some o → ¬ F (β id)) {id : Nat} {es : List (I × I)} {x : I} (ho : ob id = some (.map es))
   (hs : (match q id with
  | some (.map es) => some (I.map es)
  | _ => none) = some x) : V P w F x (.map (some (β id))) := by
  cases hqi : q id with
  | none => rw [hqi] at hs; cases hs
  | some o =>
  have h3 := hq id o hqi
  rw [ho] at h3
  cases h3
  rw [hqi] at hs
  cases hs
  have hr := hm.obs id _ ho
  cases hr with
  | map _ ms clock hr hl hk hv => exact .map es (β id) ms clock hr hl (fun j e m a b => mono (hk j e m a b)) (fun j e m a b => mono (hv j e m a b)) (hF2 id _ hqi)
theorem settle_V (hm : Mem P c ob w β) {F : Nat → Prop} (hF : ∀ b, F b → c.M b) (hF2 : ∀ id o, ob id = some o → ¬ F (β id)) (n : Nat) (d : D) (v : Value) (x : I) (h1 : VD P (c.g w β ob) d v) (h2 : settle ob n d = some x) : V P w F x v :=
 settle_VS hm (fun b hb => .inl (hF b hb)) (fun _ _ h => h) hF2 n d v x h1 h2
end
def resD (P : Program) (s : St) : ResultVar → Option D
 | .tmp t => some (s.get t)
 | .cell t T => (cellsAt s.obj (s.get t)).bind (loadD P T)
def retD (P : Program) (rs : List ResultVar) (s : St) : Option D := match allM (fun r => (resD P s r).bind (settle s.obj 8)) rs with
 | some [x] => some (.i x)
 | some xs => some (.tup (xs.map .i))
 | none => none
def retQ (P : Program) (rs : List ResultVar) (r : D) : Exit → St → Prop
 | .normal, s | .ret, s => retD P rs s = some r
 | _, _ => False
def D.plain : D → Bool
 | .i _ | .nils | .any | .kb _ => true
 | _ => false
def argSl : List D → Nat → List (Nat × D)
 | [], _ => []
 | d :: ds, k => (k, d) :: argSl ds (k + 1)
theorem look_argSl (ds : List D) : ∀ (k t : Nat), look (argSl ds k) t = if k ≤ t then ((ds[t - k]?).getD .any) else .any := by
 induction ds with
 | nil => intro k t; simp [argSl, look]
 | cons d ds ih =>
  intro k t
  simp only [argSl, look, ih]
  by_cases h : t = k
  ·subst h; simp
  ·rw [if_neg h]
   by_cases h2 : k ≤ t
   ·rw [if_pos (show k + 1 ≤ t by omega), if_pos h2, show t - k = (t - (k + 1)) + 1 by omega]; simp
   ·rw [if_neg (by omega), if_neg h2]
theorem ret_tell {P : Program} {g : G} {xs : List I} {us : List Value} {r : D} (e2 : Z (V P g.w g.F) xs us) (hret : (match (some xs : Option (List I)) with
 | some [x] => some (D.i x)
 | some xs => some (.tup (xs.map .i))
 | none => none) = some r) : VD P g r (if h : us.toArray.size = 1 then us.toArray[0] else .tuple us.toArray) := by
 match xs, us, e2 with
 | [x], us, e2 =>
  have hl := e2.len
  obtain ⟨u, rfl⟩ : ∃ u, us = [u] := by
   cases us with
   | nil => cases hl
   | cons u t => cases t with
    | nil => exact ⟨u, rfl⟩
    | cons _ _ => simp at hl
  simp at hret
  subst hret
  exact .i _ _ (e2.at_ 0 x u rfl rfl)
 | [], us, e2 =>
  have : us = [] := List.eq_nil_of_length_eq_zero e2.len
  subst this
  simp at hret; subst hret
  exact .tup [] [] rfl (by simp)
 | x :: y :: t, us, e2 =>
  simp at hret; subst hret
  have hl : us.length ≠ 1 := by have := e2.len; simp at this; omega
  have := VD.tup (P := P) (g := g) ((x :: y :: t).map .i) us (by simpa using e2.len) (fun j d v hd hv => by
   simp only [List.getElem?_map, Option.map_eq_some_iff] at hd
   obtain ⟨z, hz, rfl⟩ := hd
   exact .i _ _ (e2.at_ j z v hz hv))
  simpa [hl] using this
def gval (P : Program) (w : World) (tmps : Array Value) : ResultVar → Value
 | .tmp t => tmps.getD t undef
 | .cell ad T => match tmps.getD ad undef with
  | .pointer (some adr) => match (loadVar T adr).run P w with
   | .ok u _ => u
   | .halt _ _ => undef
  | _ => undef
def retP (P : Program) (rs : List ResultVar) (R : D → Prop) : Exit → St → Prop
 | .normal, s | .ret, s => ∃ r, R r ∧ retD P rs s = some r
 | _, _ => False
theorem AC.of_semW {P : Program} {f : FuncId} {fn : Func} {x : Code} {args : List D} {R : D → Prop} (hf : P.funcs[f]? = some fn) (hb : fn.body = some x) (hp : args.all D.plain = true) (hn : args.length ≤ fn.ntmps)
  (h : Aw P x (retP P fn.results.toList R) ⟨fn.ntmps, argSl args 0, []⟩) (g : G) (vs : List Value) (hlt : ∀ id o, g.ob id = some o → g.β id < g.w.heap.size) (hFlt : ∀ b, g.F b → b < g.w.heap.size) (hz : Z (VD P g) args vs) :
  Calls P f vs.toArray g.w fun e w' => ∃ r, R r ∧ ∃ v, e = .returned v ∧ VD P { g with w := w' } r v ∧
   g.w.heap.size ≤ w'.heap.size ∧ w'.os = g.w.os ∧ w'.tape = g.w.tape ∧ w'.output = g.w.output ∧ ∀ b, b < g.w.heap.size → w'.heap[b]? = g.w.heap[b]? := by
 let c : Ctx := ⟨g.w, fun b => g.F b, fun _ => False⟩
 have hm0 : Mem P c (fun _ => none) g.w (fun _ => 0) :=
  ⟨Nat.le_refl _, rfl, rfl, rfl, fun _ _ _ => rfl, fun b hb => ⟨hFlt b hb, fun h => h⟩, fun id o h => (by cases h), fun id id' o o' h => (by cases h), fun id o h => (by cases h), fun id o h => (by cases h)⟩
 have hr0 : Rel P c ⟨fn.ntmps, argSl args 0, []⟩ { tmps := vs.toArray ++ Array.replicate (fn.ntmps - vs.toArray.size) undef, defers := [] } g.w (fun _ => 0) := by
  refine ⟨hm0, rfl, by have := hz.len; simp; omega, fun t => ?_⟩
  show VD P _ (look (argSl args 0) t) _
  rw [look_argSl]
  simp only [Nat.zero_le, if_true, Nat.sub_zero]
  rcases Nat.lt_or_ge t args.length with ht | ht
  ·have hta : args[t]? = some args[t] := List.getElem?_eq_getElem ht
   obtain ⟨v, hv⟩ := get_of_len hz.len.symm hta
   rw [hta, Option.getD_some]
   have hval : (vs.toArray ++ Array.replicate (fn.ntmps - vs.toArray.size) undef).getD t undef = v := by
    rw [Array.getD_eq_getD_getElem?, Array.getElem?_append_left (by have := (List.getElem?_eq_some_iff.1 hv).1; simpa using this)]
    simp [hv]
   rw [hval]
   have hd := hz.at_ t _ v hta hv
   have hpl := List.all_eq_true.1 hp _ (List.getElem_mem ht)
   generalize args[t] = dd at hd hpl ⊢
   cases hd with
   | any v => exact .any v
   | nils A => exact .nils A
   | kb b => exact .kb b
   | i x v hx => exact .i x v (hx.mono (Nat.le_refl _) (fun _ _ _ => rfl) (fun b _ hb => by
       rcases hb with hb | ⟨i, o, h1, h2⟩
       ·exact hb
       ·cases h1))
   | _ => simp [D.plain] at hpl
  ·rw [List.getElem?_eq_none ht]
   exact .any _
 refine calls_of_wp hf hb (wp_mono (h c _ _ _ hr0) fun e a' w' ⟨s', β', hr, hq⟩ => ?_)
 have fin : (∃ r, R r ∧ retD P fn.results.toList s' = some r) → a'.defers = [] ∧ ∃ v, (results fn a'.tmps).run P w' = .ok v w' ∧ (∃ r, R r ∧ ∃ v_1, Ending.returned v = Ending.returned v_1 ∧ VD P { g with w := w' } r v_1 ∧
   g.w.heap.size ≤ w'.heap.size ∧ w'.os = g.w.os ∧ w'.tape = g.w.tape ∧ w'.output = g.w.output ∧ ∀ b, b < g.w.heap.size → w'.heap[b]? = g.w.heap[b]?) := by
  rintro ⟨r, hR, hret⟩
  have hmem := hr.mem
  have hframe : ∀ b, b < g.w.heap.size → w'.heap[b]? = g.w.heap[b]? := fun b hb => hmem.frame b hb (fun h => h)
  have hF2 : ∀ id o, s'.obj id = some o → ¬ g.F (β' id) := fun id o ho hF => by
   rcases hmem.mine id o ho with h1 | h1
   ·have := hFlt _ hF; exact absurd this (by have h2 : g.w.heap.size ≤ β' id := h1; omega)
   ·exact h1
  unfold retD at hret
  cases hall : allM (fun r => (resD P s' r).bind (settle s'.obj 8)) fn.results.toList with
  | none => rw [hall] at hret; cases hret
  | some xs =>
   obtain ⟨l1, l2⟩ := allM_spec hall
   obtain ⟨gv, hgv⟩ : ∃ gv : ResultVar → Value, ∀ rv, gv rv = gval P w' a'.tmps rv := ⟨_, fun _ => rfl⟩
   have each : ∀ (rv : ResultVar) (y : I), (resD P s' rv).bind (settle s'.obj 8) = some y →
     (∀ t, rv = .tmp t → gv rv = a'.tmps.getD t undef) ∧ (∀ ad T, rv = .cell ad T → ∃ adr, a'.tmps.getD ad undef = .pointer (some adr) ∧ (loadVar T adr).run P w' = .ok (gv rv) w') ∧ V P w' g.F y (gv rv) := by
    intro rv y hy
    obtain ⟨d, hd, hs⟩ := Option.bind_eq_some_iff.1 hy
    cases rv with
    | tmp t =>
     simp [resD] at hd
     subst hd
     have e : gv (.tmp t) = a'.tmps.getD t undef := by rw [hgv]; rfl
     refine ⟨(fun t' ht => by cases ht; exact e), (fun ad T h => by cases h), ?_⟩
     rw [e]
     exact settle_V hmem (fun _ h => h) hF2 8 _ _ _ (hr.slot t) hs
    | cell t T =>
     simp only [resD, Option.bind_eq_some_iff] at hd
     obtain ⟨ds, h1, h2⟩ := hd
     obtain ⟨ad, u, e1, e2, e3⟩ := load_run hmem T (hr.slot t) h1 h2
     have e : gv (.cell t T) = u := by rw [hgv]; simp only [gval, e1, e2]
     refine ⟨(fun t' ht => by cases ht), (fun ad' T' h => by cases h; exact ⟨ad, e1, by rw [e]; exact e2⟩), ?_⟩
     rw [e]
     exact settle_V hmem (fun _ h => h) hF2 8 _ _ _ e3 hs
   have memof : ∀ rv ∈ fn.results.toList, ∃ y, (resD P s' rv).bind (settle s'.obj 8) = some y := fun rv hrv => by
    obtain ⟨j, hj⟩ := List.getElem?_of_mem hrv
    obtain ⟨y, hy⟩ := get_of_len l1.symm hj
    exact ⟨y, l2 j rv y hj hy⟩
   have e2 : Z (V P w' g.F) xs (fn.results.toList.map gv) := ⟨by simp [l1], fun j x v hx hv => by
    simp only [List.getElem?_map, Option.map_eq_some_iff] at hv
    obtain ⟨rv, hrv, rfl⟩ := hv
    exact (each rv x (l2 j rv x hrv hx)).2.2⟩
   have hres : (results fn a'.tmps).run P w' = .ok (if h : (fn.results.toList.map gv).toArray.size = 1 then (fn.results.toList.map gv).toArray[0] else .tuple (fn.results.toList.map gv).toArray) w' := by
    unfold results
    rw [Sem.run_bind, Array.mapM_eq_mapM_toList]
    simp only [Sem.run_map]
    rw [mapM_run (P := P) _ gv fn.results.toList w' (fun rv hrv => by
     obtain ⟨y, hy⟩ := memof rv hrv
     obtain ⟨h1, h2, _⟩ := each rv y hy
     cases rv with
     | tmp t => rw [h1 t rfl]; rfl
     | cell ad T => obtain ⟨adr, e1, e2⟩ := h2 ad T rfl; simp [e1, asAddr, e2])]
    rfl
   refine ⟨hr.defers, _, hres, r, hR, _, rfl, ?_, hmem.size, hmem.os, hmem.tape, hmem.output, hframe⟩
   rw [hall] at hret
   exact ret_tell e2 hret
 cases e with
 | normal => exact fin hq
 | ret => exact fin hq
 | _ => exact hq.elim
theorem AC.of_sem {P : Program} {f : FuncId} {fn : Func} {x : Code} {args : List D} {r : D} (hf : P.funcs[f]? = some fn) (hb : fn.body = some x) (hp : args.all D.plain = true) (hn : args.length ≤ fn.ntmps)
  (h : Aw P x (retQ P fn.results.toList r) ⟨fn.ntmps, argSl args 0, []⟩) : AC P f args r := fun g vs h1 h2 h3 =>
 Calls.mono (AC.of_semW (R := fun r' => r' = r) hf hb hp hn (h.mono fun e s he => by
  cases e with
  | normal => exact ⟨r, rfl, he⟩
  | ret => exact ⟨r, rfl, he⟩
  | _ => exact he.elim) g vs h1 h2 h3) fun e w' ⟨r', hr, rest⟩ => hr ▸ rest
end Go.Lw
end
section
namespace Go.Lw
def D.ok0 (q : Nat → Bool) : D → Bool
 | .i _ | .nils | .any | .kb _ => true
 | .own id .. | .loc id _ | .el id .. | .lmap id | .it id => q id
 | _ => false
def D.ok1 (q : Nat → Bool) : D → Bool
 | .agg xs => xs.all (D.ok0 q)
 | .fn _ xs => xs.all (D.ok0 q)
 | d => d.ok0 q
def D.ok (q : Nat → Bool) : D → Bool
 | .tup xs => xs.all (D.ok1 q)
 | d => d.ok1 q
def Ob.ok (q : Nat → Bool) : Ob → Bool
 | .var _ cs => cs.all (D.ok1 q)
 | .arrd _ _ xs => xs.all (D.ok1 q)
 | _ => true
section
variable {P : Program} {g g' : G}
structure Less (g g' : G) : Prop where
 w : g'.w = g.w
 β : g'.β = g.β
 F : ∀ b, g'.F b → g.F b
 ob : ∀ id o, g'.ob id = some o → g.ob id = some o
theorem Less.at_ (h : Less g g') {id : Nat} {o : Ob} (ho : g.ob id = some o) (hq : (g'.ob id).isSome = true) : g'.ob id = some o := by
 cases h1 : g'.ob id with
 | none => rw [h1] at hq; cases hq
 | some o' => rw [h.ob id o' h1] at ho; cases ho; rfl
theorem V.less (h : Less g g') {x : I} {v : Value} (hv : V P g.w g.F x v) : V P g'.w g'.F x v := by
 rw [h.w]; exact hv.mono (Nat.le_refl _) (fun _ _ _ => rfl) (fun b _ hb => h.F b hb)
theorem VD.less0 (h : Less g g') {d : D} {v : Value} (hv : VD P g d v) (hok : d.ok0 (fun id => (g'.ob id).isSome) = true) : VD P g' d v := by
 cases hv with
 | any => exact .any _
 | i x v hx => exact .i _ _ (hx.less h)
 | nils A => exact .nils A
 | kb b => exact .kb b
 | own id ver off len cap E xs cur ho hl hc hb hcap hm => rw [← h.β]; exact .own id ver off len cap E xs cur (h.at_ ho hok) hl hc (by rw [h.β, h.w]; exact hb) hcap hm
 | ownd id ver off len cap E xs ho hl hc => rw [← h.β]; exact .ownd id ver off len cap E xs (h.at_ ho hok) hl hc
 | ownStale id ver ver' off len E xs v ho hlt hv => exact .ownStale id ver ver' off len E xs v (h.at_ ho hok) hlt hv
 | loc id c T cs ho => rw [← h.β]; exact .loc id c T cs (h.at_ ho hok)
 | el id ver idx off E xs ho hi => rw [← h.β]; exact .el id ver idx off E xs (h.at_ ho hok) hi
 | eld id ver idx off E xs ho hi => rw [← h.β]; exact .eld id ver idx off E xs (h.at_ ho hok) hi
 | elStale id ver ver' idx off E xs v ho hlt hv => exact .elStale id ver ver' idx off E xs v (h.at_ ho hok) hlt hv
 | lmap id es ho => rw [← h.β]; exact .lmap id es (h.at_ ho hok)
 | it id s pos ho => rw [← h.β]; exact .it id s pos (h.at_ ho hok)
 | _ => cases hok
theorem VD.less1 (h : Less g g') {d : D} {v : Value} (hv : VD P g d v) (hok : d.ok1 (fun id => (g'.ob id).isSome) = true) : VD P g' d v := by
 cases hv with
 | agg xs vs hl hh h1 => exact .agg xs vs hl (fun j x v hx hv => (hh j x v hx hv).less0 h (List.all_eq_true.1 hok x (List.mem_of_getElem? hx))) h1
 | fn f xs vs hl hh => exact .fn f xs vs hl (fun j x v hx hv => (hh j x v hx hv).less0 h (List.all_eq_true.1 hok x (List.mem_of_getElem? hx)))
 | tup => cases hok
 | any => exact .any _
 | i x v hx => exact .i _ _ (hx.less h)
 | nils A => exact .nils A
 | kb b => exact .kb b
 | own id ver off len cap E xs cur ho hl hc hb hcap hm => exact (VD.own id ver off len cap E xs cur ho hl hc hb hcap hm).less0 h hok
 | ownd id ver off len cap E xs ho hl hc => exact (VD.ownd id ver off len cap E xs ho hl hc).less0 h hok
 | ownStale id ver ver' off len E xs v ho hlt hv => exact (VD.ownStale id ver ver' off len E xs v ho hlt hv).less0 h hok
 | loc id c T cs ho => exact (VD.loc id c T cs ho).less0 h hok
 | el id ver idx off E xs ho hi => exact (VD.el id ver idx off E xs ho hi).less0 h hok
 | eld id ver idx off E xs ho hi => exact (VD.eld id ver idx off E xs ho hi).less0 h hok
 | elStale id ver ver' idx off E xs v ho hlt hv => exact (VD.elStale id ver ver' idx off E xs v ho hlt hv).less0 h hok
 | lmap id es ho => exact (VD.lmap id es ho).less0 h hok
 | it id s pos ho => exact (VD.it id s pos ho).less0 h hok
 | capd E xs A hx => exact (VD.capd E xs A hx).less0 h hok
theorem VD.less (h : Less g g') {d : D} {v : Value} (hv : VD P g d v) (hok : d.ok (fun id => (g'.ob id).isSome) = true) : VD P g' d v := by
 cases d with
 | tup xs => cases hv with
  | tup _ vs hl hh => exact .tup xs vs hl (fun j x v hx hv => (hh j x v hx hv).less1 h (List.all_eq_true.1 hok x (List.mem_of_getElem? hx)))
 | _ => exact hv.less1 h hok
theorem ObRel.less (h : Less g g') {id : Nat} {o : Ob} (hr : ObRel P g id o) (hok : o.ok (fun id => (g'.ob id).isSome) = true) : ObRel P g' id o := by
 cases hr with
 | var T cs vs h1 hl hh h2 => exact .var T cs vs (by rw [h.w, h.β]; exact h1) hl (fun j x v a b => (hh j x v a b).less1 h (List.all_eq_true.1 hok x (List.mem_of_getElem? a))) h2
 | arr E ver xs cur us h1 hl ht hh hs hm => exact .arr E ver xs cur us (by rw [h.w, h.β]; exact h1) hl ht (fun j x v a b => (hh j x v a b).less h) hs hm
 | arrd E ver xs cur us h1 hl ht hh hs hm => exact .arrd E ver xs cur us (by rw [h.w, h.β]; exact h1) hl ht (fun j x v a b => (hh j x v a b).less1 h (List.all_eq_true.1 hok x (List.mem_of_getElem? a))) hs hm
 | map es ms clock hr hl hk hv => exact .map es ms clock (by rw [h.w, h.β]; exact hr) hl (fun j e m a b => (hk j e m a b).less h) (fun j e m a b => (hv j e m a b).less h)
 | strit s pos hr => exact .strit s pos (by rw [h.w, h.β]; exact hr)
end
structure St.Tells (s s0 : St) : Prop where
 n : s.n = s0.n
 sl : ∀ p ∈ s0.sl, (s.get p.1).norm = p.2.norm
 ob : ∀ p ∈ s0.ob, s.obj p.1 = p.2
 okSl : ∀ p ∈ s0.sl, p.2.ok (fun id => (s0.obj id).isSome) = true
 okOb : ∀ p ∈ s0.ob, ∀ o, p.2 = some o → o.ok (fun id => (s0.obj id).isSome) = true
theorem look_mem {l : List (Nat × D)} {t : Nat} (h : look l t ≠ .any) : (t, look l t) ∈ l := by
 induction l with
 | nil => simp [look] at h
 | cons p l ih =>
  obtain ⟨k, d⟩ := p
  simp only [look] at h ⊢
  split
  ·rename_i e; subst e; simp
  ·rename_i e; rw [if_neg e] at h; exact List.mem_cons_of_mem _ (ih h)
theorem lookO_mem {l : List (Nat × Option Ob)} {t : Nat} {o : Ob} (h : lookO l t = some o) : (t, some o) ∈ l := by
 induction l with
 | nil => simp [lookO] at h
 | cons p l ih =>
  obtain ⟨k, d⟩ := p
  simp only [lookO] at h
  split at h
  ·rename_i e; subst e; subst h; simp
  ·exact List.mem_cons_of_mem _ (ih h)
theorem Rel.weaken {P : Program} {c : Ctx} {s s0 : St} {a : Act} {w : World} {β : Nat → Nat} (h : Rel P c s a w β) (hs : s.Tells s0) : Rel P c s0 a w β := by
 have hob : ∀ id o, s0.obj id = some o → s.obj id = some o := fun id o ho => hs.ob (id, some o) (lookO_mem ho)
 have hl : Less (c.g w β s.obj) (c.g w β s0.obj) := ⟨rfl, rfl, fun b hb => by
  rcases hb with hb | ⟨i, o, h1, h2⟩
  ·exact .inl hb
  ·exact .inr ⟨i, o, hob i o h1, h2⟩, hob⟩
 have hm := h.mem
 refine ⟨⟨hm.size, hm.os, hm.tape, hm.output, hm.frame, hm.mlt, fun id o ho => ?_, fun id id' o o' h1 h2 => hm.inj id id' o o' (hob _ _ h1) (hob _ _ h2), fun id o h1 => hm.lt id o (hob _ _ h1), fun id o h1 => hm.mine id o (hob _ _ h1)⟩, h.defers, h.size.trans hs.n, fun t => ?_⟩
 ·exact (hm.obs id o (hob id o ho)).less hl (hs.okOb (id, some o) (lookO_mem ho) o rfl)
 ·by_cases ht : s0.get t = .any
  ·rw [ht]; exact .any _
  ·have hmem : (t, s0.get t) ∈ s0.sl := look_mem ht
   have := (h.slot t).norm
   rw [hs.sl _ hmem] at this
   exact this.unnorm.less hl (hs.okSl _ hmem)
theorem Aw.weaken {P : Program} {x : Code} {Q : Exit → St → Prop} {s s0 : St} (hs : s.Tells s0) (h : Aw P x Q s0) : Aw P x Q s := fun c a w β hr => h c a w β (hr.weaken hs)
theorem Aw.loopS {α : Type} {P : Program} {x : Code} {Q : Exit → St → Prop} {s : St} (I : α → St) (φ : α → Prop) (μ : α → Nat) (a0 : α) (hs : s.Tells (I a0)) (h0 : φ a0)
  (round : ∀ a, φ a → Aw P x (thenS (fun s' => ∃ a', φ a' ∧ s'.Tells (I a') ∧ μ a' < μ a) Q) (I a)) : Aw P (.loop x) Q s := by
 refine Aw.weaken hs ?_
 intro c a w β hr b k cs
 have key : ∀ n y a w β, μ y = n → φ y → Rel P c (I y) a w β →
   ∃ e a' w', (∃ s' β', Rel P c s' a' w' β' ∧ Q e s') ∧ Arrives P (lone (b.at a (.code x :: .inLoop x :: k)) cs w) b k cs e a' w' := by
  intro n
  induction n using Nat.strongRecOn with
  | _ n ih =>
   intro y a w β hn hI hr
   obtain ⟨e, a₁, w₁, ⟨s', β', h1, h2⟩, harr⟩ := (round y hI) c a w β hr b (.inLoop x :: k) cs
   cases e with
   | normal =>
    obtain ⟨y', hφ, hT, hlt⟩ := h2
    obtain ⟨e₂, a₂, w₂, hq₂, harr₂⟩ := ih (μ y') (hn ▸ hlt) y' a₁ w₁ β' rfl hφ (h1.weaken hT)
    exact ⟨e₂, a₂, w₂, hq₂, .of_steps (Steps.trans harr (.one step_inLoop)) harr₂⟩
   | exit id => exact ⟨_, a₁, w₁, ⟨s', β', h1, h2⟩, .pass (x := .inLoop x) rfl (fun _ _ => .inl (by simp)) harr⟩
   | goto l => exact ⟨_, a₁, w₁, ⟨s', β', h1, h2⟩, .pass (x := .inLoop x) rfl (fun _ _ => .inl (by simp)) harr⟩
   | ret => exact ⟨_, a₁, w₁, ⟨s', β', h1, h2⟩, .pass (x := .inLoop x) rfl (fun _ _ => .inl (by simp)) harr⟩
   | panic ch => exact ⟨_, a₁, w₁, ⟨s', β', h1, h2⟩, .pass (x := .inLoop x) rfl (fun _ _ => .inl (by simp)) harr⟩
   | outgrown => exact ⟨_, a₁, w₁, ⟨s', β', h1, h2⟩, .pass (x := .inLoop x) rfl (fun _ _ => .inl (by simp)) harr⟩
 obtain ⟨e, a', w', hq, harr⟩ := key _ a0 a w β rfl h0 hr
 exact ⟨e, a', w', hq, .of_steps (.one step_loop) harr⟩
end Go.Lw
end
section
namespace Go.Lw
inductive Sr where
 | no
 | ok (p : Prop) (d : D) (us : List (Nat × Ob)) (nw : Option Ob)
 | call (F : FuncId) (args : List D)
 | unk (t v : Bool)
def nth (xs : List I) (n : Nat) : I := xs.getD n .nilf
def nthB (s : ByteArray) (n : Nat) : UInt8 := s.data.getD n 0
def isOwnSrc : D → Bool
 | .own .. => true
 | _ => false
def lenF (P : Program) (q : Nat → Option Ob) (T : TypeId) : D → Sr
 | .i y => match y with
  | .sl _ xs => .ok ((slE P T).isSome = true) (.i (.int .i64 xs.length)) [] none
  | .str z => .ok (P.underlying T = some .string) (.i (.int .i64 z.size)) [] none
  | _ => .no
 | .own id ver off len => .ok ((slE P T).isSome = true ∧ fresh q id ver = true) (.i (.int .i64 len)) [] none
 | .nils => .ok ((slE P T).isSome = true) (.i (.int .i64 0)) [] none
 | _ => .no
def appendF (P : Program) (q : Nat → Option Ob) (id : Nat) (E : TypeId) (x y : D) : Sr := match srcOf q E y with
 | none => .no
 | some ys => match x with
 | .nils => if isOwnSrc y then .ok (0 < P.cellsOf E ∧ zeroOk P E = true ∧ 0 < ys.length ∧ ys.length * P.bytesOf E ≤ top) (.own id 0 0 ys.length) [] (some (.arr E 0 ys))
   else .ok (0 < P.cellsOf E ∧ zeroOk P E = true ∧ ys.length * P.bytesOf E ≤ top) (.i (.sl E ys)) [] none
 | .own i ver off len => match q i with
  | some (.arr E' ver' xs) => .ok (off = 0 ∧ 0 < P.cellsOf E ∧ zeroOk P E = true ∧ E' = E ∧ ver' = ver ∧ len = xs.length ∧ (xs.length + ys.length) * P.bytesOf E ≤ top ∧ xs.length + ys.length ≤ top) (.own i (ver + 1) 0 (xs.length + ys.length)) [(i, .arr E (ver + 1) (xs ++ ys))] none
  | _ => .no
 | .capd E' xs => .ok (E' = E ∧ 0 < P.cellsOf E ∧ zeroOk P E = true ∧ (xs.length + ys.length) * P.bytesOf E ≤ top ∧ xs.length + ys.length ≤ top) (.i (.sl E (xs ++ ys))) [] none
 | _ => .no
def intD : D → Option (IntKind × Int)
 | .i y => match y with
  | .int k n => some (k, n)
  | _ => none
 | _ => none
theorem intD_eq {d : D} {p : IntKind × Int} (h : intD d = some p) : d = .i (.int p.1 p.2) := by
 unfold intD at h
 split at h
 ·split at h
  ·cases h; rfl
  ·cases h
 ·cases h
def callF (P : Program) (dst : Option Nat) (ev : Operand → D) (q : Nat → Option Ob) : Callee → List Operand → List TypeId → Sr
 | .builtin .len, [x], [T] => lenF P q T (ev x)
 | .builtin .max, [x, y], _ => match intD (ev x), intD (ev y) with
  | some p, some r => .ok (p.1 = r.1) (.i (.int p.1 (Max.max p.2 r.2))) [] none
  | _, _ => .no
 | .builtin .min, [x, y], _ => match intD (ev x), intD (ev y) with
  | some p, some r => .ok (p.1 = r.1) (.i (.int p.1 (Min.min p.2 r.2))) [] none
  | _, _ => .no
 | .builtin .append, [x, y], [T, T'] => match dst, slE P T with
  | some id, some E => if T = T' then appendF P q id E (ev x) (ev y) else .no
  | _, _ => .no
 | .value f, args, _ => match ev f with
  | .fn F caps => .call F (args.map ev ++ caps)
  | _ => .no
 | _, _, _ => .no
def storeF (P : Program) (q : Nat → Option Ob) (T : TypeId) (a : D) (ds : List D) : Sr := match a with
 | .loc id k => match q id with
  | some (.var T' cs) => .ok (P.cellsOf T = ds.length ∧ 0 < ds.length ∧ k + ds.length ≤ cs.length) .any [(id, .var T' (splice cs k ds))] none
  | _ => .no
 | .el id ver idx k => match q id, allI ds with
  | some (.arr E ver' xs), some ys => .ok (P.cellsOf T = ds.length ∧ 0 < ds.length ∧ ver' = ver ∧ idx < xs.length ∧ k + ds.length ≤ (nth xs idx).cells.length) .any [(id, .arr E ver (xs.set idx (spliceI (nth xs idx) k ys)))] none
  | _, _ => .no
 | _ => .no
def bndI (dflt : Int) : Option D → Option Int
 | none => some dflt
 | some d => match intD d with
  | some p => some p.2
  | none => none
theorem bndI_eq {dflt : Nat} {d : Option D} {n : Int} (h : bndI dflt d = some n) (h0 : 0 ≤ n) : bnd dflt d = some n.toNat := by
 cases d with
 | none => simp [bndI] at h; subst h; simp [bnd]
 | some d =>
  simp only [bndI] at h
  split at h
  ·rename_i p hp
   cases h
   rw [intD_eq hp]
   simp [bnd, h0]
  ·cases h
def cutF (P : Program) (T : TypeId) (y : I) (n : Nat) (f : Nat → Nat → I) (E : Option TypeId) (lo hi : Option Int) : Sr := match lo with
 | none => .no
 | some l => match hi with
  | none => .no
  | some u => .ok ((match E with
   | some E => slE P T = some E ∧ 0 < P.cellsOf E
   | none => P.underlying T = some .string) ∧ 0 ≤ l ∧ l ≤ u ∧ u ≤ n) (.i (f l.toNat u.toNat)) [] none
def cutO (P : Program) (T : TypeId) (id ver off len : Nat) (lo hi : Option Int) : Option Ob → Sr
 | some (.arr E ver' xs) => match lo with
  | none => .no
  | some l => match hi with
   | none => .no
   | some u => .ok (slE P T = some E ∧ ver' = ver ∧ 0 < P.cellsOf E ∧ 0 ≤ l ∧ (l = 0 ∨ l < u) ∧ u ≤ len ∧ 0 ≤ u) (.own id ver (off + l.toNat) (u.toNat - l.toNat)) [] none
 | _ => .no
def sliceI (P : Program) (T : TypeId) (lo hi : Option D) : I → Sr
 | .str z => cutF P T (.str z) z.size (fun l u => .str (z.extract l u)) none (bndI 0 lo) (bndI z.size hi)
 | .sl E xs => cutF P T (.sl E xs) xs.length (fun l u => .sl E ((xs.take u).drop l)) (some E) (bndI 0 lo) (bndI xs.length hi)
 | _ => .no
def sliceF (P : Program) (q : Nat → Option Ob) (T : TypeId) (d : D) (lo hi : Option D) : Sr := match d with
 | .i y => sliceI P T lo hi y
 | .own id ver off len => cutO P T id ver off len (bndI 0 lo) (bndI len hi) (q id)
 | _ => .no
def indexF (P : Program) (q : Nat → Option Ob) (T : TypeId) (x i : D) : Sr := match intD i with
 | none => .no
 | some p => match x with
  | .i y => match y with
   | .sl E xs => .ok (slE P T = some E ∧ 0 < P.cellsOf E ∧ 0 ≤ p.2 ∧ p.2.toNat < xs.length) (.i (.ptr (nth xs p.2.toNat).cells)) [] none
   | _ => .no
  | .own id ver off len => match q id with
   | some (.arr E ver' _) => .ok (slE P T = some E ∧ ver' = ver ∧ 0 < P.cellsOf E ∧ 0 ≤ p.2 ∧ p.2 < len) (.el id ver (off + p.2.toNat) 0) [] none
   | some (.arrd E ver' _) => .ok (slE P T = some E ∧ ver' = ver ∧ 0 < P.cellsOf E ∧ 0 ≤ p.2 ∧ p.2 < len) (.el id ver (off + p.2.toNat) 0) [] none
   | _ => .no
  | _ => .no
def i64v : I → Option Int
 | .int k n => match k with
  | .i64 => some n
  | _ => none
 | _ => none
def i64op : BinOp → Int → Int → Option Int
 | .add, m, n => some (m + n)
 | .sub, m, n => some (m - n)
 | .mul, m, n => some (m * n)
 | _, _, _ => none
def i64o (op : BinOp) (a b : Option Int) : Option Int := match a with
 | none => none
 | some m => match b with
  | none => none
  | some n => i64op op m n
def binG (P : Program) (op : BinOp) (T : TypeId) (a b : I) : Option Int → Sr
 | some r => .ok (-9223372036854775808 ≤ r ∧ r < 9223372036854775808) (.i (.int .i64 r)) [] none
 | none => match binI op a b with
  | some r => .ok True (.i r) [] none
  | none => match boolI op a b with
   | some r => .ok (P.underlying T = some .bool) (.i r) [] none
   | none => .no
def binF (P : Program) (op : BinOp) (T : TypeId) : D → D → Sr
 | .i a, .i b => binG P op T a b (i64o op (i64v a) (i64v b))
 | _, _ => .no
def nilV : Value → Bool
 | .slice none _ _ => true
 | _ => false
def nilOp : Operand → Bool
 | .const v => nilV v
 | _ => false
theorem nilOp_eq {x : Operand} (h : nilOp x = true) : ∃ m k, x = .const (.slice none m k) := by
 unfold nilOp at h
 split at h
 ·unfold nilV at h
  split at h
  ·exact ⟨_, _, rfl⟩
  ·cases h
 ·cases h
def nilF (op : BinOp) : Option Bool → Option TypeId → Sr
 | some t, some _ => match op with
  | .eql => .unk t false
  | .neq => .unk t true
  | _ => .no
 | _, _ => .no
theorem i64v_eq {x : I} {n : Int} (h : i64v x = some n) : x = .int .i64 n := by
 unfold i64v at h
 split at h
 ·split at h
  ·cases h; rfl
  ·cases h
 ·cases h
theorem i64o_eq {op : BinOp} {a b : I} {r : Int} (h : i64o op (i64v a) (i64v b) = some r) (h1 : -9223372036854775808 ≤ r) (h2 : r < 9223372036854775808) : binI op a b = some (.int .i64 r) := by
 unfold i64o at h
 split at h
 ·cases h
 ·rename_i m hm
  split at h
  ·cases h
  ·rename_i n hn
   rw [i64v_eq hm, i64v_eq hn]
   have hw : IntKind.i64.wrap r = r := by rw [IntKind.wrap_i64]; omega
   cases op <;> simp [i64op] at h <;> subst h <;> simp [binI, hw]
def buildSliceF (P : Program) (id : Nat) (E : TypeId) (n : Nat) (is : List Nat) (ds : List D) : Sr := match allToI ds with
 | some xs => .ok (0 < P.cellsOf E ∧ zeroOk P E = true ∧ is = List.range n ∧ n * P.cellsOf E ≤ 16777216 ∧ ∀ x ∈ xs, x.cells.length = P.cellsOf E) (.own id 0 0 n) [] (some (.arr E 0 xs))
 | none => .ok (0 < P.cellsOf E ∧ zeroOk P E = true ∧ is = List.range n ∧ n * P.cellsOf E ≤ 16777216 ∧ ∀ x ∈ ds, (x.box.map List.length) = some (P.cellsOf E)) (.own id 0 0 n) [] (some (.arrd E 0 ds))
def convF (ok : Prop) (n : Int) : IntKind → Sr
 | .i64 => .ok (ok ∧ -9223372036854775808 ≤ n ∧ n < 9223372036854775808) (.i (.int .i64 n)) [] none
 | .u32 => .ok (ok ∧ 0 ≤ n ∧ n < 4294967296) (.i (.int .u32 n)) [] none
 | k' => .ok ok (.i (.int k' (k'.wrap n))) [] none
def bytesG (P : Program) (S T : TypeId) (ver off len : Nat) : Option Ob → Sr
 | some (.arr E ver' xs) => .ok (convS P S T = true ∧ ver' = ver ∧ P.cellsOf E = 1 ∧ ((xs.drop off).take len).all isU8 = true) (.i (.str (strB ((xs.drop off).take len)))) [] none
 | _ => .no
def bytesF (P : Program) (q : Nat → Option Ob) (S T : TypeId) : D → Sr
 | .own id ver off len => bytesG P S T ver off len (q id)
 | _ => .no
def slice3F (P : Program) (T : TypeId) (d : D) (h m : Option (IntKind × Int)) : Sr := match d with
 | .i y => match y with
  | .sl E xs => match h with
   | some p => match m with
    | some r => .ok (slE P T = some E ∧ 0 < P.cellsOf E ∧ p.2 = r.2 ∧ 0 ≤ p.2 ∧ p.2.toNat ≤ xs.length) (.capd E (xs.take p.2.toNat)) [] none
    | none => .no
   | none => .no
  | _ => .no
 | _ => .no
def nextF (s : ByteArray) (pos id : Nat) : Sr := if pos < s.size then .ok ((nthB s pos).toNat < 128) (.tup [.kb true, .i (.int .i64 pos), .i (.int .i32 ((nthB s pos).toNat : Int))]) [(id, .strit s (pos + 1))] none else .ok True (.tup [.kb false]) [] none
def nextO (id : Nat) : Option Ob → Sr
 | some (.strit s pos) => nextF s pos id
 | _ => .no
def nextG (q : Nat → Option Ob) : D → Bool → Sr
 | .it id, true => nextO id (q id)
 | _, _ => .no
def rangeG (P : Program) (T : TypeId) (id : Nat) : D → Sr
 | .i y => match y with
  | .str z => .ok (P.underlying T = some .string) (.it id) [] (some (.strit z 0))
  | _ => .no
 | _ => .no
def rangeF (P : Program) (T : TypeId) (d : D) : Option Nat → Sr
 | some id => rangeG P T id d
 | none => .no
def stepF (P : Program) (dst : Option Nat) (ev : Operand → D) (q : Nat → Option Ob) : Op → Sr
 | .move x | .assign x => .ok True (ev x) [] none
 | .pick c a b => match ev c with
  | .kb t => match t with
   | true => .ok True (ev a) [] none
   | false => .ok True (ev b) [] none
  | .i y => match y with
   | .bool t => match t with
    | true => .ok True (ev a) [] none
    | false => .ok True (ev b) [] none
   | _ => .no
  | _ => .no
 | .alloc T => match dst, zeroD P T with
  | some id, some ds => .ok (ds.all D.leafB = true) (.loc id 0) [] (some (.var T ds))
  | _, _ => .no
 | .box T x => match dst, (ev x).box with
  | some id, some ds => .ok True (.loc id 0) [] (some (.var T ds))
  | _, _ => .no
 | .build T parts => match places P T, zeroD P T with
  | some ps, some ds => match fillD ps ds (parts.toList.map fun p => (p.1, ev p.2)) with
   | some es => .ok ((∀ p ∈ ps, 0 < p.2) ∧ ds.all D.leafB = true) (mkAgg es) [] none
   | none => .no
  | _, _ => .no
 | .buildSlice T n parts => match dst, slE P T with
  | some id, some E => buildSliceF P id E n (parts.toList.map (·.1)) (parts.toList.map fun p => ev p.2)
  | _, _ => .no
 | .load T x => match cellsAt q (ev x) with
  | some ds => match loadD P T ds with
   | some d => .ok True d [] none
   | none => .no
  | none => .no
 | .store T a x => match (ev x).box with
  | some ds => storeF P q T (ev a) ds
  | none => .no
 | .nilCheck x => .ok ((ev x).notNil = true ∧ (match ev x with | .el id ver _ _ => fresh q id ver = true | _ => True)) (ev x) [] none
 | .binOp op T x y _ => match nilOp y with
  | true => nilF op (sliceTold (ev x)) (slE P T)
  | false => binF P op T (ev x).norm (ev y).norm
 | .unOp op _ x => match (ev x).norm with
  | .i a => match unI op a with
   | some r => .ok True (.i r) [] none
   | none => .no
  | _ => .no
 | .convert S T x => match intD (ev x) with
  | some p => match kindI P T with
   | some k' => convF ((P.underlying S).isSome = true) p.2 k'
   | none => .no
  | none => bytesF P q S T (ev x)
 | .makeSlice T l cp => match dst, slE P T, intD (ev l), intD (ev cp) with
  | some id, some E, some m, some n => match zeroI P E with
   | some x => .ok (0 < P.cellsOf E ∧ zeroOk P E = true ∧ zeroLeaf P E = true ∧ 0 ≤ m.2 ∧ m.2 ≤ n.2 ∧ n.2.toNat * P.bytesOf E ≤ top ∧ n.2.toNat ≤ top) (.own id 0 0 m.2.toNat) [] (some (.arr E 0 (List.replicate m.2.toNat x)))
   | none => .no
  | _, _, _, _ => .no
 | .slice T x lo hi none => sliceF P q T (ev x) (lo.map ev) (hi.map ev)
 | .slice T x none (some hi) (some mx) => slice3F P T (ev x) (intD (ev hi)) (intD (ev mx))
 | .fieldAddr S x i => match fldT P S i with
  | some r => match (ev x).shift q r.1 with
   | some d => .ok (0 < P.cellsOf r.2) d [] none
   | none => .no
  | none => .no
 | .field S x i => match fldT P S i, (ev x).aggC with
  | some r, some ds => match loadD P r.2 (ds.drop r.1) with
   | some d => .ok True d [] none
   | none => .no
  | _, _ => .no
 | .indexAddr T x i => indexF P q T (ev x) (ev i)
 | .index T x i => match intD (ev i) with
  | none => .no
  | some p => match ev x with
   | .i y => match y with
    | .str z => .ok (P.underlying T = some .string ∧ 0 ≤ p.2 ∧ p.2.toNat < z.size) (.i (.int .u8 (nthB z p.2.toNat).toNat)) [] none
    | _ => .no
   | _ => .no
 | .extract x i => match ev x with
  | .tup ds => match ds[i]? with
   | some d => .ok True d [] none
   | none => .no
  | _ => .no
 | .makeFunc (.func f) first captured => .ok (first.toList = []) (.fn f (captured.toList.map ev)) [] none
 | .range T x => rangeF P T (ev x) dst
 | .next x b => nextG q (ev x) b
 | .call c => callF P dst ev q c.callee c.args.toList c.argTypes.toList
 | _ => .no
def laid (dst : Option Nat) (s : St) (nw : Option Ob) : Prop := match nw, dst with
 | some _, some id => s.obj id = none
 | _, _ => True
def dstIn (dst : Option Nat) (n : Nat) : Prop := match dst with
 | some t => t < n
 | none => True
def runF (P : Program) (dst : Option Nat) (s : St) (K : St → Prop) : Sr → Prop
 | .no => False
 | .ok p d us nw => p ∧ laid dst s nw ∧ dstIn dst s.n ∧ K (s.app dst d us nw)
 | .call F args => hasBody P F = true ∧ CallOk P F args dst s K
 | .unk t v => dstIn dst s.n ∧ ∀ b, (t = true → b = v) → K (s.app dst (.kb b) [] none)
theorem nth_get {xs : List I} {n : Nat} (h : n < xs.length) : xs[n]? = some (nth xs n) := by simp [nth, h]
theorem nthB_get {s : ByteArray} {n : Nat} (h : n < s.size) : s[n]? = some (nthB s n) := by
 have h2 : n < s.data.size := h
 rw [getElem?_pos s n h]
 congr 1
 show s.data[n]'h2 = s.data.getD n 0
 simp [Array.getD, h2]
 intro h3
 omega
theorem stepF_sound {P : Program} {o : Oper} {s : St} {K : St → Prop} (h : runF P o.dst s K (stepF P o.dst s.ev s.obj o.op)) : aop P o s K := by
 have fin : ∀ {p : Prop} {d : D} {us : List (Nat × Ob)} {nw : Option Ob}, (p → R P o s.ev s.obj d us nw) → runF P o.dst s K (.ok p d us nw) → aop P o s K := by
  intro p d us nw hr h
  obtain ⟨h1, h2, h3, h4⟩ := h
  refine aop_R (hr h1) (fun hn id hid => ?_) (fun t ht => ?_) h4
  ·unfold laid at h2
   cases nw with
   | none => exact absurd rfl hn
   | some o' => rw [hid] at h2; exact h2
  ·unfold dstIn at h3
   rw [ht] at h3
   exact h3
 generalize hop : o.op = op at h
 cases op with
 | move x => exact fin (fun _ => .move x (.inl hop)) h
 | assign x => exact fin (fun _ => .move x (.inr hop)) h
 | pick c a b =>
  simp only [stepF] at h
  split at h
  ·rename_i t hc
   split at h
   ·have := R.pick (P := P) (ev := s.ev) (q := s.obj) c a b hop true (by rw [hc]; rfl); exact fin (fun _ => by simpa using this) h
   ·have := R.pick (P := P) (ev := s.ev) (q := s.obj) c a b hop false (by rw [hc]; rfl); exact fin (fun _ => by simpa using this) h
  ·rename_i y hc
   split at h
   ·split at h
    ·have := R.pick (P := P) (ev := s.ev) (q := s.obj) c a b hop true (by rw [hc]; rfl); exact fin (fun _ => by simpa using this) h
    ·have := R.pick (P := P) (ev := s.ev) (q := s.obj) c a b hop false (by rw [hc]; rfl); exact fin (fun _ => by simpa using this) h
   ·exact h.elim
  ·exact h.elim
 | alloc T =>
  simp only [stepF] at h
  split at h
  ·rename_i id ds h1 h2; exact fin (fun hp => .alloc T id hop h1 ds h2 hp) h
  ·exact h.elim
 | box T x =>
  simp only [stepF] at h
  split at h
  ·rename_i id ds h1 h2; exact fin (fun hp => .box T x id hop h1 ds h2) h
  ·exact h.elim
 | build T parts =>
  simp only [stepF] at h
  split at h
  ·rename_i ps ds h1 h2
   split at h
   ·rename_i es h3; exact fin (fun hp => .build T parts hop ps h1 hp.1 ds es h2 hp.2 h3) h
   ·exact h.elim
  ·exact h.elim
 | buildSlice T n parts =>
  simp only [stepF] at h
  split at h
  ·rename_i id E h1 h2
   unfold buildSliceF at h
   split at h
   ·rename_i xs h3; exact fin (fun hp => .buildSlice T n id parts hop h1 E h2 hp.1 hp.2.1 hp.2.2.1 xs h3 hp.2.2.2.2 hp.2.2.2.1) h
   ·exact fin (fun hp => .buildSliceD T n id parts hop h1 E h2 hp.1 hp.2.1 hp.2.2.1 hp.2.2.2.2 hp.2.2.2.1) h
  ·exact h.elim
 | load T x =>
  simp only [stepF] at h
  split at h
  ·rename_i ds h1
   split at h
   ·rename_i d h2; exact fin (fun _ => .load T x hop ds h1 d h2) h
   ·exact h.elim
  ·exact h.elim
 | store T a x =>
  simp only [stepF] at h
  split at h
  ·rename_i ds h1
   unfold storeF at h
   split at h
   ·rename_i id k ha
    split at h
    ·rename_i T' cs h3; exact fin (fun hp => .storeVar T a x hop id k ha T' cs h3 ds h1 hp.1 hp.2.1 hp.2.2) h
    ·exact h.elim
   ·rename_i id ver idx k ha
    split at h
    ·rename_i E ver' xs ys h3 h4
     refine fin (fun hp => ?_) h
     obtain ⟨p1, p2, rfl, p4, p5⟩ := hp
     exact .storeEl T a x hop id ver' idx k ha E xs h3 _ (nth_get p4) ds h1 ys h4 p1 p2 p5
    ·exact h.elim
   ·exact h.elim
  ·exact h.elim
 | range T x =>
  simp only [stepF] at h
  unfold rangeF at h
  split at h
  ·rename_i id hdst
   unfold rangeG at h
   split at h
   ·split at h
    ·rename_i z hz
     exact fin (fun hp => .rangeStr T x id hop hdst hp z hz) h
    ·exact h.elim
   ·exact h.elim
  ·exact h.elim
 | next x b =>
  simp only [stepF] at h
  unfold nextG at h
  split at h
  ·rename_i id hx
   unfold nextO at h
   split at h
   ·rename_i z pos ho
    unfold nextF at h
    split at h
    ·rename_i hl; exact fin (fun hp => .nextStr x hop id z pos hx ho hl hp) h
    ·rename_i hl; exact fin (fun hp => .nextEnd x hop id z pos hx ho hl) h
   ·exact h.elim
  ·exact h.elim
 | nilCheck x =>
  simp only [stepF] at h
  refine fin (fun hp => .nilCheck x hop hp.1 fun id ver idx off he => ?_) h
  have := hp.2
  rw [he] at this
  exact this
 | binOp op T x y T' =>
  simp only [stepF] at h
  split at h
  ·rename_i hn
   obtain ⟨m, k, rfl⟩ := nilOp_eq hn
   unfold nilF at h
   split at h
   ·rename_i t E ht hE
    split at h
    ·exact aop_nil .eql (.inl rfl) T T' x m k hop hE ht (fun t ht => by have := h.1; unfold dstIn at this; rw [ht] at this; exact this) fun b hb => h.2 b hb
    ·exact aop_nil .neq (.inr rfl) T T' x m k hop hE ht (fun t ht => by have := h.1; unfold dstIn at this; rw [ht] at this; exact this) fun b hb => h.2 b hb
    ·exact h.elim
   ·exact h.elim
  ·unfold binF at h
   split at h
   ·rename_i a b ha hb
    unfold binG at h
    split at h
    ·rename_i r hr; exact fin (fun hp => .binI op T T' x y hop a b _ ha hb (i64o_eq hr hp.1 hp.2)) h
    ·split at h
     ·rename_i r hr; exact fin (fun _ => .binI op T T' x y hop a b r ha hb hr) h
     ·split at h
      ·rename_i r hr; exact fin (fun hp => .boolI op T T' x y hop hp a b r ha hb hr) h
      ·exact h.elim
   ·exact h.elim
 | unOp op T x =>
  simp only [stepF] at h
  split at h
  ·rename_i a ha
   split at h
   ·rename_i r hr; exact fin (fun _ => .unI op T x hop a r ha hr) h
   ·exact h.elim
  ·exact h.elim
 | convert S T x =>
  simp only [stepF] at h
  split at h
  ·rename_i p h1
   split at h
   ·rename_i k' h2
    unfold convF at h
    split at h
    ·refine fin (fun hp => ?_) h
     have := R.convertInt (P := P) (ev := s.ev) (q := s.obj) S T x hop hp.1 .i64 h2 p.1 p.2 (intD_eq h1)
     rw [show IntKind.i64.wrap p.2 = p.2 by rw [IntKind.wrap_i64]; omega] at this
     exact this
    ·refine fin (fun hp => ?_) h
     have := R.convertInt (P := P) (ev := s.ev) (q := s.obj) S T x hop hp.1 .u32 h2 p.1 p.2 (intD_eq h1)
     rw [show IntKind.u32.wrap p.2 = p.2 by simp [IntKind.wrap, IntKind.bits, IntKind.signed]; omega] at this
     exact this
    ·exact fin (fun hp => .convertInt S T x hop hp _ h2 p.1 p.2 (intD_eq h1)) h
   ·exact h.elim
  ·rename_i hn
   unfold bytesF at h
   split at h
   ·rename_i id ver off len hx
    unfold bytesG at h
    split at h
    ·rename_i E ver' xs ho
     exact fin (fun ⟨a1, a2, a3, a4⟩ => .convertBytes S T x hop a1 id ver off len hx E xs (a2 ▸ ho) a3 a4) h
    ·exact h.elim
   ·exact h.elim
 | makeSlice T l cp =>
  simp only [stepF] at h
  split at h
  ·rename_i id E m n h1 h2 h3 h4
   split at h
   ·rename_i x h5; exact fin (fun hp => .makeSlice T l cp id hop h1 E h2 hp.1 hp.2.1 hp.2.2.1 x h5 m.1 n.1 m.2 n.2 (intD_eq h3) (intD_eq h4) hp.2.2.2.1 hp.2.2.2.2.1 hp.2.2.2.2.2.1 hp.2.2.2.2.2.2) h
   ·exact h.elim
  ·exact h.elim
 | slice T x lo hi mx =>
  cases mx with
  | some mx =>
   cases lo with
   | some _ => cases hi <;> exact h.elim
   | none =>
    cases hi with
    | none => exact h.elim
    | some hi =>
     simp only [stepF] at h
     unfold slice3F at h
     split at h
     ·rename_i y hy
      split at h
      ·rename_i E xs
       split at h
       ·rename_i p h1
        split at h
        ·rename_i r h2
         refine fin (fun hp => ?_) h
         obtain ⟨p0, p1, p2, p3, p4⟩ := hp
         exact .slice3 T x hi mx hop E p0 p1 xs hy p.1 r.1 p.2 (intD_eq h1) (by rw [p2]; exact intD_eq h2) p3 p4
        ·exact h.elim
       ·exact h.elim
      ·exact h.elim
     ·exact h.elim
  | none =>
   have cutS : ∀ {z : ByteArray}, s.ev x = .i (.str z) → runF P o.dst s K (cutF P T (.str z) z.size (fun l u => .str (z.extract l u)) none (bndI 0 (lo.map s.ev)) (bndI z.size (hi.map s.ev))) → aop P o s K := by
    intro z hy h
    unfold cutF at h
    split at h
    ·exact h.elim
    ·rename_i l h1
     split at h
     ·exact h.elim
     ·rename_i u h2
      refine fin (fun hp => ?_) h
      obtain ⟨p1, p2, p3, p4⟩ := hp
      exact .sliceStr T x lo hi hop p1 z hy _ _ (bndI_eq h1 p2) (bndI_eq h2 (by omega)) (by omega) (by omega)
   have cutL : ∀ {E : TypeId} {xs : List I}, s.ev x = .i (.sl E xs) → runF P o.dst s K (cutF P T (.sl E xs) xs.length (fun l u => .sl E ((xs.take u).drop l)) (some E) (bndI 0 (lo.map s.ev)) (bndI xs.length (hi.map s.ev))) → aop P o s K := by
    intro E xs hy h
    unfold cutF at h
    split at h
    ·exact h.elim
    ·rename_i l h1
     split at h
     ·exact h.elim
     ·rename_i u h2
      refine fin (fun hp => ?_) h
      obtain ⟨⟨p0, p1⟩, p2, p3, p4⟩ := hp
      exact .sliceSl T x lo hi hop E p0 p1 xs hy _ _ (bndI_eq h1 p2) (bndI_eq h2 (by omega)) (by omega) (by omega)
   simp only [stepF] at h
   unfold sliceF at h
   split at h
   ·rename_i y hy
    unfold sliceI at h
    split at h
    ·rename_i z
     exact cutS hy h
    ·rename_i E xs
     exact cutL hy h
    ·exact h.elim
   ·rename_i id ver off len hz
    unfold cutO at h
    split at h
    ·rename_i E ver' xs hob
     split at h
     ·exact h.elim
     ·rename_i l h1
      split at h
      ·exact h.elim
      ·rename_i u h2
       refine fin (fun hp => ?_) h
       obtain ⟨p1, rfl, p3, p4, p5, p6, p7⟩ := hp
       exact .sliceOwn T x lo hi hop E p1 p3 id ver' off len hz xs hob l.toNat u.toNat (bndI_eq h1 p4) (bndI_eq h2 p7) (by omega) (by omega)
    ·exact h.elim
   ·exact h.elim
 | fieldAddr S x i =>
  simp only [stepF] at h
  split at h
  ·rename_i r h1
   split at h
   ·rename_i d h2; exact fin (fun hp => .fieldAddr S x i hop r h1 hp d h2) h
   ·exact h.elim
  ·exact h.elim
 | field S x i =>
  simp only [stepF] at h
  split at h
  ·rename_i r ds h1 h2
   split at h
   ·rename_i d h3; exact fin (fun hp => .field S x i hop r h1 ds h2 d h3) h
   ·exact h.elim
  ·exact h.elim
 | indexAddr T x i =>
  simp only [stepF, indexF] at h
  split at h
  ·exact h.elim
  ·rename_i p h2
   have h2 := intD_eq h2
   split at h
   ·rename_i y hy
    split at h
    ·rename_i E xs; exact fin (fun hp => .indexSl T x i hop E hp.1 hp.2.1 xs hy p.1 p.2 h2 hp.2.2.1 _ (nth_get hp.2.2.2)) h
    ·exact h.elim
   ·rename_i id ver off len h1
    split at h
    ·rename_i E ver' xs h3
     refine fin (fun hp => ?_) h
     obtain ⟨p1, rfl, p3, p4, p5⟩ := hp
     exact .indexOwn T x i hop E p1 p3 id ver' off len h1 xs h3 p.1 p.2 h2 p4 p5
    ·rename_i E ver' xs h3
     refine fin (fun hp => ?_) h
     obtain ⟨p1, rfl, p3, p4, p5⟩ := hp
     exact .indexOwnD T x i hop E p1 p3 id ver' off len h1 xs h3 p.1 p.2 h2 p4 p5
    ·exact h.elim
   ·exact h.elim
 | index T x i =>
  simp only [stepF] at h
  split at h
  ·exact h.elim
  ·rename_i p h2
   have h2 := intD_eq h2
   split at h
   ·rename_i y hy
    split at h
    ·rename_i z; exact fin (fun hp => .indexStr T x i hop hp.1 z hy p.1 p.2 h2 hp.2.1 _ (nthB_get hp.2.2)) h
    ·exact h.elim
   ·exact h.elim
 | extract x i =>
  simp only [stepF] at h
  split at h
  ·rename_i ds h1
   split at h
   ·rename_i d h2; exact fin (fun _ => .extract x i hop ds h1 d h2) h
   ·exact h.elim
  ·exact h.elim
 | makeFunc f first captured =>
  cases f with
  | func f =>
   simp only [stepF] at h
   refine fin (fun hp => ?_) h
   have : first = #[] := by apply Array.ext'; simpa using hp
   subst this
   exact .makeFunc f captured hop
  | _ => exact h.elim
 | call c =>
  obtain ⟨callee, args, tys⟩ := c
  simp only [stepF] at h
  unfold callF at h
  split at h
  ·rename_i x T ha ht
   have e1 : args = #[x] := by apply Array.ext'; simpa using ha
   have e2 : tys = #[T] := by apply Array.ext'; simpa using ht
   subst e1 e2
   unfold lenF at h
   split at h
   ·rename_i y hx
    split at h
    ·rename_i E' xs
     refine fin (fun hp => ?_) h
     obtain ⟨E, hE⟩ := Option.isSome_iff_exists.1 hp
     exact .lenSl x T hop E E' hE xs hx
    ·rename_i z; exact fin (fun hp => .lenStr x T hop hp z hx) h
    ·exact h.elim
   ·rename_i id ver off len hx
    refine fin (fun hp => ?_) h
    obtain ⟨E, hE⟩ := Option.isSome_iff_exists.1 hp.1
    exact .lenOwn x T hop E hE id ver off len hx hp.2
   ·rename_i hx
    refine fin (fun hp => ?_) h
    obtain ⟨E, hE⟩ := Option.isSome_iff_exists.1 hp
    exact .lenNils x T hop E hE hx
   ·exact h.elim
  ·rename_i x y ha
   have e1 : args = #[x, y] := by apply Array.ext'; simpa using ha
   subst e1
   split at h
   ·rename_i p r hx hy
    refine fin (fun hp => ?_) h
    have hx := intD_eq hx
    have hy := intD_eq hy
    rw [← hp] at hy
    exact .max x y tys hop p.1 p.2 r.2 hx hy
   ·exact h.elim
  ·rename_i x y ha
   have e1 : args = #[x, y] := by apply Array.ext'; simpa using ha
   subst e1
   split at h
   ·rename_i p r hx hy
    have hx := intD_eq hx
    have hy := intD_eq hy
    obtain ⟨hp, h2, h3, h4⟩ := h
    rw [← hp] at hy
    refine aop_min x y tys hop hx hy (fun t ht => ?_) h4
    unfold dstIn at h3
    rw [ht] at h3
    exact h3
   ·exact h.elim
  ·rename_i x y T T' ha ht
   have e1 : args = #[x, y] := by apply Array.ext'; simpa using ha
   have e2 : tys = #[T, T'] := by apply Array.ext'; simpa using ht
   subst e1 e2
   split at h
   ·rename_i id E hd hE
    split at h
    ·rename_i hTT
     subst hTT
     unfold appendF at h
     split at h
     ·exact h.elim
     ·rename_i ys hs
      split at h
      ·rename_i hx
       split at h
       ·exact fin (fun hp => .appendNils x y T id hop hd E hE hp.1 hp.2.1 hx ys hs hp.2.2.1 hp.2.2.2) h
       ·exact fin (fun hp => .appendData x y T hop E hE hp.1 hp.2.1 hx ys hs hp.2.2) h
      ·rename_i i ver off len hx
       split at h
       ·rename_i E' ver' xs h3
        refine fin (fun hp => ?_) h
        obtain ⟨rfl, p1, p2, rfl, rfl, rfl, p6, p7⟩ := hp
        exact .appendOwn x y T hop E' hE p1 p2 i ver' xs hx h3 ys hs p6 p7
       ·exact h.elim
      ·rename_i E' xs hx
       refine fin (fun hp => ?_) h
       obtain ⟨rfl, p1, p2, p3, p4⟩ := hp
       exact .appendCap x y T hop E' hE p1 p2 xs hx ys hs p3 p4
      ·exact h.elim
    ·exact h.elim
   ·exact h.elim
  ·rename_i f
   split at h
   ·rename_i F caps hf
    exact aop_call f args tys hop F caps hf (by simpa [hasBody] using h.1) h.2
   ·exact h.elim
  ·exact h.elim
 | _ => exact h.elim
end Go.Lw
end
