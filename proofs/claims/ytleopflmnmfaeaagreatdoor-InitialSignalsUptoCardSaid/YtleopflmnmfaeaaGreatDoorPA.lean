/-
A part of the proof that the statement InitialValues holds of the given program (second form, tied card): pure data, abstract values, what each kind of operation does to them.
-/
import Derived.Laws.Entries
import Derived.Laws.Rows
import Derived.Laws.AppendOwn
import Derived.Orders
import Derived.KernelRfl
import Derived.Laws.BytesArg
import Derived.Deep.MidRow
import Derived.Laws.CopyRow
import Derived.Laws.MakeOwn
import Derived.Laws.StructEq
import Derived.Laws.RangeString
set_option autoImplicit false
set_option linter.unusedSimpArgs false
set_option linter.unusedVariables false
set_option linter.unnecessarySimpa false
section
namespace Go.Lw
inductive I where
 | int (k : IntKind) (n : Int)
 | bool (b : Bool)
 | str (s : ByteArray)
 | agg (xs : List I)
 | sl (E : TypeId) (xs : List I)
 | ptr (cells : List I)
 | nilp
 | map (es : List (I × I))
 | nilm
 | fn (f : FuncId) (caps : List I)
 | nilf
 deriving Inhabited
def I.cells : I → List I
 | .agg xs => xs
 | x => [x]
def top : Nat := 140737488355328
def Value.leaf : Value → Bool
 | .agg _ | .tuple _ => false
 | _ => true
inductive V (P : Program) (w : World) (F : Nat → Prop) : I → Value → Prop
 | int (k : IntKind) (n : Int) : V P w F (.int k n) (.int k n)
 | bool (b : Bool) : V P w F (.bool b) (.bool b)
 | str (s : ByteArray) (h : s.size ≤ top) : V P w F (.str s) (.string s)
 | agg (xs : List I) (vs : List Value) (hl : vs.length = xs.length)
   (h : ∀ (j : Nat) (x : I) (v : Value), xs[j]? = some x → vs[j]? = some v → V P w F x v)
   (h1 : ∀ v ∈ vs, Value.leaf v = true) : V P w F (.agg xs) (.agg vs.toArray)
 | sl0 (E : TypeId) (A : Option Addr) (cap : Nat) : V P w F (.sl E []) (.slice A 0 cap)
 | sl (E : TypeId) (xs : List I) (b off cap : Nat) (us : List Value) (hl : us.length = xs.length) (hc : xs.length ≤ cap) (ht : xs.length ≤ top)
   (h : ∀ (j : Nat) (x : I) (u : Value), xs[j]? = some x → us[j]? = some u → V P w F x u)
   (hs : ∀ (j : Nat) (u : Value), us[j]? = some u → u.cells.size = P.cellsOf E)
   (hm : ∀ (j : Nat) (u : Value) (m : Nat) (c : Value), us[j]? = some u → u.cells[m]? = some c → w.cell? ⟨b, off + j * P.cellsOf E + m, none⟩ = some c)
   (hb : b < w.heap.size) (hF : ¬ F b) : V P w F (.sl E xs) (.slice (some ⟨b, off, none⟩) xs.length cap)
 | ptr (cells : List I) (b off : Nat) (us : List Value) (hl : us.length = cells.length)
   (h : ∀ (j : Nat) (x : I) (u : Value), cells[j]? = some x → us[j]? = some u → V P w F x u)
   (h1 : ∀ v ∈ us, Value.leaf v = true)
   (hm : ∀ (m : Nat) (c : Value), us[m]? = some c → w.cell? ⟨b, off + m, none⟩ = some c)
   (hb : b < w.heap.size) (hF : ¬ F b) : V P w F (.ptr cells) (.pointer (some ⟨b, off, none⟩))
 | nilp : V P w F .nilp (.pointer none)
 | map (es : List (I × I)) (r : Nat) (ms : Array MapEntry) (clock : Nat) (hr : w.heap[r]? = some (.map ms clock)) (hl : ms.toList.length = es.length)
   (hk : ∀ (j : Nat) (e : I × I) (m : MapEntry), es[j]? = some e → ms.toList[j]? = some m → V P w F e.1 m.key)
   (hv : ∀ (j : Nat) (e : I × I) (m : MapEntry), es[j]? = some e → ms.toList[j]? = some m → V P w F e.2 m.val)
   (hF : ¬ F r) : V P w F (.map es) (.map (some r))
 | nilm : V P w F .nilm (.map none)
 | fn (f : FuncId) (caps : List I) (vs : List Value) (hl : vs.length = caps.length)
   (h : ∀ (j : Nat) (x : I) (u : Value), caps[j]? = some x → vs[j]? = some u → V P w F x u) : V P w F (.fn f caps) (.func (.func f) #[] vs.toArray)
 | nilf : V P w F .nilf .nilFunc
theorem cell_same {w w' : World} {a : Addr} (h : w'.heap[a.block]? = w.heap[a.block]?) : w'.cell? a = w.cell? a := by simp [World.cell?, h]
theorem V.mono {P : Program} {w w' : World} {F F' : Nat → Prop} {x : I} {v : Value} (h : V P w F x v) (hsz : w.heap.size ≤ w'.heap.size)
  (hw : ∀ b, b < w.heap.size → ¬ F b → w'.heap[b]? = w.heap[b]?) (hF : ∀ b, b < w.heap.size → F' b → F b) : V P w' F' x v := by
 have cell : ∀ {a : Addr} {c : Value}, ¬ F a.block → w.cell? a = some c → w'.cell? a = some c := fun {a c} hf hc =>
  (cell_same (hw _ (World.block_lt_of_cell? w a hc) hf)).trans hc
 induction h with
 | int k n => exact .int k n
 | bool b => exact .bool b
 | str s h => exact .str s h
 | agg xs vs hl _ h1 ih => exact .agg xs vs hl ih h1
 | sl0 E A cap => exact .sl0 E A cap
 | sl E xs b off cap us hl hc ht hv hs hm hb hf ih =>
  exact .sl E _ b off cap us hl hc ht ih hs (fun j u m c h1 h2 => cell hf (hm j u m c h1 h2)) (by omega) (fun h => hf (hF b hb h))
 | ptr cells b off us hl hv h1 hm hb hf ih =>
  exact .ptr cells b off us hl ih h1 (fun m c h => cell hf (hm m c h)) (by omega) (fun h => hf (hF b hb h))
 | nilp => exact .nilp
 | map es r ms clock hr hl hk hv hf ihk ihv =>
  have hlt : r < w.heap.size := (Array.getElem?_eq_some_iff.1 hr).1
  exact .map es r ms clock ((hw r hlt hf).trans hr) hl ihk ihv (fun h => hf (hF r hlt h))
 | nilm => exact .nilm
 | fn f caps vs hl _ ih => exact .fn f caps vs hl ih
 | nilf => exact .nilf
theorem V.not_tuple {P : Program} {w : World} {F : Nat → Prop} {x : I} {vs : Array Value} (h : V P w F x (.tuple vs)) : False := by cases h
theorem V.cells {P : Program} {w : World} {F : Nat → Prop} {x : I} {v : Value} (h : V P w F x v) :
  v.cells.size = x.cells.length ∧ (∀ (j : Nat) (y : I) (c : Value), x.cells[j]? = some y → v.cells[j]? = some c → V P w F y c) ∧ ∀ c ∈ v.cells, Value.leaf c = true := by
 cases h with
 | agg xs vs hl h h1 =>
  refine ⟨by simpa [Value.cells, I.cells] using hl, fun j y c hy hc => h j y c (by simpa [I.cells] using hy) (by simpa [Value.cells] using hc), fun c hc => h1 c (by simpa [Value.cells] using hc)⟩
 | _ =>
  refine ⟨by simp [Value.cells, I.cells], fun j y c hy hc => ?_, fun c hc => ?_⟩
  ·cases j with
   | zero =>
    simp [Value.cells, I.cells] at hy hc
    subst hy hc
    first
     | exact .int _ _
     | exact .bool _
     | exact .nilp
     | exact .nilm
     | exact .nilf
     | exact .sl0 _ _ _
     | (apply V.str; assumption)
     | (apply V.sl <;> assumption)
     | (apply V.ptr <;> assumption)
     | (apply V.map <;> assumption)
     | (apply V.fn <;> assumption)
   | succ j => simp [Value.cells, I.cells] at hy
  ·simp [Value.cells] at hc
   subst hc
   rfl
inductive D where
 | i (x : I)
 | kb (b : Bool)
 | nils
 | own (id ver off len : Nat)
 | loc (id cell : Nat)
 | el (id ver idx off : Nat)
 | agg (xs : List D)
 | tup (xs : List D)
 | lmap (id : Nat)
 | capd (E : TypeId) (xs : List I)
 | it (id : Nat)
 | fn (f : FuncId) (caps : List D)
 | any
 deriving Inhabited
inductive Ob where
 | var (T : TypeId) (cs : List D)
 | arr (E : TypeId) (ver : Nat) (xs : List I)
 | arrd (E : TypeId) (ver : Nat) (xs : List D)
 | map (es : List (I × I))
 | strit (s : ByteArray) (pos : Nat)
 deriving Inhabited
structure G where
 w : World
 F : Nat → Prop
 β : Nat → Nat
 ob : Nat → Option Ob
inductive VD (P : Program) (g : G) : D → Value → Prop
 | any (v : Value) : VD P g .any v
 | i (x : I) (v : Value) (h : V P g.w g.F x v) : VD P g (.i x) v
 | kb (b : Bool) : VD P g (.kb b) (.bool b)
 | nils (A : Option Addr) : VD P g .nils (.slice A 0 0)
 | own (id ver off len cap : Nat) (E : TypeId) (xs : List I) (cur : Array Value) (ho : g.ob id = some (.arr E ver xs)) (hl : off + len ≤ xs.length) (hc : len ≤ cap)
   (hb : g.w.heap[g.β id]? = some (.cells cur E (0, 0))) (hcap : (off + cap) * P.cellsOf E ≤ cur.size) (hm : cap ≤ maxLen) :
   VD P g (.own id ver off len) (.slice (some ⟨g.β id, off * P.cellsOf E, none⟩) len cap)
 | ownd (id ver off len cap : Nat) (E : TypeId) (xs : List D) (ho : g.ob id = some (.arrd E ver xs)) (hl : off + len ≤ xs.length) (hc : len ≤ cap) :
   VD P g (.own id ver off len) (.slice (some ⟨g.β id, off * P.cellsOf E, none⟩) len cap)
 | ownStale (id ver ver' off len : Nat) (E : TypeId) (xs : List I) (v : Value) (ho : g.ob id = some (.arr E ver' xs)) (hlt : ver < ver') (hv : Value.leaf v = true) : VD P g (.own id ver off len) v
 | loc (id c : Nat) (T : TypeId) (cs : List D) (ho : g.ob id = some (.var T cs)) : VD P g (.loc id c) (.pointer (some ⟨g.β id, c, none⟩))
 | el (id ver idx off : Nat) (E : TypeId) (xs : List I) (ho : g.ob id = some (.arr E ver xs)) (hi : idx < xs.length) :
   VD P g (.el id ver idx off) (.pointer (some ⟨g.β id, idx * P.cellsOf E + off, none⟩))
 | eld (id ver idx off : Nat) (E : TypeId) (xs : List D) (ho : g.ob id = some (.arrd E ver xs)) (hi : idx < xs.length) :
   VD P g (.el id ver idx off) (.pointer (some ⟨g.β id, idx * P.cellsOf E + off, none⟩))
 | elStale (id ver ver' idx off : Nat) (E : TypeId) (xs : List I) (v : Value) (ho : g.ob id = some (.arr E ver' xs)) (hlt : ver < ver') (hv : Value.leaf v = true) : VD P g (.el id ver idx off) v
 | agg (xs : List D) (vs : List Value) (hl : vs.length = xs.length)
   (h : ∀ (j : Nat) (x : D) (v : Value), xs[j]? = some x → vs[j]? = some v → VD P g x v) (h1 : ∀ v ∈ vs, Value.leaf v = true) : VD P g (.agg xs) (.agg vs.toArray)
 | tup (xs : List D) (vs : List Value) (hl : vs.length = xs.length)
   (h : ∀ (j : Nat) (x : D) (v : Value), xs[j]? = some x → vs[j]? = some v → VD P g x v) : VD P g (.tup xs) (.tuple vs.toArray)
 | lmap (id : Nat) (es : List (I × I)) (ho : g.ob id = some (.map es)) : VD P g (.lmap id) (.map (some (g.β id)))
 | capd (E : TypeId) (xs : List I) (A : Option Addr) (h : V P g.w g.F (.sl E xs) (.slice A xs.length xs.length)) : VD P g (.capd E xs) (.slice A xs.length xs.length)
 | it (id : Nat) (s : ByteArray) (pos : Nat) (ho : g.ob id = some (.strit s pos)) : VD P g (.it id) (.pointer (some ⟨g.β id, 0, none⟩))
 | fn (f : FuncId) (caps : List D) (vs : List Value) (hl : vs.length = caps.length)
   (h : ∀ (j : Nat) (x : D) (v : Value), caps[j]? = some x → vs[j]? = some v → VD P g x v) : VD P g (.fn f caps) (.func (.func f) #[] vs.toArray)
inductive ObRel (P : Program) (g : G) (id : Nat) : Ob → Prop
 | var (T : TypeId) (cs : List D) (vs : List Value) (hb : g.w.heap[g.β id]? = some (.cells vs.toArray T (0, 0))) (hl : vs.length = cs.length)
   (h : ∀ (j : Nat) (x : D) (v : Value), cs[j]? = some x → vs[j]? = some v → VD P g x v) (h1 : ∀ v ∈ vs, Value.leaf v = true) : ObRel P g id (.var T cs)
 | arr (E : TypeId) (ver : Nat) (xs : List I) (cur : Array Value) (us : List Value) (hb : g.w.heap[g.β id]? = some (.cells cur E (0, 0))) (hl : us.length = xs.length) (ht : xs.length ≤ top)
   (h : ∀ (j : Nat) (x : I) (u : Value), xs[j]? = some x → us[j]? = some u → V P g.w g.F x u)
   (hs : ∀ (j : Nat) (u : Value), us[j]? = some u → u.cells.size = P.cellsOf E)
   (hm : ∀ (j : Nat) (u : Value) (m : Nat) (c : Value), us[j]? = some u → u.cells[m]? = some c → cur[j * P.cellsOf E + m]? = some c) : ObRel P g id (.arr E ver xs)
 | arrd (E : TypeId) (ver : Nat) (xs : List D) (cur : Array Value) (us : List Value) (hb : g.w.heap[g.β id]? = some (.cells cur E (0, 0))) (hl : us.length = xs.length) (ht : xs.length ≤ top)
   (h : ∀ (j : Nat) (x : D) (u : Value), xs[j]? = some x → us[j]? = some u → VD P g x u)
   (hs : ∀ (j : Nat) (u : Value), us[j]? = some u → u.cells.size = P.cellsOf E)
   (hm : ∀ (j : Nat) (u : Value) (m : Nat) (c : Value), us[j]? = some u → u.cells[m]? = some c → cur[j * P.cellsOf E + m]? = some c) : ObRel P g id (.arrd E ver xs)
 | map (es : List (I × I)) (ms : Array MapEntry) (clock : Nat) (hr : g.w.heap[g.β id]? = some (.map ms clock)) (hl : ms.toList.length = es.length)
   (hk : ∀ (j : Nat) (e : I × I) (m : MapEntry), es[j]? = some e → ms.toList[j]? = some m → V P g.w g.F e.1 m.key)
   (hv : ∀ (j : Nat) (e : I × I) (m : MapEntry), es[j]? = some e → ms.toList[j]? = some m → V P g.w g.F e.2 m.val) : ObRel P g id (.map es)
 | strit (s : ByteArray) (pos : Nat) (hr : g.w.heap[g.β id]? = some (.stringIter s pos)) : ObRel P g id (.strit s pos)
end Go.Lw
end
section
namespace Go.Lw
inductive Ob.le : Ob → Ob → Bool → Prop
 | var (T : TypeId) (cs cs' : List D) : Ob.le (.var T cs) (.var T cs') true
 | arr (E : TypeId) (ver : Nat) (xs xs' : List I) (h : xs.length ≤ xs'.length) : Ob.le (.arr E ver xs) (.arr E ver xs') true
 | arrv (E : TypeId) (ver ver' : Nat) (xs xs' : List I) (h : ver < ver') (b : Bool) : Ob.le (.arr E ver xs) (.arr E ver' xs') b
 | arrd (E : TypeId) (ver : Nat) (xs xs' : List D) (h : xs.length ≤ xs'.length) : Ob.le (.arrd E ver xs) (.arrd E ver xs') true
 | map (es es' : List (I × I)) : Ob.le (.map es) (.map es') true
 | strit (s : ByteArray) (p p' : Nat) : Ob.le (.strit s p) (.strit s p') true
theorem Ob.le.refl (o : Ob) : Ob.le o o true := by
 cases o with
 | var T cs => exact .var T cs cs
 | arr E v xs => exact .arr E v xs xs (Nat.le_refl _)
 | arrd E v xs => exact .arrd E v xs xs (Nat.le_refl _)
 | map es => exact .map es es
 | strit s p => exact .strit s p p
structure Keeps (g g' : G) : Prop where
 size : g.w.heap.size ≤ g'.w.heap.size
 block : ∀ b, b < g.w.heap.size → ¬ g.F b → g'.w.heap[b]? = g.w.heap[b]?
 forb : ∀ b, b < g.w.heap.size → g'.F b → g.F b
 ob : ∀ id o, g.ob id = some o → ∃ o' same, g'.ob id = some o' ∧ Ob.le o o' same ∧ (same = true → g'.β id = g.β id) ∧
  (same = true → ∀ cur E, g.w.heap[g.β id]? = some (.cells cur E (0, 0)) → ∃ cur', g'.w.heap[g'.β id]? = some (.cells cur' E (0, 0)) ∧ cur'.size = cur.size)
theorem Keeps.refl (g : G) : Keeps g g :=
 ⟨Nat.le_refl _, fun _ _ _ => rfl, fun _ _ h => h, fun id o h => ⟨o, true, h, .refl o, fun _ => rfl, fun _ cur E h => ⟨cur, h, rfl⟩⟩⟩
theorem Ob.le.trans {o o1 o2 : Ob} {s1 s2 : Bool} (h : Ob.le o o1 s1) (k : Ob.le o1 o2 s2) : Ob.le o o2 (s1 && s2) := by
 cases h with
 | var T cs cs' => cases k with
  | var _ _ cs2 => exact .var T cs cs2
 | arr E v xs xs' h => cases k with
  | arr _ _ _ xs2 h2 => exact .arr E v xs xs2 (by omega)
  | arrv _ _ v2 _ xs2 h2 b => exact .arrv E v v2 xs xs2 h2 _
 | arrv E v v' xs xs' h b => cases k with
  | arr _ _ _ xs2 h2 => exact .arrv E v v' xs xs2 h _
  | arrv _ _ v2 _ xs2 h2 b2 => exact .arrv E v v2 xs xs2 (by omega) _
 | arrd E v xs xs' h => cases k with
  | arrd _ _ _ xs2 h2 => exact .arrd E v xs xs2 (by omega)
 | map es es' => cases k with
  | map _ es2 => exact .map es es2
 | strit s p p' => cases k with
  | strit _ _ p2 => exact .strit s p p2
theorem Keeps.trans' {g g1 g2 : G} (h : Keeps g g1) (k : Keeps g1 g2) : Keeps g g2 := by
 refine ⟨Nat.le_trans h.size k.size, fun b h1 h2 => ?_, fun b h1 h2 => h.forb b h1 (k.forb b (Nat.lt_of_lt_of_le h1 h.size) h2), fun id o h1 => ?_⟩
 ·exact (k.block b (Nat.lt_of_lt_of_le h1 h.size) (fun hf => h2 (h.forb b h1 hf))).trans (h.block b h1 h2)
 ·obtain ⟨o1, s1, a1, a2, a3, a4⟩ := h.ob id o h1
  obtain ⟨o2, s2, b1, b2, b3, b4⟩ := k.ob id o1 a1
  refine ⟨o2, s1 && s2, b1, a2.trans b2, fun hs => ?_, fun hs cur E hc => ?_⟩
  ·simp at hs; rw [b3 hs.2, a3 hs.1]
  ·simp at hs
   obtain ⟨c1, d1, d2⟩ := a4 hs.1 cur E hc
   obtain ⟨c2, e1, e2⟩ := b4 hs.2 c1 E d1
   exact ⟨c2, e1, by omega⟩
theorem V.keeps {P : Program} {g g' : G} (hk : Keeps g g') {x : I} {v : Value} (h : V P g.w g.F x v) : V P g'.w g'.F x v := h.mono hk.size hk.block hk.forb
theorem VD.keeps {P : Program} {g g' : G} (hk : Keeps g g') {d : D} {v : Value} (h : VD P g d v) : VD P g' d v := by
 induction h with
 | any v => exact .any v
 | i x v h => exact .i x v (h.keeps hk)
 | nils A => exact .nils A
 | kb b => exact .kb b
 | own id ver off len cap E xs cur ho hl hc hb hcap hm =>
  obtain ⟨o', same, ho', hle, hβ, hcells⟩ := hk.ob id _ ho
  cases hle with
  | arr _ _ _ xs' h =>
   obtain ⟨cur', hcur', hs⟩ := hcells rfl cur E hb
   rw [← hβ rfl]
   exact .own id ver off len cap E xs' cur' ho' (by omega) hc hcur' (by omega) hm
  | arrv _ _ ver' _ xs' h _ => exact .ownStale id ver ver' off len E xs' _ ho' h rfl
 | ownd id ver off len cap E xs ho hl hc =>
  obtain ⟨o', same, ho', hle, hβ, hcells⟩ := hk.ob id _ ho
  cases hle with
  | arrd _ _ _ xs' h => rw [← hβ rfl]; exact .ownd id ver off len cap E xs' ho' (by omega) hc
 | ownStale id ver ver' off len E xs v ho hlt hv =>
  obtain ⟨o', same, ho', hle, hβ, hcells⟩ := hk.ob id _ ho
  cases hle with
  | arr _ _ _ xs' h => exact .ownStale id ver ver' off len E xs' _ ho' hlt hv
  | arrv _ _ ver2 _ xs' h _ => exact .ownStale id ver ver2 off len E xs' _ ho' (by omega) hv
 | loc id c T cs ho =>
  obtain ⟨o', same, ho', hle, hβ, hcells⟩ := hk.ob id _ ho
  cases hle with
  | var _ _ cs' => rw [← hβ rfl]; exact .loc id c T cs' ho'
 | el id ver idx off E xs ho hi =>
  obtain ⟨o', same, ho', hle, hβ, hcells⟩ := hk.ob id _ ho
  cases hle with
  | arr _ _ _ xs' h => rw [← hβ rfl]; exact .el id ver idx off E xs' ho' (by omega)
  | arrv _ _ ver' _ xs' h _ => exact .elStale id ver ver' idx off E xs' _ ho' h rfl
 | eld id ver idx off E xs ho hi =>
  obtain ⟨o', same, ho', hle, hβ, hcells⟩ := hk.ob id _ ho
  cases hle with
  | arrd _ _ _ xs' h => rw [← hβ rfl]; exact .eld id ver idx off E xs' ho' (by omega)
 | elStale id ver ver' idx off E xs v ho hlt hv =>
  obtain ⟨o', same, ho', hle, hβ, hcells⟩ := hk.ob id _ ho
  cases hle with
  | arr _ _ _ xs' h => exact .elStale id ver ver' idx off E xs' _ ho' hlt hv
  | arrv _ _ ver2 _ xs' h _ => exact .elStale id ver ver2 idx off E xs' _ ho' (by omega) hv
 | agg xs vs hl _ h1 ih => exact .agg xs vs hl ih h1
 | tup xs vs hl _ ih => exact .tup xs vs hl ih
 | lmap id es ho =>
  obtain ⟨o', same, ho', hle, hβ, hcells⟩ := hk.ob id _ ho
  cases hle with
  | map _ es' => rw [← hβ rfl]; exact .lmap id es' ho'
 | capd E xs A h => exact .capd E xs A (h.keeps hk)
 | it id s pos ho =>
  obtain ⟨o', same, ho', hle, hβ, hcells⟩ := hk.ob id _ ho
  cases hle with
  | strit _ _ p' => rw [← hβ rfl]; exact .it id s p' ho'
 | fn f caps vs hl _ ih => exact .fn f caps vs hl ih
structure Ctx where
 w0 : World
 M : Nat → Prop
 lent : Nat → Prop
def live (β : Nat → Nat) (ob : Nat → Option Ob) (b : Nat) : Prop := ∃ id o, ob id = some o ∧ β id = b
def Ctx.g (c : Ctx) (w : World) (β : Nat → Nat) (ob : Nat → Option Ob) : G := ⟨w, fun b => c.M b ∨ live β ob b, β, ob⟩
structure Mem (P : Program) (c : Ctx) (ob : Nat → Option Ob) (w : World) (β : Nat → Nat) : Prop where
 size : c.w0.heap.size ≤ w.heap.size
 os : w.os = c.w0.os
 tape : w.tape = c.w0.tape
 output : w.output = c.w0.output
 frame : ∀ b, b < c.w0.heap.size → ¬ c.lent b → w.heap[b]? = c.w0.heap[b]?
 mlt : ∀ b, c.M b → b < c.w0.heap.size ∧ ¬ c.lent b
 obs : ∀ id o, ob id = some o → ObRel P (c.g w β ob) id o
 inj : ∀ id id' o o', ob id = some o → ob id' = some o' → β id = β id' → id = id'
 lt : ∀ id o, ob id = some o → β id < w.heap.size
 mine : ∀ id o, ob id = some o → c.w0.heap.size ≤ β id ∨ c.lent (β id)
theorem ObRel.keeps {P : Program} {g g' : G} (hk : Keeps g g') {id : Nat} {o : Ob} (hβ : g'.β id = g.β id) (hb : g'.w.heap[g.β id]? = g.w.heap[g.β id]?) (h : ObRel P g id o) : ObRel P g' id o := by
 cases h with
 | var T cs vs h1 hl h h2 => exact .var T cs vs (by rw [hβ, hb, h1]) hl (fun j x v a b => (h j x v a b).keeps hk) h2
 | arr E ver xs cur us h1 hl ht h hs hm => exact .arr E ver xs cur us (by rw [hβ, hb, h1]) hl ht (fun j x v a b => (h j x v a b).keeps hk) hs hm
 | arrd E ver xs cur us h1 hl ht h hs hm => exact .arrd E ver xs cur us (by rw [hβ, hb, h1]) hl ht (fun j x v a b => (h j x v a b).keeps hk) hs hm
 | map es ms clock hr hl hk' hv => exact .map es ms clock (by rw [hβ, hb, hr]) hl (fun j e m a b => (hk' j e m a b).keeps hk) (fun j e m a b => (hv j e m a b).keeps hk)
 | strit s pos hr => exact .strit s pos (by rw [hβ, hb, hr])
theorem Mem.quiet {P : Program} {c : Ctx} {ob : Nat → Option Ob} {w w' : World} {β : Nat → Nat} (h : Mem P c ob w β) (hs : w.heap.size ≤ w'.heap.size)
  (hb : ∀ b, b < w.heap.size → w'.heap[b]? = w.heap[b]?) (ho : w'.os = w.os) (ht : w'.tape = w.tape) (hout : w'.output = w.output) :
  Mem P c ob w' β ∧ Keeps (c.g w β ob) (c.g w' β ob) := by
 have hk : Keeps (c.g w β ob) (c.g w' β ob) := ⟨hs, fun b h1 _ => hb b h1, fun b _ h => h, fun id o h1 =>
  ⟨o, true, h1, .refl o, fun _ => rfl, fun _ cur E h2 => ⟨cur, by rw [← h2]; exact hb _ (h.lt id o h1), rfl⟩⟩⟩
 have hs0 : c.w0.heap.size ≤ w'.heap.size := Nat.le_trans h.size hs
 refine ⟨⟨hs0, ho.trans h.os, ht.trans h.tape, hout.trans h.output, fun b h1 h2 => (hb b (Nat.lt_of_lt_of_le h1 h.size)).trans (h.frame b h1 h2), h.mlt, fun id o h1 => ?_, h.inj, fun id o h1 => Nat.lt_of_lt_of_le (h.lt id o h1) hs, h.mine⟩, hk⟩
 exact (h.obs id o h1).keeps hk rfl (hb _ (h.lt id o h1))
end Go.Lw
end
section
namespace Go.Lw
def upd {α : Type} (f : Nat → α) (i : Nat) (x : α) : Nat → α := fun j => if j = i then x else f j
theorem upd_same {α : Type} (f : Nat → α) (i : Nat) (x : α) : upd f i x i = x := by simp [upd]
theorem upd_ne {α : Type} (f : Nat → α) {i j : Nat} (x : α) (h : j ≠ i) : upd f i x j = f j := by simp [upd, h]
theorem live_upd_new {β : Nat → Nat} {ob : Nat → Option Ob} {id : Nat} {o : Ob} {b k : Nat} (h : live (upd β id k) (upd ob id (some o)) b) : b = k ∨ live β ob b := by
 obtain ⟨i, o', h1, h2⟩ := h
 by_cases hi : i = id
 ·subst hi; left; rw [upd_same] at h2; exact h2.symm
 ·rw [upd_ne _ _ hi] at h1 h2; exact .inr ⟨i, o', h1, h2⟩
theorem Keeps.new {P : Program} {c : Ctx} {ob : Nat → Option Ob} {w : World} {β : Nat → Nat} (h : Mem P c ob w β) {id : Nat} (hid : ob id = none) (O : Obj) (o : Ob) :
  Keeps (c.g w β ob) (c.g (w.alloc O) (upd β id w.heap.size) (upd ob id (some o))) := by
 refine ⟨by simp [Ctx.g], fun b h1 _ => heap_alloc_old w O b h1, fun b h1 h2 => ?_, fun i o1 h1 => ?_⟩
 ·rcases h2 with h2 | h2
  ·exact .inl h2
  ·rcases live_upd_new h2 with h3 | h3
   ·simp only [Ctx.g] at h1; omega
   ·exact .inr h3
 ·have hne : i ≠ id := fun e => by subst e; rw [show (c.g w β ob).ob i = ob i from rfl, hid] at h1; cases h1
  refine ⟨o1, true, by simp [Ctx.g, upd_ne _ _ hne]; exact h1, .refl o1, fun _ => by simp [Ctx.g, upd_ne _ _ hne], fun _ cur E h2 => ⟨cur, ?_, rfl⟩⟩
  simp only [Ctx.g, upd_ne _ _ hne] at h2 ⊢
  rw [← h2]; exact heap_alloc_old w O _ (h.lt i o1 h1)
theorem Mem.new {P : Program} {c : Ctx} {ob : Nat → Option Ob} {w : World} {β : Nat → Nat} (h : Mem P c ob w β) {id : Nat} (hid : ob id = none) (O : Obj) (o : Ob)
  (hr : ObRel P (c.g (w.alloc O) (upd β id w.heap.size) (upd ob id (some o))) id o) : Mem P c (upd ob id (some o)) (w.alloc O) (upd β id w.heap.size) := by
 have hk := Keeps.new h hid O o
 refine ⟨by simp; have := h.size; omega, h.os, h.tape, h.output, fun b h1 h2 => (heap_alloc_old w O b (Nat.lt_of_lt_of_le h1 h.size)).trans (h.frame b h1 h2), h.mlt, fun i o1 h1 => ?_, fun i j o1 o2 h1 h2 he => ?_, fun i o1 h1 => ?_, fun i o1 h1 => ?_⟩
 ·by_cases hi : i = id
  ·subst hi; rw [upd_same] at h1; cases h1; exact hr
  ·rw [upd_ne _ _ hi] at h1
   refine (h.obs i o1 h1).keeps hk (by simp [Ctx.g, upd_ne _ _ hi]) ?_
   exact heap_alloc_old w O _ (h.lt i o1 h1)
 ·by_cases hi : i = id <;> by_cases hj : j = id
  ·rw [hi, hj]
  ·subst hi; rw [upd_same, upd_ne _ _ hj] at he; rw [upd_ne _ _ hj] at h2; have := h.lt j o2 h2; omega
  ·subst hj; rw [upd_same, upd_ne _ _ hi] at he; rw [upd_ne _ _ hi] at h1; have := h.lt i o1 h1; omega
  ·rw [upd_ne _ _ hi] at he h1; rw [upd_ne _ _ hj] at he h2; exact h.inj i j o1 o2 h1 h2 he
 ·by_cases hi : i = id
  ·subst hi; rw [upd_same]; simp
  ·rw [upd_ne _ _ hi] at h1 ⊢; have := h.lt i o1 h1; simp; omega
 ·by_cases hi : i = id
  ·subst hi; rw [upd_same]; exact .inl h.size
  ·rw [upd_ne _ _ hi] at h1 ⊢; exact h.mine i o1 h1
theorem live_upd_set {β : Nat → Nat} {ob : Nat → Option Ob} {id : Nat} {o o' : Ob} (h0 : ob id = some o) {b : Nat} : live β (upd ob id (some o')) b ↔ live β ob b := by
 constructor
 ·rintro ⟨i, o1, h1, h2⟩
  by_cases hi : i = id
  ·subst hi; exact ⟨i, o, h0, h2⟩
  ·rw [upd_ne _ _ hi] at h1; exact ⟨i, o1, h1, h2⟩
 ·rintro ⟨i, o1, h1, h2⟩
  by_cases hi : i = id
  ·subst hi; exact ⟨i, o', upd_same _ _ _, h2⟩
  ·exact ⟨i, o1, by rw [upd_ne _ _ hi]; exact h1, h2⟩
theorem Keeps.set {P : Program} {c : Ctx} {ob : Nat → Option Ob} {w w' : World} {β : Nat → Nat} (h : Mem P c ob w β) {id : Nat} {o o' : Ob} (hid : ob id = some o) (hle : Ob.le o o' true)
  (hs : w'.heap.size = w.heap.size) (hb : ∀ b, b ≠ β id → w'.heap[b]? = w.heap[b]?)
  (hc : ∀ cur E, w.heap[β id]? = some (.cells cur E (0, 0)) → ∃ cur', w'.heap[β id]? = some (.cells cur' E (0, 0)) ∧ cur'.size = cur.size) :
  Keeps (c.g w β ob) (c.g w' β (upd ob id (some o'))) := by
 refine ⟨by simp [Ctx.g, hs], fun b h1 h2 => hb b (fun e => h2 (.inr ⟨id, o, hid, e.symm⟩)), fun b h1 h2 => ?_, fun i o1 h1 => ?_⟩
 ·rcases h2 with h2 | h2
  ·exact .inl h2
  ·exact .inr ((live_upd_set hid).1 h2)
 ·by_cases hi : i = id
  ·subst hi
   have e : o1 = o := by rw [show (c.g w β ob).ob i = ob i from rfl, hid] at h1; cases h1; rfl
   subst e
   exact ⟨o', true, by simp [Ctx.g, upd_same], hle, fun _ => rfl, fun _ cur E h2 => hc cur E h2⟩
  ·refine ⟨o1, true, by simp [Ctx.g, upd_ne _ _ hi]; exact h1, .refl o1, fun _ => rfl, fun _ cur E h2 => ⟨cur, ?_, rfl⟩⟩
   simp only [Ctx.g] at h2 ⊢
   rw [← h2]; exact hb _ (fun e => hi (h.inj i id o1 o h1 hid e))
theorem Mem.set {P : Program} {c : Ctx} {ob : Nat → Option Ob} {w w' : World} {β : Nat → Nat} (h : Mem P c ob w β) {id : Nat} {o o' : Ob} (hid : ob id = some o) (hle : Ob.le o o' true)
  (hs : w'.heap.size = w.heap.size) (hb : ∀ b, b ≠ β id → w'.heap[b]? = w.heap[b]?)
  (hc : ∀ cur E, w.heap[β id]? = some (.cells cur E (0, 0)) → ∃ cur', w'.heap[β id]? = some (.cells cur' E (0, 0)) ∧ cur'.size = cur.size)
  (ho : w'.os = w.os) (ht : w'.tape = w.tape) (hout : w'.output = w.output)
  (hr : ObRel P (c.g w' β (upd ob id (some o'))) id o') : Mem P c (upd ob id (some o')) w' β := by
 have hk := Keeps.set h hid hle hs hb hc
 refine ⟨by rw [hs]; exact h.size, ho.trans h.os, ht.trans h.tape, hout.trans h.output, fun b h1 h2 => (hb b ?_).trans (h.frame b h1 h2), h.mlt, fun i o1 h1 => ?_, fun i j o1 o2 h1 h2 he => ?_, fun i o1 h1 => ?_, fun i o1 h1 => ?_⟩
 ·intro e
  rcases h.mine id o hid with h3 | h3
  ·omega
  ·exact h2 (e ▸ h3)
 ·by_cases hi : i = id
  ·subst hi; rw [upd_same] at h1; cases h1; exact hr
  ·rw [upd_ne _ _ hi] at h1
   exact (h.obs i o1 h1).keeps hk rfl (hb _ (fun e => hi (h.inj i id o1 o h1 hid e)))
 ·have get : ∀ k oo, upd ob id (some o') k = some oo → ∃ o3, ob k = some o3 := fun k oo hk' => by
   by_cases hi : k = id
   ·subst hi; exact ⟨o, hid⟩
   ·rw [upd_ne _ _ hi] at hk'; exact ⟨oo, hk'⟩
  obtain ⟨a, ha⟩ := get i o1 h1
  obtain ⟨b, hb'⟩ := get j o2 h2
  exact h.inj i j a b ha hb' he
 ·by_cases hi : i = id
  ·subst hi; rw [hs]; exact h.lt i o hid
  ·rw [upd_ne _ _ hi] at h1; rw [hs]; exact h.lt i o1 h1
 ·by_cases hi : i = id
  ·subst hi; exact h.mine i o hid
  ·rw [upd_ne _ _ hi] at h1; exact h.mine i o1 h1
theorem Keeps.move {P : Program} {c : Ctx} {ob : Nat → Option Ob} {w : World} {β : Nat → Nat} (h : Mem P c ob w β) {id : Nat} {o o' : Ob} (hid : ob id = some o) (hle : Ob.le o o' false) (O : Obj) :
  Keeps (c.g w β ob) (c.g (w.alloc O) (upd β id w.heap.size) (upd ob id (some o'))) := by
 refine ⟨by simp [Ctx.g], fun b h1 _ => heap_alloc_old w O b h1, fun b h1 h2 => ?_, fun i o1 h1 => ?_⟩
 ·rcases h2 with h2 | h2
  ·exact .inl h2
  ·rcases live_upd_new h2 with h3 | h3
   ·simp only [Ctx.g] at h1; omega
   ·exact .inr h3
 ·by_cases hi : i = id
  ·subst hi
   have e : o1 = o := by rw [show (c.g w β ob).ob i = ob i from rfl, hid] at h1; cases h1; rfl
   subst e
   exact ⟨o', false, by simp [Ctx.g, upd_same], hle, fun h => (by cases h), fun h => (by cases h)⟩
  ·refine ⟨o1, true, by simp [Ctx.g, upd_ne _ _ hi]; exact h1, .refl o1, fun _ => by simp [Ctx.g, upd_ne _ _ hi], fun _ cur E h2 => ⟨cur, ?_, rfl⟩⟩
   simp only [Ctx.g, upd_ne _ _ hi] at h2 ⊢
   rw [← h2]; exact heap_alloc_old w O _ (h.lt i o1 h1)
theorem Mem.move {P : Program} {c : Ctx} {ob : Nat → Option Ob} {w : World} {β : Nat → Nat} (h : Mem P c ob w β) {id : Nat} {o o' : Ob} (hid : ob id = some o) (hle : Ob.le o o' false) (O : Obj)
  (hr : ObRel P (c.g (w.alloc O) (upd β id w.heap.size) (upd ob id (some o'))) id o') : Mem P c (upd ob id (some o')) (w.alloc O) (upd β id w.heap.size) := by
 have hk := Keeps.move h hid hle O
 refine ⟨by simp; have := h.size; omega, h.os, h.tape, h.output, fun b h1 h2 => (heap_alloc_old w O b (Nat.lt_of_lt_of_le h1 h.size)).trans (h.frame b h1 h2), h.mlt, fun i o1 h1 => ?_, fun i j o1 o2 h1 h2 he => ?_, fun i o1 h1 => ?_, fun i o1 h1 => ?_⟩
 ·by_cases hi : i = id
  ·subst hi; rw [upd_same] at h1; cases h1; exact hr
  ·rw [upd_ne _ _ hi] at h1
   refine (h.obs i o1 h1).keeps hk (by simp [Ctx.g, upd_ne _ _ hi]) ?_
   exact heap_alloc_old w O _ (h.lt i o1 h1)
 ·by_cases hi : i = id <;> by_cases hj : j = id
  ·rw [hi, hj]
  ·subst hi; rw [upd_same, upd_ne _ _ hj] at he; rw [upd_ne _ _ hj] at h2; have := h.lt j o2 h2; omega
  ·subst hj; rw [upd_same, upd_ne _ _ hi] at he; rw [upd_ne _ _ hi] at h1; have := h.lt i o1 h1; omega
  ·rw [upd_ne _ _ hi] at he h1; rw [upd_ne _ _ hj] at he h2; exact h.inj i j o1 o2 h1 h2 he
 ·by_cases hi : i = id
  ·subst hi; rw [upd_same]; simp
  ·rw [upd_ne _ _ hi] at h1 ⊢; have := h.lt i o1 h1; simp; omega
 ·by_cases hi : i = id
  ·subst hi; rw [upd_same]; exact .inl h.size
  ·rw [upd_ne _ _ hi] at h1 ⊢; exact h.mine i o1 h1
end Go.Lw
end
section
namespace Go.Lw
def I.leafB : I → Bool
 | .agg _ => false
 | _ => true
def D.leafB : D → Bool
 | .i x => x.leafB
 | .any | .tup _ | .agg _ => false
 | _ => true
def D.leafI : D → Option I
 | .i x => some x
 | .nils => some (.sl 0 [])
 | .kb b => some (.bool b)
 | _ => none
def allI : List D → Option (List I)
 | [] => some []
 | d :: ds => match d.leafI, allI ds with
  | some x, some xs => some (x :: xs)
  | _, _ => none
def D.toI : D → Option I
 | .agg xs => (allI xs).map .agg
 | d => d.leafI
def isNils : D → Bool
 | .nils => true
 | _ => false
def hasNils (ds : List D) : Bool := ds.any isNils
def mkAgg (ds : List D) : D := match hasNils ds with
 | true => .agg ds
 | false => match allI ds with
  | some xs => .i (.agg xs)
  | none => .agg ds
def D.box : D → Option (List D)
 | .i x => some (x.cells.map .i)
 | .agg xs => some xs
 | .any | .tup _ => none
 | d => some [d]
section
variable {P : Program} {g : G}
theorem VD.leaf {d : D} {v : Value} (h : VD P g d v) (hd : d.leafB = true) : Value.leaf v = true := by
 cases h with
 | any => cases hd
 | i x v h =>
  cases h <;> first | rfl | (simp [D.leafB, I.leafB] at hd)
 | agg => cases hd
 | tup => cases hd
 | ownStale id ver ver' off len E xs v ho hlt hv => exact hv
 | elStale id ver ver' off len E xs v ho hlt hv => exact hv
 | _ => rfl
theorem VD.leafI {d : D} {x : I} {v : Value} (h : VD P g d v) (hd : d.leafI = some x) : V P g.w g.F x v := by
 cases h with
 | i x v h => simp [D.leafI] at hd; subst hd; exact h
 | nils A => simp [D.leafI] at hd; subst hd; exact .sl0 0 A 0
 | kb b => simp [D.leafI] at hd; subst hd; exact .bool b
 | _ => simp [D.leafI] at hd
theorem allI_spec {ds : List D} {xs : List I} (h : allI ds = some xs) : xs.length = ds.length ∧ ∀ (j : Nat) (d : D) (x : I), ds[j]? = some d → xs[j]? = some x → d.leafI = some x := by
 induction ds generalizing xs with
 | nil => simp [allI] at h; subst h; simp
 | cons d ds ih =>
  simp only [allI] at h
  split at h
  ·rename_i y ys h1 h2
   cases h
   obtain ⟨a, b⟩ := ih h2
   refine ⟨by simp [a], fun j e x he hx => ?_⟩
   cases j with
   | zero => simp at he hx; subst he hx; exact h1
   | succ j => exact b j e x (by simpa using he) (by simpa using hx)
  ·cases h
theorem get_of_len {α β : Type} {xs : List α} {ys : List β} (h : xs.length = ys.length) {j : Nat} {x : α} (hx : xs[j]? = some x) : ∃ y, ys[j]? = some y := by
 have : j < xs.length := (List.getElem?_eq_some_iff.1 hx).1
 exact ⟨ys[j]'(by omega), List.getElem?_eq_getElem _⟩
theorem VD.toI {d : D} {x : I} {v : Value} (h : VD P g d v) (hd : d.toI = some x) : V P g.w g.F x v := by
 cases d with
 | agg ds =>
  simp only [D.toI, Option.map_eq_some_iff] at hd
  obtain ⟨xs, h1, rfl⟩ := hd
  obtain ⟨hl, hg⟩ := allI_spec h1
  cases h with
  | agg _ vs hl' h h1' =>
   refine .agg xs vs (by omega) (fun j x v hx hv => ?_) h1'
   obtain ⟨e, he⟩ := get_of_len hl hx
   exact (h j e v he hv).leafI (hg j e x he hx)
 | _ => exact h.leafI hd
theorem VD.boxed {d : D} {ds : List D} {v : Value} (h : VD P g d v) (hd : d.box = some ds) :
  v.cells.size = ds.length ∧ (∀ (j : Nat) (e : D) (c : Value), ds[j]? = some e → v.cells[j]? = some c → VD P g e c) ∧ ∀ c ∈ v.cells, Value.leaf c = true := by
 cases h with
 | any => simp [D.box] at hd
 | tup => simp [D.box] at hd
 | i x v h =>
  simp [D.box] at hd
  subst hd
  obtain ⟨a, b, c⟩ := h.cells
  refine ⟨by simpa using a, fun j e u he hu => ?_, c⟩
  simp only [List.getElem?_map, Option.map_eq_some_iff] at he
  obtain ⟨y, hy, rfl⟩ := he
  exact .i _ _ (b j y u hy hu)
 | agg xs vs hl h h1 =>
  simp [D.box] at hd
  subst hd
  exact ⟨by simpa [Value.cells] using hl, fun j e c he hc => h j e c he (by simpa [Value.cells] using hc), fun c hc => h1 c (by simpa [Value.cells] using hc)⟩
 | ownStale id ver ver' off len E xs v ho hlt hv =>
  simp [D.box] at hd
  subst hd
  have hc : v.cells = #[v] := by cases v <;> first | rfl | cases hv
  rw [hc]
  refine ⟨rfl, fun j e c he hc => ?_, fun c hc => by simp at hc; subst hc; exact hv⟩
  cases j with
  | zero => simp at he hc; subst he hc; exact .ownStale id ver ver' off len E xs _ ho hlt hv
  | succ j => simp at he
 | elStale id ver ver' idx off E xs v ho hlt hv =>
  simp [D.box] at hd
  subst hd
  have hc : v.cells = #[v] := by cases v <;> first | rfl | cases hv
  rw [hc]
  refine ⟨rfl, fun j e c he hc => ?_, fun c hc => by simp at hc; subst hc; exact hv⟩
  cases j with
  | zero => simp at he hc; subst he hc; exact .elStale id ver ver' idx off E xs _ ho hlt hv
  | succ j => simp at he
 | nils A => simp [D.box] at hd; subst hd; exact one (.nils A) rfl
 | kb b => simp [D.box] at hd; subst hd; exact one (.kb b) rfl
 | own id ver off len cap E xs cur ho hl hc hb hcap hm => simp [D.box] at hd; subst hd; exact one (.own id ver off len cap E xs cur ho hl hc hb hcap hm) rfl
 | ownd id ver off len cap E xs ho hl hc => simp [D.box] at hd; subst hd; exact one (.ownd id ver off len cap E xs ho hl hc) rfl
 | loc id c T cs ho => simp [D.box] at hd; subst hd; exact one (.loc id c T cs ho) rfl
 | el id ver idx off E xs ho hi => simp [D.box] at hd; subst hd; exact one (.el id ver idx off E xs ho hi) rfl
 | eld id ver idx off E xs ho hi => simp [D.box] at hd; subst hd; exact one (.eld id ver idx off E xs ho hi) rfl
 | lmap id es ho => simp [D.box] at hd; subst hd; exact one (.lmap id es ho) rfl
 | capd E xs A h => simp [D.box] at hd; subst hd; exact one (.capd E xs A h) rfl
 | it id s pos ho => simp [D.box] at hd; subst hd; exact one (.it id s pos ho) rfl
 | fn f caps vs hl h => simp [D.box] at hd; subst hd; exact one (.fn f caps vs hl h) rfl
where
 one {d : D} {v : Value} (h : VD P g d v) (hv : Value.leaf v = true) : v.cells.size = [d].length ∧ (∀ (j : Nat) (e : D) (c : Value), [d][j]? = some e → v.cells[j]? = some c → VD P g e c) ∧ ∀ c ∈ v.cells, Value.leaf c = true := by
  have hc : v.cells = #[v] := by cases v <;> first | rfl | cases hv
  rw [hc]
  refine ⟨rfl, fun j e c he hc => ?_, fun c hc => by simp at hc; subst hc; exact hv⟩
  cases j with
  | zero => simp at he hc; subst he hc; exact h
  | succ j => simp at he
theorem VD.mkAgg {ds : List D} {vs : List Value} (hl : vs.length = ds.length) (h : ∀ (j : Nat) (x : D) (v : Value), ds[j]? = some x → vs[j]? = some v → VD P g x v)
  (h1 : ∀ v ∈ vs, Value.leaf v = true) : VD P g (mkAgg ds) (.agg vs.toArray) := by
 unfold Lw.mkAgg
 split
 ·exact .agg ds vs hl h h1
 ·split
  ·rename_i xs hx
   obtain ⟨hl', hg⟩ := allI_spec hx
   refine .i _ _ (.agg xs vs (by omega) (fun j x v hx hv => ?_) h1)
   obtain ⟨e, he⟩ := get_of_len hl' hx
   exact (h j e v he hv).leafI (hg j e x he hx)
  ·exact .agg ds vs hl h h1
end
def Gives (P : Program) (c : Ctx) (ob : Nat → Option Ob) (w : World) (β : Nat → Nat) (x : Sem Value) (d : D) (ob' : Nat → Option Ob) : Prop :=
 ∃ v w' β', x.run P w = .ok v w' ∧ Mem P c ob' w' β' ∧ Keeps (c.g w β ob) (c.g w' β' ob') ∧ VD P (c.g w' β' ob') d v
section
variable {P : Program} {c : Ctx} {ob : Nat → Option Ob} {w : World} {β : Nat → Nat}
theorem Gives.here {x : Sem Value} {d : D} {v : Value} (hm : Mem P c ob w β) (hx : x.run P w = .ok v w) (hv : VD P (c.g w β ob) d v) : Gives P c ob w β x d ob :=
 ⟨v, w, β, hx, hm, .refl _, hv⟩
theorem gives_newVar (hm : Mem P c ob w β) {id : Nat} (hid : ob id = none) (T : TypeId) {x : D} {v : Value} (hv : VD P (c.g w β ob) x v) {ds : List D} (hd : x.box = some ds) :
  Gives P c ob w β (do pure (.pointer (some (← newVar T v)))) (.loc id 0) (upd ob id (some (.var T ds))) := by
 have hk := Keeps.new hm hid (.cells v.cells T) (.var T ds)
 obtain ⟨h1, h2, h3⟩ := hv.boxed hd
 refine ⟨.pointer (some ⟨w.heap.size, 0, none⟩), w.alloc (.cells v.cells T), upd β id w.heap.size, by simp [newVar, newRow], ?_, hk, ?_⟩
 ·refine hm.new hid _ _ (.var T ds v.cells.toList ?_ (by simpa using h1) (fun j e u he hu => (h2 j e u he (by simpa using hu)).keeps hk) (fun u hu => h3 u (by simpa using hu)))
  simp only [Ctx.g, upd_same, Array.toArray_toList]
  exact heap_alloc_new w _
 ·have := VD.loc (P := P) (g := c.g (w.alloc (.cells v.cells T)) (upd β id w.heap.size) (upd ob id (some (.var T ds)))) id 0 T ds (by simp [Ctx.g, upd_same])
  simpa [Ctx.g, upd_same] using this
theorem gives_box (hm : Mem P c ob w β) {id : Nat} (hid : ob id = none) (T : TypeId) {x : D} {v : Value} (hv : VD P (c.g w β ob) x v) {ds : List D} (hd : x.box = some ds) :
  Gives P c ob w β (Instr.box T v) (.loc id 0) (upd ob id (some (.var T ds))) := gives_newVar hm hid T hv hd
end
end Go.Lw
end
section
namespace Go.Lw
def slE (P : Program) (T : TypeId) : Option TypeId := match P.underlying T with
 | some (.slice e) => some e
 | _ => none
def kindT (P : Program) (T : TypeId) : Option Bool := (P.underlying T).map (·.isRow)
theorem slE_eq {P : Program} {T E : TypeId} (h : slE P T = some E) : P.underlying T = some (.slice E) := by
 unfold slE at h
 split at h
 ·cases h; assumption
 ·cases h
theorem info_of_cells {P : Program} {T : TypeId} (h : 0 < P.cellsOf T) : ∃ i, P.info? T = some i ∧ i.size = P.cellsOf T := by
 unfold Program.cellsOf at h ⊢
 cases hi : P.info? T with
 | none => simp [hi] at h
 | some i => exact ⟨i, rfl, by simp⟩
def cellsAt (q : Nat → Option Ob) : D → Option (List D)
 | .loc id c => match q id with
  | some (.var _ cs) => some (cs.drop c)
  | _ => none
 | .i (.ptr cells) => some (cells.map .i)
 | .el id ver idx off => match q id with
  | some (.arr _ ver' xs) => if ver' = ver then (xs[idx]?).map (fun x => (x.cells.map D.i).drop off) else none
  | some (.arrd _ ver' xs) => if ver' = ver then ((xs[idx]?).bind D.box).map (·.drop off) else none
  | _ => none
 | _ => none
structure Lies (P : Program) (g : G) (b off : Nat) (ds : List D) (us : List Value) : Prop where
 len : us.length = ds.length
 tell : ∀ (j : Nat) (d : D) (u : Value), ds[j]? = some d → us[j]? = some u → VD P g d u
 leaf : ∀ u ∈ us, Value.leaf u = true
 cell : ∀ (j : Nat) (u : Value), us[j]? = some u → g.w.cell? ⟨b, off + j, none⟩ = some u
theorem Lies.drop {P : Program} {g : G} {b off : Nat} {ds : List D} {us : List Value} (h : Lies P g b off ds us) (k : Nat) : Lies P g b (off + k) (ds.drop k) (us.drop k) :=
 ⟨by simp [h.len], fun j d u h1 h2 => h.tell (k + j) d u (by simpa using h1) (by simpa using h2), fun u hu => h.leaf u (List.mem_of_mem_drop hu),
  fun j u h1 => by have := h.cell (k + j) u (by simpa using h1); rwa [show off + k + j = off + (k + j) by omega]⟩
theorem lies_at {P : Program} {c : Ctx} {ob : Nat → Option Ob} {w : World} {β : Nat → Nat} (hm : Mem P c ob w β) {a : D} {v : Value} (hv : VD P (c.g w β ob) a v) {ds : List D}
  (hd : cellsAt ob a = some ds) : ∃ b off us, v = .pointer (some ⟨b, off, none⟩) ∧ Lies P (c.g w β ob) b off ds us := by
 cases hv with
 | loc id k T cs ho =>
  simp only [cellsAt, show ob id = some (.var T cs) from ho] at hd
  cases hd
  have hr := hm.obs id _ ho
  cases hr with
  | var _ _ vs hb hl h h1 =>
   refine ⟨β id, 0 + k, vs.drop k, by simp [Ctx.g], Lies.drop ⟨hl, h, h1, fun j u hj => ?_⟩ k⟩
   have : (vs.toArray)[j]? = some u := by simpa using hj
   simp only [Ctx.g] at hb ⊢
   simp [World.cell?, hb, this, hj]
 | i x v h =>
  cases h with
  | ptr cells b off us hl h h1 hmm hb hF =>
   simp [cellsAt] at hd
   subst hd
   refine ⟨b, off, us, rfl, by simpa using hl, fun j d u h2 h3 => ?_, h1, fun j u hj => hmm j u hj⟩
   simp only [List.getElem?_map, Option.map_eq_some_iff] at h2
   obtain ⟨y, hy, rfl⟩ := h2
   exact .i _ _ (h j y u hy h3)
  | _ => simp [cellsAt] at hd
 | el id ver idx off E xs ho hi =>
  simp only [cellsAt, show ob id = some (.arr E ver xs) from ho, if_true] at hd
  simp only [Option.map_eq_some_iff] at hd
  obtain ⟨x, hx, rfl⟩ := hd
  have hr := hm.obs id _ ho
  cases hr with
  | arr _ _ _ cur us hb hl ht h hs hmm =>
   obtain ⟨u, hu⟩ := get_of_len hl.symm hx
   obtain ⟨h1, h2, h3⟩ := (h idx x u hx hu).cells
   refine ⟨β id, idx * P.cellsOf E + off, u.cells.toList.drop off, rfl, Lies.drop ⟨by simpa using h1, fun j d c h4 h5 => ?_, fun c hc => h3 c (by simpa using hc), fun j c hj => ?_⟩ off⟩
   ·simp only [List.getElem?_map, Option.map_eq_some_iff] at h4
    obtain ⟨y, hy, rfl⟩ := h4
    exact .i _ _ (h2 j y c hy (by simpa using h5))
   ·have := hmm idx u j c hu (by simpa using hj)
    simp only [Ctx.g] at hb ⊢
    simp [World.cell?, hb, this]
 | eld id ver idx off E xs ho hi =>
  simp only [cellsAt, show ob id = some (.arrd E ver xs) from ho, if_true] at hd
  simp only [Option.map_eq_some_iff, Option.bind_eq_some_iff] at hd
  obtain ⟨ds, ⟨x, hx, hbx⟩, rfl⟩ := hd
  have hr := hm.obs id _ ho
  cases hr with
  | arrd _ _ _ cur us hb hl ht h hs hmm =>
   obtain ⟨u, hu⟩ := get_of_len hl.symm hx
   obtain ⟨h1, h2, h3⟩ := (h idx x u hx hu).boxed hbx
   refine ⟨β id, idx * P.cellsOf E + off, u.cells.toList.drop off, rfl, Lies.drop ⟨by simpa using h1, fun j d c h4 h5 => h2 j d c h4 (by simpa using h5), fun c hc => h3 c (by simpa using hc), fun j c hj => ?_⟩ off⟩
   have := hmm idx u j c hu (by simpa using hj)
   simp only [Ctx.g] at hb ⊢
   simp [World.cell?, hb, this]
 | elStale id ver ver' idx off E xs v ho hlt hv =>
  simp only [cellsAt, show ob id = some (.arr E ver' xs) from ho] at hd
  rw [if_neg (by omega)] at hd
  cases hd
 | _ => simp [cellsAt] at hd
def loadD (P : Program) (T : TypeId) (ds : List D) : Option D := match kindT P T with
 | some true => if P.cellsOf T ≤ ds.length ∧ 0 < P.cellsOf T then some (mkAgg (ds.take (P.cellsOf T))) else none
 | some false => ds.head?
 | none => none
section
variable {P : Program} {c : Ctx} {ob : Nat → Option Ob} {w : World} {β : Nat → Nat}
theorem load_run (hm : Mem P c ob w β) (T : TypeId) {a : D} {v : Value} (hv : VD P (c.g w β ob) a v) {ds : List D} (hd : cellsAt ob a = some ds) {d : D} (hl : loadD P T ds = some d) :
  ∃ ad u, v = .pointer (some ad) ∧ (loadVar T ad).run P w = .ok u w ∧ VD P (c.g w β ob) d u := by
 obtain ⟨b, off, us, rfl, hL⟩ := lies_at hm hv hd
 unfold loadD kindT at hl
 cases hu : P.underlying T with
 | none => simp [hu] at hl
 | some t =>
  rw [hu] at hl
  simp only [Option.map_some] at hl
  cases hr : t.isRow with
  | true =>
   simp only [hr] at hl
   split at hl
   ·rename_i hc
    cases hl
    obtain ⟨i, hi, his⟩ := info_of_cells hc.2
    have hlen : (us.take (P.cellsOf T)).length = P.cellsOf T := by simp [hL.len]; omega
    have hrun : (loadVar T ⟨b, off, none⟩).run P w = .ok (.agg (us.take (P.cellsOf T)).toArray) w :=
     run_loadVar_mid w b off T (us.take (P.cellsOf T)) t (fun j u hj => hL.cell j u (by
      rw [List.getElem?_take] at hj; split at hj; exact hj; cases hj)) hu hr (by simp [hi, his, hlen])
    refine ⟨_, _, rfl, hrun, VD.mkAgg (ds := ds.take (P.cellsOf T)) (vs := us.take (P.cellsOf T)) (by simp [hL.len]) (fun j x u hx hu' => ?_) (fun u hu' => hL.leaf u (List.mem_of_mem_take hu'))⟩
    rw [List.getElem?_take] at hx hu'
    split at hx
    ·rename_i hj; rw [if_pos hj] at hu'; exact hL.tell j x u hx hu'
    ·cases hx
   ·cases hl
  | false =>
   simp only [hr] at hl
   obtain ⟨u, hu'⟩ := get_of_len hL.len.symm (j := 0) (x := d) (by rw [← List.head?_eq_getElem?]; exact hl)
   have hc := hL.cell 0 u hu'
   have hagg : (isAgg T).run P w = .ok false w := by
    unfold isAgg
    rw [Sem.run_bind, run_underlying hu w]
    cases t <;> simp_all [TypeDesc.isRow]
   refine ⟨_, _, rfl, ?_, hL.tell 0 d u (by rw [← List.head?_eq_getElem?]; exact hl) hu'⟩
   simp only [Ctx.g, Nat.add_zero] at hc
   simp [loadVar, hagg, hc]
theorem gives_load (hm : Mem P c ob w β) (T : TypeId) {a : D} {v : Value} (hv : VD P (c.g w β ob) a v) {ds : List D} (hd : cellsAt ob a = some ds) {d : D} (hl : loadD P T ds = some d) :
  Gives P c ob w β (Instr.loadAt T v) d ob := by
 obtain ⟨ad, u, rfl, hr, hu⟩ := load_run hm T hv hd hl
 exact Gives.here hm (by simp [Instr.loadAt, Instr.sureAddr, hr]) hu
end
end Go.Lw
end
section
namespace Go.Lw
structure Z {α β : Type} (R : α → β → Prop) (xs : List α) (ys : List β) : Prop where
 len : ys.length = xs.length
 at_ : ∀ (j : Nat) (x : α) (y : β), xs[j]? = some x → ys[j]? = some y → R x y
theorem Z.take {α β : Type} {R : α → β → Prop} {xs : List α} {ys : List β} (h : Z R xs ys) (n : Nat) : Z R (xs.take n) (ys.take n) :=
 ⟨by simp [h.len], fun j x y hx hy => by
  rw [List.getElem?_take] at hx hy
  split at hx
  ·rename_i hj; rw [if_pos hj] at hy; exact h.at_ j x y hx hy
  ·cases hx⟩
theorem Z.drop {α β : Type} {R : α → β → Prop} {xs : List α} {ys : List β} (h : Z R xs ys) (n : Nat) : Z R (xs.drop n) (ys.drop n) :=
 ⟨by simp [h.len], fun j x y hx hy => h.at_ (n + j) x y (by simpa using hx) (by simpa using hy)⟩
theorem Z.append {α β : Type} {R : α → β → Prop} {xs xs' : List α} {ys ys' : List β} (h : Z R xs ys) (h' : Z R xs' ys') : Z R (xs ++ xs') (ys ++ ys') :=
 ⟨by simp [h.len, h'.len], fun j x y hx hy => by
  rw [List.getElem?_append] at hx hy
  rw [h.len] at hy
  split at hx
  ·rename_i hj; rw [if_pos hj] at hy; exact h.at_ j x y hx hy
  ·rename_i hj; rw [if_neg hj] at hy; exact h'.at_ _ x y hx hy⟩
theorem Z.set {α β : Type} {R : α → β → Prop} {xs : List α} {ys : List β} (h : Z R xs ys) (i : Nat) {a : α} {b : β} (hr : R a b) : Z R (xs.set i a) (ys.set i b) :=
 ⟨by simp [h.len], fun j x y hx hy => by
  rw [List.getElem?_set] at hx hy
  split at hx
  ·rename_i hj
   rw [if_pos hj] at hy
   split at hx
   ·rename_i h1
    cases hx
    rw [h.len, if_pos h1] at hy
    cases hy; exact hr
   ·cases hx
  ·rename_i hj; rw [if_neg hj] at hy; exact h.at_ j x y hx hy⟩
theorem Z.mono {α β : Type} {R R' : α → β → Prop} {xs : List α} {ys : List β} (h : Z R xs ys) (hr : ∀ x y, R x y → R' x y) : Z R' xs ys := ⟨h.len, fun j x y hx hy => hr _ _ (h.at_ j x y hx hy)⟩
def GivesU (P : Program) (c : Ctx) (ob : Nat → Option Ob) (w : World) (β : Nat → Nat) (x : Sem Unit) (ob' : Nat → Option Ob) : Prop :=
 ∃ w' β', x.run P w = .ok () w' ∧ Mem P c ob' w' β' ∧ Keeps (c.g w β ob) (c.g w' β' ob')
theorem leaf_one (v : Value) (h : Value.leaf v = true) : v.oneCell' = true := by cases v <;> first | rfl | cases h
def splice {α : Type} (cs : List α) (k : Nat) (ds : List α) : List α := cs.take k ++ ds ++ cs.drop (k + ds.length)
theorem splice_length {α : Type} (cs : List α) (k : Nat) (ds : List α) (h : k + ds.length ≤ cs.length) : (splice cs k ds).length = cs.length := by simp [splice]; omega
theorem Z.splice {α β : Type} {R : α → β → Prop} {xs ds : List α} {ys es : List β} (h : Z R xs ys) (k : Nat) (h' : Z R ds es) : Z R (splice xs k ds) (splice ys k es) := by
 unfold Lw.splice
 rw [h'.len]
 exact ((h.take k).append h').append (h.drop _)
theorem splice_at {α : Type} (cs : List α) (k : Nat) (ds : List α) (h : k + ds.length ≤ cs.length) (j : Nat) : (splice cs k ds)[j]? = if k ≤ j ∧ j < k + ds.length then ds[j - k]? else cs[j]? := by
 unfold splice
 rw [List.getElem?_append, List.getElem?_append]
 simp only [List.length_append, List.length_take]
 have hm : min k cs.length = k := by omega
 rw [hm]
 by_cases h1 : j < k
 ·rw [if_pos (by omega), if_pos h1, if_neg (by omega), List.getElem?_take, if_pos h1]
 ·by_cases h2 : j < k + ds.length
  ·rw [if_pos h2, if_neg h1, if_pos ⟨by omega, h2⟩]
  ·rw [if_neg h2, if_neg (by omega), List.getElem?_drop]
   congr 1; omega
section
variable {P : Program} {c : Ctx} {ob : Nat → Option Ob} {w : World} {β : Nat → Nat}
theorem run_store_block (T : TypeId) (b k : Nat) (E : TypeId) (cur : Array Value) (hb : w.heap[b]? = some (.cells cur E (0, 0))) (v : Value) (hs : v.cells.size = P.cellsOf T) (h0 : 0 < P.cellsOf T)
  (hk : k + v.cells.size ≤ cur.size) (h1 : ∀ u ∈ v.cells, Value.leaf u = true) :
  (Instr.storeAt T (.pointer (some ⟨b, k, none⟩)) v).run P w = .ok () (w.setRow b (splice cur.toList k v.cells.toList).toArray) := by
 obtain ⟨i, hi, his⟩ := info_of_cells h0
 have hst := run_storeCells_at P b k E v.cells.toList 0 cur w hb (by simpa using hk) (fun u hu => leaf_one u (h1 u (by simpa using hu)))
 simp only [Instr.storeAt, Instr.sureAddr, Sem.run_bind, Sem.run_pure, Result.andThen_ok, storeVar, sizeOf, typeInfo, run_program, hi]
 simp only [his, hs, ne_eq, not_true_eq_false, if_false, Sem.run_bind, Sem.run_pure, Result.andThen_ok, ↓reduceIte]
 simp only [Nat.add_zero] at hst
 rw [hst]
 simp [splice]
theorem givesU_store_var (hm : Mem P c ob w β) (T : TypeId) {id k : Nat} {T' : TypeId} {cs : List D} (ho : ob id = some (.var T' cs)) {x : D} {v : Value} (hv : VD P (c.g w β ob) x v) {ds : List D} (hd : x.box = some ds)
  (hs : P.cellsOf T = ds.length) (h0 : 0 < ds.length) (hk : k + ds.length ≤ cs.length) :
  GivesU P c ob w β (Instr.storeAt T (.pointer (some ⟨β id, k, none⟩)) v) (upd ob id (some (.var T' (splice cs k ds)))) := by
 have hr := hm.obs id _ ho
 obtain ⟨b1, b2, b3⟩ := hv.boxed hd
 cases hr with
 | var _ _ vs hb hl h h1 =>
  simp only [Ctx.g] at hb
  have hrun := run_store_block (P := P) T (β id) k T' vs.toArray hb v (by omega) (by omega) (by simp; omega) b3
  have hw' : (w.setRow (β id) (splice vs k v.cells.toList).toArray).heap[β id]? = some (.cells (splice vs k v.cells.toList).toArray T' (0, 0)) := setRow_heap w _ _ _ _ _ hb
  have hlen : (splice vs k v.cells.toList).length = vs.length := splice_length _ _ _ (by simp; omega)
  have hcells : ∀ cur E, w.heap[β id]? = some (.cells cur E (0, 0)) → ∃ cur', (w.setRow (β id) (splice vs k v.cells.toList).toArray).heap[β id]? = some (.cells cur' E (0, 0)) ∧ cur'.size = cur.size := by
   intro cur E hcur
   rw [hb] at hcur
   cases hcur
   exact ⟨_, hw', by simp [hlen]⟩
  have hk' := Keeps.set hm ho (.var T' cs (splice cs k ds)) (w' := w.setRow (β id) (splice vs k v.cells.toList).toArray) (by simp) (fun b hb => setRow_other _ _ _ _ hb) hcells
  refine ⟨_, β, hrun, hm.set ho (.var T' cs _) (by simp) (fun b hb => setRow_other _ _ _ _ hb) hcells rfl rfl rfl ?_, hk'⟩
  have z : Z (VD P (c.g w β ob)) (splice cs k ds) (splice vs k v.cells.toList) := Z.splice ⟨hl, h⟩ k ⟨by simpa using b1, fun j e u he hu => b2 j e u he (by simpa using hu)⟩
  refine .var T' _ (splice vs k v.cells.toList) (by simp only [Ctx.g]; exact hw') z.len (fun j e u he hu => (z.at_ j e u he hu).keeps hk') (fun u hu => ?_)
  unfold splice at hu
  simp only [List.mem_append] at hu
  rcases hu with (hu | hu) | hu
  ·exact h1 u (List.mem_of_mem_take hu)
  ·exact b3 u (by simpa using hu)
  ·exact h1 u (List.mem_of_mem_drop hu)
def spliceI (x : I) (k : Nat) (ys : List I) : I := match x with
 | .agg zs => .agg (splice zs k ys)
 | x => ys.headD x
theorem splice_I {w : World} {F : Nat → Prop} {x : I} {u : Value} (h : V P w F x u) {k : Nat} {ys : List I} {vs : List Value} (z : Z (V P w F) ys vs) (hvl : ∀ v ∈ vs, Value.leaf v = true) (hk : k + ys.length ≤ x.cells.length)
  (hne : 0 < ys.length) : ∃ u', V P w F (spliceI x k ys) u' ∧ u'.cells.toList = splice u.cells.toList k vs := by
 cases h with
 | agg xs us hl h h1 =>
  refine ⟨.agg (splice us k vs).toArray, ?_, by simp [Value.cells]⟩
  have z' : Z (V P w F) (splice xs k ys) (splice us k vs) := Z.splice ⟨hl, h⟩ k z
  refine .agg _ _ z'.len z'.at_ (fun v hv => ?_)
  unfold splice at hv
  simp only [List.mem_append] at hv
  rcases hv with (hv | hv) | hv
  ·exact h1 v (List.mem_of_mem_take hv)
  ·exact hvl v hv
  ·exact h1 v (List.mem_of_mem_drop hv)
 | _ =>
  simp only [I.cells, List.length_cons, List.length_nil] at hk
  have hk0 : k = 0 := by omega
  have hy1 : ys.length = 1 := by omega
  subst hk0
  obtain ⟨y, rfl⟩ : ∃ y, ys = [y] := by
   cases ys with
   | nil => cases hy1
   | cons y t => cases t with
    | nil => exact ⟨y, rfl⟩
    | cons _ _ => simp at hy1
  obtain ⟨v, rfl⟩ : ∃ v, vs = [v] := by
   have := z.len
   cases vs with
   | nil => cases this
   | cons v t => cases t with
    | nil => exact ⟨v, rfl⟩
    | cons _ _ => simp at this
  refine ⟨v, z.at_ 0 y v rfl rfl, ?_⟩
  have hc : v.cells = #[v] := by have := hvl v (by simp); cases v <;> first | rfl | cases this
  rw [hc]; simp [splice, Value.cells]
theorem givesU_store_el (hm : Mem P c ob w β) (T : TypeId) {id ver idx k : Nat} {E : TypeId} {xs : List I} (ho : ob id = some (.arr E ver xs)) {y : I} (hy : xs[idx]? = some y) {x : D} {v : Value} (hv : VD P (c.g w β ob) x v)
  {ds : List D} (hd : x.box = some ds) {ys : List I} (ha : allI ds = some ys) (hs : P.cellsOf T = ds.length) (h0 : 0 < ds.length) (hk : k + ds.length ≤ y.cells.length) :
  GivesU P c ob w β (Instr.storeAt T (.pointer (some ⟨β id, idx * P.cellsOf E + k, none⟩)) v) (upd ob id (some (.arr E ver (xs.set idx (spliceI y k ys))))) := by
 have hr := hm.obs id _ ho
 obtain ⟨b1, b2, b3⟩ := hv.boxed hd
 obtain ⟨a1, a2⟩ := allI_spec ha
 cases hr with
 | arr _ _ _ cur us hb hl ht h hsz hmm =>
  simp only [Ctx.g] at hb
  obtain ⟨u, hu⟩ := get_of_len hl.symm hy
  have hus := hsz idx u hu
  have hyc := (h idx y u hy hu).cells.1
  have hcursz : ∀ m, m < u.cells.size → idx * P.cellsOf E + m < cur.size := fun m hm' => by
   have := hmm idx u m u.cells[m] hu (by simp [hm'])
   exact (Array.getElem?_eq_some_iff.1 this).1
  have hfit : idx * P.cellsOf E + k + v.cells.size ≤ cur.size := by
   have := hcursz (k + ds.length - 1) (by omega)
   omega
  have hrun := run_store_block (P := P) T (β id) (idx * P.cellsOf E + k) E cur hb v (by omega) (by omega) hfit b3
  have hw' := setRow_heap w (β id) _ (splice cur.toList (idx * P.cellsOf E + k) v.cells.toList).toArray _ _ hb
  have hlen : (splice cur.toList (idx * P.cellsOf E + k) v.cells.toList).length = cur.size := by rw [splice_length _ _ _ (by simp; omega)]; simp
  have hcells : ∀ cur1 E1, w.heap[β id]? = some (.cells cur1 E1 (0, 0)) → ∃ cur', (w.setRow (β id) (splice cur.toList (idx * P.cellsOf E + k) v.cells.toList).toArray).heap[β id]? = some (.cells cur' E1 (0, 0)) ∧ cur'.size = cur1.size := by
   intro cur1 E1 hcur
   rw [hb] at hcur
   cases hcur
   exact ⟨_, hw', by simp [hlen]⟩
  have hle : Ob.le (.arr E ver xs) (.arr E ver (xs.set idx (spliceI y k ys))) true := .arr E ver xs _ (by simp)
  have hk' := Keeps.set hm ho hle (w' := w.setRow (β id) (splice cur.toList (idx * P.cellsOf E + k) v.cells.toList).toArray) (by simp) (fun b hb => setRow_other _ _ _ _ hb) hcells
  refine ⟨_, β, hrun, hm.set ho hle (by simp) (fun b hb => setRow_other _ _ _ _ hb) hcells rfl rfl rfl ?_, hk'⟩
  have zys : Z (V P w (c.g w β ob).F) ys v.cells.toList := ⟨by simp [b1, a1], fun j q e hq he => by
   obtain ⟨d, hd'⟩ := get_of_len a1 hq
   exact (b2 j d e hd' (by simpa using he)).leafI (a2 j d q hd' hq)⟩
  obtain ⟨u', hu', hcu'⟩ := splice_I (k := k) (h idx y u hy hu) zys (fun e he => b3 e (by simpa using he)) (by omega) (by omega)
  have z : Z (V P w (c.g w β ob).F) (xs.set idx (spliceI y k ys)) (us.set idx u') := Z.set ⟨hl, h⟩ idx hu'
  have hcl : u.cells.toList.length = P.cellsOf E := by simpa using hus
  have hfit2 : k + v.cells.toList.length ≤ u.cells.toList.length := by simp only [Array.length_toList]; omega
  have hu's : u'.cells.size = P.cellsOf E := by
   have : u'.cells.toList.length = u.cells.toList.length := by rw [hcu', splice_length _ _ _ hfit2]
   rw [hcl] at this
   simpa using this
  have hidx : idx < us.length := (List.getElem?_eq_some_iff.1 hu).1
  have hfit3 : idx * P.cellsOf E + k + v.cells.toList.length ≤ cur.toList.length := by simpa using hfit
  refine .arr E ver _ (splice cur.toList (idx * P.cellsOf E + k) v.cells.toList).toArray (us.set idx u') (by simp only [Ctx.g]; exact hw') z.len (by simpa using ht) (fun j q e hq he => (z.at_ j q e hq he).keeps hk') (fun j e he => ?_) (fun j e m cc he hc => ?_)
  ·by_cases hj : idx = j
   ·subst hj; rw [List.getElem?_set_self hidx] at he; cases he; exact hu's
   ·rw [List.getElem?_set_ne hj] at he; exact hsz j e he
  ·rw [List.getElem?_toArray, splice_at _ _ _ hfit3]
   by_cases hj : idx = j
   ·subst hj
    rw [List.getElem?_set_self hidx] at he
    cases he
    have hmlt : m < P.cellsOf E := by have h2 : m < u'.cells.size := (Array.getElem?_eq_some_iff.1 hc).1; omega
    have hc' : u'.cells.toList[m]? = some cc := by simpa using hc
    rw [hcu', splice_at _ _ _ hfit2] at hc'
    split at hc'
    ·rename_i hin
     rw [if_pos (by omega)]
     rw [← hc']; congr 1; omega
    ·rename_i hout
     rw [if_neg (by omega)]
     have := hmm idx u m cc hu (by simpa using hc')
     simpa using this
   ·rw [List.getElem?_set_ne hj] at he
    have hmlt : m < P.cellsOf E := by have h2 : m < e.cells.size := (Array.getElem?_eq_some_iff.1 hc).1; have := hsz j e he; omega
    have hout : ¬ (idx * P.cellsOf E + k ≤ j * P.cellsOf E + m ∧ j * P.cellsOf E + m < idx * P.cellsOf E + k + v.cells.toList.length) := by
     have hsum : k + v.cells.toList.length ≤ P.cellsOf E := by omega
     rcases Nat.lt_or_gt_of_ne hj with hlt | hlt
     ·have := Nat.mul_le_mul_right (P.cellsOf E) (show idx + 1 ≤ j from hlt)
      rw [Nat.add_mul] at this
      omega
     ·have := Nat.mul_le_mul_right (P.cellsOf E) (show j + 1 ≤ idx from hlt)
      rw [Nat.add_mul] at this
      omega
    rw [if_neg hout]
    have := hmm j e m cc he hc
    simpa using this
end
end Go.Lw
end
section
namespace Go.Lw
def fldT (P : Program) (S : TypeId) (i : Nat) : Option (Nat × TypeId) := match P.underlying S with
 | some (.struct fs) => (fs[i]?).map fun f => (f.offset, f.type)
 | _ => none
theorem fldT_eq {P : Program} {S i : Nat} {r : Nat × TypeId} (h : fldT P S i = some r) : ∃ fs f, P.underlying S = some (.struct fs) ∧ fs[i]? = some f ∧ f.offset = r.1 ∧ f.type = r.2 := by
 unfold fldT at h
 split at h
 ·rename_i fs hu
  simp only [Option.map_eq_some_iff] at h
  obtain ⟨f, hf, rfl⟩ := h
  exact ⟨fs, f, hu, hf, rfl, rfl⟩
 ·cases h
def fresh (q : Nat → Option Ob) (id ver : Nat) : Bool := match q id with
 | some (.arr _ ver' _) => ver' == ver
 | some (.arrd _ ver' _) => ver' == ver
 | _ => false
def D.shift (q : Nat → Option Ob) (k : Nat) : D → Option D
 | .loc id c => some (.loc id (c + k))
 | .el id ver idx o => if fresh q id ver then some (.el id ver idx (o + k)) else none
 | .i (.ptr cells) => if k < cells.length then some (.i (.ptr (cells.drop k))) else none
 | _ => none
def D.aggC : D → Option (List D)
 | .i (.agg xs) => some (xs.map .i)
 | .agg xs => some xs
 | _ => none
section
variable {P : Program} {c : Ctx} {ob : Nat → Option Ob} {w : World} {β : Nat → Nat}
theorem VD.aggC {g : G} {d : D} {ds : List D} {v : Value} (h : VD P g d v) (hd : d.aggC = some ds) : ∃ vs : List Value, v = .agg vs.toArray ∧ Z (VD P g) ds vs ∧ ∀ u ∈ vs, Value.leaf u = true := by
 cases h with
 | i x v h =>
  cases h with
  | agg xs vs hl h h1 =>
   simp [D.aggC] at hd
   subst hd
   refine ⟨vs, rfl, ⟨by simpa using hl, fun j d u hx hu => ?_⟩, h1⟩
   simp only [List.getElem?_map, Option.map_eq_some_iff] at hx
   obtain ⟨y, hy, rfl⟩ := hx
   exact .i _ _ (h j y u hy hu)
  | _ => simp [D.aggC] at hd
 | agg xs vs hl h h1 => simp [D.aggC] at hd; subst hd; exact ⟨vs, rfl, ⟨hl, h⟩, h1⟩
 | _ => simp [D.aggC] at hd
theorem shift_addr (hm : Mem P c ob w β) {a d : D} {v : Value} {k : Nat} (hv : VD P (c.g w β ob) a v) (hs : a.shift ob k = some d) :
  ∃ b off, v = .pointer (some ⟨b, off, none⟩) ∧ VD P (c.g w β ob) d (.pointer (some ⟨b, off + k, none⟩)) := by
 cases hv with
 | loc id j T cs ho => simp [D.shift] at hs; subst hs; exact ⟨β id, j, rfl, .loc id (j + k) T cs ho⟩
 | el id ver idx o E xs ho hi => simp [D.shift, fresh, show ob id = some (.arr E ver xs) from ho] at hs; subst hs; exact ⟨β id, _, rfl, by rw [Nat.add_assoc]; exact .el id ver idx (o + k) E xs ho hi⟩
 | eld id ver idx o E xs ho hi => simp [D.shift, fresh, show ob id = some (.arrd E ver xs) from ho] at hs; subst hs; exact ⟨β id, _, rfl, by rw [Nat.add_assoc]; exact .eld id ver idx (o + k) E xs ho hi⟩
 | elStale id ver ver' idx o E xs v ho hlt hv =>
  simp [D.shift, fresh, show ob id = some (.arr E ver' xs) from ho] at hs; omega
 | i x v h =>
  cases h with
  | ptr cells b off us hl h h1 hmm hb hF =>
   simp only [D.shift] at hs
   split at hs
   ·cases hs
    refine ⟨b, off, rfl, .i _ _ (.ptr _ b (off + k) (us.drop k) (by simp [hl]) (fun j x u hx hu => h (k + j) x u (by simpa using hx) (by simpa using hu)) (fun u hu => h1 u (List.mem_of_mem_drop hu)) (fun m e he => ?_) hb hF)⟩
    have := hmm (k + m) e (by simpa using he)
    rwa [show off + k + m = off + (k + m) by omega]
   ·cases hs
  | _ => simp [D.shift] at hs
 | _ => simp [D.shift] at hs
theorem gives_fieldAddr (hm : Mem P c ob w β) (S : TypeId) (i : Nat) {r : Nat × TypeId} (hf : fldT P S i = some r) (h0 : 0 < P.cellsOf r.2) {a d : D} {v : Value} (hv : VD P (c.g w β ob) a v) (hs : a.shift ob r.1 = some d) :
  Gives P c ob w β (Instr.fieldAt S v i) d ob := by
 obtain ⟨fs, f, hu, hfi, h1, h2⟩ := fldT_eq hf
 obtain ⟨b, off, rfl, hd⟩ := shift_addr hm hv hs
 obtain ⟨inf, hi, his⟩ := info_of_cells h0
 refine Gives.here hm ?_ hd
 have : ¬ inf.size = 0 := by omega
 simp [Instr.fieldAt, run_underlying hu, hfi, Instr.sureAddr, fieldPlace, sizeOf, typeInfo, h2, hi, this, h1, Addr.add_lit]
theorem gives_field (hm : Mem P c ob w β) (S : TypeId) (i : Nat) {r : Nat × TypeId} (hf : fldT P S i = some r) {x d : D} {v : Value} (hv : VD P (c.g w β ob) x v) {ds : List D} (hx : x.aggC = some ds)
  (hl : loadD P r.2 (ds.drop r.1) = some d) : Gives P c ob w β (Instr.field S v i) d ob := by
 obtain ⟨fs, f, hu, hfi, h1, h2⟩ := fldT_eq hf
 obtain ⟨vs, rfl, hz, hlf⟩ := hv.aggC hx
 have hz' := hz.drop r.1
 unfold loadD kindT at hl
 cases ht : P.underlying r.2 with
 | none => simp [ht] at hl
 | some t =>
  rw [ht] at hl
  simp only [Option.map_some] at hl
  cases hr : t.isRow with
  | true =>
   simp only [hr] at hl
   split at hl
   ·rename_i hc
    cases hl
    obtain ⟨inf, hi, his⟩ := info_of_cells hc.2
    have hagg : (isAgg r.2).run P w = .ok true w := by
     unfold isAgg
     rw [Sem.run_bind, run_underlying ht w]
     cases t <;> simp_all [TypeDesc.isRow]
    refine Gives.here hm (v := .agg ((vs.drop r.1).take (P.cellsOf r.2)).toArray) ?_ (VD.mkAgg (hz'.take _).len (fun j x u hx hu => (hz'.take (P.cellsOf r.2)).at_ j x u hx hu) (fun u hu => hlf u (List.mem_of_mem_drop (List.mem_of_mem_take hu))))
    simp [Instr.field, run_underlying hu, hfi, asAgg, part, h2, hagg, sizeOf, typeInfo, hi, his, h1]
   ·cases hl
  | false =>
   simp only [hr] at hl
   obtain ⟨u, hu'⟩ := get_of_len hz'.len.symm (j := 0) (x := d) (by rw [← List.head?_eq_getElem?]; exact hl)
   have hagg : (isAgg r.2).run P w = .ok false w := by
    unfold isAgg
    rw [Sem.run_bind, run_underlying ht w]
    cases t <;> simp_all [TypeDesc.isRow]
   refine Gives.here hm (v := u) ?_ (hz'.at_ 0 d u (by rw [← List.head?_eq_getElem?]; exact hl) hu')
   have hu2 : vs[r.1]? = some u := by simpa using hu'
   simp [Instr.field, run_underlying hu, hfi, asAgg, part, h2, hagg, h1, hu2]
theorem run_indexAt {T E : TypeId} (hT : slE P T = some E) (h0 : 0 < P.cellsOf E) (k : IntKind) (n : Int) (b off len cap : Nat) (h1 : 0 ≤ n) (h2 : n < len) :
  (Instr.indexAt T (.slice (some ⟨b, off, none⟩) len cap) (.int k n)).run P w = .ok (.pointer (some ⟨b, off + n.toNat * P.cellsOf E, none⟩)) w := by
 obtain ⟨inf, hi, his⟩ := info_of_cells h0
 simp [Instr.indexAt, asIntOf, run_underlying (slE_eq hT), h1, h2, sizeOf, typeInfo, hi, his, Addr.add_lit]
theorem gives_indexAddr_sl (hm : Mem P c ob w β) {T E : TypeId} (hT : slE P T = some E) (h0 : 0 < P.cellsOf E) {xs : List I} {v : Value} (hv : VD P (c.g w β ob) (.i (.sl E xs)) v) (k : IntKind) (n : Int) (h1 : 0 ≤ n) {x : I} (hx : xs[n.toNat]? = some x) :
  Gives P c ob w β (Instr.indexAt T v (.int k n)) (.i (.ptr x.cells)) ob := by
 have hlt : n.toNat < xs.length := (List.getElem?_eq_some_iff.1 hx).1
 cases hv with
 | i _ _ h =>
  cases h with
  | sl0 => simp at hx
  | sl _ _ b off cap us hl hc ht h hs hmm hb hF =>
   refine Gives.here hm (run_indexAt hT h0 k n b off xs.length cap h1 (by omega)) (.i _ _ ?_)
   obtain ⟨u, hu⟩ := get_of_len hl.symm hx
   obtain ⟨c1, c2, c3⟩ := (h n.toNat x u hx hu).cells
   exact .ptr _ b _ u.cells.toList (by simpa using c1) (fun j y e hy he => c2 j y e hy (by simpa using he)) (fun e he => c3 e (by simpa using he)) (fun m e he => hmm n.toNat u m e hu (by simpa using he)) hb hF
theorem gives_indexAddr_own (hm : Mem P c ob w β) {T E : TypeId} (hT : slE P T = some E) (h0 : 0 < P.cellsOf E) {id ver off len : Nat} {xs : List I} (ho : ob id = some (.arr E ver xs)) {v : Value} (hv : VD P (c.g w β ob) (.own id ver off len) v)
  (k : IntKind) (n : Int) (h1 : 0 ≤ n) (h2 : n < len) : Gives P c ob w β (Instr.indexAt T v (.int k n)) (.el id ver (off + n.toNat) 0) ob := by
 cases hv with
 | own _ _ _ _ cap E' xs' cur ho' hl hc hb hcap hmx =>
  have : E' = E ∧ xs' = xs := by have h3 : ob id = some (.arr E' ver xs') := ho'; rw [ho] at h3; cases h3; exact ⟨rfl, rfl⟩
  obtain ⟨rfl, rfl⟩ := this
  refine Gives.here hm (run_indexAt hT h0 k n _ _ len cap h1 h2) ?_
  have := VD.el (P := P) (g := c.g w β ob) id ver (off + n.toNat) 0 E' xs' ho (by omega)
  rwa [Nat.add_mul, Nat.add_zero] at this
 | ownd _ _ _ _ cap E' xs' ho' hl hc => have h3 : ob id = some (.arrd E' ver xs') := ho'; rw [ho] at h3; cases h3
 | ownStale _ _ ver' _ _ E' xs' v ho' hlt => have h3 : ob id = some (.arr E' ver' xs') := ho'; rw [ho] at h3; cases h3; omega
theorem gives_indexAddr_ownd (hm : Mem P c ob w β) {T E : TypeId} (hT : slE P T = some E) (h0 : 0 < P.cellsOf E) {id ver off len : Nat} {xs : List D} (ho : ob id = some (.arrd E ver xs)) {v : Value} (hv : VD P (c.g w β ob) (.own id ver off len) v)
  (k : IntKind) (n : Int) (h1 : 0 ≤ n) (h2 : n < len) : Gives P c ob w β (Instr.indexAt T v (.int k n)) (.el id ver (off + n.toNat) 0) ob := by
 cases hv with
 | own _ _ _ _ cap E' xs' cur ho' hl hc hb hcap hmx => have h3 : ob id = some (.arr E' ver xs') := ho'; rw [ho] at h3; cases h3
 | ownd _ _ _ _ cap E' xs' ho' hl hc =>
  have : E' = E ∧ xs' = xs := by have h3 : ob id = some (.arrd E' ver xs') := ho'; rw [ho] at h3; cases h3; exact ⟨rfl, rfl⟩
  obtain ⟨rfl, rfl⟩ := this
  refine Gives.here hm (run_indexAt hT h0 k n _ _ len cap h1 h2) ?_
  have := VD.eld (P := P) (g := c.g w β ob) id ver (off + n.toNat) 0 E' xs' ho (by omega)
  rwa [Nat.add_mul, Nat.add_zero] at this
 | ownStale _ _ ver' _ _ E' xs' v ho' hlt => have h3 : ob id = some (.arr E' ver' xs') := ho'; rw [ho] at h3; cases h3
theorem gives_index_str (hm : Mem P c ob w β) {T : TypeId} (hT : P.underlying T = some .string) {s : ByteArray} {v : Value} (hv : VD P (c.g w β ob) (.i (.str s)) v) (k : IntKind) (n : Int) (h1 : 0 ≤ n) {b : UInt8} (hb : s[n.toNat]? = some b) :
  Gives P c ob w β (Instr.index T v (.int k n)) (.i (.int .u8 b.toNat)) ob := by
 cases hv with
 | i _ _ h =>
  cases h with
  | str _ hs =>
   refine Gives.here hm ?_ (.i _ _ (.int .u8 b.toNat))
   simp [Instr.index, asIntOf, run_underlying hT, h1, hb]
theorem gives_len_sl (hm : Mem P c ob w β) {T E ty : TypeId} (hT : slE P T = some E) {E' : TypeId} {xs : List I} {v : Value} (hv : VD P (c.g w β ob) (.i (.sl E' xs)) v) :
  Gives P c ob w β (Builtin.len_ #[T] ty #[v]) (.i (.int .i64 xs.length)) ob := by
 cases hv with
 | i _ _ h =>
  cases h with
  | sl0 => refine Gives.here hm (v := goInt 0) ?_ (.i _ _ (.int .i64 _)); simp [Builtin.len_, run_underlying (slE_eq hT)]
  | sl _ _ b off cap us hl hc ht h hs hmm hb hF => refine Gives.here hm (v := goInt xs.length) ?_ (.i _ _ (.int .i64 _)); simp [Builtin.len_, run_underlying (slE_eq hT)]
end
end Go.Lw
end
section
namespace Go.Lw
def srcOf (q : Nat → Option Ob) (E : TypeId) : D → Option (List I)
 | .i (.sl E' ys) => if E' = E then some ys else none
 | .nils => some []
 | .own id ver off len => match q id with
  | some (.arr E' ver' xs) => if E' = E ∧ ver' = ver then some ((xs.drop off).take len) else none
  | _ => none
 | _ => none
def zeroOk (P : Program) (E : TypeId) : Bool := match (P.info? E).bind (·.zero) with
 | some z => z.cells.size == P.cellsOf E
 | none => false
theorem zeroOk_eq {P : Program} {E : TypeId} (h : zeroOk P E = true) (h0 : 0 < P.cellsOf E) : ∃ i z, P.info? E = some i ∧ i.size = P.cellsOf E ∧ i.zero = some z ∧ z.cells.size = P.cellsOf E ∧ i.bytes = P.bytesOf E := by
 obtain ⟨i, hi, his⟩ := info_of_cells h0
 unfold zeroOk at h
 rw [hi] at h
 simp only [Option.bind_some] at h
 cases hz : i.zero with
 | none => simp [hz] at h
 | some z => simp [hz] at h; exact ⟨i, z, hi, his, hz, h, by simp [Program.bytesOf, hi]⟩
theorem flat_get {sz : Nat} (h0 : 0 < sz) : ∀ (us : List Value), (∀ u ∈ us, u.cells.size = sz) → ∀ i : Nat, (us.flatMap (fun u => u.cells.toList))[i]? = (us[i / sz]?).bind (fun u => u.cells[i % sz]?)
 | [], _, i => by simp
 | u :: us, h, i => by
  have hu : u.cells.toList.length = sz := by simpa using h u (by simp)
  rw [List.flatMap_cons, List.getElem?_append, hu]
  by_cases hi : i < sz
  ·rw [if_pos hi, Nat.div_eq_of_lt hi, Nat.mod_eq_of_lt hi]; simp
  ·rw [if_neg hi, flat_get h0 us (fun x hx => h x (by simp [hx])) (i - sz)]
   have h1 : i / sz = (i - sz) / sz + 1 := by rw [Nat.div_eq_sub_div h0 (by omega)]
   have h2 : (i - sz) % sz = i % sz := by rw [Nat.mod_eq_sub_mod (show i ≥ sz by omega)]
   rw [h1, h2]; simp
theorem flat_length {sz : Nat} : ∀ (us : List Value), (∀ u ∈ us, u.cells.size = sz) → (us.flatMap (fun u => u.cells.toList)).length = us.length * sz
 | [], _ => by simp
 | u :: us, h => by
  have hu : u.cells.toList.length = sz := by simpa using h u (by simp)
  rw [List.flatMap_cons, List.length_append, hu, flat_length us (fun x hx => h x (by simp [hx])), List.length_cons, Nat.add_mul]; omega
theorem div_block {sz j m : Nat} (h : m < sz) : (j * sz + m) / sz = j ∧ (j * sz + m) % sz = m := by
 constructor
 ·rw [Nat.mul_comm, Nat.mul_add_div (by omega), Nat.div_eq_of_lt h]; omega
 ·rw [Nat.mul_comm, Nat.mul_add_mod, Nat.mod_eq_of_lt h]
section
variable {P : Program} {c : Ctx} {ob : Nat → Option Ob} {w : World} {β : Nat → Nat}
structure Row (P : Program) (g : G) (E : TypeId) (ys : List I) (us : List Value) : Prop where
 z : Z (V P g.w g.F) ys us
 sz : ∀ u ∈ us, u.cells.size = P.cellsOf E
theorem src_of (hm : Mem P c ob w β) {E : TypeId} {x : D} {v : Value} (hv : VD P (c.g w β ob) x v) {ys : List I} (hs : srcOf ob E x = some ys) :
  ∃ A cap us, v = .slice A ys.length cap ∧ Row P (c.g w β ob) E ys us ∧ ys.length ≤ top ∧
   (0 < ys.length → ∃ b off, A = some ⟨b, off, none⟩ ∧ ∀ (j : Nat) (u : Value) (k : Nat) (e : Value), us[j]? = some u → u.cells[k]? = some e → w.cell? ⟨b, off + j * P.cellsOf E + k, none⟩ = some e) := by
 cases hv with
 | nils A => simp [srcOf] at hs; subst hs; exact ⟨A, 0, [], rfl, ⟨⟨rfl, by simp⟩, by simp⟩, by simp [top], by simp⟩
 | i x v h =>
  cases h with
  | sl0 E' A cap => simp only [srcOf] at hs; split at hs <;> cases hs; exact ⟨A, cap, [], rfl, ⟨⟨rfl, by simp⟩, by simp⟩, by simp [top], by simp⟩
  | sl E' xs b off cap us hl hc ht h hs' hmm hb hF =>
   simp only [srcOf] at hs
   split at hs
   ·rename_i he; cases hs; subst he
    refine ⟨_, cap, us, rfl, ⟨⟨hl, h⟩, fun u hu => ?_⟩, ht, fun _ => ⟨b, off, rfl, fun j u k e hj hk => hmm j u k e hj hk⟩⟩
    obtain ⟨j, hj⟩ := List.getElem?_of_mem hu
    exact hs' j u hj
   ·cases hs
  | _ => simp [srcOf] at hs
 | own id ver off len cap E' xs cur ho hl hc hb hcap hmx =>
  simp only [srcOf, show ob id = some (.arr E' ver xs) from ho] at hs
  split at hs
  ·rename_i he; obtain ⟨rfl, _⟩ := he; cases hs
   have hr := hm.obs id _ ho
   cases hr with
   | arr _ _ _ cur' us hb' hl' ht h hsz hmm =>
    have hlen : ((xs.drop off).take len).length = len := by simp; omega
    rw [hlen]
    have zz : Z (V P w (c.g w β ob).F) xs us := ⟨hl', h⟩
    refine ⟨_, cap, (us.drop off).take len, rfl, ⟨(zz.drop off).take len, fun u hu => ?_⟩, by omega, fun _ => ⟨β id, off * P.cellsOf E', rfl, fun j u k e hj hk => ?_⟩⟩
    ·obtain ⟨j, hj⟩ := List.getElem?_of_mem (List.mem_of_mem_drop (List.mem_of_mem_take hu))
     exact hsz j u hj
    ·rw [List.getElem?_take] at hj
     split at hj
     ·rw [List.getElem?_drop] at hj
      have := hmm (off + j) u k e hj hk
      simp only [Ctx.g] at hb'
      rw [Nat.add_mul] at this
      simp [World.cell?, hb', this]
     ·cases hj
  ·cases hs
 | ownd id ver off len cap E' xs ho hl hc => simp [srcOf, show ob id = some (.arrd E' ver xs) from ho] at hs
 | ownStale id ver ver' off len E' xs v ho hlt hv =>
  simp only [srcOf, show ob id = some (.arr E' ver' xs) from ho] at hs
  rw [if_neg (by omega)] at hs
  cases hs
 | _ => simp [srcOf] at hs
theorem Row.news {g : G} {E : TypeId} {ys : List I} {us : List Value} (h : Row P g E ys us) (h0 : 0 < P.cellsOf E) {b off : Nat}
  (hc : ∀ (j : Nat) (u : Value) (k : Nat) (e : Value), us[j]? = some u → u.cells[k]? = some e → g.w.cell? ⟨b, off + j * P.cellsOf E + k, none⟩ = some e) :
  ∀ (i : Nat) (e : Value), (us.flatMap (fun u => u.cells.toList))[i]? = some e → g.w.cell? ((⟨b, off, none⟩ : Addr).add i) = some e := by
 intro i e hi
 rw [flat_get h0 us h.sz] at hi
 obtain ⟨u, hu, hk⟩ := Option.bind_eq_some_iff.1 hi
 have := hc _ u _ e hu hk
 rw [Addr.add_lit]
 have hd := Nat.div_add_mod i (P.cellsOf E)
 have he : off + i / P.cellsOf E * P.cellsOf E + i % P.cellsOf E = off + i := by rw [Nat.mul_comm] at hd; omega
 rwa [he] at this
theorem Row.leaf {g : G} {E : TypeId} {ys : List I} {us : List Value} (h : Row P g E ys us) : ∀ e ∈ us.flatMap (fun u => u.cells.toList), e.oneCell' = true := by
 intro e he
 obtain ⟨u, hu, he⟩ := List.mem_flatMap.1 he
 obtain ⟨j, hj⟩ := List.getElem?_of_mem hu
 obtain ⟨y, hy⟩ := get_of_len h.z.len hj
 exact leaf_one e ((h.z.at_ j y u hy hj).cells.2.2 e (by simpa using he))
theorem ObRel.ofRow {g : G} {id : Nat} {E : TypeId} {ver : Nat} {xs : List I} {us : List Value} {cur : Array Value} (h : Row P g E xs us) (h0 : 0 < P.cellsOf E) (ht : xs.length ≤ top)
  (hb : g.w.heap[g.β id]? = some (.cells cur E (0, 0))) (hcur : ∀ (i : Nat) (e : Value), (us.flatMap (fun u => u.cells.toList))[i]? = some e → cur[i]? = some e) : ObRel P g id (.arr E ver xs) := by
 refine .arr E ver xs cur us hb h.z.len ht h.z.at_ (fun j u hu => h.sz u (List.mem_of_getElem? hu)) (fun j u m e hu he => hcur _ e ?_)
 have hsz := h.sz u (List.mem_of_getElem? hu)
 have hm : m < P.cellsOf E := by have := (Array.getElem?_eq_some_iff.1 he).1; omega
 rw [flat_get h0 us h.sz, (div_block hm).1, (div_block hm).2, hu]
 exact he
theorem Row.keeps {g g' : G} (hk : Keeps g g') {E : TypeId} {ys : List I} {us : List Value} (h : Row P g E ys us) : Row P g' E ys us := ⟨⟨h.z.len, fun j x y hx hy => (h.z.at_ j x y hx hy).keeps hk⟩, h.sz⟩
theorem Row.append {g : G} {E : TypeId} {ys ys' : List I} {us us' : List Value} (h : Row P g E ys us) (h' : Row P g E ys' us') : Row P g E (ys ++ ys') (us ++ us') :=
 ⟨h.z.append h'.z, fun u hu => by rcases List.mem_append.1 hu with hu | hu; exact h.sz u hu; exact h'.sz u hu⟩
theorem run_append_fresh {T ty E : TypeId} (hT : slE P T = some E) {inf : TypeInfo} (hi : P.info? E = some inf) {z : Value} (hzz : inf.zero = some z) (A0 : Option Addr) (a : Addr) (n cap : Nat) (news : List Value)
  (hl : news.length = n * inf.size) (hnews : ∀ (j : Nat) (v : Value), news[j]? = some v → w.cell? (a.add j) = some v) (h0 : 0 < n) (h63 : (n : Int) ≤ 9223372036854775807) (hb : n * inf.bytes ≤ 140737488355328) :
  (Builtin.append_ #[T, T] ty #[.slice A0 0 0, .slice (some a) n cap]).run P w =
   .ok (.slice (some ⟨w.heap.size, 0, none⟩) n (grownCap w n 0 E)) (w.drew.alloc (.cells (news.toArray ++ Builtin.zeroCells z.cells (grownCap w n 0 E - n)) E)) := by
 cases A0 with
 | none => exact run_append_nil w T ty E inf z (slE_eq hT) hi hzz a n cap news hl hnews h0 h63 (by omega)
 | some b =>
  have := run_append_grow (P := P) w T ty E inf z (slE_eq hT) hi hzz b 0 0 [] (by simp) (by simp) a n cap news hl hnews (by omega) (by simpa using h63) (by simpa using growslice_fits (need := n) (old := 0) (by omega) hb)
  simpa using this
theorem gives_append_nils (hm : Mem P c ob w β) {T ty E : TypeId} (hT : slE P T = some E) (h0 : 0 < P.cellsOf E) (hz : zeroOk P E = true) {id : Nat} (hid : ob id = none) {x : D} {v : Value} (hv : VD P (c.g w β ob) x v)
  {ys : List I} (hs : srcOf ob E x = some ys) (hpos : 0 < ys.length) (hb : ys.length * P.bytesOf E ≤ top) (A0 : Option Addr) :
  Gives P c ob w β (Builtin.append_ #[T, T] ty #[.slice A0 0 0, v]) (.own id 0 0 ys.length) (upd ob id (some (.arr E 0 ys))) := by
 obtain ⟨A, cap, us, rfl, hrow, htop, hat⟩ := src_of hm hv hs
 obtain ⟨b, off, rfl, hcell⟩ := hat hpos
 obtain ⟨inf, z, hi, his, hzz, hzs, hby⟩ := zeroOk_eq hz h0
 have hnl : (us.flatMap (fun u => u.cells.toList)).length = ys.length * inf.size := by rw [flat_length us hrow.sz, his, hrow.z.len]
 have hrun := run_append_fresh (w := w) (ty := ty) hT hi hzz A0 ⟨b, off, none⟩ ys.length cap _ hnl (hrow.news h0 hcell) hpos (by unfold top at htop; omega) (by rw [hby]; unfold top at hb; omega)
 obtain ⟨hmd, hkd⟩ := hm.quiet (w' := w.drew) (Nat.le_refl _) (fun _ _ => rfl) rfl rfl rfl
 have hkn := Keeps.new hmd hid (.cells ((us.flatMap (fun u => u.cells.toList)).toArray ++ Builtin.zeroCells z.cells (grownCap w ys.length 0 E - ys.length)) E) (.arr E 0 ys)
 have hbl := heap_alloc_new w.drew (.cells ((us.flatMap (fun u => u.cells.toList)).toArray ++ Builtin.zeroCells z.cells (grownCap w ys.length 0 E - ys.length)) E)
 refine ⟨_, _, upd β id w.heap.size, hrun, hmd.new hid _ _ (ObRel.ofRow ((hrow.keeps hkd).keeps hkn) h0 htop (by simp only [Ctx.g, upd_same]; exact hbl) (fun i e he => ?_)), ?_, ?_⟩
 ·have hlt := (List.getElem?_eq_some_iff.1 he).1
  rw [Array.getElem?_append_left (by simpa using hlt)]
  simpa using he
 ·exact Keeps.trans' hkd hkn
 ·have hge := grownCap_ge w ys.length 0 E
  have := VD.own (P := P) (g := c.g (w.drew.alloc (.cells ((us.flatMap (fun u => u.cells.toList)).toArray ++ Builtin.zeroCells z.cells (grownCap w ys.length 0 E - ys.length)) E)) (upd β id w.heap.size) (upd ob id (some (.arr E 0 ys)))) id 0 0 ys.length (grownCap w ys.length 0 E) E ys _
   (by simp [Ctx.g, upd_same]) (by omega) hge (by simp only [Ctx.g, upd_same]; exact hbl) (by
    simp only [Nat.zero_add, Array.size_append, List.size_toArray, hnl, size_zeroCells, hzs, his]
    rw [← Nat.add_mul]; exact Nat.mul_le_mul_right _ (by omega)) (grownCap_le_maxLen w _ _ _ (by unfold top at htop; unfold maxLen; omega))
  simpa [Ctx.g, upd_same] using this
end
end Go.Lw
end
section
namespace Go.Lw
section
variable {P : Program} {c : Ctx} {ob : Nat → Option Ob} {w : World} {β : Nat → Nat}
theorem run_append_none {T ty E : TypeId} (hT : slE P T = some E) (h0 : 0 < P.cellsOf E) (b off n cap : Nat) (A : Option Addr) (c' : Nat) (h : n ≤ cap) :
  (Builtin.append_ #[T, T] ty #[.slice (some ⟨b, off, none⟩) n cap, .slice A 0 c']).run P w = .ok (.slice (some ⟨b, off, none⟩) n cap) w := by
 obtain ⟨inf, hi, his⟩ := info_of_cells h0
 cases A with
 | none => simp [Builtin.append_, run_underlying (slE_eq hT), sizeOf, typeInfo, hi, Builtin.lenOf, h, Builtin.firstCells, storeCells]
 | some a => simp [Builtin.append_, run_underlying (slE_eq hT), sizeOf, typeInfo, hi, Builtin.lenOf, h, Builtin.firstCells, storeCells, loadCells, loadCellsFrom]
theorem gives_append_own (hm : Mem P c ob w β) {T ty E : TypeId} (hT : slE P T = some E) (h0 : 0 < P.cellsOf E) (hz : zeroOk P E = true) {id ver : Nat} {xs : List I} (ho : ob id = some (.arr E ver xs)) {s : Value}
  (hsv : VD P (c.g w β ob) (.own id ver 0 xs.length) s) {x : D} {v : Value} (hv : VD P (c.g w β ob) x v) {ys : List I} (hs : srcOf ob E x = some ys) (hb : (xs.length + ys.length) * P.bytesOf E ≤ top) (hb1 : xs.length + ys.length ≤ top) :
  Gives P c ob w β (Builtin.append_ #[T, T] ty #[s, v]) (.own id (ver + 1) 0 (xs.length + ys.length)) (upd ob id (some (.arr E (ver + 1) (xs ++ ys)))) := by
 obtain ⟨A, cap', us, rfl, hrow, htop, hat⟩ := src_of hm hv hs
 obtain ⟨inf, z, hi, his, hzz, hzs, hby⟩ := zeroOk_eq hz h0
 cases hsv with
 | ownd _ _ _ _ cap E' xs' ho' hl hc => have h3 : ob id = some (.arrd E' ver xs') := ho'; rw [ho] at h3; cases h3
 | ownStale _ _ ver' _ _ E' xs' v ho' hlt => have h3 : ob id = some (.arr E' ver' xs') := ho'; rw [ho] at h3; cases h3; omega
 | own _ _ _ _ cap E' xs' cur ho' hl hc hblk hcap hmx =>
  have : E' = E ∧ xs' = xs := by have h3 : ob id = some (.arr E' ver xs') := ho'; rw [ho] at h3; cases h3; exact ⟨rfl, rfl⟩
  obtain ⟨rfl, rfl⟩ := this
  simp only [Ctx.g] at hblk
  simp only [Nat.zero_mul, Nat.zero_add] at hcap ⊢
  have hr := hm.obs id _ ho
  cases hr with
  | arr _ _ _ cur2 us0 hb2 hl2 ht2 h2 hsz2 hmm2 =>
   have hcur : cur2 = cur := by
    simp only [Ctx.g] at hb2
    rw [hblk] at hb2; cases hb2; rfl
   subst hcur
   have hrow0 : Row P (c.g w β ob) E' xs' us0 := ⟨⟨hl2, h2⟩, fun u hu => by obtain ⟨j, hj⟩ := List.getElem?_of_mem hu; exact hsz2 j u hj⟩
   have hle : ∀ b, Ob.le (.arr E' ver xs') (.arr E' (ver + 1) (xs' ++ ys)) b := fun b => .arrv E' ver (ver + 1) _ _ (by omega) b
   have hol : ∀ (i : Nat) (e : Value), (us0.flatMap (fun u => u.cells.toList))[i]? = some e → cur2[i]? = some e := fun i e he => by
    rw [flat_get h0 us0 hrow0.sz] at he
    obtain ⟨u, hu, hk⟩ := Option.bind_eq_some_iff.1 he
    have := hmm2 _ u _ e hu hk
    have hd := Nat.div_add_mod i (P.cellsOf E')
    rwa [show i / P.cellsOf E' * P.cellsOf E' + i % P.cellsOf E' = i by rw [Nat.mul_comm] at hd; omega] at this
   have holl : (us0.flatMap (fun u => u.cells.toList)).length = xs'.length * inf.size := by rw [flat_length us0 hrow0.sz, his, hl2]
   rcases Nat.eq_zero_or_pos ys.length with hy0 | hpos
   ·-- nothing is appended
    have hy : ys = [] := List.eq_nil_of_length_eq_zero hy0
    subst hy
    have hk := Keeps.set hm ho (hle true) (w' := w) rfl (fun _ _ => rfl) (fun cur E h => ⟨cur, h, rfl⟩)
    refine ⟨_, w, β, run_append_none hT h0 (β id) 0 xs'.length cap A cap' hc, hm.set ho (hle true) rfl (fun _ _ => rfl) (fun cur E h => ⟨cur, h, rfl⟩) rfl rfl rfl ?_, hk, ?_⟩
    ·refine ObRel.ofRow (us := us0) (cur := cur2) (by simpa using hrow0.keeps hk) h0 (by simpa using ht2) (by simpa [Ctx.g] using hblk) hol
    ·have := VD.own (P := P) (g := c.g w β (upd ob id (some (.arr E' (ver + 1) (xs' ++ []))))) id (ver + 1) 0 xs'.length cap E' (xs' ++ []) cur2 (by simp [Ctx.g, upd_same]) (by simp) hc (by simpa [Ctx.g] using hblk) (by simpa using hcap) hmx
     simpa [Ctx.g] using this
   ·obtain ⟨b, off, rfl, hcell⟩ := hat hpos
    have hnl : (us.flatMap (fun u => u.cells.toList)).length = ys.length * inf.size := by rw [flat_length us hrow.sz, his, hrow.z.len]
    have hnews := hrow.news h0 (g := c.g w β ob) hcell
    by_cases hroom : xs'.length + ys.length ≤ cap
    ·-- there is room
     have hfit : xs'.length * inf.size + (us.flatMap (fun u => u.cells.toList)).length ≤ cur2.size := by
      rw [hnl, ← Nat.add_mul, his]; exact Nat.le_trans (Nat.mul_le_mul_right _ hroom) hcap
     have hrun := run_append_room (P := P) w T ty E' inf (slE_eq hT) hi (β id) xs'.length cap cur2 hblk ⟨b, off, none⟩ ys.length cap' _ hnl hnews (Row.leaf hrow) hroom hfit
     obtain ⟨NC, hNC⟩ : ∃ NC, NC = splice cur2.toList (xs'.length * inf.size) (us.flatMap (fun u => u.cells.toList)) := ⟨_, rfl⟩
     obtain ⟨W, hW⟩ : ∃ W, W = w.setRow (β id) NC.toArray := ⟨_, rfl⟩
     have hlen : NC.length = cur2.size := by rw [hNC, splice_length _ _ _ (by simpa using hfit)]; simp
     have hrun' : (Builtin.append_ #[T, T] ty #[.slice (some ⟨β id, 0, none⟩) xs'.length cap, .slice (some ⟨b, off, none⟩) ys.length cap']).run P w = .ok (.slice (some ⟨β id, 0, none⟩) (xs'.length + ys.length) cap) W := by
      rw [hW, hNC]; exact hrun
     clear hrun
     have hw' : W.heap[β id]? = some (.cells NC.toArray E' (0, 0)) := by rw [hW]; exact setRow_heap w (β id) _ _ _ _ hblk
     have hWs : W.heap.size = w.heap.size := by rw [hW]; simp
     have hWo : ∀ b, b ≠ β id → W.heap[b]? = w.heap[b]? := fun b hb => by rw [hW]; exact setRow_other _ _ _ _ hb
     have hW1 : W.os = w.os := by rw [hW]; rfl
     have hW2 : W.tape = w.tape := by rw [hW]; rfl
     have hW3 : W.output = w.output := by rw [hW]; rfl
     clear hW
     have hcells : ∀ cur1 E1, w.heap[β id]? = some (.cells cur1 E1 (0, 0)) → ∃ cur', W.heap[β id]? = some (.cells cur' E1 (0, 0)) ∧ cur'.size = cur1.size := by
      intro cur1 E1 hcur
      rw [hblk] at hcur
      cases hcur
      exact ⟨_, hw', by simp [hlen]⟩
     have hk := Keeps.set hm ho (hle true) hWs hWo hcells
     refine ⟨_, W, β, hrun', hm.set ho (hle true) hWs hWo hcells hW1 hW2 hW3 ?_, hk, ?_⟩
     ·refine ObRel.ofRow (us := us0 ++ us) (cur := NC.toArray) ((hrow0.keeps hk).append (hrow.keeps hk)) h0 (by simpa using hb1) (by simp only [Ctx.g]; exact hw') (fun i e he => ?_)
      rw [List.flatMap_append, List.getElem?_append, holl] at he
      rw [List.getElem?_toArray, hNC, splice_at _ _ _ (by simpa using hfit)]
      split at he
      ·rename_i hi'
       rw [if_neg (by omega)]
       simpa using hol i e he
      ·rename_i hi'
       have hlt := (List.getElem?_eq_some_iff.1 he).1
       rw [if_pos (by omega)]
       exact he
     ·have := VD.own (P := P) (g := c.g W β (upd ob id (some (.arr E' (ver + 1) (xs' ++ ys))))) id (ver + 1) 0 (xs'.length + ys.length) cap E' (xs' ++ ys) NC.toArray
       (by simp [Ctx.g, upd_same]) (by simp) hroom (by simp only [Ctx.g]; exact hw') (by simp only [Nat.zero_add, List.size_toArray, hlen]; exact hcap) hmx
      simpa [Ctx.g] using this
    ·-- a new array
     have hnews' := hnews
     have holds : ∀ (j : Nat) (e : Value), (us0.flatMap (fun u => u.cells.toList))[j]? = some e → w.cell? ((⟨β id, 0, none⟩ : Addr).add j) = some e := fun j e he => by
      rw [Addr.add_lit]; simp only [Nat.zero_add, World.cell?, hblk]; simpa using hol j e he
     have hrun := run_append_grow (P := P) w T ty E' inf z (slE_eq hT) hi hzz ⟨β id, 0, none⟩ xs'.length cap _ holl holds ⟨b, off, none⟩ ys.length cap' _ hnl hnews (by omega) (by unfold top at hb1; omega)
      (growslice_fits (by omega) (by rw [hby]; exact hb))
     obtain ⟨hmd, hkd⟩ := hm.quiet (w' := w.drew) (Nat.le_refl _) (fun _ _ => rfl) rfl rfl rfl
     obtain ⟨NC, hNC⟩ : ∃ NC, NC = ((us0.flatMap (fun u => u.cells.toList)).toArray ++ (us.flatMap (fun u => u.cells.toList)).toArray ++ Builtin.zeroCells z.cells (grownCap w (xs'.length + ys.length) cap E' - (xs'.length + ys.length))) := ⟨_, rfl⟩
     rw [← hNC] at hrun
     have hkn := Keeps.move hmd ho (hle false) (Obj.cells NC E')
     have hbl := heap_alloc_new w.drew (Obj.cells NC E')
     obtain ⟨cp, hcp⟩ : ∃ cp, cp = grownCap w (xs'.length + ys.length) cap E' := ⟨_, rfl⟩
     have hge : xs'.length + ys.length ≤ cp := by rw [hcp]; exact grownCap_ge w (xs'.length + ys.length) cap E'
     have hcm : cp ≤ maxLen := by rw [hcp]; exact grownCap_le_maxLen w _ _ _ (by unfold top at hb1; unfold maxLen; omega)
     rw [← hcp] at hrun
     have hsize : cp * P.cellsOf E' ≤ NC.size := by
      rw [hNC, ← hcp]
      simp only [Array.size_append, List.size_toArray, hnl, holl, size_zeroCells, hzs, his]
      rw [← Nat.add_mul, ← Nat.add_mul]; exact Nat.mul_le_mul_right _ (by omega)
     have hat' : ∀ (i : Nat) (e : Value), ((us0 ++ us).flatMap (fun u => u.cells.toList))[i]? = some e → NC[i]? = some e := fun i e he => by
      have hlt := (List.getElem?_eq_some_iff.1 he).1
      rw [hNC, Array.getElem?_append_left (by simpa using hlt)]
      simpa using he
     clear hNC hcp
     refine ⟨_, _, upd β id w.heap.size, hrun, hmd.move ho (hle false) (Obj.cells NC E') ?_, Keeps.trans' hkd hkn, ?_⟩
     ·exact ObRel.ofRow (us := us0 ++ us) (((hrow0.keeps hkd).keeps hkn).append ((hrow.keeps hkd).keeps hkn)) h0 (by simpa using hb1) (by simp only [Ctx.g, upd_same]; exact hbl) hat'
     ·have := VD.own (P := P) (g := c.g (w.drew.alloc (Obj.cells NC E')) (upd β id w.heap.size) (upd ob id (some (.arr E' (ver + 1) (xs' ++ ys)))))
       id (ver + 1) 0 (xs'.length + ys.length) cp E' (xs' ++ ys) NC
       (by simp [Ctx.g, upd_same]) (by simp) hge (by simp only [Ctx.g, upd_same]; exact hbl) (by simpa using hsize) hcm
      simpa [Ctx.g, upd_same] using this
theorem gives_append_data (hm : Mem P c ob w β) {T ty E : TypeId} (hT : slE P T = some E) (h0 : 0 < P.cellsOf E) (hz : zeroOk P E = true) {x : D} {v : Value} (hv : VD P (c.g w β ob) x v)
  {ys : List I} (hs : srcOf ob E x = some ys) (hb : ys.length * P.bytesOf E ≤ top) (A0 : Option Addr) :
  Gives P c ob w β (Builtin.append_ #[T, T] ty #[.slice A0 0 0, v]) (.i (.sl E ys)) ob := by
 obtain ⟨A, cap, us, rfl, hrow, htop, hat⟩ := src_of hm hv hs
 obtain ⟨inf, z, hi, his, hzz, hzs, hby⟩ := zeroOk_eq hz h0
 rcases Nat.eq_zero_or_pos ys.length with hy0 | hpos
 ·have hy : ys = [] := List.eq_nil_of_length_eq_zero hy0
  subst hy
  refine Gives.here hm (v := .slice A0 0 0) ?_ (.i _ _ (.sl0 E A0 0))
  cases A with
  | none => cases A0 <;> simp [Builtin.append_, run_underlying (slE_eq hT), sizeOf, typeInfo, hi, Builtin.lenOf, Builtin.firstCells, storeCells]
  | some a => cases A0 <;> simp [Builtin.append_, run_underlying (slE_eq hT), sizeOf, typeInfo, hi, Builtin.lenOf, Builtin.firstCells, loadCells, loadCellsFrom, storeCells]
 ·obtain ⟨b, off, rfl, hcell⟩ := hat hpos
  have hnl : (us.flatMap (fun u => u.cells.toList)).length = ys.length * inf.size := by rw [flat_length us hrow.sz, his, hrow.z.len]
  have hrun := run_append_fresh (w := w) (ty := ty) hT hi hzz A0 ⟨b, off, none⟩ ys.length cap _ hnl (hrow.news h0 hcell) hpos (by unfold top at htop; omega) (by rw [hby]; unfold top at hb; omega)
  generalize hO : (Obj.cells ((us.flatMap (fun u => u.cells.toList)).toArray ++ Builtin.zeroCells z.cells (grownCap w ys.length 0 E - ys.length)) E) = O at hrun
  have hbl := heap_alloc_new w.drew O
  obtain ⟨hmd, hkd⟩ := hm.quiet (w' := w.drew.alloc O) (by simp) (fun b hb => heap_alloc_old w.drew O b hb) rfl rfl rfl
  refine ⟨_, _, β, hrun, hmd, hkd, .i _ _ ?_⟩
  have hrow' := hrow.keeps hkd
  refine .sl E ys w.heap.size 0 _ us hrow'.z.len (grownCap_ge w ys.length 0 E) htop hrow'.z.at_ (fun j u hu => hrow.sz u (List.mem_of_getElem? hu)) (fun j u m e hu he => ?_) (by simp [Ctx.g]) ?_
  ·have hsz := hrow.sz u (List.mem_of_getElem? hu)
   have hmlt : m < P.cellsOf E := by have := (Array.getElem?_eq_some_iff.1 he).1; omega
   have hi' : (us.flatMap (fun u => u.cells.toList))[j * P.cellsOf E + m]? = some e := by
    rw [flat_get h0 us hrow.sz, (div_block hmlt).1, (div_block hmlt).2, hu]; exact he
   have hlt := (List.getElem?_eq_some_iff.1 hi').1
   subst hO
   simp only [Ctx.g, World.cell?]
   rw [show (w.drew.alloc (Obj.cells ((us.flatMap (fun u => u.cells.toList)).toArray ++ Builtin.zeroCells z.cells (grownCap w ys.length 0 E - ys.length)) E)).heap[w.heap.size]? = some _ from hbl]
   simp only [Nat.zero_add, Option.isSome_none, Bool.false_eq_true, if_false]
   rw [Array.getElem?_append_left (by simpa using hlt)]
   simpa using hi'
  ·rintro (hM | ⟨i, o, h1, h2⟩)
   ·have := (hm.mlt _ hM).1; have := hm.size; omega
   ·have := hm.lt i o h1; omega
end
end Go.Lw
end
section
namespace Go.Lw
def constD : Value → D
 | .int k n => .i (.int k n)
 | .bool b => .kb b
 | .string s => if s.size ≤ top then .i (.str s) else .any
 | .slice A 0 0 => .nils
 | .pointer none => .i .nilp
 | .map none => .i .nilm
 | .nilFunc => .i .nilf
 | _ => .any
theorem VD.const {P : Program} {g : G} (v : Value) : VD P g (constD v) v := by
 unfold constD
 split
 ·exact .i _ _ (.int _ _)
 ·exact .kb _
 ·split
  ·exact .i _ _ (.str _ ‹_›)
  ·exact .any _
 ·exact .nils _
 ·exact .i _ _ .nilp
 ·exact .i _ _ .nilm
 ·exact .i _ _ .nilf
 ·exact .any _
def zeroD (P : Program) (T : TypeId) : Option (List D) := ((P.info? T).bind (·.zero)).map (fun z => z.cells.toList.map constD)
def places (P : Program) (T : TypeId) : Option (List (Nat × Nat)) := match P.underlying T with
 | some (.struct fs) => some (fs.toList.map fun f => (f.offset, P.cellsOf f.type))
 | _ => none
def fillD (ps : List (Nat × Nat)) (cells : List D) : List (Nat × D) → Option (List D)
 | [] => some cells
 | (i, x) :: rest => match ps[i]?, x.box with
  | some (off, size), some ds => if ds.length = size ∧ off + ds.length ≤ cells.length then fillD ps (splice cells off ds) rest else none
  | _, _ => none
theorem fold_set (vs : List Value) : ∀ (off j : Nat) (cs : Array Value), off + j + vs.length ≤ cs.size →
  (vs.zipIdx j).foldl (fun cs (p : Value × Nat) => cs.setIfInBounds (off + p.2) p.1) cs = (splice cs.toList (off + j) vs).toArray := by
 induction vs with
 | nil => intro off j cs h; simp [splice]
 | cons v vs ih =>
  intro off j cs h
  simp only [List.zipIdx_cons, List.foldl_cons]
  simp only [List.length_cons] at h
  rw [ih off (j + 1) _ (by simp; omega)]
  apply Array.ext'
  apply List.ext_getElem?
  intro k
  simp only [List.toList_toArray]
  rw [splice_at _ _ _ (by simp; omega), splice_at _ _ _ (by simp; omega)]
  simp only [Array.toList_setIfInBounds, List.getElem?_set, List.length_cons]
  by_cases h1 : off + j = k
  ·subst h1
   have e1 : ¬ (off + (j + 1) ≤ off + j ∧ off + j < off + (j + 1) + vs.length) := by omega
   have e2 : off + j ≤ off + j ∧ off + j < off + j + (vs.length + 1) := by omega
   have e3 : off + j < cs.toList.length := by simp; omega
   rw [if_neg e1, if_pos e2]
   simp only [if_true, if_pos e3]
   simp
  ·by_cases h2 : off + (j + 1) ≤ k ∧ k < off + (j + 1) + vs.length
   ·rw [if_pos h2, if_pos (by omega), show k - (off + j) = (k - (off + (j + 1))) + 1 by omega]; simp
   ·rw [if_neg h2, if_neg h1, if_neg (by omega)]
section
variable {P : Program} {c : Ctx} {ob : Nat → Option Ob} {w : World} {β : Nat → Nat}
theorem zeroD_eq {T : TypeId} {ds : List D} (h : zeroD P T = some ds) : ∃ i z, P.info? T = some i ∧ i.zero = some z ∧ ds = z.cells.toList.map constD := by
 unfold zeroD at h
 simp only [Option.map_eq_some_iff, Option.bind_eq_some_iff] at h
 obtain ⟨z, ⟨i, hi, hz⟩, rfl⟩ := h
 exact ⟨i, z, hi, hz, rfl⟩
theorem Z.const {g : G} (vs : List Value) : Z (VD P g) (vs.map constD) vs := ⟨by simp, fun j x v hx hv => by
 simp only [List.getElem?_map, hv, Option.map_some, Option.some.injEq] at hx
 subst hx
 exact .const v⟩
theorem gives_alloc (hm : Mem P c ob w β) {id : Nat} (hid : ob id = none) (T : TypeId) {ds : List D} (hz : zeroD P T = some ds) (hlf : ds.all D.leafB = true) :
  Gives P c ob w β (Instr.alloc T true (.tuple #[])) (.loc id 0) (upd ob id (some (.var T ds))) := by
 obtain ⟨i, z, hi, hzz, rfl⟩ := zeroD_eq hz
 have hk := Keeps.new hm hid (.cells z.cells T) (.var T (z.cells.toList.map constD))
 refine ⟨.pointer (some ⟨w.heap.size, 0, none⟩), w.alloc (.cells z.cells T), upd β id w.heap.size, by simp [Instr.alloc, zeroValue, typeInfo, hi, hzz, newVar, newRow], ?_, hk, ?_⟩
 ·refine hm.new hid _ _ (.var T (z.cells.toList.map constD) z.cells.toList ?_ (by simp) (fun j x v hx hv => (Z.const (g := c.g _ _ _) z.cells.toList).at_ j x v hx hv) (fun u hu => ?_))
  ·simp only [Ctx.g, upd_same, Array.toArray_toList]; exact heap_alloc_new w _
  ·exact VD.leaf (P := P) (g := c.g w β ob) (VD.const u) (List.all_eq_true.1 hlf _ (List.mem_map.2 ⟨u, hu, rfl⟩))
 ·have := VD.loc (P := P) (g := c.g (w.alloc (.cells z.cells T)) (upd β id w.heap.size) (upd ob id (some (.var T (z.cells.toList.map constD))))) id 0 T (z.cells.toList.map constD) (by simp [Ctx.g, upd_same])
  simpa [Ctx.g, upd_same] using this
theorem mapM_run {α γ : Type} (F : α → Sem γ) (g : α → γ) (fs : List α) (w : World) (h : ∀ f ∈ fs, (F f).run P w = .ok (g f) w) : (fs.mapM F).run P w = .ok (fs.map g) w := by
 induction fs with
 | nil => rfl
 | cons f fs ih =>
  rw [List.mapM_cons]
  simp only [Sem.run_bind, h f (by simp), Result.andThen_ok, ih (fun g hg => h g (by simp [hg])), Sem.run_pure, List.map_cons]
theorem mapM_places (fs : List Field) (w : World) (h : ∀ f ∈ fs, (P.info? f.type).isSome = true) :
  (fs.mapM (fun f => do pure (f.offset, ← sizeOf f.type) : Field → Sem (Nat × Nat))).run P w = .ok (fs.map fun f => (f.offset, P.cellsOf f.type)) w := by
 refine mapM_run _ _ fs w (fun f hf => ?_)
 obtain ⟨i, hi⟩ := Option.isSome_iff_exists.1 (h f hf)
 simp [sizeOf, typeInfo, hi, Program.cellsOf]
theorem fill_spec {g : G} (ps : Array (Nat × Nat)) : ∀ (parts : List (Nat × D)) (vals : List (Nat × Value)) (ds es : List D) (vs : List Value), Z (VD P g) ds vs → (∀ v ∈ vs, Value.leaf v = true) →
  Z (fun p q => p.1 = q.1 ∧ VD P g p.2 q.2) parts vals → fillD ps.toList ds parts = some es →
  ∃ us : List Value, Instr.fill (ps[·]?) vs.toArray vals = some us.toArray ∧ Z (VD P g) es us ∧ ∀ v ∈ us, Value.leaf v = true
 | [], vals, ds, es, vs, hz, hlf, hp, hf => by
  have : vals = [] := List.eq_nil_of_length_eq_zero hp.len
  subst this
  simp [fillD] at hf
  subst hf
  exact ⟨vs, rfl, hz, hlf⟩
 | (i, x) :: parts, vals, ds, es, vs, hz, hlf, hp, hf => by
  obtain ⟨⟨i', v⟩, rest, rfl⟩ : ∃ q rest, vals = q :: rest := by
   cases vals with
   | nil => have := hp.len; simp at this
   | cons q rest => exact ⟨q, rest, rfl⟩
  obtain ⟨h1, h2⟩ := hp.at_ 0 _ _ rfl rfl
  simp only at h1 h2
  subst h1
  have hp' : Z (fun p q => p.1 = q.1 ∧ VD P g p.2 q.2) parts rest := ⟨by have := hp.len; simpa using this, fun j p q hj hq => hp.at_ (j + 1) p q (by simpa using hj) (by simpa using hq)⟩
  simp only [fillD] at hf
  split at hf
  ·rename_i off size xs hps hbx
   split at hf
   ·rename_i hc
    obtain ⟨b1, b2, b3⟩ := h2.boxed hbx
    have zx : Z (VD P g) xs v.cells.toList := ⟨by simpa using b1, fun j e u he hu => b2 j e u he (by simpa using hu)⟩
    have hz' : Z (VD P g) (splice ds off xs) (splice vs off v.cells.toList) := hz.splice off zx
    have hlf' : ∀ u ∈ splice vs off v.cells.toList, Value.leaf u = true := by
     intro u hu
     unfold splice at hu
     simp only [List.mem_append] at hu
     rcases hu with (hu | hu) | hu
     ·exact hlf u (List.mem_of_mem_take hu)
     ·exact b3 u (by simpa using hu)
     ·exact hlf u (List.mem_of_mem_drop hu)
    obtain ⟨us, e1, e2, e3⟩ := fill_spec ps parts rest _ es _ hz' hlf' hp' hf
    refine ⟨us, ?_, e2, e3⟩
    have hpa : ps[i]? = some (off, size) := by simpa using hps
    have hvl := hz.len
    have c1 : ¬ (v.cells.size ≠ size) := by omega
    have c2 : ¬ (off + v.cells.size > vs.length) := by omega
    have hfold := fold_set v.cells.toList off 0 vs.toArray (by simp; omega)
    have hz0 : v.cells.zipIdx.foldl (fun cs (p : Value × Nat) => cs.setIfInBounds (off + p.2) p.1) vs.toArray = (splice vs off v.cells.toList).toArray := by
     rw [← Array.foldl_toList, Array.toList_zipIdx]; simpa using hfold
    simp only [Instr.fill, hpa, List.size_toArray]
    rw [if_neg (by simp; omega)]
    exact (congrArg (fun a => Instr.fill (ps[·]?) a rest) hz0).trans e1
   ·cases hf
  ·cases hf
theorem gives_build (hm : Mem P c ob w β) {T : TypeId} {ps : List (Nat × Nat)} (hps : places P T = some ps) (hinf : ∀ p ∈ ps, 0 < p.2) {ds es : List D} (hz : zeroD P T = some ds) (hlf : ds.all D.leafB = true)
  {parts : List (Nat × D)} {vals : Array (Nat × Value)} (hp : Z (fun p q => p.1 = q.1 ∧ VD P (c.g w β ob) p.2 q.2) parts vals.toList) (hf : fillD ps ds parts = some es) :
  Gives P c ob w β (Instr.build T vals) (mkAgg es) ob := by
 obtain ⟨i, z, hi, hzz, rfl⟩ := zeroD_eq hz
 unfold places at hps
 split at hps
 ·rename_i fs hu
  cases hps
  have hsome : ∀ f ∈ fs.toList, (P.info? f.type).isSome = true := fun f hf => by
   have := hinf _ (List.mem_map.2 ⟨f, hf, rfl⟩)
   obtain ⟨j, hj, _⟩ := info_of_cells this
   simp [hj]
  have hmap : (fs.mapM (fun f => do pure (f.offset, ← sizeOf f.type) : Field → Sem (Nat × Nat))).run P w = .ok (fs.toList.map fun f => (f.offset, P.cellsOf f.type)).toArray w := by
   rw [Array.mapM_eq_mapM_toList]
   simp only [Sem.run_map, mapM_places (P := P) fs.toList w hsome, Result.andThen_ok]
  obtain ⟨us, h1, h2, h3⟩ := fill_spec (P := P) (g := c.g w β ob) (fs.toList.map fun f => (f.offset, P.cellsOf f.type)).toArray parts vals.toList _ es z.cells.toList (Z.const _) (fun v hv => VD.leaf (P := P) (g := c.g w β ob) (VD.const v) (List.all_eq_true.1 hlf _ (List.mem_map.2 ⟨v, hv, rfl⟩))) hp (by simpa using hf)
  refine Gives.here hm (v := .agg us.toArray) ?_ (VD.mkAgg h2.len h2.at_ h3)
  simp only [Instr.build, Sem.run_bind, zeroValue, typeInfo, run_program, hi, hzz, Sem.run_pure, Result.andThen_ok, run_underlying hu, hmap]
  simp only [Array.toArray_toList] at h1
  rw [h1]
  rfl
 ·cases hps
end
end Go.Lw
end
section
namespace Go.Lw
theorem fill_row {sz : Nat} : ∀ (vs : List Value) (k : Nat) (pre : List Value) (post : List Value), (∀ v ∈ vs, v.cells.size = sz) → pre.length = k * sz → post.length = vs.length * sz →
  Instr.fill (fun i => some (i * sz, sz)) (pre ++ post).toArray ((vs.zipIdx k).map fun (p : Value × Nat) => (p.2, p.1)) = some (pre ++ vs.flatMap (fun u => u.cells.toList)).toArray
 | [], k, pre, post, _, hpre, hpost => by
  have : post = [] := List.eq_nil_of_length_eq_zero (by simpa using hpost)
  subst this
  simp [Instr.fill]
 | v :: vs, k, pre, post, hv, hpre, hpost => by
  have hvs := hv v (by simp)
  simp only [List.zipIdx_cons, List.map_cons, Instr.fill]
  have hlen : (pre ++ post).toArray.size = k * sz + (vs.length * sz + sz) := by
   simp only [List.size_toArray, List.length_append, hpre, hpost, List.length_cons, Nat.add_mul]; omega
  rw [if_neg (by rw [hlen]; simp; omega)]
  have hfold := fold_set v.cells.toList (k * sz) 0 (pre ++ post).toArray (by rw [hlen]; simp; omega)
  have hz0 : v.cells.zipIdx.foldl (fun cs (p : Value × Nat) => cs.setIfInBounds (k * sz + p.2) p.1) (pre ++ post).toArray = (splice (pre ++ post) (k * sz) v.cells.toList).toArray := by
   rw [← Array.foldl_toList, Array.toList_zipIdx]; simpa using hfold
  have hsp : splice (pre ++ post) (k * sz) v.cells.toList = (pre ++ v.cells.toList) ++ post.drop sz := by
   unfold splice
   rw [← hpre, List.take_left']
   ·rw [List.drop_append, show (v.cells.toList).length = sz by simpa using hvs]
    simp
   ·rfl
  have ih := fill_row vs (k + 1) (pre ++ v.cells.toList) (post.drop sz) (fun x hx => hv x (by simp [hx])) (by simp [hpre, hvs, Nat.add_mul]) (by simp [hpost, Nat.add_mul])
  rw [← hsp] at ih
  refine Eq.trans (congrArg (fun a => Instr.fill (fun i => some (i * sz, sz)) a _) hz0) ?_
  rw [ih]
  simp
section
variable {P : Program} {c : Ctx} {ob : Nat → Option Ob} {w : World} {β : Nat → Nat}
theorem run_buildSlice {T E : TypeId} (hT : slE P T = some E) (h0 : 0 < P.cellsOf E) (hz : zeroOk P E = true) (n : Nat) (vs : List Value) (hn : vs.length = n) (hv : ∀ v ∈ vs, v.cells.size = P.cellsOf E) (hb : n * P.cellsOf E ≤ 16777216)
  (vals : Array (Nat × Value)) (hvals : vals.toList = (vs.zipIdx 0).map fun (p : Value × Nat) => (p.2, p.1)) :
  (Instr.buildSlice T n vals).run P w = .ok (.slice (some ⟨w.heap.size, 0, none⟩) n n) (w.alloc (.cells (vs.flatMap (fun u => u.cells.toList)).toArray E)) := by
 obtain ⟨inf, z, hi, his, hzz, hzs, hby⟩ := zeroOk_eq hz h0
 rcases Nat.eq_zero_or_pos n with rfl | hpos
 ·have hvs : vs = [] := List.eq_nil_of_length_eq_zero hn
  subst hvs
  have hva : vals = #[] := by apply Array.ext'; simpa using hvals
  subst hva
  simp [Instr.buildSlice, run_underlying (slE_eq hT), sizeOf, typeInfo, hi, Instr.fill, newRow, Array.range_zero']
 ·have h1 : ¬ (n * inf.size > 2 ^ 24) := by rw [his]; omega
  have hfill : ∀ zz : Array Value, Instr.fill (fun i => some (i * P.cellsOf E, P.cellsOf E)) ((Array.range (n * P.cellsOf E)).map (zz[· % zz.size]!)) vals.toList = some (vs.flatMap (fun u => u.cells.toList)).toArray := fun zz => by
   have := fill_row vs 0 [] ((Array.range (n * P.cellsOf E)).map (zz[· % zz.size]!)).toList hv (by simp) (by simp [hn])
   rw [hvals]
   simp only [List.nil_append, Array.toArray_toList] at this
   exact this
  have hn0 : ¬ (n * inf.size = 0) := by rw [his]; exact Nat.ne_of_gt (Nat.mul_pos hpos h0)
  simp only [Instr.buildSlice, Sem.run_bind, run_underlying (slE_eq hT), Result.andThen_ok, sizeOf, typeInfo, run_program, hi, Sem.run_pure, h1, if_false, hn0, zeroValue, hzz, ↓reduceIte]
  have := hfill z.cells
  rw [his]
  rw [this]
  rfl
theorem gives_buildSlice (hm : Mem P c ob w β) {T E : TypeId} (hT : slE P T = some E) (h0 : 0 < P.cellsOf E) (hz : zeroOk P E = true) {id : Nat} (hid : ob id = none) {n : Nat} {xs : List I} {vs : List Value} (hn : xs.length = n)
  (hzv : Z (V P w (c.g w β ob).F) xs vs) (hsz : ∀ x ∈ xs, x.cells.length = P.cellsOf E) (hb : n * P.cellsOf E ≤ 16777216) (vals : Array (Nat × Value)) (hvals : vals.toList = (vs.zipIdx 0).map fun (p : Value × Nat) => (p.2, p.1)) :
  Gives P c ob w β (Instr.buildSlice T n vals) (.own id 0 0 n) (upd ob id (some (.arr E 0 xs))) := by
 have hvsz : ∀ v ∈ vs, v.cells.size = P.cellsOf E := fun v hv => by
  obtain ⟨j, hj⟩ := List.getElem?_of_mem hv
  obtain ⟨x, hx⟩ := get_of_len hzv.len hj
  rw [(hzv.at_ j x v hx hj).cells.1]
  exact hsz x (List.mem_of_getElem? hx)
 have hlen : vs.length = n := by rw [hzv.len, hn]
 have hrun := run_buildSlice (w := w) hT h0 hz n vs hlen hvsz hb vals hvals
 have hkn := Keeps.new hm hid (.cells (vs.flatMap (fun u => u.cells.toList)).toArray E) (.arr E 0 xs)
 have hbl := heap_alloc_new w (.cells (vs.flatMap (fun u => u.cells.toList)).toArray E)
 have hrow : Row P (c.g w β ob) E xs vs := ⟨hzv, hvsz⟩
 have hnt : n ≤ 16777216 := Nat.le_trans (Nat.le_mul_of_pos_right n h0) hb
 refine ⟨_, _, upd β id w.heap.size, hrun, hm.new hid _ _ (ObRel.ofRow (hrow.keeps hkn) h0 (by rw [hn]; unfold top; omega) (by simp only [Ctx.g, upd_same]; exact hbl) (fun i e he => by simpa using he)), hkn, ?_⟩
 have := VD.own (P := P) (g := c.g (w.alloc (.cells (vs.flatMap (fun u => u.cells.toList)).toArray E)) (upd β id w.heap.size) (upd ob id (some (.arr E 0 xs)))) id 0 0 n n E xs _
  (by simp [Ctx.g, upd_same]) (by omega) (Nat.le_refl _) (by simp only [Ctx.g, upd_same]; exact hbl) (by simp [flat_length vs hvsz, hlen]) (by unfold maxLen; omega)
 simpa [Ctx.g, upd_same] using this
theorem gives_buildSlice_any (hm : Mem P c ob w β) {T E : TypeId} (hT : slE P T = some E) (h0 : 0 < P.cellsOf E) (hz : zeroOk P E = true) {id : Nat} (hid : ob id = none) {n : Nat} {xs : List D} {vs : List Value} (hn : xs.length = n)
  (hzv : Z (VD P (c.g w β ob)) xs vs) (hsz : ∀ x ∈ xs, (x.box.map List.length) = some (P.cellsOf E)) (hb : n * P.cellsOf E ≤ 16777216) (vals : Array (Nat × Value)) (hvals : vals.toList = (vs.zipIdx 0).map fun (p : Value × Nat) => (p.2, p.1)) :
  Gives P c ob w β (Instr.buildSlice T n vals) (.own id 0 0 n) (upd ob id (some (.arrd E 0 xs))) := by
 have hvsz : ∀ v ∈ vs, v.cells.size = P.cellsOf E := fun v hv => by
  obtain ⟨j, hj⟩ := List.getElem?_of_mem hv
  obtain ⟨x, hx⟩ := get_of_len hzv.len hj
  have h1 := hsz x (List.mem_of_getElem? hx)
  simp only [Option.map_eq_some_iff] at h1
  obtain ⟨ds, hd, hl⟩ := h1
  rw [((hzv.at_ j x v hx hj).boxed hd).1, hl]
 have hlen : vs.length = n := by rw [hzv.len, hn]
 have hrun := run_buildSlice (w := w) hT h0 hz n vs hlen hvsz hb vals hvals
 have hkn := Keeps.new hm hid (.cells (vs.flatMap (fun u => u.cells.toList)).toArray E) (.arrd E 0 xs)
 have hbl := heap_alloc_new w (.cells (vs.flatMap (fun u => u.cells.toList)).toArray E)
 have hnt : n ≤ 16777216 := Nat.le_trans (Nat.le_mul_of_pos_right n h0) hb
 refine ⟨_, _, upd β id w.heap.size, hrun, hm.new hid _ _ ?_, hkn, ?_⟩
 ·refine .arrd E 0 xs _ vs (by simp only [Ctx.g, upd_same]; exact hbl) hzv.len (by rw [hn]; unfold top; omega) (fun j x u hx hu => (hzv.at_ j x u hx hu).keeps hkn) (fun j u hu => hvsz u (List.mem_of_getElem? hu)) (fun j u m e hu he => ?_)
  have hmlt : m < P.cellsOf E := by have := (Array.getElem?_eq_some_iff.1 he).1; have := hvsz u (List.mem_of_getElem? hu); omega
  have : (vs.flatMap (fun u => u.cells.toList))[j * P.cellsOf E + m]? = some e := by
   rw [flat_get h0 vs hvsz, (div_block hmlt).1, (div_block hmlt).2, hu]; exact he
  simpa using this
 ·have := VD.ownd (P := P) (g := c.g (w.alloc (.cells (vs.flatMap (fun u => u.cells.toList)).toArray E)) (upd β id w.heap.size) (upd ob id (some (.arrd E 0 xs)))) id 0 0 n n E xs
   (by simp [Ctx.g, upd_same]) (by omega) (Nat.le_refl _)
  simpa [Ctx.g, upd_same] using this
def zeroI (P : Program) (E : TypeId) : Option I := ((P.info? E).bind (·.zero)).bind fun z => match z with
 | .agg cs => (allI (cs.toList.map constD)).map .agg
 | v => (constD v).leafI
theorem zeroI_spec {E : TypeId} {x : I} (h : zeroI P E = some x) : ∃ i z, P.info? E = some i ∧ i.zero = some z ∧ ((∀ cs, z = .agg cs → ∀ u ∈ cs.toList, Value.leaf u = true) → ∀ w F, V P w F x z) := by
 unfold zeroI at h
 simp only [Option.bind_eq_some_iff] at h
 obtain ⟨z, ⟨i, hi, hz⟩, h⟩ := h
 refine ⟨i, z, hi, hz, fun hlf w F => ?_⟩
 split at h
 ·rename_i cs
  simp only [Option.map_eq_some_iff] at h
  obtain ⟨xs, hx, rfl⟩ := h
  obtain ⟨a1, a2⟩ := allI_spec hx
  have := V.agg (P := P) (w := w) (F := F) xs cs.toList (by simpa using a1.symm) (fun j x v hj hv => ?_) (hlf cs rfl)
  ·simpa using this
  ·obtain ⟨d, hd⟩ := get_of_len a1 hj
   have h3 := a2 j d x hd hj
   simp only [List.getElem?_map, hv, Option.map_some, Option.some.injEq] at hd
   subst hd
   exact (VD.const (P := P) (g := ⟨w, F, fun _ => 0, fun _ => none⟩) v).leafI h3
 ·exact (VD.const (P := P) (g := ⟨w, F, fun _ => 0, fun _ => none⟩) _).leafI h
def zeroLeaf (P : Program) (E : TypeId) : Bool := match (P.info? E).bind (·.zero) with
 | some (.agg cs) => cs.toList.all Value.leaf
 | some _ => true
 | none => false
theorem gives_makeSlice (hm : Mem P c ob w β) {T E : TypeId} (hT : slE P T = some E) (h0 : 0 < P.cellsOf E) (hz : zeroOk P E = true) (hzl : zeroLeaf P E = true) {x : I} (hx : zeroI P E = some x) {id : Nat} (hid : ob id = none)
  (kl kc : IntKind) (l cp : Int) (h1 : 0 ≤ l) (h2 : l ≤ cp) (hb : cp.toNat * P.bytesOf E ≤ top) (ht : cp.toNat ≤ top) :
  Gives P c ob w β (Instr.makeSlice T (.int kl l) (.int kc cp)) (.own id 0 0 l.toNat) (upd ob id (some (.arr E 0 (List.replicate l.toNat x)))) := by
 obtain ⟨inf, z, hi, his, hzz, hzs, hby⟩ := zeroOk_eq hz h0
 obtain ⟨i', z', hi', hzz', hV⟩ := zeroI_spec hx
 rw [hi] at hi'; cases hi'
 rw [hzz] at hzz'; cases hzz'
 have hlf : ∀ cs, z = .agg cs → ∀ u ∈ cs.toList, Value.leaf u = true := fun cs he u hu => by
  unfold zeroLeaf at hzl
  rw [hi] at hzl
  simp only [Option.bind_some, hzz, he] at hzl
  exact List.all_eq_true.1 hzl u hu
 have hrun := run_make (P := P) w T E inf z (slE_eq hT) hi hzz kl kc l cp h1 h2 (by
  have h3 : (((cp.toNat * P.bytesOf E : Nat)) : Int) ≤ (top : Int) := by omega
  rw [Int.natCast_mul, Int.toNat_of_nonneg (by omega)] at h3
  rw [hby, Int.mul_comm]; unfold top at h3; omega) (by unfold top at ht; omega)
 obtain ⟨NC, hNC⟩ : ∃ NC, NC = madeCells z.cells (cp.toNat * inf.size) := ⟨_, rfl⟩
 rw [← hNC] at hrun
 have hNs : NC.size = cp.toNat * P.cellsOf E := by rw [hNC, size_madeCells, his]
 have hNat : ∀ j m, j < cp.toNat → m < P.cellsOf E → NC[j * P.cellsOf E + m]? = z.cells[m]? := fun j m hj hmm => by
  have hlt : j * P.cellsOf E + m < cp.toNat * P.cellsOf E := by
   have := Nat.mul_le_mul_right (P.cellsOf E) (show j + 1 ≤ cp.toNat from hj)
   rw [Nat.add_mul] at this; omega
  rw [hNC]
  simp only [madeCells, his, Array.getElem?_map]
  rw [Array.getElem?_eq_getElem (by simpa using hlt)]
  simp only [Array.getElem_range, Option.map_some, hzs]
  rw [(div_block hmm).2, getElem!_pos z.cells m (by omega), Array.getElem?_eq_getElem (by omega)]
 clear hNC
 have hkn := Keeps.new hm hid (.cells NC E) (.arr E 0 (List.replicate l.toNat x))
 have hbl := heap_alloc_new w (.cells NC E)
 refine ⟨_, _, upd β id w.heap.size, hrun, hm.new hid _ _ ?_, hkn, ?_⟩
 ·refine .arr E 0 _ NC (List.replicate l.toNat z) (by simp only [Ctx.g, upd_same]; exact hbl) (by simp) (by simp; omega) (fun j y u hy hu => ?_) (fun j u hu => ?_) (fun j u m e hu he => ?_)
  ·have e1 := List.eq_of_mem_replicate (List.mem_of_getElem? hy)
   have e2 := List.eq_of_mem_replicate (List.mem_of_getElem? hu)
   subst e1 e2
   exact hV hlf _ _
  ·have e2 := List.eq_of_mem_replicate (List.mem_of_getElem? hu)
   subst e2; exact hzs
  ·have e2 := List.eq_of_mem_replicate (List.mem_of_getElem? hu)
   subst e2
   have hj : j < l.toNat := by have := (List.getElem?_eq_some_iff.1 hu).1; simpa using this
   rw [hNat j m (by omega) (by have := (Array.getElem?_eq_some_iff.1 he).1; omega)]
   exact he
 ·have := VD.own (P := P) (g := c.g (w.alloc (.cells NC E)) (upd β id w.heap.size) (upd ob id (some (.arr E 0 (List.replicate l.toNat x))))) id 0 0 l.toNat cp.toNat E (List.replicate l.toNat x) NC
   (by simp [Ctx.g, upd_same]) (by simp) (by omega) (by simp only [Ctx.g, upd_same]; exact hbl) (by simp [hNs]) (by unfold top at ht; unfold maxLen; omega)
  simpa [Ctx.g, upd_same] using this
end
end Go.Lw
end
section
namespace Go.Lw
def bnd (dflt : Nat) : Option D → Option Nat
 | none => some dflt
 | some (.i (.int _ n)) => if 0 ≤ n then some n.toNat else none
 | _ => none
def binI : BinOp → I → I → Option I
 | .add, .int k a, .int k' b => if k = k' then some (.int k (k.wrap (a + b))) else none
 | .sub, .int k a, .int k' b => if k = k' then some (.int k (k.wrap (a - b))) else none
 | .mul, .int k a, .int k' b => if k = k' then some (.int k (k.wrap (a * b))) else none
 | .quo, .int k a, .int k' b => if k = k' ∧ b ≠ 0 then some (.int k (k.wrap (a.tdiv b))) else none
 | .rem, .int k a, .int k' b => if k = k' ∧ b ≠ 0 then some (.int k (a.tmod b)) else none
 | .eql, .int k a, .int k' b => if k = k' then some (.bool (decide (a = b))) else none
 | .neq, .int k a, .int k' b => if k = k' then some (.bool (!decide (a = b))) else none
 | .lss, .int k a, .int k' b => if k = k' then some (.bool (decide (a < b))) else none
 | .leq, .int k a, .int k' b => if k = k' then some (.bool (decide (a ≤ b))) else none
 | .gtr, .int k a, .int k' b => if k = k' then some (.bool (decide (b < a))) else none
 | .geq, .int k a, .int k' b => if k = k' then some (.bool (decide (b ≤ a))) else none
 | .eql, .str a, .str b => some (.bool (decide (a = b)))
 | .neq, .str a, .str b => some (.bool (!decide (a = b)))
 | .lss, .str a, .str b => some (.bool (Op.bytesLess a.data.toList b.data.toList))
 | .geq, .str a, .str b => some (.bool (!Op.bytesLess a.data.toList b.data.toList))
 | .gtr, .str a, .str b => some (.bool (Op.bytesLess b.data.toList a.data.toList))
 | .leq, .str a, .str b => some (.bool (!Op.bytesLess b.data.toList a.data.toList))
 | .add, .str a, .str b => if a.size + b.size ≤ top then some (.str (a ++ b)) else none
 | _, _, _ => none
def boolI : BinOp → I → I → Option I
 | .eql, .bool a, .bool b => some (.bool (a == b))
 | .neq, .bool a, .bool b => some (.bool (!(a == b)))
 | _, _, _ => none
theorem str_beq (a b : ByteArray) : (a.toList == b.toList) = decide (a = b) := by
 rw [ByteArray.toList_eq, ByteArray.toList_eq]
 by_cases h : a = b
 ·subst h; simp
 ·rw [decide_eq_false h]
  rw [beq_eq_false_iff_ne]
  intro e
  exact h (by
   obtain ⟨⟨x⟩⟩ := a
   obtain ⟨⟨y⟩⟩ := b
   simp at e
   rw [e])
theorem bytesLess_total : ∀ (x y : List UInt8), (Op.bytesLess x y || (x == y)) = !Op.bytesLess y x
 | [], [] => rfl
 | [], b :: y => by simp [Op.bytesLess]
 | a :: x, [] => by simp [Op.bytesLess]
 | a :: x, b :: y => by
  have ih := bytesLess_total x y
  simp only [Op.bytesLess]
  rcases Nat.lt_trichotomy a.toNat b.toNat with h | h | h
  ·have h1 : a < b := h
   have h2 : ¬ b < a := fun h' => by have : b.toNat < a.toNat := h'; omega
   have h3 : ¬ b = a := fun e => by subst e; exact absurd h (Nat.lt_irrefl _)
   have h4 : ¬ a = b := fun e => h3 e.symm
   simp [h1, h2, h3, h4]
  ·have e : a = b := UInt8.toNat_inj.1 h
   subst e
   have h1 : ¬ a < a := fun h' => absurd (show a.toNat < a.toNat from h') (Nat.lt_irrefl _)
   simp [h1] at ih ⊢
   exact ih
  ·have h1 : b < a := h
   have h2 : ¬ a < b := fun h' => by have : a.toNat < b.toNat := h'; omega
   have h3 : ¬ a = b := fun e => by subst e; exact absurd h (Nat.lt_irrefl _)
   simp [h1, h2, h3]
section
variable {P : Program} {c : Ctx} {ob : Nat → Option Ob} {w : World} {β : Nat → Nat}
theorem gives_binI (hm : Mem P c ob w β) (op : BinOp) (T : TypeId) (ox oy : Operand) {x y r : I} {v u : Value} (hv : VD P (c.g w β ob) (.i x) v) (hu : VD P (c.g w β ob) (.i y) u) (hr : binI op x y = some r) :
  Gives P c ob w β (do eqGuard op T ox oy v u; binOp op T v u) (.i r) ob := by
 cases hv with
 | i _ _ hv =>
 cases hu with
 | i _ _ hu =>
 cases hv with
 | int k a =>
  cases hu with
  | int k' b =>
   rw [eqGuard_at_int]
   cases op
   case add =>
    simp only [binI] at hr; split at hr
    ·rename_i h; subst h; cases hr
     exact Gives.here hm (v := .int k (k.wrap (a + b))) (by simp [binOp_add, Op.intArith]) (.i _ _ (.int _ _))
    ·cases hr
   case sub =>
    simp only [binI] at hr; split at hr
    ·rename_i h; subst h; cases hr
     exact Gives.here hm (v := .int k (k.wrap (a - b))) (by simp [binOp_sub, Op.intArith]) (.i _ _ (.int _ _))
    ·cases hr
   case mul =>
    simp only [binI] at hr; split at hr
    ·rename_i h; subst h; cases hr
     exact Gives.here hm (v := .int k (k.wrap (a * b))) (by simp [binOp_mul, Op.intArith]) (.i _ _ (.int _ _))
    ·cases hr
   case quo =>
    simp only [binI] at hr; split at hr
    ·rename_i h; obtain ⟨h, h0⟩ := h; subst h; cases hr
     exact Gives.here hm (v := .int k (k.wrap (a.tdiv b))) (by simp [binOp_quo, Op.intDiv, h0]) (.i _ _ (.int _ _))
    ·cases hr
   case rem =>
    simp only [binI] at hr; split at hr
    ·rename_i h; obtain ⟨h, h0⟩ := h; subst h; cases hr
     exact Gives.here hm (v := .int k (a.tmod b)) (by simp [binOp_rem, Op.intDiv, h0]) (.i _ _ (.int _ _))
    ·cases hr
   case eql =>
    simp only [binI] at hr; split at hr
    ·rename_i h; subst h; cases hr
     exact Gives.here hm (v := .bool (decide (a = b))) (by rw [show (pure () >>= fun _ => binOp BinOp.eql T (.int k a) (.int k b)) = binOp BinOp.eql T (.int k a) (.int k b) from rfl, binOp_eql]; rfl) (.i _ _ (.bool _))
    ·cases hr
   case neq =>
    simp only [binI] at hr; split at hr
    ·rename_i h; subst h; cases hr
     exact Gives.here hm (v := .bool (!decide (a = b))) (by rw [show (pure () >>= fun _ => binOp BinOp.neq T (.int k a) (.int k b)) = binOp BinOp.neq T (.int k a) (.int k b) from rfl, binOp_neq]; rfl) (.i _ _ (.bool _))
    ·cases hr
   case lss =>
    simp only [binI] at hr; split at hr
    ·rename_i h; subst h; cases hr
     exact Gives.here hm (v := .bool (decide (a < b))) (by simp [binOp_lss]) (.i _ _ (.bool _))
    ·cases hr
   case leq =>
    simp only [binI] at hr; split at hr
    ·rename_i h; subst h; cases hr
     exact Gives.here hm (v := .bool (decide (a ≤ b))) (by simp [binOp_leq]) (.i _ _ (.bool _))
    ·cases hr
   case gtr =>
    simp only [binI] at hr; split at hr
    ·rename_i h; subst h; cases hr
     exact Gives.here hm (v := .bool (decide (b < a))) (by simp [binOp_gtr]) (.i _ _ (.bool _))
    ·cases hr
   case geq =>
    simp only [binI] at hr; split at hr
    ·rename_i h; subst h; cases hr
     exact Gives.here hm (v := .bool (decide (b ≤ a))) (by simp [binOp_geq]) (.i _ _ (.bool _))
    ·cases hr
   all_goals (simp [binI] at hr)
  | _ => cases op <;> simp [binI] at hr
 | str s hs =>
  cases hu with
  | str t ht =>
   rw [eqGuard_at_string]
   have tot := bytesLess_total s.data.toList t.data.toList
   have tot2 := bytesLess_total t.data.toList s.data.toList
   cases op
   case add =>
    simp only [binI] at hr; split at hr
    ·rename_i h; cases hr
     refine Gives.here hm (v := .string (s ++ t)) ?_ (.i _ _ (.str _ (by simpa using h)))
     have h2 : ¬ ((s.size : Int) + (t.size : Int) > 9223372036854775807) := by unfold top at h; omega
     simp [binOp, Op.stringOp, h2]
    ·cases hr
   case eql =>
    simp only [binI] at hr; cases hr
    exact Gives.here hm (v := .bool (decide (s = t))) (by simp only [Sem.run_bind, Sem.run_pure, Result.andThen_ok, binOp, Op.stringOp, str_beq]) (.i _ _ (.bool _))
   case neq =>
    simp only [binI] at hr; cases hr
    exact Gives.here hm (v := .bool (!decide (s = t))) (by simp only [Sem.run_bind, Sem.run_pure, Result.andThen_ok, binOp, Op.stringOp, str_beq]) (.i _ _ (.bool _))
   case lss =>
    simp only [binI] at hr; cases hr
    exact Gives.here hm (v := .bool (Op.bytesLess s.data.toList t.data.toList)) (by simp only [Sem.run_bind, Sem.run_pure, Result.andThen_ok, binOp, Op.stringOp, ByteArray.toList_eq]) (.i _ _ (.bool _))
   case geq =>
    simp only [binI] at hr; cases hr
    exact Gives.here hm (v := .bool (!Op.bytesLess s.data.toList t.data.toList)) (by simp only [Sem.run_bind, Sem.run_pure, Result.andThen_ok, binOp, Op.stringOp, ByteArray.toList_eq]) (.i _ _ (.bool _))
   case gtr =>
    simp only [binI] at hr; cases hr
    exact Gives.here hm (v := .bool (Op.bytesLess t.data.toList s.data.toList)) (by simp only [Sem.run_bind, Sem.run_pure, Result.andThen_ok, binOp, Op.stringOp, ByteArray.toList_eq, tot, Bool.not_not]) (.i _ _ (.bool _))
   case leq =>
    simp only [binI] at hr; cases hr
    exact Gives.here hm (v := .bool (!Op.bytesLess t.data.toList s.data.toList)) (by simp only [Sem.run_bind, Sem.run_pure, Result.andThen_ok, binOp, Op.stringOp, ByteArray.toList_eq, tot]) (.i _ _ (.bool _))
   all_goals (simp [binI] at hr)
  | _ => cases op <;> simp [binI] at hr
 | _ => cases op <;> simp [binI] at hr
theorem gives_boolI (hm : Mem P c ob w β) (op : BinOp) (T : TypeId) (hT : P.underlying T = some .bool) (ox oy : Operand) {x y r : I} {v u : Value} (hv : VD P (c.g w β ob) (.i x) v) (hu : VD P (c.g w β ob) (.i y) u) (hr : boolI op x y = some r) :
  Gives P c ob w β (do eqGuard op T ox oy v u; binOp op T v u) (.i r) ob := by
 cases hv with
 | i _ _ hv =>
 cases hu with
 | i _ _ hu =>
 cases hv with
 | bool a =>
  cases hu with
  | bool b =>
   rw [eqGuard_at_bool]
   cases op
   case eql =>
    simp only [boolI] at hr; cases hr
    exact Gives.here hm (v := .bool (a == b)) (by simp [binOp, Op.equal, Op.maxDepth, run_equalIn_bool' (P := P) _ 9999 T a b hT]) (.i _ _ (.bool _))
   case neq =>
    simp only [boolI] at hr; cases hr
    exact Gives.here hm (v := .bool (!(a == b))) (by simp [binOp, Op.equal, Op.maxDepth, run_equalIn_bool' (P := P) _ 9999 T a b hT]) (.i _ _ (.bool _))
   all_goals (simp [boolI] at hr)
  | _ => cases op <;> simp [boolI] at hr
 | _ => cases op <;> simp [boolI] at hr
end
end Go.Lw
end
section
namespace Go.Lw
section
variable {P : Program} {c : Ctx} {ob : Nat → Option Ob} {w : World} {β : Nat → Nat}
inductive Bd (P : Program) (g : G) : Option D → Option Value → Nat → Nat → Prop
 | none (d : Nat) : Bd P g none none d d
 | some (d : Nat) (k : IntKind) (n : Int) (h : 0 ≤ n) : Bd P g (some (.i (.int k n))) (some (.int k n)) d n.toNat
theorem bnd_spec {g : G} {d : Nat} {o : Option D} {v : Option Value} {n : Nat} (h : bnd d o = some n) (hv : ∀ x, o = some x → ∃ u, v = some u ∧ VD P g x u) (hn : o = none → v = none) : Bd P g o v d n := by
 cases o with
 | none => rw [hn rfl]; simp [bnd] at h; subst h; exact .none d
 | some x =>
  obtain ⟨u, rfl, hu⟩ := hv x rfl
  cases x with
  | i x =>
   cases x with
   | int k m =>
    simp only [bnd] at h
    split at h
    ·cases h
     cases hu with
     | i _ _ hu => cases hu with
      | int => exact .some d k m ‹_›
    ·cases h
   | _ => simp [bnd] at h
  | _ => simp [bnd] at h
theorem gives_cut_str (hm : Mem P c ob w β) {T : TypeId} (hT : P.underlying T = some .string) {s : ByteArray} {v : Value} (hv : VD P (c.g w β ob) (.i (.str s)) v) {lo hi : Option D} {vl vh : Option Value} {l h : Nat}
  (hl : Bd P (c.g w β ob) lo vl 0 l) (hh : Bd P (c.g w β ob) hi vh s.size h) (h1 : l ≤ h) (h2 : h ≤ s.size) : Gives P c ob w β (Instr.sliceAt T v vl vh none) (.i (.str (s.extract l h))) ob := by
 cases hv with
 | i _ _ hv =>
 cases hv with
 | str _ hs =>
  refine Gives.here hm (v := .string (s.extract l h)) ?_ (.i _ _ (.str _ (by simp; omega)))
  cases hl with
  | none =>
   cases hh with
   | none => simp [Instr.sliceAt, run_underlying hT, Instr.slice, Instr.sliceBounds]
   | some _ k n hn => simp [Instr.sliceAt, run_underlying hT, Instr.slice, Instr.sliceBounds, Instr.sliceBound, asIntOf, hn, show n ≤ (s.size : Int) by omega]
  | some _ k n hn =>
   cases hh with
   | none => simp [Instr.sliceAt, run_underlying hT, Instr.slice, Instr.sliceBounds, Instr.sliceBound, asIntOf, hn, show n ≤ (s.size : Int) by omega]
   | some _ k' n' hn' => simp [Instr.sliceAt, run_underlying hT, Instr.slice, Instr.sliceBounds, Instr.sliceBound, asIntOf, hn, hn', show n' ≤ (s.size : Int) by omega, show n ≤ n' by omega, show n ≤ max n' 0 by omega]
theorem run_sliceAt {T E : TypeId} (hT : slE P T = some E) (h0 : 0 < P.cellsOf E) (A : Option Addr) (len cap : Nat) {g : G} {lo hi : Option D} {vl vh : Option Value} {l h : Nat} (hl : Bd P g lo vl 0 l) (hh : Bd P g hi vh len h) (h1 : l ≤ h) (h2 : h ≤ cap) :
  (Instr.sliceAt T (.slice A len cap) vl vh none).run P w = .ok (.slice (if cap = l then A else A.map (·.add (l * P.cellsOf E))) (h - l) (cap - l)) w := by
 obtain ⟨inf, hi', his⟩ := info_of_cells h0
 cases hl with
 | none =>
  cases hh with
  | none => simp [Instr.sliceAt, run_underlying (slE_eq hT), Instr.slice, Instr.sliceBounds, sizeOf, typeInfo, hi', his]
  | some _ k n hn => simp [Instr.sliceAt, run_underlying (slE_eq hT), Instr.slice, Instr.sliceBounds, Instr.sliceBound, asIntOf, hn, sizeOf, typeInfo, hi', his, show n ≤ (cap : Int) by omega]
 | some _ k n hn =>
  cases hh with
  | none => simp [Instr.sliceAt, run_underlying (slE_eq hT), Instr.slice, Instr.sliceBounds, Instr.sliceBound, asIntOf, hn, sizeOf, typeInfo, hi', his, show n ≤ (len : Int) by omega]
  | some _ k' n' hn' => simp [Instr.sliceAt, run_underlying (slE_eq hT), Instr.slice, Instr.sliceBounds, Instr.sliceBound, asIntOf, hn, hn', sizeOf, typeInfo, hi', his, show n' ≤ (cap : Int) by omega, show n ≤ n' by omega, show n ≤ max n' 0 by omega]
theorem gives_cut_sl (hm : Mem P c ob w β) {T E : TypeId} (hT : slE P T = some E) (h0 : 0 < P.cellsOf E) {xs : List I} {v : Value} (hv : VD P (c.g w β ob) (.i (.sl E xs)) v) {lo hi : Option D} {vl vh : Option Value} {l h : Nat}
  (hl : Bd P (c.g w β ob) lo vl 0 l) (hh : Bd P (c.g w β ob) hi vh xs.length h) (h1 : l ≤ h) (h2 : h ≤ xs.length) : Gives P c ob w β (Instr.sliceAt T v vl vh none) (.i (.sl E ((xs.take h).drop l))) ob := by
 cases hv with
 | i _ _ hv =>
 cases hv with
 | sl0 _ A cap =>
  have hh0 : h = 0 := by simpa using h2
  have hl0 : l = 0 := by omega
  subst hh0; subst hl0
  exact Gives.here hm (run_sliceAt hT h0 A 0 cap hl hh (Nat.le_refl _) (Nat.zero_le _)) (by simpa using .i _ _ (.sl0 E _ _))
 | sl _ _ b off cap us hl' hc ht hx hs hmm hb hF =>
  refine Gives.here hm (run_sliceAt hT h0 _ xs.length cap hl hh h1 (by omega)) (.i _ _ ?_)
  have hlen : ((xs.take h).drop l).length = h - l := by simp; omega
  by_cases hcl : cap = l
  ·have : (xs.take h).drop l = [] := List.eq_nil_of_length_eq_zero (by rw [hlen]; omega)
   rw [this, show h - l = 0 by omega]
   exact .sl0 E _ _
  ·rw [if_neg hcl, ← hlen]
   simp only [Option.map_some, Addr.add_lit]
   have zz : Z (V P w (c.g w β ob).F) ((xs.take h).drop l) ((us.take h).drop l) := ((⟨hl', hx⟩ : Z (V P w (c.g w β ob).F) xs us).take h).drop l
   refine .sl E _ b _ (cap - l) ((us.take h).drop l) zz.len (by omega) (by omega) zz.at_ (fun j u hu => ?_) (fun j u m e hu he => ?_) hb hF
   ·rw [List.getElem?_drop, List.getElem?_take] at hu
    split at hu
    ·exact hs _ u hu
    ·cases hu
   ·rw [List.getElem?_drop, List.getElem?_take] at hu
    split at hu
    ·have := hmm _ u m e hu he
     rw [Nat.add_mul] at this
     rwa [Nat.add_assoc off (l * P.cellsOf E) (j * P.cellsOf E)]
    ·cases hu
theorem gives_cut_own (hm : Mem P c ob w β) {T E : TypeId} (hT : slE P T = some E) (h0 : 0 < P.cellsOf E) {id ver off len : Nat} {xs : List I} (ho : ob id = some (.arr E ver xs)) {v : Value} (hv : VD P (c.g w β ob) (.own id ver off len) v) {lo hi : Option D} {vl vh : Option Value} {l h : Nat}
  (hl : Bd P (c.g w β ob) lo vl 0 l) (hh : Bd P (c.g w β ob) hi vh len h) (h1 : l = 0 ∨ l < h) (h2 : h ≤ len) : Gives P c ob w β (Instr.sliceAt T v vl vh none) (.own id ver (off + l) (h - l)) ob := by
 cases hv with
 | ownd _ _ _ _ cap E' xs' ho' hl hc => have h3 : ob id = some (.arrd E' ver xs') := ho'; rw [ho] at h3; cases h3
 | ownStale _ _ ver' _ _ E' xs' v ho' hlt => have h3 : ob id = some (.arr E' ver' xs') := ho'; rw [ho] at h3; cases h3; omega
 | own _ _ _ _ cap E' xs' cur ho' hl' hc hb hcap hmx =>
  have : E' = E ∧ xs' = xs := by have h3 : ob id = some (.arr E' ver xs') := ho'; rw [ho] at h3; cases h3; exact ⟨rfl, rfl⟩
  obtain ⟨rfl, rfl⟩ := this
  refine Gives.here hm (run_sliceAt hT h0 _ len cap hl hh (by omega) (by omega)) ?_
  have := VD.own (P := P) (g := c.g w β ob) id ver (off + l) (h - l) (cap - l) E' xs' cur ho (by omega) (by omega) hb (by rw [show off + l + (cap - l) = off + cap by omega]; exact hcap) (by omega)
  by_cases hcl : cap = l
  ·have hl0 : l = 0 := by omega
   subst hl0
   rw [if_pos hcl]
   simpa using this
  ·rw [if_neg hcl]
   simp only [Option.map_some, Addr.add_lit]
   rwa [Nat.add_mul] at this
theorem gives_len_own (hm : Mem P c ob w β) {T E ty : TypeId} (hT : slE P T = some E) {id ver off len : Nat} (hf : fresh ob id ver = true) {v : Value} (hv : VD P (c.g w β ob) (.own id ver off len) v) :
  Gives P c ob w β (Builtin.len_ #[T] ty #[v]) (.i (.int .i64 len)) ob := by
 cases hv with
 | ownStale _ _ ver' _ _ E' xs' v ho' hlt => simp [fresh, show ob id = some (.arr E' ver' xs') from ho'] at hf; omega
 | own => exact Gives.here hm (v := goInt len) (by simp [Builtin.len_, run_underlying (slE_eq hT)]) (.i _ _ (.int .i64 _))
 | ownd => exact Gives.here hm (v := goInt len) (by simp [Builtin.len_, run_underlying (slE_eq hT)]) (.i _ _ (.int .i64 _))
theorem gives_len_nils (hm : Mem P c ob w β) {T E ty : TypeId} (hT : slE P T = some E) {v : Value} (hv : VD P (c.g w β ob) .nils v) : Gives P c ob w β (Builtin.len_ #[T] ty #[v]) (.i (.int .i64 0)) ob := by
 cases hv with
 | nils A => exact Gives.here hm (v := goInt 0) (by simp [Builtin.len_, run_underlying (slE_eq hT)]) (.i _ _ (.int .i64 _))
theorem gives_len_str (hm : Mem P c ob w β) {T ty : TypeId} (hT : P.underlying T = some .string) {s : ByteArray} {v : Value} (hv : VD P (c.g w β ob) (.i (.str s)) v) : Gives P c ob w β (Builtin.len_ #[T] ty #[v]) (.i (.int .i64 s.size)) ob := by
 cases hv with
 | i _ _ hv => cases hv with
  | str => exact Gives.here hm (v := goInt s.size) (by simp [Builtin.len_, run_underlying hT]) (.i _ _ (.int .i64 _))
def unI : UnOp → I → Option I
 | .neg, .int k n => some (.int k (k.wrap (-n)))
 | .not, .bool b => some (.bool (!b))
 | _, _ => none
theorem gives_unI (hm : Mem P c ob w β) (op : UnOp) {x r : I} {v : Value} (hv : VD P (c.g w β ob) (.i x) v) (hr : unI op x = some r) : Gives P c ob w β (Op.unary op v) (.i r) ob := by
 cases hv with
 | i _ _ hv =>
 cases op <;> cases hv <;> simp [unI] at hr
 all_goals subst hr
 ·exact Gives.here hm (v := .int _ _) (by simp only [Op.unary, Op.intArith, Int.zero_sub]; rfl) (.i _ _ (.int _ _))
 ·exact Gives.here hm (v := .bool _) (by simp only [Op.unary]; rfl) (.i _ _ (.bool _))
def kindI (P : Program) (T : TypeId) : Option IntKind := match P.underlying T with
 | some (.int k) => some k
 | _ => none
def isU8 : I → Bool
 | .int k _ => match k with
  | .u8 => true
  | _ => false
 | _ => false
def u8I : I → Int
 | .int _ n => n
 | _ => 0
def strB (xs : List I) : ByteArray := strOfNums (xs.map u8I)
def convS (P : Program) (S T : TypeId) : Bool := match P.underlying S with
 | some (.slice e) => match P.underlying e with
  | some (.int k) => match k with
   | .u8 => match P.underlying T with
    | some .string => true
    | _ => false
   | _ => false
  | _ => false
 | _ => false
theorem convS_spec {P : Program} {S T : TypeId} (h : convS P S T = true) : ∃ e, P.underlying S = some (.slice e) ∧ P.underlying e = some (.int .u8) ∧ P.underlying T = some .string := by
 unfold convS at h
 split at h
 ·rename_i e he
  split at h
  ·rename_i k hk
   split at h
   ·split at h
    ·rename_i hT; exact ⟨e, he, hk, hT⟩
    ·cases h
   ·cases h
  ·cases h
 ·cases h
theorem isU8_eq {x : I} (h : isU8 x = true) : x = .int .u8 (u8I x) := by
 unfold isU8 at h
 split at h
 ·split at h
  ·rfl
  ·cases h
 ·cases h
theorem gives_convert_bytes (hm : Mem P c ob w β) {S T : TypeId} (hS : convS P S T = true) {id ver off len : Nat} {E : TypeId} {xs : List I} {v : Value} (hv : VD P (c.g w β ob) (.own id ver off len) v)
  (ho : ob id = some (.arr E ver xs)) (h1 : P.cellsOf E = 1) (hu : ((xs.drop off).take len).all isU8 = true) : Gives P c ob w β (convert S T v) (.i (.str (strB ((xs.drop off).take len)))) ob := by
 obtain ⟨e, hs1, hs2, hs3⟩ := convS_spec hS
 cases hv with
 | ownd _ _ _ _ cap E2 xs2 ho2 => have h3 : ob id = some (.arrd E2 ver xs2) := ho2; rw [ho] at h3; cases h3
 | ownStale _ _ ver' _ _ E2 xs2 v ho2 hlt => have h3 : ob id = some (.arr E2 ver' xs2) := ho2; rw [ho] at h3; cases h3; omega
 | own _ _ _ _ cap E2 xs2 cur ho2 hl hc hb hcap hmx =>
  have : E2 = E ∧ xs2 = xs := by have h3 : ob id = some (.arr E2 ver xs2) := ho2; rw [ho] at h3; cases h3; exact ⟨rfl, rfl⟩
  obtain ⟨rfl, rfl⟩ := this
  have hr := hm.obs id _ ho
  cases hr with
  | arr _ _ _ cur2 us hb2 hl2 ht h hsz hmm =>
   have hlen : ((xs2.drop off).take len).length = len := by simp; omega
   have hrun := run_convert_bytes_arg (P := P) w S e hs1 hs2 (β id) (off * P.cellsOf E2) len cap (((xs2.drop off).take len).map u8I) (by simpa using hlen) (fun i hi => by
    have hx : ((xs2.drop off).take len)[i]? = some (((xs2.drop off).take len)[i]'(by omega)) := List.getElem?_eq_getElem (by omega)
    have hx2 : xs2[off + i]? = some (((xs2.drop off).take len)[i]'(by omega)) := by
     rw [← hx, List.getElem?_take, if_pos hi, List.getElem?_drop]
    have hm8 := isU8_eq (List.all_eq_true.1 hu _ (List.getElem_mem (by omega : i < ((xs2.drop off).take len).length)))
    obtain ⟨u, hu2⟩ := get_of_len hl2.symm hx2
    have hV := h (off + i) _ u hx2 hu2
    rw [hm8] at hV
    have hue : u = .int .u8 (u8I (((xs2.drop off).take len)[i]'(by omega))) := by cases hV; rfl
    have hc2 := hmm (off + i) u 0 u hu2 (by rw [hue]; rfl)
    rw [h1] at hc2
    simp only [Ctx.g] at hb2
    have hg : (((xs2.drop off).take len).map u8I).getD i 0 = u8I (((xs2.drop off).take len)[i]'(by omega)) := by
     rw [List.getD_eq_getElem?_getD, List.getElem?_map, hx]; rfl
    rw [hg, ← hue, h1]
    simp only [Nat.mul_one, Nat.add_zero] at hc2
    simp [World.cell?, hb2, hc2]) T hs3
   exact Gives.here hm hrun (.i _ _ (.str _ (by unfold strB; rw [strOfNums_size]; simp only [List.length_map, hlen]; omega)))
theorem gives_convert_int (hm : Mem P c ob w β) {S T : TypeId} (hS : (P.underlying S).isSome = true) {k' : IntKind} (hT : kindI P T = some k') {k : IntKind} {n : Int} {v : Value} (hv : VD P (c.g w β ob) (.i (.int k n)) v) :
  Gives P c ob w β (convert S T v) (.i (.int k' (k'.wrap n))) ob := by
 cases hv with
 | i _ _ hv =>
 cases hv with
 | int =>
  have hu : P.underlying T = some (.int k') := by
   unfold kindI at hT
   split at hT
   ·cases hT; assumption
   ·cases hT
  have hk : P.intKind T = k' := by simp [Program.intKind, hu]
  have := run_convert_int (P := P) w S T k n hS (by rw [hu, hk])
  rw [hk] at this
  exact Gives.here hm this (.i _ _ (.int _ _))
theorem gives_max (hm : Mem P c ob w β) (tys : Array TypeId) (ty : TypeId) {k : IntKind} {a b : Int} {v u : Value} (hv : VD P (c.g w β ob) (.i (.int k a)) v) (hu : VD P (c.g w β ob) (.i (.int k b)) u) :
  Gives P c ob w β (Builtin.max_ tys ty #[v, u]) (.i (.int k (max a b))) ob := by
 cases hv with
 | i _ _ hv => cases hv with
  | int => cases hu with
   | i _ _ hu => cases hu with
    | int =>
     refine Gives.here hm (v := .int k (max a b)) ?_ (.i _ _ (.int _ _))
     have : (if b > a then b else a) = max a b := by split <;> omega
     simp [Builtin.max_, Builtin.max2, this]
def D.notNil : D → Bool
 | .loc .. | .el .. | .fn .. | .i (.ptr _) | .i (.fn _ _) => true
 | _ => false
theorem VD.pointer {g : G} {d : D} {v : Value} (h : VD P g d v) (hd : d.notNil = true) (hq : ∀ id ver idx off, d = .el id ver idx off → fresh g.ob id ver = true) : (∃ a, v = .pointer (some a)) ∨ ∃ f a b, v = .func (.func f) a b := by
 cases h with
 | i x v h => cases h <;> simp_all [D.notNil]
 | loc => exact .inl ⟨_, rfl⟩
 | el => exact .inl ⟨_, rfl⟩
 | eld => exact .inl ⟨_, rfl⟩
 | elStale id ver ver' idx off E xs v ho hlt hv => have := hq _ _ _ _ rfl; simp [fresh, ho] at this; omega
 | fn => exact .inr ⟨_, _, _, rfl⟩
 | _ => simp [D.notNil] at hd
end
def hasBody (P : Program) (F : FuncId) : Bool := ((P.funcs[F]?).map fun fn => fn.name != "runtime.NumGoroutine" && fn.body.isSome) == some true
end Go.Lw
end
section
namespace Go.Lw
section
variable {P : Program} {c : Ctx} {ob : Nat → Option Ob} {w : World} {β : Nat → Nat}
theorem gives_cut3 (hm : Mem P c ob w β) {T E : TypeId} (hT : slE P T = some E) (h0 : 0 < P.cellsOf E) {xs : List I} {v : Value} (hv : VD P (c.g w β ob) (.i (.sl E xs)) v) {k k' : IntKind} {n : Int} (hn : 0 ≤ n) (h2 : n.toNat ≤ xs.length) :
  Gives P c ob w β (Instr.sliceAt T v none (some (.int k n)) (some (.int k' n))) (.capd E (xs.take n.toNat)) ob := by
 obtain ⟨inf, hi', his⟩ := info_of_cells h0
 have run : ∀ (A : Option Addr) (len cap : Nat), n.toNat ≤ cap → (Instr.sliceAt T (.slice A len cap) none (some (.int k n)) (some (.int k' n))).run P w = .ok (.slice (if n.toNat = 0 then A else A.map (·.add (0 * P.cellsOf E))) n.toNat n.toNat) w := fun A len cap hc => by
  simp [Instr.sliceAt, run_underlying (slE_eq hT), Instr.slice, Instr.sliceBounds, Instr.sliceBound, asIntOf, hn, sizeOf, typeInfo, hi', his, show n ≤ (cap : Int) by omega, show n ≤ max n 0 by omega]
 cases hv with
 | i _ _ hv =>
 cases hv with
 | sl0 _ A cap =>
  have hh0 : n.toNat = 0 := by simpa using h2
  have := VD.capd (P := P) (g := c.g w β ob) E [] A (.sl0 E A 0)
  refine Gives.here hm (run A 0 cap (by omega)) ?_
  rw [hh0]; simpa using this
 | sl _ _ b off cap us hl' hc ht hx hs hmm hb hF =>
  refine Gives.here hm (run _ xs.length cap (by omega)) ?_
  have hlen : (xs.take n.toNat).length = n.toNat := by simp; omega
  have key : V P (c.g w β ob).w (c.g w β ob).F (.sl E (xs.take n.toNat)) (.slice (some ⟨b, off, none⟩) n.toNat n.toNat) := by
   have zz : Z (V P w (c.g w β ob).F) (xs.take n.toNat) (us.take n.toNat) := (⟨hl', hx⟩ : Z (V P w (c.g w β ob).F) xs us).take n.toNat
   have := V.sl (P := P) (w := w) (F := (c.g w β ob).F) E (xs.take n.toNat) b off n.toNat (us.take n.toNat) zz.len (by omega) (by omega) zz.at_ (fun j u hu => by
    rw [List.getElem?_take] at hu
    split at hu
    ·exact hs _ u hu
    ·cases hu) (fun j u m e hu he => by
    rw [List.getElem?_take] at hu
    split at hu
    ·exact hmm _ u m e hu he
    ·cases hu) hb hF
   rw [hlen] at this
   exact this
  have := VD.capd (P := P) (g := c.g w β ob) E (xs.take n.toNat) (some ⟨b, off, none⟩) (by rw [hlen]; exact key)
  rw [hlen] at this
  by_cases hz : n.toNat = 0
  ·rw [if_pos hz]; exact this
  ·rw [if_neg hz]; simpa [Addr.add_lit] using this
theorem gives_append_capd (hm : Mem P c ob w β) {T ty E : TypeId} (hT : slE P T = some E) (h0 : 0 < P.cellsOf E) (hz : zeroOk P E = true) {xs : List I} {u0 : Value} (hx : VD P (c.g w β ob) (.capd E xs) u0) {x : D} {v : Value} (hv : VD P (c.g w β ob) x v)
  {ys : List I} (hs : srcOf ob E x = some ys) (hb : (xs.length + ys.length) * P.bytesOf E ≤ top) (hb1 : xs.length + ys.length ≤ top) :
  Gives P c ob w β (Builtin.append_ #[T, T] ty #[u0, v]) (.i (.sl E (xs ++ ys))) ob := by
 cases hx with
 | capd _ _ A0 hx =>
 rcases Nat.eq_zero_or_pos xs.length with hx0 | hxpos
 ·have : xs = [] := List.eq_nil_of_length_eq_zero hx0
  subst this
  simpa using gives_append_data (ty := ty) hm hT h0 hz hv hs (by simpa using hb) A0
 ·obtain ⟨A, cap, us, rfl, hrow, htop, hat⟩ := src_of hm hv hs
  obtain ⟨inf, z, hi, his, hzz, hzs, hby⟩ := zeroOk_eq hz h0
  rcases Nat.eq_zero_or_pos ys.length with hy0 | hpos
  ·have hy : ys = [] := List.eq_nil_of_length_eq_zero hy0
   subst hy
   refine Gives.here hm (v := .slice A0 xs.length xs.length) ?_ (.i _ _ (by simpa using hx))
   cases A with
   | none => cases A0 <;> simp [Builtin.append_, run_underlying (slE_eq hT), sizeOf, typeInfo, hi, Builtin.lenOf, Builtin.firstCells, storeCells]
   | some a => cases A0 <;> simp [Builtin.append_, run_underlying (slE_eq hT), sizeOf, typeInfo, hi, Builtin.lenOf, Builtin.firstCells, loadCells, loadCellsFrom, storeCells]
  ·obtain ⟨b, off, rfl, hcell⟩ := hat hpos
   obtain ⟨A1, cap1, us0, e1, hrow0, htop0, hat0⟩ := src_of (E := E) (ys := xs) hm (.i _ _ hx) (by simp [srcOf])
   obtain ⟨b0, off0, rfl, hcell0⟩ := hat0 hxpos
   cases e1
   have hnl : (us.flatMap (fun u => u.cells.toList)).length = ys.length * inf.size := by rw [flat_length us hrow.sz, his, hrow.z.len]
   have holl : (us0.flatMap (fun u => u.cells.toList)).length = xs.length * inf.size := by rw [flat_length us0 hrow0.sz, his, hrow0.z.len]
   have hrun := run_append_grow (P := P) w T ty E inf z (slE_eq hT) hi hzz ⟨b0, off0, none⟩ xs.length xs.length _ holl (hrow0.news h0 hcell0) ⟨b, off, none⟩ ys.length cap _ hnl (hrow.news h0 hcell) (by omega) (by unfold top at hb1; omega)
    (growslice_fits (by omega) (by rw [hby]; exact hb))
   generalize hO : (Obj.cells ((us0.flatMap (fun u => u.cells.toList)).toArray ++ (us.flatMap (fun u => u.cells.toList)).toArray ++ Builtin.zeroCells z.cells (grownCap w (xs.length + ys.length) xs.length E - (xs.length + ys.length))) E) = O at hrun
   have hbl := heap_alloc_new w.drew O
   obtain ⟨hmd, hkd⟩ := hm.quiet (w' := w.drew.alloc O) (by simp) (fun b hb => heap_alloc_old w.drew O b hb) rfl rfl rfl
   refine ⟨_, _, β, hrun, hmd, hkd, .i _ _ ?_⟩
   have hrow' := (hrow0.keeps hkd).append (hrow.keeps hkd)
   rw [← List.length_append]
   refine .sl E (xs ++ ys) w.heap.size 0 _ (us0 ++ us) hrow'.z.len (by simpa using grownCap_ge w (xs.length + ys.length) xs.length E) (by simpa using hb1) hrow'.z.at_ (fun j u hu => hrow'.sz u (List.mem_of_getElem? hu)) (fun j u m e hu he => ?_) (by simp [Ctx.g]) ?_
   ·have hsz := hrow'.sz u (List.mem_of_getElem? hu)
    have hmlt : m < P.cellsOf E := by have := (Array.getElem?_eq_some_iff.1 he).1; omega
    have hi' : ((us0 ++ us).flatMap (fun u => u.cells.toList))[j * P.cellsOf E + m]? = some e := by
     rw [flat_get h0 (us0 ++ us) hrow'.sz, (div_block hmlt).1, (div_block hmlt).2, hu]; exact he
    have hlt := (List.getElem?_eq_some_iff.1 hi').1
    subst hO
    simp only [Ctx.g, World.cell?]
    rw [show (w.drew.alloc (Obj.cells ((us0.flatMap (fun u => u.cells.toList)).toArray ++ (us.flatMap (fun u => u.cells.toList)).toArray ++ Builtin.zeroCells z.cells (grownCap w (xs.length + ys.length) xs.length E - (xs.length + ys.length))) E)).heap[w.heap.size]? = some _ from hbl]
    simp only [Nat.zero_add, Option.isSome_none, Bool.false_eq_true, if_false]
    rw [Array.getElem?_append_left (by simp [List.flatMap_append] at hlt; simp; omega)]
    simpa [List.flatMap_append] using hi'
   ·rintro (hM | ⟨i, o, h1, h2⟩)
    ·have := (hm.mlt _ hM).1; have := hm.size; omega
    ·have := hm.lt i o h1; omega
end
end Go.Lw
end
section
namespace Go.Lw
section
variable {P : Program} {c : Ctx} {ob : Nat → Option Ob} {w : World} {β : Nat → Nat}
theorem gives_range (hm : Mem P c ob w β) {id : Nat} (hid : ob id = none) {T : TypeId} (hT : P.underlying T = some .string) {s : ByteArray} {v : Value} (hv : VD P (c.g w β ob) (.i (.str s)) v) :
  Gives P c ob w β (Instr.range T v) (.it id) (upd ob id (some (.strit s 0))) := by
 cases hv with
 | i _ _ hV =>
 cases hV with
 | str _ hs =>
 have hr : ObRel P (c.g (w.alloc (.stringIter s 0)) (upd β id w.heap.size) (upd ob id (some (.strit s 0)))) id (.strit s 0) := by
  refine .strit s 0 ?_
  show (w.alloc (.stringIter s 0)).heap[upd β id w.heap.size id]? = _
  rw [upd_same]; exact heap_alloc_new w _
 refine ⟨_, _, upd β id w.heap.size, run_range_string w T s hT, hm.new hid (.stringIter s 0) (.strit s 0) hr, Keeps.new hm hid _ _, ?_⟩
 have := VD.it (P := P) (g := c.g (w.alloc (.stringIter s 0)) (upd β id w.heap.size) (upd ob id (some (.strit s 0)))) id s 0 (by show upd ob id _ id = _; rw [upd_same])
 have hb : (c.g (w.alloc (.stringIter s 0)) (upd β id w.heap.size) (upd ob id (some (.strit s 0)))).β id = w.heap.size := upd_same _ _ _
 rw [hb] at this
 exact this
theorem gives_next (hm : Mem P c ob w β) {id : Nat} {s : ByteArray} {pos : Nat} (ho : ob id = some (.strit s pos)) {v : Value} (hv : VD P (c.g w β ob) (.it id) v) (ty : TypeId) (h : pos < s.size) (h8 : (s.data.getD pos 0).toNat < 128) :
  Gives P c ob w β (Instr.next v true ty) (.tup [.kb true, .i (.int .i64 pos), .i (.int .i32 ((s.data.getD pos 0).toNat : Int))]) (upd ob id (some (.strit s (pos + 1)))) := by
 cases hv with
 | it _ s' pos' ho' =>
 have hr := hm.obs id _ ho
 cases hr with
 | strit _ _ hb =>
 have hb : w.heap[β id]? = some (.stringIter s pos) := hb
 have hlt := (Array.getElem?_eq_some_iff.1 hb).1
 have h' : pos < s.data.size := h
 have hg : s.data.getD pos 0 = s[pos]'h := by
  rw [Array.getD_eq_getD_getElem?, Array.getElem?_eq_getElem h', Option.getD_some]; rfl
 rw [hg] at h8 ⊢
 obtain ⟨W, hW⟩ : ∃ W : World, W = { w with heap := w.heap.setIfInBounds (β id) (.stringIter s (pos + 1)) } := ⟨_, rfl⟩
 have hrun : (Instr.next (.pointer (some ⟨β id, 0, none⟩)) true ty).run P w = .ok (.tuple #[.bool true, .int .i64 pos, .int .i32 ((s[pos]'h).toNat : Int)]) W := by
  rw [hW]
  simp only [Instr.next, getObj, setObj, Sem.run_bind, Sem.run, hb, Result.andThen, h, if_true, decode_ascii s pos h h8]
  simp [goInt]
 have hWs : W.heap.size = w.heap.size := by rw [hW]; simp
 have hWo : ∀ b, b ≠ β id → W.heap[b]? = w.heap[b]? := fun b hb => by rw [hW]; simp [Array.getElem?_setIfInBounds, Ne.symm hb]
 have hWn : W.heap[β id]? = some (.stringIter s (pos + 1)) := by rw [hW]; simp [hlt]
 have hc : ∀ cur E, w.heap[β id]? = some (.cells cur E (0, 0)) → ∃ cur', W.heap[β id]? = some (.cells cur' E (0, 0)) ∧ cur'.size = cur.size := fun cur E h => by rw [hb] at h; cases h
 have h1 : W.os = w.os := by rw [hW]
 have h2 : W.tape = w.tape := by rw [hW]
 have h3 : W.output = w.output := by rw [hW]
 refine ⟨_, W, β, hrun, hm.set ho (.strit s pos (pos + 1)) hWs hWo hc h1 h2 h3 (.strit s (pos + 1) hWn), Keeps.set hm ho (.strit s pos (pos + 1)) hWs hWo hc, ?_⟩
 refine .tup [.kb true, .i (.int .i64 pos), .i (.int .i32 ((s[pos]'h).toNat : Int))] [.bool true, .int .i64 pos, .int .i32 ((s[pos]'h).toNat : Int)] rfl fun j d u hd hu => ?_
 match j with
 | 0 => simp at hd hu; subst hd hu; exact .kb _
 | 1 => simp at hd hu; subst hd hu; exact .i _ _ (.int _ _)
 | 2 => simp at hd hu; subst hd hu; exact .i _ _ (.int _ _)
 | j + 3 => simp at hd
theorem gives_nextEnd (hm : Mem P c ob w β) {id : Nat} {s : ByteArray} {pos : Nat} (ho : ob id = some (.strit s pos)) {v : Value} (hv : VD P (c.g w β ob) (.it id) v) (ty : TypeId) (h : ¬ pos < s.size) :
  Gives P c ob w β (Instr.next v true ty) (.tup [.kb false]) ob := by
 cases hv with
 | it _ s' pos' ho' =>
 have hr := hm.obs id _ ho
 cases hr with
 | strit _ _ hb =>
 have hb : w.heap[β id]? = some (.stringIter s pos) := hb
 refine Gives.here hm (v := .tuple #[.bool false]) ?_ (.tup [.kb false] [.bool false] rfl fun j d u hd hu => ?_)
 ·show (Instr.next (.pointer (some ⟨β id, 0, none⟩)) true ty).run P w = _
  simp [Instr.next, getObj, Sem.run, hb, h]
 ·match j with
  | 0 => simp at hd hu; subst hd hu; exact .kb _
  | j + 1 => simp at hd
end
end Go.Lw
end
