/-
A part of the proof that the statement InitialValues holds of the given program (second form, tied card): an evaluator over it: steps.
-/
import Derived.Test.YtleopflmnmfaeaaGreatDoorPK
set_option autoImplicit false
set_option linter.unusedSimpArgs false
set_option linter.unusedVariables false
set_option linter.unnecessarySimpa false
section
namespace Go.Kr
def zeroCls (P : Program) (T : TypeId) : Bool := match (P.info? T).bind (·.zero) with
 | some z => cls 8 z
 | none => true
def zeroClsE (P : Program) (T : TypeId) : Bool := match P.underlying T with
 | some (.slice e) => zeroCls P e
 | _ => true
theorem zeroCls_spec {P : Program} {T : TypeId} (h : zeroCls P T = true) : ∀ z, (P.info? T).bind (·.zero) = some z → cls 8 z = true := fun z hz => by
 unfold zeroCls at h; rw [hz] at h; exact h
theorem zeroClsE_spec {P : Program} {T : TypeId} (h : zeroClsE P T = true) : ∀ e, P.underlying T = some (.slice e) → ∀ z, (P.info? e).bind (·.zero) = some z → cls 8 z = true := fun e he => by
 unfold zeroClsE at h; rw [he] at h; exact zeroCls_spec h
def valN : Option Next → Option Value
 | some (.value v) => match cls 8 v with
  | true => some v
  | false => none
 | _ => none
def pureOp (P : Program) (ρ : Operand → Value) (m : Ms) (o : Oper) : Option (Value × Ms) := match o.op.operands.toList.all (fun x => cls 8 (ρ x)) with
 | true => match valN (arun0 P (execOp ρ o)) with
  | some v => some (v, m)
  | none => none
 | false => none
def nilCmp (P : Program) (op : BinOp) (T : TypeId) (x y : Value) : Option Bool := match P.underlying T, x, y with
 | some (.slice _), .slice (some _) _ _, .slice none _ _ => match op with
  | .eql => some false
  | .neq => some true
  | _ => none
 | _, _, _ => none
def lenA (P : Program) (m : Ms) (T : TypeId) (x : Value) : Option (Value × Ms) := match P.underlying T, x with
 | some (.slice _), .slice _ n _ => some (.int .i64 n, m)
 | some (.map _ _), .map none => some (.int .i64 0, m)
 | some (.map _ _), .map (some r) => match mapAt m r with
  | some es => some (.int .i64 es.length, m.see r)
  | none => none
 | _, _ => none
def cutB (len : Nat) (lo hi : Option Value) : Option (Nat × Nat) := match (match hi with
    | some v => bI v len
    | none => some len) with
 | none => none
 | some h => match (match lo with
   | some v => bI v h
   | none => some 0) with
  | none => none
  | some l => some (l, h)
def cutS (P : Program) (T : TypeId) (x : Value) (lo hi mx : Option Value) : Option Value := match P.underlying T, x with
 | some (.slice E), .slice (some a) len cap => match Nat.blt cap big, mx with
  | false, none => match cutB len lo hi, arun0 P (sizeOf E) with
   | some (l, h), some sz => match Nat.beq l 0 || (Nat.beq cap (big + sz) && Nat.blt l len) with
    | true => some (.slice (some (a.add (l * sz))) (h - l) cap)
    | false => none
   | _, _ => none
  | _, _ => match cutA len cap lo hi mx, arun0 P (sizeOf E) with
   | some (l, h, k), some sz => some (.slice (some (if k = l then a else a.add (l * sz))) (h - l) (k - l))
   | _, _ => none
 | _, _ => none
def skipR {α : Type} : Option (α × Ms) → Option (Value × Ms)
 | some (_, m) => some (.tuple #[], m)
 | none => none
def callB (P : Program) (ρ : Operand → Value) (m : Ms) (o : Oper) (c : Call) : Option (Value × Ms) := match c.callee with
 | .builtin .len => match c.args.toList, c.argTypes.toList with
  | [x], [T] => match ρ x with
   | .string _ => pureOp P ρ m o
   | _ => lenA P m T (ρ x)
  | _, _ => none
 | .builtin .append => match c.args.toList, c.argTypes.toList with
  | [x, y], [T, T'] => match Nat.beq T T' with
   | true => appM P m T (ρ x) (ρ y)
   | false => none
  | _, _ => none
 | .builtin .copy => match c.args.toList, c.argTypes.toList with
  | [x, y], [T, T'] => arunO P (Builtin.copy_ #[T, T'] o.type #[ρ x, ρ y]) m
  | _, _ => none
 | .builtin .max => pureOp P ρ m o
 | .builtin .min => pureOp P ρ m o
 | .value _ => pureOp P ρ m o
 | _ => none
def op1 (P : Program) (ρ : Operand → Value) (m : Ms) (o : Oper) : Option (Value × Ms) := match o.op with
 | .move x => some (ρ x, m)
 | .assign x => some (ρ x, m)
 | .pick c a b => match ρ c with
  | .bool true => some (ρ a, m)
  | .bool false => some (ρ b, m)
  | _ => none
 | .alloc T => match zeroCls P T with
  | true => arunO P (Instr.alloc T true (.tuple #[])) m
  | false => none
 | .box T x => arunO P (Instr.box T (ρ x)) m
 | .build T parts => match zeroCls P T with
  | true => arunO P (Instr.build T (parts.map fun (i, x) => (i, ρ x))) m
  | false => none
 | .buildSlice T n parts => match zeroClsE P T && Nat.blt n big with
  | true => arunO P (Instr.buildSlice T n (parts.map fun (i, x) => (i, ρ x))) m
  | false => none
 | .insert T mm k v => match updA P m T (ρ mm) (ρ k) (ρ v) with
  | some m' => some (.tuple #[], m')
  | none => none
 | .mapUpdate T mm k v => match updA P m T (ρ mm) (ρ k) (ρ v) with
  | some m' => some (.tuple #[], m')
  | none => none
 | .load T a => arunO P (Instr.loadAt T (ρ a)) m
 | .store T a x => skipR (arunO P (Instr.storeAt T (ρ a) (ρ x)) m)
 | .nilCheck x => match ρ x with
  | .pointer (some a) => some (.pointer (some a), m)
  | .func (.func f) a b => some (.func (.func f) a b, m)
  | _ => none
 | .binOp op T x y _ => match nilCmp P op T (ρ x) (ρ y) with
  | some b => some (.bool b, m)
  | none => pureOp P ρ m o
 | .unOp _ _ _ => pureOp P ρ m o
 | .convert _ _ _ => pureOp P ρ m o
 | .index _ _ _ => pureOp P ρ m o
 | .makeFunc (.func f) first captured => some (.func (.func f) (first.map ρ) (captured.map ρ), m)
 | .makeMap T none => arunO P (Instr.makeMap T none) m
 | .makeSlice T l c => match ρ l, ρ c with
  | .int k n, .int k' n' => match zeroClsE P T with
   | true => arunO P (Instr.makeSlice T (.int k n) (.int k' n')) m
   | false => none
  | _, _ => none
 | .slice T x lo hi mx => match ρ x with
  | .string _ => pureOp P ρ m o
  | _ => match cutS P T (ρ x) (lo.map ρ) (hi.map ρ) (mx.map ρ) with
   | some v => some (v, m)
   | none => none
 | .fieldAddr S x i => arunO P (Instr.fieldAt S (ρ x) i) m
 | .indexAddr T x i => match ρ x, ρ i with
  | .slice (some a) l c, .int k n => arunO P (Instr.indexAt T (.slice (some a) l c) (.int k n)) m
  | .pointer (some a), .int k n => arunO P (Instr.indexAt T (.pointer (some a)) (.int k n)) m
  | _, _ => none
 | .lookup T x i ok => lookA P m T (ρ x) (ρ i) ok
 | .range T x => match ρ x with
  | .string s => arunO P (Instr.range T (.string s)) m
  | _ => match isMapT P T with
   | true => rangeA m (ρ x)
   | false => none
 | .next x true => strNext m (ρ x)
 | .entry x => entryA m (ρ x)
 | .extract x i => arunO P (Instr.extract (ρ x) i) m
 | .call c => callB P ρ m o c
 | _ => none
def OkX (P : Program) (t' : Sem Next) (m : Ms) (γ : Gm) (w : World) (v : Value) (m' : Ms) : Prop :=
 ∃ v' w' γ', (t'.run P w = .ok (.value v') w' ∨ (t'.run P w = .ok .skip w' ∧ v' = undef)) ∧ VR γ' v v' ∧ m'.hi = m.hi ∧ Post m.cur m.nx m.hi γ w m'.cur m'.nx γ' w'
section
variable {P : Program} {γ : Gm}
theorem OkX.of_okv {t' : Sem Value} {u : Sem Next} {m m' : Ms} {w : World} {v : Value} (h : Okv P t' m γ w v m') (e : u = (do pure (.value (← t')))) : OkX P u m γ w v m' := by
 obtain ⟨v', w', γ', h1, h2, h3, h4⟩ := h
 refine ⟨v', w', γ', .inl ?_, h2, h3, h4⟩
 rw [e, Sem.run_bind, h1]
 rfl
theorem OkX.of_sim {t t' : Sem Value} {u : Sem Next} {m m' : Ms} {w : World} {v : Value} (hr : HR m.cur γ w) (hf : Free γ m.nx m.hi) (h : Sim P VR γ t t') (ha : arunO P t m = some (v, m')) (e : u = (do pure (.value (← t')))) : OkX P u m γ w v m' :=
 .of_okv (by obtain ⟨v', w', γ', h1, h2, h3, h4⟩ := h m w v m' ha hr hf; exact ⟨v', w', γ', h1, h2, h3, h4⟩) e
theorem OkX.here {u : Sem Next} {m : Ms} {w : World} {v v' : Value} (hr : HR m.cur γ w) (hf : Free γ m.nx m.hi) (hv : VR γ v v') (h : u.run P w = .ok (.value v') w) (log : List Nat) : OkX P u m γ w v ⟨m.g, m.u, m.nx, m.hi, log⟩ :=
 ⟨v', w, γ, .inl h, hv, rfl, .refl hr hf⟩
theorem pureOp_sound {ρ ρ' : Operand → Value} {m m' : Ms} {w : World} {o : Oper} {v : Value} (hr : HR m.cur γ w) (hf : Free γ m.nx m.hi) (hρ : ∀ x ∈ o.op.operands.toList, VR γ (ρ x) (ρ' x)) (h : pureOp P ρ m o = some (v, m'))
  (he : (∀ x ∈ o.op.operands.toList, ρ' x = ρ x) → execOp ρ' o = execOp ρ o) : OkX P (execOp ρ' o) m γ w v m' := by
 unfold pureOp at h
 split at h
 ·rename_i hall
  split at h
  ·rename_i v0 hv
   cases h
   have e := he fun x hx => (hρ x hx).cls_eq 8 _ _ (List.all_eq_true.1 hall x hx)
   unfold valN at hv
   split at hv
   ·rename_i v1 h1
    split at hv
    ·rename_i hc
     cases hv
     rw [e]
     exact ⟨v, w, γ, .inl (arun0_run _ h1 w), VR.refl_cls 8 v hc, rfl, .refl hr hf⟩
    ·cases hv
   ·cases hv
  ·cases h
 ·cases h
theorem parts_PR {ρ ρ' : Operand → Value} (parts : Array (Nat × Operand)) (h : ∀ x ∈ (parts.toList.map (·.2)), VR γ (ρ x) (ρ' x)) : PR γ (parts.map fun (i, x) => (i, ρ x)).toList (parts.map fun (i, x) => (i, ρ' x)).toList := by
 refine ⟨by simp, fun j x y hx hy => ?_⟩
 simp only [Array.toList_map, List.getElem?_map, Option.map_eq_some_iff] at hx hy
 obtain ⟨p, h1, rfl⟩ := hx
 obtain ⟨q, h2, rfl⟩ := hy
 rw [h1] at h2
 cases h2
 exact ⟨rfl, h _ (List.mem_map.2 ⟨p, List.mem_of_getElem? h1, rfl⟩)⟩
theorem ops_LR {ρ ρ' : Operand → Value} (xs : Array Operand) (h : ∀ x ∈ xs.toList, VR γ (ρ x) (ρ' x)) : LR γ (xs.map ρ).toList (xs.map ρ').toList := by
 refine ⟨by simp, fun j x y hx hy => ?_⟩
 simp only [Array.toList_map, List.getElem?_map, Option.map_eq_some_iff] at hx hy
 obtain ⟨p, h1, rfl⟩ := hx
 obtain ⟨q, h2, rfl⟩ := hy
 rw [h1] at h2
 cases h2
 exact h _ (List.mem_of_getElem? h1)
theorem VR.fn' {f : Fn} {xs ys cs ds : Array Value} (h : LR γ xs.toList ys.toList) (k : LR γ cs.toList ds.toList) : VR γ (.func f xs cs) (.func f ys ds) :=
 .fn f xs ys cs ds (by simpa using h.len) (by simpa using k.len) (fun j x y hx hy => h.at_ j x y (by simpa using hx) (by simpa using hy)) fun j x y hx hy => k.at_ j x y (by simpa using hx) (by simpa using hy)
theorem cutB_run {len cap' : Nat} (hcap : len ≤ cap') {lo lo' hi hi' : Option Value} (h1 : OR γ lo lo') (h2 : OR γ hi hi') {l h : Nat} (hc : cutB len lo hi = some (l, h)) (w : World) :
  (Instr.sliceBounds true len cap' lo' hi' none).run P w = .ok (l, h, cap') w ∧ l ≤ h ∧ h ≤ len := by
 unfold cutB at hc
 unfold Instr.sliceBounds
 cases h2 with
 | none =>
  simp only at hc
  cases h1 with
  | none => simp only at hc; cases hc; exact ⟨by simp, Nat.zero_le _, Nat.le_refl _⟩
  | some v v' hv =>
   simp only at hc
   split at hc
   ·cases hc
   ·rename_i l0 hl
    cases hc
    obtain ⟨r1, hle⟩ := bI_run (P := P) hv hl (Nat.le_refl _) .sliceB w
    exact ⟨by simp [r1], hle, Nat.le_refl _⟩
 | some u u' hu =>
  simp only at hc
  split at hc
  ·cases hc
  ·rename_i h0 hh
   obtain ⟨r2, hle2⟩ := bI_run (P := P) hu hh hcap .sliceAcap w
   cases h1 with
   | none => simp only at hc; cases hc; exact ⟨by simp [r2], Nat.zero_le _, hle2⟩
   | some v v' hv =>
    simp only at hc
    split at hc
    ·cases hc
    ·rename_i l0 hl
     cases hc
     obtain ⟨r1, hle⟩ := bI_run (P := P) hv hl (Nat.le_refl _) .sliceB w
     exact ⟨by simp [r1, r2], hle, hle2⟩
theorem cutS_sound {m : Ms} {w : World} {T : TypeId} {x x' v : Value} {lo hi mx lo' hi' mx' : Option Value} (hx : VR γ x x') (h1 : OR γ lo lo') (h2 : OR γ hi hi') (h3 : OR γ mx mx') (h : cutS P T x lo hi mx = some v) :
  ∃ v', (Instr.sliceAt T x' lo' hi' mx').run P w = .ok v' w ∧ VR γ v v' := by
 unfold cutS at h
 split at h
 ·rename_i E a len cap hT
  cases hx with
  | sl _ a' _ _ cap' ha hcap =>
  split at h
  ·rename_i hbig
   have hbig : big ≤ cap := by
    refine Nat.le_of_not_lt fun h1 => ?_
    have : Nat.blt cap big = true := by simp [Nat.blt]; omega
    rw [this] at hbig; cases hbig
   cases h3
   split at h
   ·rename_i l hh sz hc hs
    split at h
    ·rename_i hb
     cases h
     obtain ⟨c1, c2⟩ := hcap.2 hbig
     obtain ⟨r1, hl1, hl2⟩ := cutB_run (P := P) c1 h1 h2 hc w
     have hcase : l = 0 ∨ (cap = big + sz ∧ l < len) := by
      simp only [Bool.or_eq_true, Bool.and_eq_true] at hb
      rcases hb with hb | hb
      ·exact .inl (Nat.eq_of_beq_eq_true hb)
      ·exact .inr ⟨Nat.eq_of_beq_eq_true hb.1, by have := hb.2; simp [Nat.blt] at this; omega⟩
     refine ⟨.slice (some (a'.add (l * sz))) (hh - l) (cap' - l), ?_, ?_⟩
     ·unfold Instr.sliceAt
      rw [Sem.run_bind, run_underlying hT]
      simp only [Result.andThen_ok]
      unfold Instr.slice
      rw [Sem.run_bind, run_underlying hT]
      simp only [Result.andThen_ok, Sem.run_bind, r1, arun0_run _ hs w, Sem.run_pure]
      congr 2
      split
      ·rename_i e
       rcases hcase with h0 | h0
       ·subst h0; simp [Addr.add]
       ·omega
      ·rfl
     ·refine .sl _ _ _ _ _ (ha.add _) ⟨fun h4 => by omega, fun _ => ⟨by omega, ?_⟩⟩
      have eb : (a.add (l * sz)).block = a.block := by unfold Addr.add; split <;> rfl
      have eo : (a.add (l * sz)).off = a.off + l * sz := by unfold Addr.add; split <;> simp_all
      rw [eb]
      revert c2
      cases γ a.block with
      | none => exact id
      | some y =>
       cases y with
       | none => exact id
       | some p =>
        intro c2
        dsimp only at c2 ⊢
        rw [eo]
        rcases hcase with h0 | ⟨h0, h5⟩
        ·subst h0; simpa using c2
        ·have e1 : cap - big = sz := by omega
         rw [e1] at c2 ⊢
         have e2 : (cap' - l) * sz + l * sz = cap' * sz := by rw [← Nat.add_mul, Nat.sub_add_cancel (by omega)]
         omega
    ·cases h
   ·cases h
  split at h
  ·rename_i l hh k sz hc hs
   cases h
   obtain ⟨r1, hk, _⟩ := cutA_run (P := P) hcap h1 h2 h3 hc w
   refine ⟨.slice (some (if k = l then a' else a'.add (l * sz))) (hh - l) (k - l), ?_, ?_⟩
   ·unfold Instr.sliceAt
    rw [Sem.run_bind, run_underlying hT]
    simp only [Result.andThen_ok]
    unfold Instr.slice
    rw [Sem.run_bind, run_underlying hT]
    simp only [Result.andThen_ok, Sem.run_bind, r1, arun0_run _ hs w, Sem.run_pure]
    congr 2
    split <;> rfl
   ·refine .sl _ _ _ _ _ ?_ ⟨fun _ => rfl, fun hb => absurd hb (by omega)⟩
    split
    ·exact ha
    ·exact ha.add _
  ·cases h
 ·cases h
theorem or_map {ρ ρ' : Operand → Value} (x : Option Operand) (h : ∀ y, x = some y → VR γ (ρ y) (ρ' y)) : OR γ (x.map ρ) (x.map ρ') := by
 cases x with
 | none => exact .none
 | some y => exact .some _ _ (h y rfl)
theorem lenA_sound {m m' : Ms} {w : World} (hr : HR m.cur γ w) (hf : Free γ m.nx m.hi) {T ty : TypeId} {x x' v : Value} (hx : VR γ x x') (h : lenA P m T x = some (v, m')) : Okv P (Builtin.len_ #[T] ty #[x']) m γ w v m' := by
 unfold lenA at h
 unfold Builtin.len_
 simp only [show (#[T] : Array TypeId)[0]? = some T from rfl, show (#[x'] : Array Value)[0]? = some x' from rfl]
 split at h
 ·rename_i E A n c hT
  cases h
  cases hx with
  | slN l c => exact ⟨_, w, γ, by rw [Sem.run_bind, run_underlying hT]; rfl, .int _ _, rfl, .refl hr hf⟩
  | sl a a' l c c' ha hc => exact ⟨_, w, γ, by rw [Sem.run_bind, run_underlying hT]; rfl, .int _ _, rfl, .refl hr hf⟩
 ·rename_i k e hT
  cases h
  cases hx
  exact ⟨_, w, γ, by rw [Sem.run_bind, run_underlying hT]; rfl, .int _ _, rfl, .refl hr hf⟩
 ·rename_i k e r hT
  cases hx with
  | map _ r' hm =>
  split at h
  ·rename_i es hes
   cases h
   unfold mapAt at hes
   split at hes
   ·rename_i o es0 cl hc
    cases hes
    obtain ⟨es', cl', κ, hp, hblk, her, _⟩ := map_at hr (.map _ _ hm) hc
    refine ⟨.int .i64 es'.size, w, γ, ?_, ?_, rfl, .refl hr hf⟩
    ·rw [Sem.run_bind, run_underlying hT]
     simp [getObj, Sem.run, hblk, goInt]
    ·have := her.len
     simp at this
     rw [this]
     exact .int _ _
   ·cases hes
  ·cases h
 ·cases h
end
end Go.Kr
end
