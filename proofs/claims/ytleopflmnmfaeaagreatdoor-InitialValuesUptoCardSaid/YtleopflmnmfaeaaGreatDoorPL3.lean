/-
A part of the proof that the statement InitialValues holds of the given program (second form, tied card): summaries of calls.
-/
import Derived.Test.YtleopflmnmfaeaaGreatDoorPL2
set_option autoImplicit false
set_option linter.unusedSimpArgs false
set_option linter.unusedVariables false
set_option linter.unnecessarySimpa false
section
namespace Go.Kr
def rnL (f : Value → Option Value) : List Value → Option (List Value)
 | [] => some []
 | v :: r => match f v with
  | some x => match rnL f r with
   | some l => some (x :: l)
   | none => none
  | none => none
def rnV (ρ : Nat → Option Nat) : Nat → Value → Option Value
 | _, .pointer (some a) => match ρ a.block, a.spot with
  | some b, none => some (.pointer (some ⟨b, a.off, none⟩))
  | _, _ => none
 | _, .slice (some a) l c => match ρ a.block, a.spot with
  | some b, none => some (.slice (some ⟨b, a.off, none⟩) l c)
  | _, _ => none
 | _, .map (some r) => match ρ r with
  | some b => some (.map (some b))
  | none => none
 | _, .bool b => some (.bool b)
 | _, .int k n => some (.int k n)
 | _, .string s => some (.string s)
 | _, .pointer none => some (.pointer none)
 | _, .slice none l c => some (.slice none l c)
 | _, .map none => some (.map none)
 | _, .nilFunc => some .nilFunc
 | _, .nilIface => some .nilIface
 | n + 1, .agg xs => match rnL (rnV ρ n) xs.toList with
  | some l => some (.agg l.toArray)
  | none => none
 | n + 1, .tuple xs => match rnL (rnV ρ n) xs.toList with
  | some l => some (.tuple l.toArray)
  | none => none
 | n + 1, .func f xs ys => match rnL (rnV ρ n) xs.toList, rnL (rnV ρ n) ys.toList with
  | some l, some l' => some (.func f l.toArray l'.toArray)
  | _, _ => none
 | _, _ => none
theorem rnL_spec {f : Value → Option Value} : ∀ {xs l : List Value}, rnL f xs = some l → l.length = xs.length ∧ ∀ (j : Nat) (x y : Value), xs[j]? = some x → l[j]? = some y → f x = some y
 | [], l, h => by cases h; exact ⟨rfl, fun j x y hx => by simp at hx⟩
 | v :: r, l, h => by
  simp only [rnL] at h
  split at h
  ·rename_i x hx
   split at h
   ·rename_i l1 h1
    cases h
    obtain ⟨e1, e2⟩ := rnL_spec h1
    refine ⟨by simp [e1], fun j a b ha hb => ?_⟩
    cases j with
    | zero => simp at ha hb; subst ha hb; exact hx
    | succ j => exact e2 j a b (by simpa using ha) (by simpa using hb)
   ·cases h
  ·cases h
def Rn (γ γ' : Gm) (ρ : Nat → Option Nat) : Prop := ∀ r b, ρ r = some b → γ r = γ' b
theorem rnV_spec {γ γ' : Gm} {ρ : Nat → Option Nat} (hρ : Rn γ γ' ρ) : ∀ (n : Nat) (v0 v : Value), rnV ρ n v0 = some v → ∀ v', VR γ v0 v' ↔ VR γ' v v' := by
 have addr : ∀ (a a' : Addr) (b : Nat), ρ a.block = some b → a.spot = none → (AR γ a a' ↔ AR γ' ⟨b, a.off, none⟩ a') := fun a a' b h hs => by
  unfold AR
  rw [hρ _ _ h]
  simp [hs]
 have capr : ∀ (a : Addr) (b l c c' : Nat), ρ a.block = some b → (CapR γ a l c c' ↔ CapR γ' ⟨b, a.off, none⟩ l c c') := fun a b l c c' h => by
  unfold CapR
  rw [hρ _ _ h]
 have ptr : ∀ (n : Nat) (a : Addr) (v : Value), rnV ρ n (.pointer (some a)) = some v → ∀ v', VR γ (.pointer (some a)) v' ↔ VR γ' v v' := fun n a v h v' => by
  have h : (match ρ a.block, a.spot with
   | some b, none => some (Value.pointer (some ⟨b, a.off, none⟩))
   | _, _ => none) = some v := by cases n <;> exact h
  split at h
  ·rename_i b h1 h2
   cases h
   constructor
   ·intro hv; cases hv with | ptr _ a' ha => exact .ptr _ _ ((addr a a' b h1 h2).1 ha)
   ·intro hv; cases hv with | ptr _ a' ha => exact .ptr _ _ ((addr a a' b h1 h2).2 ha)
  ·cases h
 have slc : ∀ (n : Nat) (a : Addr) (l c : Nat) (v : Value), rnV ρ n (.slice (some a) l c) = some v → ∀ v', VR γ (.slice (some a) l c) v' ↔ VR γ' v v' := fun n a l c v h v' => by
  have h : (match ρ a.block, a.spot with
   | some b, none => some (Value.slice (some ⟨b, a.off, none⟩) l c)
   | _, _ => none) = some v := by cases n <;> exact h
  split at h
  ·rename_i b h1 h2
   cases h
   constructor
   ·intro hv; cases hv with | sl _ a' _ _ c' ha hc => exact .sl _ _ _ _ _ ((addr a a' b h1 h2).1 ha) ((capr a b l c c' h1).1 hc)
   ·intro hv; cases hv with | sl _ a' _ _ c' ha hc => exact .sl _ _ _ _ _ ((addr a a' b h1 h2).2 ha) ((capr a b l c c' h1).2 hc)
  ·cases h
 have mp : ∀ (n : Nat) (r : Nat) (v : Value), rnV ρ n (.map (some r)) = some v → ∀ v', VR γ (.map (some r)) v' ↔ VR γ' v v' := fun n r v h v' => by
  have h : (match ρ r with
   | some b => some (Value.map (some b))
   | none => none) = some v := by cases n <;> exact h
  split at h
  ·rename_i b h1
   cases h
   constructor
   ·intro hv; cases hv with | map _ r' hm => exact .map _ _ (by rw [← hρ _ _ h1]; exact hm)
   ·intro hv; cases hv with | map _ r' hm => exact .map _ _ (by rw [hρ _ _ h1]; exact hm)
  ·cases h
 have leaf : ∀ (v : Value), cls 0 v = true → ∀ v', VR γ v v' ↔ VR γ' v v' := fun v hc v' => by
  constructor
  ·intro hv; have e := VR.cls_eq 0 _ _ hv hc; subst e; exact VR.refl_cls 0 _ hc
  ·intro hv; have e := VR.cls_eq 0 _ _ hv hc; subst e; exact VR.refl_cls 0 _ hc
 have base : ∀ (n : Nat) (v0 v : Value), (∀ xs, v0 ≠ .agg xs) → (∀ xs, v0 ≠ .tuple xs) → (∀ f xs ys, v0 ≠ .func f xs ys) → rnV ρ n v0 = some v → ∀ v', VR γ v0 v' ↔ VR γ' v v' := by
  intro n v0 v h1 h2 h3 h
  cases v0 with
  | bool b => have e : v = .bool b := by (cases n <;> (simp only [rnV, Option.some.injEq] at h; exact h.symm))
              subst e; exact leaf _ rfl
  | int k m => have e : v = .int k m := by (cases n <;> (simp only [rnV, Option.some.injEq] at h; exact h.symm))
               subst e; exact leaf _ rfl
  | string s => have e : v = .string s := by (cases n <;> (simp only [rnV, Option.some.injEq] at h; exact h.symm))
                subst e; exact leaf _ rfl
  | nilFunc => have e : v = .nilFunc := by (cases n <;> (simp only [rnV, Option.some.injEq] at h; exact h.symm))
               subst e; exact leaf _ rfl
  | nilIface => have e : v = .nilIface := by (cases n <;> (simp only [rnV, Option.some.injEq] at h; exact h.symm))
                subst e; exact leaf _ rfl
  | pointer a => cases a with
   | none => have e : v = .pointer none := by (cases n <;> (simp only [rnV, Option.some.injEq] at h; exact h.symm))
             subst e; exact leaf _ rfl
   | some a => exact ptr n a v h
  | slice a l c => cases a with
   | none => have e : v = .slice none l c := by (cases n <;> (simp only [rnV, Option.some.injEq] at h; exact h.symm))
             subst e; exact leaf _ rfl
   | some a => exact slc n a l c v h
  | map r => cases r with
   | none => have e : v = .map none := by (cases n <;> (simp only [rnV, Option.some.injEq] at h; exact h.symm))
             subst e; exact leaf _ rfl
   | some r => exact mp n r v h
  | agg xs => exact absurd rfl (h1 xs)
  | tuple xs => exact absurd rfl (h2 xs)
  | func f xs ys => exact absurd rfl (h3 f xs ys)
  | _ => cases n <;> simp [rnV] at h
 intro n
 induction n with
 | zero =>
  intro v0 v h
  refine base 0 v0 v ?_ ?_ ?_ h
  ·intro xs e; subst e; simp [rnV] at h
  ·intro xs e; subst e; simp [rnV] at h
  ·intro f xs ys e; subst e; simp [rnV] at h
 | succ n ih =>
  intro v0 v h
  have arr : ∀ (xs : Array Value) (l : List Value), rnL (rnV ρ n) xs.toList = some l → (∀ ys : Array Value, (ys.size = xs.size ↔ ys.size = l.toArray.size)) ∧
    ∀ ys : Array Value, ys.size = xs.size → ((∀ (j : Nat) (x y : Value), xs[j]? = some x → ys[j]? = some y → VR γ x y) ↔ (∀ (j : Nat) (x y : Value), l.toArray[j]? = some x → ys[j]? = some y → VR γ' x y)) := fun xs l hl => by
   obtain ⟨e1, e2⟩ := rnL_spec hl
   refine ⟨fun ys => by simp [e1], fun ys hs => ⟨fun hh j x y hx hy => ?_, fun hh j x y hx hy => ?_⟩⟩
   ·have hj : j < xs.size := by have := (Array.getElem?_eq_some_iff.1 hx).1; simp [e1] at this; exact this
    have hx0 : xs[j]? = some xs[j] := Array.getElem?_eq_getElem hj
    exact (ih _ _ (e2 j xs[j] x (by simpa using hx0) (by simpa using hx)) y).1 (hh j _ y hx0 hy)
   ·have hj : j < l.length := by have := (Array.getElem?_eq_some_iff.1 hx).1; simp [e1]; exact this
    have hx0 : l[j]? = some l[j] := List.getElem?_eq_getElem hj
    exact (ih _ _ (e2 j x l[j] (by simpa using hx) hx0) y).2 (hh j _ y (by simpa using hx0) hy)
  cases v0 with
  | agg xs =>
   simp only [rnV] at h
   split at h
   ·rename_i l hl
    cases h
    obtain ⟨a1, a2⟩ := arr xs l hl
    intro v'
    constructor
    ·intro hv; cases hv with | agg _ ys h1 h2 => exact .agg _ _ ((a1 ys).1 h1) ((a2 ys h1).1 h2)
    ·intro hv; cases hv with | agg _ ys h1 h2 => exact .agg _ _ ((a1 ys).2 h1) ((a2 ys ((a1 ys).2 h1)).2 h2)
   ·cases h
  | tuple xs =>
   simp only [rnV] at h
   split at h
   ·rename_i l hl
    cases h
    obtain ⟨a1, a2⟩ := arr xs l hl
    intro v'
    constructor
    ·intro hv; cases hv with | tup _ ys h1 h2 => exact .tup _ _ ((a1 ys).1 h1) ((a2 ys h1).1 h2)
    ·intro hv; cases hv with | tup _ ys h1 h2 => exact .tup _ _ ((a1 ys).2 h1) ((a2 ys ((a1 ys).2 h1)).2 h2)
   ·cases h
  | func f xs ys =>
   simp only [rnV] at h
   split at h
   ·rename_i l l' hl hl'
    cases h
    obtain ⟨a1, a2⟩ := arr xs l hl
    obtain ⟨b1, b2⟩ := arr ys l' hl'
    intro v'
    constructor
    ·intro hv; cases hv with | fn _ _ zs _ ws h1 h2 h3 h4 => exact .fn _ _ _ _ _ ((a1 zs).1 h1) ((b1 ws).1 h2) ((a2 zs h1).1 h3) ((b2 ws h2).1 h4)
    ·intro hv; cases hv with | fn _ _ zs _ ws h1 h2 h3 h4 => exact .fn _ _ _ _ _ ((a1 zs).2 h1) ((b1 ws).2 h2) ((a2 zs ((a1 zs).2 h1)).2 h3) ((b2 ws ((b1 ws).2 h2)).2 h4)
   ·cases h
  | _ =>
   refine base (n + 1) _ v ?_ ?_ ?_ h
   ·intro xs e; cases e
   ·intro xs e; cases e
   ·intro f xs ys e; cases e
def rnE (ρ : Nat → Option Nat) : List MapEntry → Option (List MapEntry)
 | [] => some []
 | e :: r => match rnV ρ 8 e.key, rnV ρ 8 e.val, rnE ρ r with
  | some k, some v, some l => some (⟨k, v, e.born⟩ :: l)
  | _, _, _ => none
def rnO (ρ : Nat → Option Nat) : Obj → Option Obj
 | .cells c E f => match rnL (rnV ρ 8) c.toList with
  | some l => some (.cells l.toArray E f)
  | none => none
 | .map es cl => match rnE ρ es.toList with
  | some l => some (.map l.toArray cl)
  | none => none
 | .stringIter s p => some (.stringIter s p)
 | .mapIter m a b c => match rnV ρ 1 (.map m) with
  | some (.map m') => some (.mapIter m' a b c)
  | _ => none
 | _ => none
theorem rnE_spec {ρ : Nat → Option Nat} : ∀ {es l : List MapEntry}, rnE ρ es = some l → l.length = es.length ∧ ∀ (j : Nat) (x y : MapEntry), es[j]? = some x → l[j]? = some y → rnV ρ 8 x.key = some y.key ∧ rnV ρ 8 x.val = some y.val ∧ y.born = x.born
 | [], l, h => by cases h; exact ⟨rfl, fun j x y hx => by simp at hx⟩
 | e :: r, l, h => by
  simp only [rnE] at h
  split at h
  ·rename_i k v l1 h1 h2 h3
   cases h
   obtain ⟨e1, e2⟩ := rnE_spec h3
   refine ⟨by simp [e1], fun j a b ha hb => ?_⟩
   cases j with
   | zero => simp at ha hb; subst ha hb; exact ⟨h1, h2, rfl⟩
   | succ j => exact e2 j a b (by simpa using ha) (by simpa using hb)
  ·cases h
theorem rnO_spec {γ γ' : Gm} {ρ : Nat → Option Nat} (hρ : Rn γ γ' ρ) {w : World} {o : Bool} {x0 x : Obj} {p : Pl} (h : rnO ρ x0 = some x) : AbR γ w ⟨o, x0⟩ p ↔ AbR γ' w ⟨o, x⟩ p := by
 have vs := rnV_spec hρ
 cases x0 with
 | cells c E f =>
  simp only [rnO] at h
  split at h
  ·rename_i l hl
   cases h
   obtain ⟨e1, e2⟩ := rnL_spec hl
   have up : ∀ (j : Nat) (y : Value), l[j]? = some y → ∃ x, c.toList[j]? = some x ∧ rnV ρ 8 x = some y := fun j y hy => by
    have hj : j < c.toList.length := by have := (List.getElem?_eq_some_iff.1 hy).1; omega
    exact ⟨_, List.getElem?_eq_getElem hj, e2 j _ y (List.getElem?_eq_getElem hj) hy⟩
   have dn : ∀ (j : Nat) (x : Value), c.toList[j]? = some x → ∃ y, l[j]? = some y ∧ rnV ρ 8 x = some y := fun j x hx => by
    have hj : j < l.length := by have := (List.getElem?_eq_some_iff.1 hx).1; omega
    exact ⟨_, List.getElem?_eq_getElem hj, e2 j x _ hx (List.getElem?_eq_getElem hj)⟩
   constructor
   ·intro ha
    have e : c = c.toList.toArray := by simp
    generalize c.toList = cl at e up dn e1
    subst e
    cases ha with
    | own _ cur _ b κ h1 h2 h3 h4 => exact .own l cur E b κ h1 h2 (by omega) fun j y z hy hz => by obtain ⟨x, a1, a2⟩ := up j y hy; exact (vs 8 x y a2 z).1 (h4 j x z a1 hz)
    | frz _ _ _ b δ κ h1 =>
      refine .frz l E f b δ κ fun j y hy => ?_
      obtain ⟨x, a1, a2⟩ := up j y hy
      obtain ⟨z, b1, b2⟩ := h1 j x a1
      exact ⟨z, b1, (vs 8 x y a2 z).1 b2⟩
   ·intro ha
    have e : c = c.toList.toArray := by simp
    generalize c.toList = cl at e up dn e1
    subst e
    cases ha with
    | own _ cur _ b κ h1 h2 h3 h4 => exact .own cl cur E b κ h1 h2 (by omega) fun j y z hy hz => by obtain ⟨x, a1, a2⟩ := dn j y hy; exact (vs 8 y x a2 z).2 (h4 j x z a1 hz)
    | frz _ _ _ b δ κ h1 =>
      refine .frz cl E f b δ κ fun j y hy => ?_
      obtain ⟨x, a1, a2⟩ := dn j y hy
      obtain ⟨z, b1, b2⟩ := h1 j x a1
      exact ⟨z, b1, (vs 8 y x a2 z).2 b2⟩
  ·cases h
 | map es cl =>
  simp only [rnO] at h
  split at h
  ·rename_i l hl
   cases h
   obtain ⟨e1, e2⟩ := rnE_spec hl
   have e : es = es.toList.toArray := by simp
   generalize es.toList = el at e e1 e2 hl
   subst e
   constructor
   ·intro ha
    cases ha with
    | map _ _ es' _ cl' b κ h1 h2 h3 h4 =>
     refine .map o l es' cl cl' b κ h1 (by omega) (fun j y z hy hz => ?_) h4
     have hj : j < el.length := by have := (List.getElem?_eq_some_iff.1 hy).1; omega
     have hx := List.getElem?_eq_getElem hj
     obtain ⟨a1, a2, a3⟩ := e2 j _ y hx hy
     obtain ⟨b1, b2, b3⟩ := h3 j _ z hx hz
     exact ⟨(vs 8 _ _ a1 _).1 b1, (vs 8 _ _ a2 _).1 b2, fun hh => (b3 hh).trans a3.symm⟩
   ·intro ha
    cases ha with
    | map _ _ es' _ cl' b κ h1 h2 h3 h4 =>
     refine .map o el es' cl cl' b κ h1 (by omega) (fun j y z hy hz => ?_) h4
     have hj : j < l.length := by have := (List.getElem?_eq_some_iff.1 hy).1; omega
     have hx := List.getElem?_eq_getElem hj
     obtain ⟨a1, a2, a3⟩ := e2 j y _ hy hx
     obtain ⟨b1, b2, b3⟩ := h3 j _ z hx hz
     exact ⟨(vs 8 _ _ a1 _).2 b1, (vs 8 _ _ a2 _).2 b2, fun hh => (b3 hh).trans a3⟩
  ·cases h
 | stringIter s q =>
  cases h
  constructor
  ·intro ha; cases ha with | strit _ _ _ b κ h1 => exact .strit o s q b κ h1
  ·intro ha; cases ha with | strit _ _ _ b κ h1 => exact .strit o s q b κ h1
 | mapIter m a b c =>
  simp only [rnO] at h
  split at h
  ·rename_i m' hm
   cases h
   constructor
   ·intro ha; cases ha with | mapit _ _ mm _ _ _ bb κ h1 h2 => exact .mapit o _ mm a b c bb κ h1 ((vs 1 _ _ hm _).1 h2)
   ·intro ha; cases ha with | mapit _ _ mm _ _ _ bb κ h1 h2 => exact .mapit o _ mm a b c bb κ h1 ((vs 1 _ _ hm _).2 h2)
  ·cases h
 | _ => cases h
open Classical in
theorem Post.drop {H H1 H2 : Nat → Option Ab} {γ γ1 : Gm} {w w1 : World} {nx nx1 hi : Nat} (h : Post H nx hi γ w H1 nx1 γ1 w1) (hle : ∀ id ab, H2 id = some ab → H1 id = some ab) :
  ∃ γ2, Keep γ1 γ2 ∧ (∀ id, γ2 id = γ1 id ∨ (γ2 id = some none ∧ γ1 id ≠ none)) ∧ Post H nx hi γ w H2 nx1 γ2 w1 := by
 let γ2 : Gm := fun id => if H1 id ≠ none ∧ H2 id = none then some none else γ1 id
 have hal : ∀ id, H1 id ≠ none → ∃ p, γ1 id = some (some p) := fun id hn => by
  cases hc : H1 id with
  | none => exact absurd hc hn
  | some ab => obtain ⟨p, h1, _⟩ := h.hr.obj id ab hc; exact ⟨p, h1⟩
 have hor : ∀ id, γ2 id = γ1 id ∨ (γ2 id = some none ∧ γ1 id ≠ none) := fun id => by
  by_cases hc : H1 id ≠ none ∧ H2 id = none
  ·obtain ⟨p, hp⟩ := hal id hc.1
   exact .inr ⟨if_pos hc, by rw [hp]; intro e; cases e⟩
  ·exact .inl (if_neg hc)
 have hk : Keep γ1 γ2 := fun id => by
  rcases hor id with e | ⟨e, e2⟩
  ·rw [e]; exact ⟨fun p hp => .inl hp, fun hp => hp⟩
  ·rw [e]; exact ⟨fun p hp => .inr rfl, fun _ => rfl⟩
 have hsame : ∀ id ab, H2 id = some ab → γ2 id = γ1 id := fun id ab hc => if_neg (fun h2 => by rw [h2.2] at hc; cases hc)
 have hown : ∀ b, Own H2 γ2 b → Own H1 γ1 b := fun b ⟨id, ab, p, h1, h2, h3, h4⟩ => ⟨id, ab, p, hle id ab h1, h2, by rw [← hsame id ab h1]; exact h3, h4⟩
 refine ⟨γ2, hk, hor, ⟨fun id ab hc => ?_, fun id hc p hp => ?_, fun id id' ab ab' p p' h1 h2 h3 h4 h5 h6 => ?_⟩, h.le, fun id h1 h2 => ?_, h.keep.trans hk, fun id h1 h2 => ?_, h.size, h.os, h.tape, h.output, h.out, fun b hb => h.own b (hown b hb)⟩
 ·obtain ⟨p, h1, h2, h3⟩ := h.hr.obj id ab (hle id ab hc)
  exact ⟨p, by rw [hsame id ab hc]; exact h1, h2.mono hk rfl, h3⟩
 ·by_cases hc1 : H1 id = none
  ·have e : γ2 id = γ1 id := if_neg (fun h2 => h2.1 hc1)
   rw [e] at hp
   exact h.hr.dead id hc1 p hp
  ·have e : γ2 id = some none := if_pos ⟨hc1, hc⟩
   rw [e] at hp; cases hp
 ·exact h.hr.inj id id' ab ab' p p' (hle _ _ h1) h2 (hle _ _ h3) h4 (by rw [← hsame _ _ h1]; exact h5) (by rw [← hsame _ _ h3]; exact h6)
 ·have := h.free id h1 h2
  rcases hor id with e | ⟨e, e2⟩
  ·rw [e]; exact this
  ·exact absurd this e2
 ·have := h.unb id h1 h2
  rcases hor id with e | ⟨e, e2⟩
  ·rw [e]; exact this
  ·exact absurd this e2
end Go.Kr
end
section
namespace Go.Kr
def eqI : Int → Int → Bool
 | .ofNat a, .ofNat b => Nat.beq a b
 | .negSucc a, .negSucc b => Nat.beq a b
 | _, _ => false
theorem eqI_eq {a b : Int} (h : eqI a b = true) : a = b := by
 unfold eqI at h
 split at h
 ·rw [Nat.eq_of_beq_eq_true h]
 ·rw [Nat.eq_of_beq_eq_true h]
 ·cases h
def eqU : List UInt8 → List UInt8 → Bool
 | [], [] => true
 | a :: r, b :: s => match Nat.beq a.toNat b.toNat with
  | true => eqU r s
  | false => false
 | _, _ => false
theorem eqU_eq : ∀ {a b : List UInt8}, eqU a b = true → a = b
 | [], [], _ => rfl
 | a :: r, b :: s, h => by
  simp only [eqU] at h
  split at h
  ·rename_i e; rw [eqU_eq h, UInt8.toNat_inj.1 (Nat.eq_of_beq_eq_true e)]
  ·cases h
 | [], _ :: _, h => by cases h
 | _ :: _, [], h => by cases h
def eqB (s t : ByteArray) : Bool := eqU s.data.toList t.data.toList
theorem eqB_eq {s t : ByteArray} (h : eqB s t = true) : s = t := by
 have := eqU_eq h
 obtain ⟨a⟩ := s
 obtain ⟨b⟩ := t
 congr 1
 exact Array.toList_inj.1 this
def mtR (k id : Nat) (bs : List Nat) : Option (List Nat) := match Nat.blt k bs.length with
 | true => match bs[k]? with
  | some x => match Nat.beq x id with
   | true => some bs
   | false => none
  | none => none
 | false => match Nat.beq k bs.length, memN bs id with
  | true, false => some (bs ++ [id])
  | _, _ => none
def mtL (f : Value → Value → List Nat → Option (List Nat)) : List Value → List Value → List Nat → Option (List Nat)
 | [], [], bs => some bs
 | x :: xs, y :: ys, bs => match f x y bs with
  | some bs' => mtL f xs ys bs'
  | none => none
 | _, _, _ => none
def mtV : Nat → Value → Value → List Nat → Option (List Nat)
 | n, v0, v, bs => match v0 with
  | .bool true => match v with
   | .bool true => some bs
   | _ => none
  | .bool false => match v with
   | .bool false => some bs
   | _ => none
  | .int k i => match v with
   | .int k' i' => match decide (k' = k) && eqI i i' with
    | true => some bs
    | false => none
   | _ => none
  | .string s => match v with
   | .string t => match eqB s t with
    | true => some bs
    | false => none
   | _ => none
  | .pointer none => match v with
   | .pointer none => some bs
   | _ => none
  | .pointer (some a) => match v with
   | .pointer (some ⟨b, off, none⟩) => match a.spot, Nat.beq a.off off with
    | none, true => mtR a.block b bs
    | _, _ => none
   | _ => none
  | .slice none l c => match v with
   | .slice none l' c' => match Nat.beq l l' && Nat.beq c c' with
    | true => some bs
    | false => none
   | _ => none
  | .slice (some a) l c => match v with
   | .slice (some ⟨b, off, none⟩) l' c' => match a.spot, Nat.beq a.off off && Nat.beq l l' && Nat.beq c c' with
    | none, true => mtR a.block b bs
    | _, _ => none
   | _ => none
  | .map none => match v with
   | .map none => some bs
   | _ => none
  | .map (some a) => match v with
   | .map (some b) => mtR a b bs
   | _ => none
  | .nilFunc => match v with
   | .nilFunc => some bs
   | _ => none
  | .nilIface => match v with
   | .nilIface => some bs
   | _ => none
  | .agg xs => match n with
   | 0 => none
   | n + 1 => match v with
    | .agg ys => mtL (mtV n) xs.toList ys.toList bs
    | _ => none
  | .tuple xs => match n with
   | 0 => none
   | n + 1 => match v with
    | .tuple ys => mtL (mtV n) xs.toList ys.toList bs
    | _ => none
  | .func (.func f) xs ys => match n with
   | 0 => none
   | n + 1 => match v with
    | .func (.func g) xs' ys' => match Nat.beq f g with
     | true => match mtL (mtV n) xs.toList xs'.toList bs with
      | some bs' => mtL (mtV n) ys.toList ys'.toList bs'
      | none => none
     | false => none
    | _ => none
  | _ => none
structure Mt (bs bs' : List Nat) (Q : (Nat → Option Nat) → Prop) : Prop where
 nd : bs.Nodup → bs'.Nodup
 ext : ∃ t, bs' = bs ++ t
 ok : ∀ ρ : Nat → Option Nat, (∀ (i x : Nat), bs'[i]? = some x → ρ i = some x) → Q ρ
theorem ext_ok {bs t : List Nat} {ρ : Nat → Option Nat} (h : ∀ (i x : Nat), (bs ++ t)[i]? = some x → ρ i = some x) : ∀ (i x : Nat), bs[i]? = some x → ρ i = some x := fun i x hi => h i x (by
 have := (List.getElem?_eq_some_iff.1 hi).1
 rw [List.getElem?_append_left this]; exact hi)
theorem Mt.here {bs : List Nat} {Q : (Nat → Option Nat) → Prop} (h : ∀ ρ, Q ρ) : Mt bs bs Q := ⟨fun h => h, ⟨[], by simp⟩, fun ρ _ => h ρ⟩
theorem Mt.trans {bs b1 b2 : List Nat} {Q Q' Q2 : (Nat → Option Nat) → Prop} (h : Mt bs b1 Q) (k : Mt b1 b2 Q') (hq : ∀ ρ, Q ρ → Q' ρ → Q2 ρ) : Mt bs b2 Q2 := by
 obtain ⟨t, rfl⟩ := h.ext
 obtain ⟨t', rfl⟩ := k.ext
 exact ⟨fun hn => k.nd (h.nd hn), ⟨t ++ t', by simp⟩, fun ρ hr => hq ρ (h.ok ρ (ext_ok hr)) (k.ok ρ hr)⟩
theorem Mt.mono {bs b1 : List Nat} {Q Q' : (Nat → Option Nat) → Prop} (h : Mt bs b1 Q) (hq : ∀ ρ, Q ρ → Q' ρ) : Mt bs b1 Q' := ⟨h.nd, h.ext, fun ρ hr => hq ρ (h.ok ρ hr)⟩
theorem mtR_spec {k id : Nat} {bs bs' : List Nat} (h : mtR k id bs = some bs') : Mt bs bs' fun ρ => ρ k = some id := by
 unfold mtR at h
 split at h
 ·split at h
  ·rename_i x hx
   split at h
   ·rename_i e
    cases h
    exact ⟨fun h => h, ⟨[], by simp⟩, fun ρ hr => by rw [hr k x hx, Nat.eq_of_beq_eq_true e]⟩
   ·cases h
  ·cases h
 ·split at h
  ·rename_i e1 e2
   cases h
   have e1 := Nat.eq_of_beq_eq_true e1
   refine ⟨fun hn => ?_, ⟨_, rfl⟩, fun ρ hr => hr k id (by rw [e1]; simp)⟩
   rw [List.nodup_append]
   refine ⟨hn, by simp, fun a ha b hb => ?_⟩
   rw [List.mem_singleton] at hb
   intro e
   rw [e, hb] at ha
   rw [memN_iff.2 ha] at e2
   cases e2
  ·cases h
theorem mtL_spec {f : Value → Value → List Nat → Option (List Nat)} {R : (Nat → Option Nat) → Value → Option Value} (hf : ∀ v0 v bs bs', f v0 v bs = some bs' → Mt bs bs' fun ρ => R ρ v0 = some v) :
  ∀ (xs ys : List Value) (bs bs' : List Nat), mtL f xs ys bs = some bs' → Mt bs bs' fun ρ => rnL (R ρ) xs = some ys
 | [], [], bs, bs', h => by cases h; exact .here fun ρ => rfl
 | x :: xs, y :: ys, bs, bs', h => by
  simp only [mtL] at h
  split at h
  ·rename_i b1 h1
   refine (hf _ _ _ _ h1).trans (mtL_spec hf xs ys _ _ h) fun ρ a b => ?_
   simp only [rnL, a, b]
  ·cases h
 | [], _ :: _, bs, bs', h => by cases h
 | _ :: _, [], bs, bs', h => by cases h
theorem toArr (xs : Array Value) : xs.toList.toArray = xs := by simp
theorem mtV_spec : ∀ (n : Nat) (v0 v : Value) (bs bs' : List Nat), mtV n v0 v bs = some bs' → Mt bs bs' fun ρ => rnV ρ n v0 = some v := by
 intro n
 induction n with
 | zero =>
  intro v0 v bs bs' h
  unfold mtV at h
  split at h
  all_goals first
   | (split at h <;> first | (cases h; exact .here fun ρ => rfl) | (cases h; done) | skip)
   | (cases h; done)
   | skip
  all_goals first
   | (split at h <;> first | (cases h; done) | skip)
   | skip
  ·rename_i e; simp only [Bool.and_eq_true, decide_eq_true_eq] at e; cases h; rw [e.1, eqI_eq e.2]; exact .here fun ρ => rfl
  ·rename_i e; cases h; rw [eqB_eq e]; exact .here fun ρ => rfl
  ·rename_i a _ b off e1 e2
   have e2 := Nat.eq_of_beq_eq_true e2
   exact (mtR_spec h).mono fun ρ hr => by simp only [rnV, hr, e1, e2]
  ·rename_i e; simp only [Bool.and_eq_true] at e; cases h; rw [Nat.eq_of_beq_eq_true e.1, Nat.eq_of_beq_eq_true e.2]; exact .here fun ρ => rfl
  ·rename_i a l c _ b off l' c' e1 e2
   simp only [Bool.and_eq_true] at e2
   have e3 := Nat.eq_of_beq_eq_true e2.1.1
   have e4 := Nat.eq_of_beq_eq_true e2.1.2
   have e5 := Nat.eq_of_beq_eq_true e2.2
   exact (mtR_spec h).mono fun ρ hr => by simp only [rnV, hr, e1, e3, e4, e5]
  ·exact (mtR_spec h).mono fun ρ hr => by simp only [rnV, hr]
  ·rename_i hq _ _; cases hq
  ·rename_i hq _ _; cases hq
  ·rename_i hq _ _ _ _; cases hq
 | succ n ih =>
  intro v0 v bs bs' h
  unfold mtV at h
  split at h
  all_goals first
   | (split at h <;> first | (cases h; exact .here fun ρ => rfl) | (cases h; done) | skip)
   | (cases h; done)
   | skip
  all_goals first
   | (split at h <;> first | (cases h; done) | skip)
   | skip
  ·rename_i e; simp only [Bool.and_eq_true, decide_eq_true_eq] at e; cases h; rw [e.1, eqI_eq e.2]; exact .here fun ρ => rfl
  ·rename_i e; cases h; rw [eqB_eq e]; exact .here fun ρ => rfl
  ·rename_i a _ b off e1 e2
   have e2 := Nat.eq_of_beq_eq_true e2
   exact (mtR_spec h).mono fun ρ hr => by simp only [rnV, hr, e1, e2]
  ·rename_i e; simp only [Bool.and_eq_true] at e; cases h; rw [Nat.eq_of_beq_eq_true e.1, Nat.eq_of_beq_eq_true e.2]; exact .here fun ρ => rfl
  ·rename_i a l c _ b off l' c' e1 e2
   simp only [Bool.and_eq_true] at e2
   have e3 := Nat.eq_of_beq_eq_true e2.1.1
   have e4 := Nat.eq_of_beq_eq_true e2.1.2
   have e5 := Nat.eq_of_beq_eq_true e2.2
   exact (mtR_spec h).mono fun ρ hr => by simp only [rnV, hr, e1, e3, e4, e5]
  ·exact (mtR_spec h).mono fun ρ hr => by simp only [rnV, hr]
  ·rename_i hq _ _; cases hq; exact (mtL_spec (R := fun ρ => rnV ρ n) ih _ _ _ _ h).mono fun ρ hr => by simp only [rnV, hr, toArr]
  ·rename_i hq _ _; cases hq; exact (mtL_spec (R := fun ρ => rnV ρ n) ih _ _ _ _ h).mono fun ρ hr => by simp only [rnV, hr, toArr]
  ·rename_i hq _ _ _ _
   cases hq
   split at h
   case h_2 => cases h
   rename_i e
   split at h
   ·rename_i b1 h1
    refine (mtL_spec (R := fun ρ => rnV ρ n) ih _ _ _ _ h1).trans (mtL_spec (R := fun ρ => rnV ρ n) ih _ _ _ _ h) fun ρ hr hr' => ?_
    simp only [rnV, hr, hr', toArr, Nat.eq_of_beq_eq_true e]
   ·cases h
end Go.Kr
end
section
namespace Go.Kr
def mtE (full : Bool) : List MapEntry → List MapEntry → List Nat → Option (List Nat)
 | [], [], bs => some bs
 | x :: xs, y :: ys, bs => match mtV 8 x.key y.key bs with
  | some b1 => match mtV 8 x.val y.val b1 with
   | some b2 => match !full || Nat.beq x.born y.born with
    | true => mtE full xs ys b2
    | false => none
   | none => none
  | none => none
 | _, _, _ => none
def mtOwn (a0 a : Obj) (bs : List Nat) : Option (List Nat) := match a0, a with
 | .cells c0 E f, .cells c E' f' => match Nat.beq E E' && Nat.beq f.1 f'.1 && Nat.beq f.2 f'.2 with
  | true => mtL (mtV 8) c0.toList c.toList bs
  | false => none
 | .map es0 cl0, .map es cl => match Nat.beq cl0 cl with
  | true => mtE true es0.toList es.toList bs
  | false => none
 | _, _ => none
def mtFrz (a0 a : Obj) (bs : List Nat) : Option (List Nat) := match a0 with
 | .cells c0 _ _ => match c0.toList with
  | [] => some bs
  | x :: l => match a with
   | .cells c _ _ => mtL (mtV 8) (x :: l) (c.toList.take (l.length + 1)) bs
   | _ => none
 | .map es0 _ => match a with
  | .map es _ => mtE false es0.toList es.toList bs
  | _ => none
 | _ => none
def mtO (a0 a : Ab) (bs : List Nat) : Option (List Nat) := match a0.own, a.own with
 | true, true => mtOwn a0.o a.o bs
 | true, false => none
 | false, _ => mtFrz a0.o a.o bs
structure ObjOk (ρ : Nat → Option Nat) (a0 a : Ab) : Prop where
 own : a0.own = true → a.own = true ∧ rnO ρ a0.o = some a.o
 frz : a0.own = false → ∀ γ0 γ w p, Rn γ0 γ ρ → AbR γ w a p → AbR γ0 w a0 p
theorem mtE_spec {full : Bool} : ∀ (xs ys : List MapEntry) (bs bs' : List Nat), mtE full xs ys bs = some bs' → Mt bs bs' fun ρ => (full = true → rnE ρ xs = some ys) ∧ ys.length = xs.length ∧ ∀ (j : Nat) (x y : MapEntry), xs[j]? = some x → ys[j]? = some y → rnV ρ 8 x.key = some y.key ∧ rnV ρ 8 x.val = some y.val
 | [], [], bs, bs', h => by cases h; exact .here fun ρ => ⟨fun _ => rfl, rfl, fun j x y hx => by simp at hx⟩
 | x :: xs, y :: ys, bs, bs', h => by
  simp only [mtE] at h
  split at h
  ·rename_i b1 h1
   split at h
   ·rename_i b2 h2
    split at h
    ·rename_i hb
     have hb : full = true → x.born = y.born := fun hf => by
      subst hf; exact Nat.eq_of_beq_eq_true (by simpa using hb)
     refine ((mtV_spec 8 _ _ _ _ h1).trans (mtV_spec 8 _ _ _ _ h2) (Q2 := fun ρ => rnV ρ 8 x.key = some y.key ∧ rnV ρ 8 x.val = some y.val) fun ρ a b => ⟨a, b⟩).trans (mtE_spec xs ys _ _ h) fun ρ a b => ⟨fun hf => ?_, by simp [b.2.1], fun j z t hz ht => ?_⟩
     ·simp only [rnE, a.1, a.2, b.1 hf, hb hf]
     ·cases j with
      | zero => simp at hz ht; subst hz ht; exact a
      | succ j => exact b.2.2 j z t (by simpa using hz) (by simpa using ht)
    ·cases h
   ·cases h
  ·cases h
 | [], _ :: _, bs, bs', h => by cases h
 | _ :: _, [], bs, bs', h => by cases h
theorem mtO_spec {a0 a : Ab} {bs bs' : List Nat} (h : mtO a0 a bs = some bs') : Mt bs bs' fun ρ => ObjOk ρ a0 a := by
 obtain ⟨o0, x0⟩ := a0
 obtain ⟨o, x⟩ := a
 unfold mtO at h
 dsimp only at h
 split at h
 ·unfold mtOwn at h
  split at h
  ·rename_i c0 E f c E' f'
   split at h
   ·rename_i hb
    simp only [Bool.and_eq_true] at hb
    have e1 := Nat.eq_of_beq_eq_true hb.1.1
    have e2 : f = f' := Prod.ext (Nat.eq_of_beq_eq_true hb.1.2) (Nat.eq_of_beq_eq_true hb.2)
    subst e1 e2
    exact (mtL_spec (R := fun ρ => rnV ρ 8) (mtV_spec 8) _ _ _ _ h).mono fun ρ hr => ⟨fun _ => ⟨rfl, by simp only [rnO, hr, toArr]⟩, fun e => by cases e⟩
   ·cases h
  ·rename_i es0 cl0 es cl
   split at h
   ·rename_i hb
    have e1 := Nat.eq_of_beq_eq_true hb
    subst e1
    exact (mtE_spec _ _ _ _ h).mono fun ρ hr => ⟨fun _ => ⟨rfl, by simp only [rnO, hr.1 rfl]⟩, fun e => by cases e⟩
   ·cases h
  ·cases h
 ·cases h
 ·unfold mtFrz at h
  split at h
  ·rename_i c0 E f
   split at h
   ·rename_i hc
    cases h
    refine .here fun ρ => ⟨fun e => (by cases e), fun _ γ0 γ w p hρ ha => ?_⟩
    have e : c0 = ([] : List Value).toArray := by rw [← hc]
    subst e
    obtain ⟨b, δ, κ⟩ := p
    exact .frz [] E f b δ κ fun j x hx => by simp at hx
   ·rename_i x0 l hc
    split at h
    ·rename_i c E' f'
     refine (mtL_spec (R := fun ρ => rnV ρ 8) (mtV_spec 8) _ _ _ _ h).mono fun ρ hr => ⟨fun e => (by cases e), fun _ γ0 γ w p hρ ha => ?_⟩
     have e : c0 = (x0 :: l).toArray := by rw [← hc]
     subst e
     have ha := ha.dem
     have ec : c = c.toList.toArray := by simp
     generalize c.toList = cl at ec hr
     subst ec
     cases ha with
     | frz _ _ _ b δ κ h1 =>
      refine .frz _ E f b δ κ fun j y hy => ?_
      obtain ⟨e1, e2⟩ := rnL_spec hr
      have hj : j < (x0 :: l).length := (List.getElem?_eq_some_iff.1 hy).1
      have hj2 : j < (cl.take (l.length + 1)).length := by omega
      have hz := List.getElem?_eq_getElem hj2
      have hrn := e2 j y _ hy hz
      rw [List.getElem?_take] at hz
      have hz2 : cl[j]? = some (cl.take (l.length + 1))[j] := by
       split at hz
       ·exact hz
       ·cases hz
      obtain ⟨z, b1, b2⟩ := h1 j _ hz2
      exact ⟨z, b1, (rnV_spec hρ 8 _ _ hrn z).2 b2⟩
    ·cases h
  ·rename_i es0 cl0
   split at h
   ·rename_i es cl
    refine (mtE_spec _ _ _ _ h).mono fun ρ hr => ⟨fun e => (by cases e), fun _ γ0 γ w p hρ ha => ?_⟩
    have e : es = es.toList.toArray := by simp
    have e0 : es0 = es0.toList.toArray := by simp
    generalize es.toList = el at e hr
    generalize es0.toList = el0 at e0 hr
    subst e e0
    obtain ⟨_, e1, e2⟩ := hr
    cases ha with
    | map _ _ es' _ cl' b κ h1 h2 h3 h4 =>
     refine .map false el0 es' cl0 cl' b κ h1 (by omega) (fun j y z hy hz => ?_) (fun e => by cases e)
     have hj : j < el.length := by have := (List.getElem?_eq_some_iff.1 hy).1; omega
     have hx := List.getElem?_eq_getElem hj
     obtain ⟨a1, a2⟩ := e2 j y _ hy hx
     obtain ⟨b1, b2, b3⟩ := h3 j _ z hx hz
     exact ⟨(rnV_spec hρ 8 _ _ a1 _).2 b1, (rnV_spec hρ 8 _ _ a2 _).2 b2, fun e => by cases e⟩
   ·cases h
  ·cases h
structure Ent where
 args : List Value
 objs : List Ab
 r : Value
 ups : List (Nat × Option Ab)
 nx : Nat
def mtObjs (gv : Nat → Option Ab) : List Ab → Nat → List Nat → Option (List Nat)
 | [], _, bs => some bs
 | a0 :: l, j, bs => match bs[j]? with
  | some id => match gv id with
   | some a => match mtO a0 a bs with
    | some b1 => mtObjs gv l (j + 1) b1
    | none => none
   | none => none
  | none => none
def matchE (gv : Nat → Option Ab) (e : Ent) (args : List Value) : Option (List Nat) := match mtL (mtV 8) e.args args [] with
 | some b1 => match mtObjs gv e.objs 0 b1 with
  | some bs => match Nat.beq bs.length e.objs.length with
   | true => some bs
   | false => none
  | none => none
 | none => none
theorem mtObjs_spec {gv : Nat → Option Ab} : ∀ (l : List Ab) (j : Nat) (bs bs' : List Nat), mtObjs gv l j bs = some bs' → Mt bs bs' fun ρ => ∀ (i : Nat) (a0 : Ab), l[i]? = some a0 → ∃ id a, bs'[j + i]? = some id ∧ gv id = some a ∧ ObjOk ρ a0 a
 | [], j, bs, bs', h => by cases h; exact .here fun ρ i a0 hi => by simp at hi
 | a0 :: l, j, bs, bs', h => by
  simp only [mtObjs] at h
  split at h
  ·rename_i id hid
   split at h
   ·rename_i a ha
    split at h
    ·rename_i b1 h1
     have m1 := mtO_spec h1
     have m2 := mtObjs_spec l (j + 1) _ _ h
     obtain ⟨t1, e1⟩ := m1.ext
     obtain ⟨t2, e2⟩ := m2.ext
     refine m1.trans m2 fun ρ q1 q2 i x hx => ?_
     cases i with
     | zero =>
      simp at hx
      subst hx
      refine ⟨id, a, ?_, ha, q1⟩
      have hl := (List.getElem?_eq_some_iff.1 hid).1
      rw [e2, e1, List.append_assoc, List.getElem?_append_left (by simpa using hl)]
      simpa using hid
     | succ i =>
      have := q2 i x (by simpa using hx)
      rwa [show j + (i + 1) = j + 1 + i by omega]
    ·cases h
   ·cases h
  ·cases h
structure MatchOk (gv : Nat → Option Ab) (e : Ent) (args : List Value) (bs : List Nat) : Prop where
 nd : bs.Nodup
 len : bs.length = e.objs.length
 args : ∀ ρ : Nat → Option Nat, (∀ (i x : Nat), bs[i]? = some x → ρ i = some x) → rnL (rnV ρ 8) e.args = some args
 objs : ∀ ρ : Nat → Option Nat, (∀ (i x : Nat), bs[i]? = some x → ρ i = some x) → ∀ (i : Nat) (a0 : Ab), e.objs[i]? = some a0 → ∃ id a, bs[i]? = some id ∧ gv id = some a ∧ ObjOk ρ a0 a
theorem matchE_spec {gv : Nat → Option Ab} {e : Ent} {args : List Value} {bs : List Nat} (h : matchE gv e args = some bs) : MatchOk gv e args bs := by
 unfold matchE at h
 split at h
 ·rename_i b1 h1
  split at h
  ·rename_i b2 h2
   split at h
   ·rename_i hl
    cases h
    have m1 := mtL_spec (R := fun ρ => rnV ρ 8) (mtV_spec 8) _ _ _ _ h1
    have m2 := mtObjs_spec _ _ _ _ h2
    obtain ⟨t2, e2⟩ := m2.ext
    exact ⟨m2.nd (m1.nd List.nodup_nil), Nat.eq_of_beq_eq_true hl, fun ρ hr => m1.ok ρ (by subst e2; exact ext_ok hr), fun ρ hr i a0 hi => by have := m2.ok ρ hr i a0 hi; rwa [Nat.zero_add] at this⟩
   ·cases h
  ·cases h
 ·cases h
def heapT : List Ab → Nat → Tr Ab → Tr Ab
 | [], _, t => t
 | a :: l, j, t => heapT l (j + 1) (putT t j (some a))
def heapOf (l : List Ab) : Hp := ⟨heapT l 0 .e, l.length⟩
theorem heapT_get : ∀ (l : List Ab) (j : Nat) (t : Tr Ab) (i : Nat), (heapT l j t).get i = if j ≤ i ∧ i < j + l.length then l[i - j]? else t.get i
 | [], j, t, i => by
  rw [if_neg (by simp)]; rfl
 | a :: l, j, t, i => by
  rw [heapT, heapT_get l]
  by_cases h1 : i = j
  ·subst h1
   rw [if_neg (by omega), if_pos (by simp), get_putT, updF_same]
   simp
  ·by_cases h2 : j + 1 ≤ i ∧ i < j + 1 + l.length
   ·rw [if_pos h2, if_pos (by simp; omega), show i - j = (i - (j + 1)) + 1 by omega]
    simp
   ·rw [if_neg h2, if_neg (by simp; omega), get_putT, updF_ne _ _ h1]
theorem heapOf_get (l : List Ab) : (heapOf l).t.get = fun i => l[i]? := by
 funext i
 unfold heapOf
 rw [heapT_get]
 by_cases h : i < l.length
 ·rw [if_pos (by simpa using h)]; simp
 ·rw [if_neg (by simpa using h), List.getElem?_eq_none (by omega)]; rfl
structure EntOk (P : Program) (g : FuncId) (e : Ent) : Prop where
 call : ∃ outs : List (Value × Hp), CallS P g e.args (heapOf e.objs) outs ∧ ∀ r ∈ outs, r.1 = e.r ∧ (∀ id ab, lookU e.ups (fun i => e.objs[i]?) id = some ab → r.2.t.get id = some ab) ∧ r.2.nx ≤ e.nx
 own : ∀ k ab, (k, some ab) ∈ e.ups → ab.own = true
def rnR (bs : List Nat) (k lo nx : Nat) (r : Nat) : Option Nat := match Nat.blt r k with
 | true => bs[r]?
 | false => match Nat.blt r nx with
  | true => some (lo + (r - k))
  | false => none
def rnU (ρ : Nat → Option Nat) : List (Nat × Option Ab) → Option (List (Nat × Option Ab))
 | [] => some []
 | (k, x) :: r => match ρ k, rnU ρ r with
  | some b, some l => match x with
   | none => some ((b, none) :: l)
   | some ab => match rnO ρ ab.o with
    | some o => some ((b, some ⟨ab.own, o⟩) :: l)
    | none => none
  | _, _ => none
def RnX (ρ : Nat → Option Nat) (x x' : Option Ab) : Prop := match x, x' with
 | none, none => True
 | some ab, some ab' => ab'.own = ab.own ∧ rnO ρ ab.o = some ab'.o
 | _, _ => False
theorem rnU_cons {ρ : Nat → Option Nat} {k : Nat} {x : Option Ab} {r u : List (Nat × Option Ab)} (h : rnU ρ ((k, x) :: r) = some u) : ∃ b x' l, ρ k = some b ∧ RnX ρ x x' ∧ rnU ρ r = some l ∧ u = (b, x') :: l := by
 simp only [rnU] at h
 split at h
 ·rename_i b l h1 h2
  split at h
  ·cases h; exact ⟨b, none, l, h1, trivial, h2, rfl⟩
  ·rename_i ab
   split at h
   ·rename_i o ho
    cases h
    exact ⟨b, some ⟨ab.own, o⟩, l, h1, ⟨rfl, ho⟩, h2, rfl⟩
   ·cases h
 ·cases h
theorem rnU_from {ρ : Nat → Option Nat} : ∀ (ups u : List (Nat × Option Ab)), rnU ρ ups = some u → ∀ id x', lookK u id = some x' → ∃ k x, ρ k = some id ∧ lookK ups k = some x ∧ (k, x) ∈ ups ∧ RnX ρ x x'
 | [], u, h, id, x', hl => by cases h; cases hl
 | (k, x) :: r, u, h, id, x', hl => by
  obtain ⟨b, x1, l, h1, h2, h3, rfl⟩ := rnU_cons h
  simp only [lookK] at hl
  split at hl
  ·rename_i e
   cases hl
   have e := Nat.eq_of_beq_eq_true e
   subst e
   exact ⟨k, x, h1, by simp [lookK, Nat.beq_refl], by simp, h2⟩
  ·rename_i e
   obtain ⟨k', y, a1, a2, a3, a4⟩ := rnU_from r l h3 id x' hl
   refine ⟨k', y, a1, ?_, by simp [a3], a4⟩
   simp only [lookK]
   split
   ·rename_i e2
    have e2 := Nat.eq_of_beq_eq_true e2
    subst e2
    rw [a1] at h1
    cases h1
    rw [Nat.beq_refl] at e
    cases e
   ·exact a2
theorem rnU_to {ρ : Nat → Option Nat} (hinj : ∀ k k' b, ρ k = some b → ρ k' = some b → k = k') : ∀ (ups u : List (Nat × Option Ab)), rnU ρ ups = some u → ∀ k x b, ρ k = some b → lookK ups k = some x → ∃ x', lookK u b = some x' ∧ RnX ρ x x'
 | [], u, h, k, x, b, _, hl => by cases hl
 | (k0, x0) :: r, u, h, k, x, b, hb, hl => by
  obtain ⟨b0, x1, l, h1, h2, h3, rfl⟩ := rnU_cons h
  simp only [lookK] at hl ⊢
  split at hl
  ·rename_i e
   cases hl
   have e := Nat.eq_of_beq_eq_true e
   subst e
   rw [h1] at hb
   cases hb
   exact ⟨x1, by rw [Nat.beq_refl], h2⟩
  ·rename_i e
   have : Nat.beq b b0 = false := by
    cases hc : Nat.beq b b0 with
    | false => rfl
    | true =>
     have := Nat.eq_of_beq_eq_true hc
     subst this
     rw [hinj k k0 b hb h1, Nat.beq_refl] at e
     cases e
   rw [this]
   exact rnU_to hinj r l h3 k x b hb hl
end Go.Kr
end
