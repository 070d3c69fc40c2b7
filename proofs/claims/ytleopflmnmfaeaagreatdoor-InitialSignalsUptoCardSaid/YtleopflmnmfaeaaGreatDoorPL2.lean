/-
A part of the proof that the statement InitialValues holds of the given program (second form, tied card): drawn regions under the evaluator.
-/
import Derived.Test.YtleopflmnmfaeaaGreatDoorPM
import Derived.Test.YtleopflmnmfaeaaGreatDoorPL1
set_option autoImplicit false
set_option linter.unusedSimpArgs false
set_option linter.unusedVariables false
set_option linter.unnecessarySimpa false
section
namespace Go.Kr
structure OrcSOk (P : Program) (orcS : OrcS) : Prop where
 call : ∀ g args gv lo v u nx', (goodF P g).isSome = true → orcS g args gv lo = some (v, u, nx') → ∀ (H : Nat → Option Ab) (γ : Gm) (w : World) (vs : List Value) (hi : Nat), (∀ id ab, gv id = some ab → H id = some ab) → HR H γ w → Free γ lo hi → nx' ≤ hi → LR γ args vs →
  Calls P g vs.toArray w fun e w' => ∃ v' γ', e = .returned v' ∧ VR γ' v v' ∧ Post H lo hi γ w (lookU u H) nx' γ' w'
section
variable {P : Program} {cl : Clf} {orcS : OrcS} {A : Array Oper} {M : List Nat} {n : Nat}
structure CallC (P : Program) (r : Rc) (g : FuncId) (vs : List Value) : Prop where
 call : ∃ c f, r.o.op = .call c ∧ c.callee = .value f ∧ calleeA r.s f c.args = some (g, vs)
 good : (goodF P g).isSome = true
def okK (P : Program) (cl : Clf) (orcS : OrcS) (A : Array Oper) (r : Rc) : Rk → Prop
 | .v => r.u = [] ∧ r.h' = r.h ∧ ((wants A r.s r.o = some false ∧ r.v = .tuple #[]) ∨ (wants A r.s r.o = some true ∧ vOp P (sev r.s) r.o = some r.v))
 | .s => wants A r.s r.o = some true ∧ r.h' = ⟨applyU r.u r.h.t, r.h.nx + 4⟩ ∧ ∃ m, op1 P (sev r.s) ⟨viewH r.h r.h.nx r.hid, [], r.h.nx, r.h.nx + 4, []⟩ r.o = some (r.v, m) ∧ m.u = r.u
 | .o g vs => wants A r.s r.o = some true ∧ CallC P r g vs ∧ ∃ nx', r.h' = ⟨applyU r.u r.h.t, nx'⟩ ∧ orcS g vs (viewH r.h r.h.nx r.hid) r.h.nx = some (r.v, r.u, nx')
 | .b g vs => wants A r.s r.o = some true ∧ CallC P r g vs ∧ cl g vs r.h = some (r.v, r.h')
structure OkR (P : Program) (cl : Clf) (orcS : OrcS) (A : Array Oper) (n : Nat) (r : Rc) : Prop where
 dst : dstOk r.o.dst n = true
 ops : opsOk r.o.op = true
 k : okK P cl orcS A r r.k
theorem stepD_ok {hid : List Nat} {s : Sl} {h : Hp} {o : Oper} {r : Rc} (hs : stepD P cl orcS A n hid s h o = some r) : OkR P cl orcS A n r ∧ r.o = o ∧ r.s = s ∧ r.h = h := by
 unfold stepD at hs
 split at hs
 ·cases hs
 ·rename_i hb
  simp only [Bool.and_eq_true] at hb
  split at hs
  ·cases hs
  ·rename_i hw
   cases hs
   exact ⟨⟨hb.1, hb.2, rfl, rfl, .inl ⟨hw, rfl⟩⟩, rfl, rfl, rfl⟩
  ·rename_i hw
   split at hs
   ·cases hs
   ·rename_i fo args hck
    obtain ⟨c, hc1, hc2, hc3⟩ := ckind_call hck
    subst hc3
    split at hs
    ·cases hs
    ·rename_i g vs hcal
     split at hs
     ·split at hs
      ·rename_i v hv
       cases hs
       exact ⟨⟨hb.1, hb.2, rfl, rfl, .inr ⟨hw, hv⟩⟩, rfl, rfl, rfl⟩
      ·cases hs
     ·rename_i x hgood
      unfold stepC at hs
      split at hs
      ·rename_i v u nx' horc
       cases hs
       exact ⟨⟨hb.1, hb.2, hw, ⟨⟨c, fo, hc1, hc2, hcal⟩, by rw [hgood]; rfl⟩, nx', rfl, horc⟩, rfl, rfl, rfl⟩
      ·split at hs
       ·rename_i v h' hcl
        cases hs
        exact ⟨⟨hb.1, hb.2, hw, ⟨⟨c, fo, hc1, hc2, hcal⟩, by rw [hgood]; rfl⟩, hcl⟩, rfl, rfl, rfl⟩
       ·cases hs
   ·split at hs
    ·rename_i v hv
     cases hs
     exact ⟨⟨hb.1, hb.2, rfl, rfl, .inr ⟨hw, hv⟩⟩, rfl, rfl, rfl⟩
    ·split at hs
     ·rename_i v m h1
      cases hs
      exact ⟨⟨hb.1, hb.2, hw, rfl, m, h1, rfl⟩, rfl, rfl, rfl⟩
     ·cases hs
inductive Tx (P : Program) (cl : Clf) (orcS : OrcS) (A : Array Oper) (n : Nat) : List Oper → Sl → Hp → List Rc → Sl → Hp → Prop
 | nil (s : Sl) (h : Hp) : Tx P cl orcS A n [] s h [] s h
 | cons (os : List Oper) (r : Rc) (rs : List Rc) (s' : Sl) (h' : Hp) (hr : OkR P cl orcS A n r) (ht : Tx P cl orcS A n os (sputT r.s r.o.dst r.v) r.h' rs s' h') : Tx P cl orcS A n (r.o :: os) r.s r.h (r :: rs) s' h'
theorem goD_tx : ∀ (os : List Oper) (j : Nat) (s : Sl) (h : Hp) (acc : List (Nat × List Nat)) (s' : Sl) (h' : Hp) (rs : List Rc), goD P cl orcS A M n os j s h acc = some (s', h', rs) → Tx P cl orcS A n os s h rs s' h'
 | [], j, s, h, acc, s', h', rs, hg => by cases hg; exact .nil s h
 | o :: os, j, s, h, acc, s', h', rs, hg => by
  simp only [goD] at hg
  split at hg
  ·cases hg
  ·rename_i r hr
   split at hg
   ·cases hg
   ·rename_i s1 h1 rs1 hgo
    cases hg
    obtain ⟨h1, rfl, rfl, rfl⟩ := stepD_ok hr
    exact .cons os r _ _ _ h1 (goD_tx os _ _ _ _ _ _ _ hgo)
theorem Tx.len {os : List Oper} {s : Sl} {h : Hp} {rs : List Rc} {s' : Sl} {h' : Hp} (ht : Tx P cl orcS A n os s h rs s' h') : rs.length = os.length := by
 induction ht with
 | nil => rfl
 | cons os r rs s' h' hr ht ih => simp [ih]
theorem Tx.at_ {os : List Oper} {s : Sl} {h : Hp} {rs : List Rc} {s' : Sl} {h' : Hp} (ht : Tx P cl orcS A n os s h rs s' h') : ∀ (j : Nat) (r : Rc), rs[j]? = some r → OkR P cl orcS A n r ∧ os[j]? = some r.o := by
 induction ht with
 | nil => intro j r h; simp at h
 | cons os r0 rs s' h' hr ht ih =>
  intro j r h
  cases j with
  | zero => simp at h; subst h; exact ⟨hr, by simp⟩
  | succ j => simpa using ih j r (by simpa using h)
theorem get_eff (r : Rc) (hk : okK P cl orcS A r r.k) (id : Nat) : r.h'.t.get id = (r.sets id).getD (r.h.t.get id) := by
 unfold Rc.sets
 cases hkk : r.k with
 | v => rw [hkk] at hk; rw [hk.2.1]; rfl
 | s => rw [hkk] at hk; rw [hk.2.1]; simp only [get_applyU]; exact lookU_K _ _ _
 | o g vs => rw [hkk] at hk; obtain ⟨nx', e, _⟩ := hk.2.2; rw [e]; simp only [get_applyU]; exact lookU_K _ _ _
 | b g vs => rfl
theorem lastD_off {ε β : Type} {f : ε → Option β} (E : List ε) (m : Nat → Bool) (k : Nat) (h : ∀ i, k ≤ i → m i = false) : lastD f E m k = none :=
 lastD_none fun i e he hm => by rw [h (k + i) (by omega)] at hm; cases hm
theorem Tx.state {os : List Oper} {s : Sl} {h : Hp} {rs : List Rc} {s' : Sl} {h' : Hp} (ht : Tx P cl orcS A n os s h rs s' h') : ∀ (k j : Nat) (r : Rc), rs[j]? = some r →
  (∀ t, sget r.s t = (lastD (Rc.gets t) rs (Lw.upto (k + j)) k).getD (sget s t)) ∧ (∀ id, r.h.t.get id = (lastD (Rc.sets id) rs (Lw.upto (k + j)) k).getD (h.t.get id)) := by
 induction ht with
 | nil => intro k j r h; simp at h
 | cons os r0 rs s' h' hr ht ih =>
  intro k j r hj
  cases j with
  | zero =>
   simp at hj
   subst hj
   exact ⟨fun t => by rw [lastD_off _ _ _ fun i hi => by simp [Lw.upto]; omega]; rfl, fun id => by rw [lastD_off _ _ _ fun i hi => by simp [Lw.upto]; omega]; rfl⟩
  | succ j =>
   obtain ⟨h1, h2⟩ := ih (k + 1) j r (by simpa using hj)
   have hu : Lw.upto (k + (j + 1)) k = true := by simp [Lw.upto]
   refine ⟨fun t => ?_, fun id => ?_⟩
   ·rw [h1 t]
    simp only [lastD, hu, if_true]
    rw [show k + (j + 1) = k + 1 + j by omega]
    cases lastD (Rc.gets t) rs (Lw.upto (k + 1 + j)) (k + 1) with
    | some v => rfl
    | none =>
     simp only [Option.getD_none, Option.none_or]
     unfold Rc.gets
     cases hd : r0.o.dst with
     | none => rfl
     | some d =>
      rw [sget_put]
      by_cases e : t = d
      ·subst e; rw [if_pos rfl, if_pos rfl]; rfl
      ·rw [if_neg e, if_neg (by intro e'; cases e'; exact e rfl)]; rfl
   ·rw [h2 id]
    simp only [lastD, hu, if_true]
    rw [show k + (j + 1) = k + 1 + j by omega]
    cases lastD (Rc.sets id) rs (Lw.upto (k + 1 + j)) (k + 1) with
    | some v => rfl
    | none =>
     simp only [Option.getD_none, Option.none_or]
     exact get_eff r0 hr.k id
theorem Tx.fin {os : List Oper} {s : Sl} {h : Hp} {rs : List Rc} {s' : Sl} {h' : Hp} (ht : Tx P cl orcS A n os s h rs s' h') : ∀ (k : Nat),
  (∀ t, sget s' t = (lastD (Rc.gets t) rs (fun _ => true) k).getD (sget s t)) ∧ (∀ id, h'.t.get id = (lastD (Rc.sets id) rs (fun _ => true) k).getD (h.t.get id)) := by
 induction ht with
 | nil => intro k; exact ⟨fun _ => rfl, fun _ => rfl⟩
 | cons os r0 rs s' h' hr ht ih =>
  intro k
  obtain ⟨h1, h2⟩ := ih (k + 1)
  refine ⟨fun t => ?_, fun id => ?_⟩
  ·rw [h1 t]
   simp only [lastD, if_true]
   cases lastD (Rc.gets t) rs (fun _ => true) (k + 1) with
   | some v => rfl
   | none =>
    simp only [Option.getD_none, Option.none_or]
    unfold Rc.gets
    cases hd : r0.o.dst with
    | none => rfl
    | some d =>
     rw [sget_put]
     by_cases e : t = d
     ·subst e; rw [if_pos rfl, if_pos rfl]; rfl
     ·rw [if_neg e, if_neg (by intro e'; cases e'; exact e rfl)]; rfl
  ·rw [h2 id]
   simp only [lastD, if_true]
   cases lastD (Rc.sets id) rs (fun _ => true) (k + 1) with
   | some v => rfl
   | none =>
    simp only [Option.getD_none, Option.none_or]
    exact get_eff r0 hr.k id
def Unord (M : List Nat) (rs : List Rc) (i k : Nat) (x : Rc) : Prop := i ≠ k ∧ rs[k]? = some x ∧ x.k.isV = false ∧ Lw.pre M i k = false ∧ Lw.pre M k i = false
structure OkI (P : Program) (M : List Nat) (rs : List Rc) (i : Nat) (r : Rc) : Prop where
 le : r.h.nx ≤ r.h'.nx
 nob : ∀ k x, Unord M rs i k x → r.k.isB = false ∧ x.k.isB = false
 dis : ∀ k x, Unord M rs i k x → ∀ id, id ∈ keysU r.u → id ∉ keysU x.u
 hid : r.k.isB = false → ∃ hid, (∀ k x, Unord M rs i k x → ∀ id ∈ keysU x.u, id < r.h.nx → id ∈ hid) ∧ (∀ k ∈ r.hid, k ∈ hid) ∧ (hid = r.hid ∨ again P r hid = true)
theorem disjN_spec {l l' : List Nat} (h : disjN l l' = true) : ∀ id ∈ l, id ∉ l' := by
 induction l with
 | nil => intro id h; cases h
 | cons k r ih =>
  simp only [disjN] at h
  split at h
  ·cases h
  ·rename_i hm
   intro id hid hid'
   rcases List.mem_cons.1 hid with rfl | hid
   ·rw [memN_iff.2 hid'] at hm; cases hm
   ·exact ih h id hid hid'
theorem keepN_spec {lo : Nat} {hid : List Nat} {l acc : List Nat} : (∀ k ∈ acc, k ∈ keepN lo hid l acc) ∧ ∀ k ∈ l, k < lo → k ∈ hid ∨ k ∈ keepN lo hid l acc := by
 induction l with
 | nil => exact ⟨fun k h => h, fun k h => by cases h⟩
 | cons a r ih =>
  simp only [keepN]
  split
  ·split
   ·rename_i h1 h2
    refine ⟨ih.1, fun k hk hl => ?_⟩
    rcases List.mem_cons.1 hk with rfl | hk
    ·exact .inl (memN_iff.1 h2)
    ·exact ih.2 k hk hl
   ·refine ⟨fun k hk => List.mem_cons_of_mem _ (ih.1 k hk), fun k hk hl => ?_⟩
    rcases List.mem_cons.1 hk with rfl | hk
    ·exact .inr (by simp)
    ·rcases ih.2 k hk hl with h | h
     ·exact .inl h
     ·exact .inr (List.mem_cons_of_mem _ h)
  ·rename_i h1
   refine ⟨ih.1, fun k hk hl => ?_⟩
   rcases List.mem_cons.1 hk with rfl | hk
   ·have : Nat.blt k lo = true := by simp [Nat.blt]; omega
    rw [this] at h1; cases h1
   ·exact ih.2 k hk hl
theorem need_spec {i : Nat} {r : Rc} : ∀ {L : List (Nat × Rc)} {l : List Nat}, need M i r L = some l →
  (∀ k x, (k, x) ∈ L → i ≠ k → Lw.pre M i k = false → Lw.pre M k i = false → (r.k.isB = false ∧ x.k.isB = false) ∧ (∀ id ∈ keysU r.u, id ∉ keysU x.u) ∧ ∀ id ∈ keysU x.u, id < r.h.nx → id ∈ l ∨ id ∈ r.hid)
 | [], l, h => fun k x hm => by cases hm
 | (k0, x0) :: L, l, h => by
  intro k x hm hne h1 h2
  simp only [need] at h
  split at h
  ·rename_i e
   have e := Nat.eq_of_beq_eq_true e
   rcases List.mem_cons.1 hm with e2 | hm
   ·cases e2; exact absurd e hne
   ·exact need_spec h k x hm hne h1 h2
  ·split at h
   ·rename_i e
    rcases List.mem_cons.1 hm with e2 | hm
    ·cases e2; rw [h1] at e; cases e
    ·exact need_spec h k x hm hne h1 h2
   ·split at h
    ·rename_i e
     rcases List.mem_cons.1 hm with e2 | hm
     ·cases e2; rw [h2] at e; cases e
     ·exact need_spec h k x hm hne h1 h2
    ·split at h
     ·rename_i b1 b2
      split at h
      ·rename_i hd
       split at h
       ·rename_i acc hn
        cases h
        have ks := keepN_spec (lo := r.h.nx) (hid := r.hid) (l := keysU x0.u) (acc := acc)
        rcases List.mem_cons.1 hm with e2 | hm
        ·cases e2
         refine ⟨⟨b1, b2⟩, disjN_spec hd, fun id hid hlt => ?_⟩
         rcases ks.2 id hid hlt with h | h
         ·exact .inr h
         ·exact .inl h
        ·obtain ⟨a1, a2, a3⟩ := need_spec hn k x hm hne h1 h2
         refine ⟨a1, a2, fun id hid hlt => ?_⟩
         rcases a3 id hid hlt with h | h
         ·exact .inl (ks.1 id h)
         ·exact .inr h
       ·cases h
      ·cases h
     ·cases h
theorem memsD_spec : ∀ (rs : List Rc) (i j : Nat) (r : Rc), rs[j]? = some r → r.k.isV = false → (i + j, r) ∈ memsD rs i
 | [], i, j, r, h, _ => by simp at h
 | r0 :: rs, i, 0, r, h, hv => by
  simp at h
  subst h
  simp [memsD, hv]
 | r0 :: rs, i, j + 1, r, h, hv => by
  have := memsD_spec rs (i + 1) j r (by simpa using h) hv
  rw [show i + (j + 1) = i + 1 + j by omega]
  simp only [memsD]
  split
  ·exact this
  ·exact List.mem_cons_of_mem _ this
theorem chkD_spec {rs : List Rc} : ∀ {l : List (Nat × Rc)}, chkD P M (memsD rs 0) l = true → ∀ i r, (i, r) ∈ l → OkI P M rs i r
 | [], h => fun i r hm => by cases hm
 | (i0, r0) :: l, h => by
  intro i r hm
  simp only [chkD] at h
  split at h
  ·rename_i hle
   split at h
   ·rename_i hn
    rcases List.mem_cons.1 hm with e | hm
    ·cases e
     have sp := need_spec hn
     have un : ∀ k x, Unord M rs i0 k x → (k, x) ∈ memsD rs 0 := fun k x hu => by have := memsD_spec rs 0 k x hu.2.1 hu.2.2.1; rwa [Nat.zero_add] at this
     exact ⟨Nat.le_of_ble_eq_true hle, fun k x hu => (sp k x (un k x hu) hu.1 hu.2.2.2.1 hu.2.2.2.2).1, fun k x hu => (sp k x (un k x hu) hu.1 hu.2.2.2.1 hu.2.2.2.2).2.1, fun _ =>
      ⟨r0.hid, fun k x hu id hid hlt => by rcases (sp k x (un k x hu) hu.1 hu.2.2.2.1 hu.2.2.2.2).2.2 id hid hlt with h | h; cases h; exact h, fun _ h => h, .inl rfl⟩⟩
    ·exact chkD_spec h i r hm
   ·rename_i k1 ks hn
    split at h
    ·rename_i hag
     rcases List.mem_cons.1 hm with e | hm
     ·cases e
      have sp := need_spec hn
      have un : ∀ k x, Unord M rs i0 k x → (k, x) ∈ memsD rs 0 := fun k x hu => by have := memsD_spec rs 0 k x hu.2.1 hu.2.2.1; rwa [Nat.zero_add] at this
      exact ⟨Nat.le_of_ble_eq_true hle, fun k x hu => (sp k x (un k x hu) hu.1 hu.2.2.2.1 hu.2.2.2.2).1, fun k x hu => (sp k x (un k x hu) hu.1 hu.2.2.2.1 hu.2.2.2.2).2.1, fun _ =>
       ⟨k1 :: ks ++ r0.hid, fun k x hu id hid hlt => List.mem_append.2 ((sp k x (un k x hu) hu.1 hu.2.2.2.1 hu.2.2.2.2).2.2 id hid hlt), fun k hk => List.mem_append_right _ hk, .inr hag⟩⟩
     ·exact chkD_spec h i r hm
    ·cases h
   ·cases h
  ·cases h
end
end Go.Kr
end
section
namespace Go.Kr
structure Pw (H : Nat → Option Ab) (γ : Gm) (w : World) (H' : Nat → Option Ab) (γ' : Gm) (w' : World) : Prop where
 hr : HR H' γ' w'
 keep : Keep γ γ'
 size : w.heap.size ≤ w'.heap.size
 os : w'.os = w.os
 tape : w'.tape = w.tape
 output : w'.output = w.output
 out : ∀ b, b < w.heap.size → ¬ Own H γ b → w'.heap[b]? = w.heap[b]?
 own : ∀ b, Own H' γ' b → Own H γ b ∨ w.heap.size ≤ b
theorem Pw.refl {H : Nat → Option Ab} {γ : Gm} {w : World} (h : HR H γ w) : Pw H γ w H γ w := ⟨h, .refl γ, Nat.le_refl _, rfl, rfl, rfl, fun _ _ _ => rfl, fun _ h => .inl h⟩
theorem Pw.trans {H H1 H2 : Nat → Option Ab} {γ γ1 γ2 : Gm} {w w1 w2 : World} (h : Pw H γ w H1 γ1 w1) (k : Pw H1 γ1 w1 H2 γ2 w2) : Pw H γ w H2 γ2 w2 where
 hr := k.hr
 keep := h.keep.trans k.keep
 size := Nat.le_trans h.size k.size
 os := k.os.trans h.os
 tape := k.tape.trans h.tape
 output := k.output.trans h.output
 out := fun b hb ho => (k.out b (Nat.lt_of_lt_of_le hb h.size) (fun h1 => by
  rcases h.own b h1 with h2 | h2
  ·exact ho h2
  ·omega)).trans (h.out b hb ho)
 own := fun b hb => by
  rcases k.own b hb with h1 | h1
  ·exact h.own b h1
  ·exact .inr (Nat.le_trans h.size h1)
theorem Post.pw {H H' : Nat → Option Ab} {γ γ' : Gm} {w w' : World} {nx nx' hi : Nat} (h : Post H nx hi γ w H' nx' γ' w') : Pw H γ w H' γ' w' := ⟨h.hr, h.keep, h.size, h.os, h.tape, h.output, h.out, h.own⟩
section
variable {P : Program} {cl : Clf} {orcS : OrcS} {A : Array Oper} {M : List Nat} {n : Nat}
theorem Tx.chain {os : List Oper} {s : Sl} {h : Hp} {rs : List Rc} {s' : Sl} {h' : Hp} (ht : Tx P cl orcS A n os s h rs s' h') : (∀ r ∈ rs, r.h.nx ≤ r.h'.nx) →
  h.nx ≤ h'.nx ∧ ∀ (j : Nat) (r : Rc), rs[j]? = some r → h.nx ≤ r.h.nx ∧ r.h'.nx ≤ h'.nx ∧ ∀ (i : Nat) (r' : Rc), i < j → rs[i]? = some r' → r'.h'.nx ≤ r.h.nx := by
 induction ht with
 | nil => intro _; exact ⟨Nat.le_refl _, fun j r h => by simp at h⟩
 | cons os r0 rs s' h' hr ht ih =>
  intro hall
  have h0 := hall r0 (by simp)
  obtain ⟨i1, i2⟩ := ih fun r hr => hall r (by simp [hr])
  refine ⟨Nat.le_trans h0 i1, fun j r hj => ?_⟩
  cases j with
  | zero => simp at hj; subst hj; exact ⟨Nat.le_refl _, i1, fun i r' hi => by omega⟩
  | succ j =>
   obtain ⟨a1, a2, a3⟩ := i2 j r (by simpa using hj)
   refine ⟨Nat.le_trans h0 a1, a2, fun i r' hi hr' => ?_⟩
   cases i with
   | zero => simp at hr'; subst hr'; exact a1
   | succ i => exact a3 i r' (by omega) (by simpa using hr')
structure Rg (P : Program) (cl : Clf) (orcS : OrcS) (A : Array Oper) (M : List Nat) (n : Nat) (s0 : Sl) (h0 : Hp) (rs : List Rc) (sE : Sl) (hE : Hp) : Prop where
 st : Lw.Stat A M
 tx : Tx P cl orcS A n A.toList s0 h0 rs sE hE
 ck : ∀ i r, rs[i]? = some r → r.k.isV = false → OkI P M rs i r
 top : hE.nx ≤ HI
 orc : OrcSOk P orcS
 clf : ∀ g args h r, cl g args h = some r → CallS P g args h [r] ∧ (goodF P g).isSome = true
variable {s0 : Sl} {h0 : Hp} {rs : List Rc} {sE : Sl} {hE : Hp}
def slotM (s0 : Sl) (rs : List Rc) (m : Nat → Bool) (t : Nat) : Value := (lastD (Rc.gets t) rs m 0).getD (sget s0 t)
def memM (h0 : Hp) (rs : List Rc) (m : Nat → Bool) (id : Nat) : Option Ab := (lastD (Rc.sets id) rs m 0).getD (h0.t.get id)
theorem Rg.le (R : Rg P cl orcS A M n s0 h0 rs sE hE) : ∀ r ∈ rs, r.h.nx ≤ r.h'.nx := fun r hr => by
 obtain ⟨i, hi⟩ := List.mem_iff_getElem?.1 hr
 cases hv : r.k.isV with
 | false => exact (R.ck i r hi hv).le
 | true =>
  have h1 := (R.tx.at_ i r hi).1.k
  cases hk : r.k with
  | v => rw [hk] at h1; rw [h1.2.1]; exact Nat.le_refl _
  | _ => rw [hk] at hv; cases hv
theorem Rg.at_ (R : Rg P cl orcS A M n s0 h0 rs sE hE) {j : Nat} {r : Rc} (hj : rs[j]? = some r) : A[j]? = some r.o := by
 have := (R.tx.at_ j r hj).2; simpa using this
theorem Rg.slotAt (R : Rg P cl orcS A M n s0 h0 rs sE hE) {j : Nat} {r : Rc} (hj : rs[j]? = some r) (t : Nat) : sget r.s t = slotM s0 rs (Lw.upto j) t := by
 have := (R.tx.state 0 j r hj).1 t; rwa [Nat.zero_add] at this
theorem Rg.memAt (R : Rg P cl orcS A M n s0 h0 rs sE hE) {j : Nat} {r : Rc} (hj : rs[j]? = some r) (id : Nat) : r.h.t.get id = memM h0 rs (Lw.upto j) id := by
 have := (R.tx.state 0 j r hj).2 id; rwa [Nat.zero_add] at this
structure En (A : Array Oper) (m : Nat → Bool) (j : Nat) (o : Oper) : Prop where
 cl : Lw.Closed A m
 op : A[j]? = some o
 un : m j = false
 pre : ∀ e ∈ o.after.toList, Region.binds .any e = true → m e.on = true
theorem En.order (R : Rg P cl orcS A M n s0 h0 rs sE hE) {m : Nat → Bool} {j : Nat} {o : Oper} (h : En A m j o) : ∀ i, i ≠ j → ∀ o', A[i]? = some o' → (Lw.pre M i j = true ∨ Lw.pre M j i = true) → m i = decide (i < j) := by
 intro i hne o' hi hp
 have hall : ∀ k, k < A.size → ∃ o, A[k]? = some o := fun k hk => ⟨_, Array.getElem?_eq_getElem hk⟩
 have hjs := (Array.getElem?_eq_some_iff.1 h.op).1
 have his := (Array.getElem?_eq_some_iff.1 hi).1
 rcases hp with hp | hp
 ·have := R.st.lt j o h.op i hp (fun k hk => hall k (by omega))
  rw [R.st.closed h.cl j o h.op h.pre i hp]
  simp [this]
 ·have hlt := R.st.lt i o' hi j hp (fun k hk => hall k (by omega))
  have : m i = false := by
   cases hmi : m i with
   | false => rfl
   | true =>
    have := R.st.closed h.cl i o' hi (h.cl i o' hi hmi) j hp
    rw [h.un] at this
    cases this
  rw [this]
  simp; omega
theorem En.after (R : Rg P cl orcS A M n s0 h0 rs sE hE) {m : Nat → Bool} {j : Nat} {o : Oper} (h : En A m j o) {i : Nat} {o' : Oper} (hi : A[i]? = some o') (hmi : m i = true) : Lw.pre M j i = false := by
 cases hp : Lw.pre M j i with
 | false => rfl
 | true =>
  have := R.st.closed h.cl i o' hi (h.cl i o' hi hmi) j hp
  rw [h.un] at this
  cases this
theorem En.slot (R : Rg P cl orcS A M n s0 h0 rs sE hE) {m : Nat → Bool} {j : Nat} {r : Rc} (hj : rs[j]? = some r) (h : En A m j r.o) {t : Nat} (ht : t ∈ Oper.looksAt A r.o) : slotM s0 rs m t = sget r.s t := by
 rw [R.slotAt hj]
 unfold slotM
 congr 1
 refine lastD_congr fun i r' hi hf => ?_
 rw [Nat.zero_add]
 by_cases hne : i = j
 ·subst hne; rw [h.un]; simp [Lw.upto]
 ·have hdst : r'.o.dst = some t := by
   unfold Rc.gets at hf
   split at hf
   ·assumption
   ·exact absurd rfl hf
  have hia := R.at_ hi
  refine h.order R i hne r'.o hia ?_
  rcases Nat.lt_or_ge i j with hlt | hge
  ·rcases R.st.apart i j r.o r'.o hlt h.op hia with hp | hp
   ·exact .inl hp
   ·exact absurd ht ((Oper.apart_spec hp).1 t hdst)
  ·rcases R.st.apart j i r'.o r.o (by omega) hia h.op with hp | hp
   ·exact .inr hp
   ·exact absurd ht ((Oper.apart_spec hp).2.2 t hdst)
theorem En.mem (R : Rg P cl orcS A M n s0 h0 rs sE hE) {m : Nat → Bool} {j : Nat} {r : Rc} (hj : rs[j]? = some r) (h : En A m j r.o) {id : Nat} (hid : ∀ k x, Unord M rs j k x → x.sets id = none) : memM h0 rs m id = r.h.t.get id := by
 rw [R.memAt hj]
 unfold memM
 congr 1
 refine lastD_congr fun i r' hi hf => ?_
 rw [Nat.zero_add]
 by_cases hne : i = j
 ·subst hne; rw [h.un]; simp [Lw.upto]
 ·have hia := R.at_ hi
  refine h.order R i hne r'.o hia ?_
  cases h1 : Lw.pre M i j with
  | true => exact .inl rfl
  | false =>
   cases h2 : Lw.pre M j i with
   | true => exact .inr rfl
   | false =>
    have hnv : r'.k.isV = false := by
     cases hv : r'.k.isV with
     | false => rfl
     | true =>
      exfalso
      unfold Rc.sets at hf
      cases hk : r'.k with
      | v => rw [hk] at hf; exact hf rfl
      | _ => rw [hk] at hv; cases hv
    exact absurd (hid i r' ⟨fun e => hne e.symm, hi, hnv, h2, h1⟩) hf
theorem En.slotIns (R : Rg P cl orcS A M n s0 h0 rs sE hE) {m m' : Nat → Bool} {j : Nat} {r : Rc} (hj : rs[j]? = some r) (h : En A m j r.o) (hm : ∀ i, m' i = (m i || i == j)) (t : Nat) : slotM s0 rs m' t = (r.gets t).getD (slotM s0 rs m t) := by
 unfold slotM
 rw [lastD_ins (f := Rc.gets t) hj (m := m) (m' := m') (by intro i; rw [hm, Nat.zero_add]) fun i r' hlt hi hmi => ?_]
 ·cases r.gets t <;> simp
 ·rw [Nat.zero_add] at hmi
  have hia := R.at_ hi
  have hp := h.after R hia hmi
  rcases R.st.apart j i r'.o r.o hlt hia h.op with h1 | h1
  ·rw [hp] at h1; cases h1
  ·unfold Rc.gets
   by_cases h2 : r.o.dst = some t
   ·right
    rw [if_neg]
    exact (Oper.apart_spec h1).2.1 t h2
   ·left; rw [if_neg h2]
theorem En.memIns (R : Rg P cl orcS A M n s0 h0 rs sE hE) {m m' : Nat → Bool} {j : Nat} {r : Rc} (hj : rs[j]? = some r) (h : En A m j r.o) (hm : ∀ i, m' i = (m i || i == j)) (id : Nat) : memM h0 rs m' id = (r.sets id).getD (memM h0 rs m id) := by
 unfold memM
 rw [lastD_ins (f := Rc.sets id) hj (m := m) (m' := m') (by intro i; rw [hm, Nat.zero_add]) fun i r' hlt hi hmi => ?_]
 ·cases r.sets id <;> simp
 ·rw [Nat.zero_add] at hmi
  have hia := R.at_ hi
  have hp := h.after R hia hmi
  have hall : ∀ k, k < A.size → ∃ o, A[k]? = some o := fun k hk => ⟨_, Array.getElem?_eq_getElem hk⟩
  have hp2 : Lw.pre M i j = false := by
   cases hc : Lw.pre M i j with
   | false => rfl
   | true =>
    have := R.st.lt j r.o h.op i hc (fun k hk => hall k (by have := (Array.getElem?_eq_some_iff.1 h.op).1; omega))
    omega
  cases hv : r.k.isV with
  | true =>
   left
   unfold Rc.sets
   cases hk : r.k with
   | v => rfl
   | _ => rw [hk] at hv; cases hv
  | false =>
   cases hv' : r'.k.isV with
   | true =>
    right
    unfold Rc.sets
    cases hk : r'.k with
    | v => rfl
    | _ => rw [hk] at hv'; cases hv'
   | false =>
    have hu : Unord M rs j i r' := ⟨by omega, hi, hv', hp, hp2⟩
    have ck := R.ck j r hj hv
    obtain ⟨b1, b2⟩ := ck.nob i r' hu
    have dis := ck.dis i r' hu id
    by_cases h1 : r.sets id = none
    ·exact .inl h1
    ·right
     have k1 : id ∈ keysU r.u := by
      unfold Rc.sets at h1
      cases hk : r.k with
      | v => rw [hk] at hv; cases hv
      | b g vs => rw [hk] at b1; cases b1
      | s => rw [hk] at h1; exact lookK_mem h1
      | o g vs => rw [hk] at h1; exact lookK_mem h1
     have k2 := dis k1
     unfold Rc.sets
     cases hk : r'.k with
     | v => rfl
     | b g vs => rw [hk] at b2; cases b2
     | s => exact Classical.byContradiction fun h3 => k2 (lookK_mem h3)
     | o g vs => exact Classical.byContradiction fun h3 => k2 (lookK_mem h3)
end
end Go.Kr
end
section
namespace Go.Kr
section
variable {P : Program} {cl : Clf} {orcS : OrcS} {A : Array Oper} {M : List Nat} {n : Nat} {s0 : Sl} {h0 : Hp} {rs : List Rc} {sE : Sl} {hE : Hp} {γ0 : Gm} {w0 : World}
structure Inv (n : Nat) (s0 : Sl) (h0 : Hp) (rs : List Rc) (γ0 : Gm) (w0 : World) (m : Nat → Bool) (a : Act) (w : World) (γ : Gm) : Prop where
 defers : a.defers = []
 size : a.tmps.size = n
 slot : ∀ t, VR γ (slotM s0 rs m t) (a.tmps.getD t undef)
 pw : Pw h0.t.get γ0 w0 (memM h0 rs m) γ w
 unb : ∀ id, ¬ (h0.nx ≤ id ∧ id < HI) → γ0 id = none → γ id = none
 born : ∀ id, h0.nx ≤ id → id < HI → γ id ≠ none → ∃ (i : Nat) (r : Rc), rs[i]? = some r ∧ m i = true ∧ r.h.nx ≤ id ∧ id < r.h'.nx
theorem Inv.next (R : Rg P cl orcS A M n s0 h0 rs sE hE) {m m' : Nat → Bool} {j : Nat} {r : Rc} (hj : rs[j]? = some r) (h : En A m j r.o) (hm : ∀ i, m' i = (m i || i == j)) {a : Act} {w w' : World} {γ γ' : Gm}
  (hi : Inv n s0 h0 rs γ0 w0 m a w γ) {v' : Value} (hv : VR γ' r.v v') (hp : Pw (memM h0 rs m) γ w (memM h0 rs m') γ' w') (hu : ∀ id, ¬ (r.h.nx ≤ id ∧ id < r.h'.nx) → γ id = none → γ' id = none) : Inv n s0 h0 rs γ0 w0 m' (a.put r.o.dst v') w' γ' := by
 have hd := (R.tx.at_ j r hj).1.dst
 have hch := (R.tx.chain R.le).2 j r hj
 refine ⟨?_, ?_, fun t => ?_, hi.pw.trans hp, fun id h1 h2 => hu id (fun h3 => h1 ⟨Nat.le_trans hch.1 h3.1, Nat.lt_of_lt_of_le h3.2 (Nat.le_trans hch.2.1 R.top)⟩) (hi.unb id h1 h2), fun id h1 h2 h3 => ?_⟩
 ·cases hdd : r.o.dst <;> exact hi.defers
 ·cases hdd : r.o.dst with
  | none => exact hi.size
  | some t => simp [Act.put, hi.size]
 ·rw [h.slotIns R hj hm]
  unfold Rc.gets
  cases hdd : r.o.dst with
  | none => exact (hi.slot t).keep hp.keep
  | some d =>
   rw [hdd] at hd
   have hlt : d < n := by
    have hd : Nat.blt d n = true := hd
    exact blt_lt hd
   simp only [Act.put]
   by_cases e : t = d
   ·subst e
    rw [if_pos rfl, Array.getD_eq_getD_getElem?, Array.getElem?_setIfInBounds_self_of_lt (by rw [hi.size]; exact hlt)]
    exact hv
   ·rw [if_neg (by intro e'; cases e'; exact e rfl), Array.getD_eq_getD_getElem?, Array.getElem?_setIfInBounds_ne (fun e' => e e'.symm), ← Array.getD_eq_getD_getElem?]
    exact (hi.slot t).keep hp.keep
 ·by_cases h4 : r.h.nx ≤ id ∧ id < r.h'.nx
  ·exact ⟨j, r, hj, by rw [hm]; simp, h4.1, h4.2⟩
  ·obtain ⟨i, r', a1, a2, a3, a4⟩ := hi.born id h1 h2 fun e => h3 (hu id h4 e)
   exact ⟨i, r', a1, by rw [hm, a2]; rfl, a3, a4⟩
theorem Inv.free (R : Rg P cl orcS A M n s0 h0 rs sE hE) {m : Nat → Bool} {j : Nat} {r : Rc} (hj : rs[j]? = some r) (hun : m j = false) {a : Act} {w : World} {γ : Gm} (hi : Inv n s0 h0 rs γ0 w0 m a w γ) : Free γ r.h.nx r.h'.nx := by
 intro id h1 h2
 have hch := (R.tx.chain R.le).2 j r hj
 refine Classical.byContradiction fun h3 => ?_
 obtain ⟨i, r', a1, a2, a3, a4⟩ := hi.born id (by omega) (by have := hch.2.1; have := R.top; omega) h3
 rcases Nat.lt_trichotomy i j with hlt | he | hgt
 ·have := hch.2.2 i r' hlt a1; omega
 ·subst he; rw [hun] at a2; cases a2
 ·have := ((R.tx.chain R.le).2 i r' a1).2.2 j r hgt hj; omega
theorem wanted_at' {s : Sl} {γ : Gm} {a : Act} {o : Oper} (hv : ∀ t, t ∈ Oper.looksAt A o → VR γ (sget s t) (a.tmps.getD t undef)) {b : Bool} (hw : wants A s o = some b) : Region.wanted o (yielded A a.tmps) = b := by
 unfold wants at hw
 unfold Region.wanted
 split at hw
 ·rename_i hg; rw [hg]; cases hw; rfl
 ·rename_i j want hg
  rw [hg]
  dsimp only
  split at hw
  ·cases hw
  ·rename_i t ht
   have ht' : (A[j]?).bind (·.dst) = some t := by unfold gslot at ht; simpa using ht
   have hv := hv t (by unfold Oper.looksAt; rw [hg]; refine List.mem_append_right _ ?_; show t ∈ ((A[j]?).bind fun x => x.dst).toList; rw [ht']; simp)
   unfold yielded
   rw [ht']
   simp only [Option.bind_some]
   have hget : a.tmps[t]? = some (a.tmps.getD t undef) ∨ a.tmps.getD t undef = undef ∧ a.tmps[t]? = none := by
    rw [Array.getD_eq_getD_getElem?]
    cases a.tmps[t]? with
    | none => exact .inr ⟨rfl, rfl⟩
    | some v => exact .inl rfl
   generalize hu : a.tmps.getD t undef = u at hv hget
   generalize sget s t = v at hw hv
   split at hw
   ·rename_i bb
    cases hw
    cases hv
    rcases hget with e | ⟨e, _⟩
    ·rw [e]; cases bb <;> cases want <;> rfl
    ·cases e
   ·rename_i hn
    cases hw
    rcases hget with e | ⟨_, e⟩
    ·rw [e]
     cases hv <;> first | rfl | (exact absurd rfl (hn _))
    ·rw [e]; rfl
theorem call_wp {r : Rc} {g : FuncId} {vs : List Value} (hc : CallC P r g vs) (ho : opsOk r.o.op = true) {a : Act} {w : World} {γ : Gm} (hops : ∀ x ∈ r.o.op.operands.toList, VR γ (sev r.s x) (a.eval x)) :
  ∃ vs', LR γ vs vs' ∧ ∀ N Q, Calls P g vs'.toArray w (fun e w' => ∃ v', e = .returned v' ∧ N (a.put r.o.dst v') w') → r.o.wp P a w N Q := by
 obtain ⟨⟨c, f, hx, hcc, hcal⟩, hgood⟩ := hc
 obtain ⟨callee, args, tys⟩ := c
 dsimp only at hcc hcal
 subst hcc
 have hmem : ∀ y, y = f ∨ y ∈ args.toList → y ∈ r.o.op.operands.toList := fun y hy => by
  rw [hx]
  simp only [Op.operands, Call.operands, Array.toList_append, List.mem_append]
  rcases hy with rfl | hy
  ·exact .inl (by simp)
  ·exact .inr hy
 have hf := hops f (hmem f (.inl rfl))
 unfold calleeA at hcal
 split at hcal
 ·rename_i g0 first caps e
  cases hcal
  rw [e] at hf
  generalize ef : a.eval f = fv at hf
  cases hf with
  | fn _ _ ys _ ds h2 h3 h4 h5 =>
   have l1 : LR γ first.toList ys.toList := ⟨by simpa using h2, fun j x y hx hy => h4 j x y (by simpa using hx) (by simpa using hy)⟩
   have l2 : LR γ caps.toList ds.toList := ⟨by simpa using h3, fun j x y hx hy => h5 j x y (by simpa using hx) (by simpa using hy)⟩
   have l3 : LR γ (args.toList.map (sev r.s)) (args.toList.map a.eval) := ⟨by simp, fun j x y hx hy => by
    simp only [List.getElem?_map, Option.map_eq_some_iff] at hx hy
    obtain ⟨p, q1, rfl⟩ := hx
    obtain ⟨p', q2, rfl⟩ := hy
    rw [q1] at q2
    cases q2
    exact hops p (hmem p (.inr (List.mem_of_getElem? q1)))⟩
   have zz := (l1.append l3).append l2
   refine ⟨_, zz, fun N Q hcalls => ?_⟩
   obtain ⟨⟨fn, x⟩, hg⟩ := Option.isSome_iff_exists.1 hgood
   obtain ⟨hfn, hnm, hbd⟩ := goodF_spec hg
   have hex : (execOp a.eval r.o).run P w = .ok (.enter g (ys.toList ++ args.toList.map a.eval ++ ds.toList).toArray) w := by
    have ha : (ys.toList ++ args.toList.map a.eval ++ ds.toList).toArray = ys ++ Array.map a.eval args ++ ds := by
     apply Array.ext'; simp
    rw [ha]
    simp [execOp, hx, resolve, ef, Deferred.ofValue, invoke, callFunc, hfn, hnm, hbd]
   unfold Oper.wp
   rw [hex]
   simp only [Oper.upon]
   refine Calls.mono hcalls fun e w' he => ?_
   obtain ⟨v', rfl, hn⟩ := he
   exact hn
 ·cases hcal
theorem memFun (R : Rg P cl orcS A M n s0 h0 rs sE hE) {m m' : Nat → Bool} {j : Nat} {r : Rc} (hj : rs[j]? = some r) (h : En A m j r.o) (hm : ∀ i, m' i = (m i || i == j)) (hk : ∀ id, r.sets id = lookK r.u id) : memM h0 rs m' = lookU r.u (memM h0 rs m) := by
 funext id
 rw [h.memIns R hj hm, lookU_K, hk]
theorem Inv.step (R : Rg P cl orcS A M n s0 h0 rs sE hE) {m m' : Nat → Bool} {j : Nat} {r : Rc} (hj : rs[j]? = some r) (h : En A m j r.o) (hm : ∀ i, m' i = (m i || i == j)) {a : Act} {w : World} {γ : Gm}
  (hi : Inv n s0 h0 rs γ0 w0 m a w γ) {N : Act → World → Prop} {Q : Exit → Act → World → Prop} (hN : ∀ a' w' γ', Inv n s0 h0 rs γ0 w0 m' a' w' γ' → N a' w') :
  (Region.wanted r.o (yielded A a.tmps) = true ∧ r.o.wp P a w N Q) ∨ (Region.wanted r.o (yielded A a.tmps) = false ∧ N (a.put r.o.dst undef) w) := by
 have ok := (R.tx.at_ j r hj).1
 have slot : ∀ t, t ∈ Oper.looksAt A r.o → VR γ (sget r.s t) (a.tmps.getD t undef) := fun t ht => by rw [← h.slot R hj ht]; exact hi.slot t
 have hops : ∀ x ∈ r.o.op.operands.toList, VR γ (sev r.s x) (a.eval x) := fun x hx => by
  have hx2 := List.all_eq_true.1 ok.ops x hx
  cases x with
  | tmp t => exact slot t (by unfold Oper.looksAt; exact List.mem_append_left _ (List.mem_filterMap.2 ⟨_, hx, rfl⟩))
  | const v => exact VR.refl_cls 8 v hx2
  | global g => cases hx2
  | func f => exact .fn _ _ _ _ _ rfl rfl (fun j x y hx => by simp at hx) (fun j x y hx => by simp at hx)
 have hwant : ∀ b, wants A r.s r.o = some b → Region.wanted r.o (yielded A a.tmps) = b := fun b hb => wanted_at' slot hb
 have hk := ok.k
 cases hkk : r.k with
 | v =>
  rw [hkk] at hk
  obtain ⟨hu, hh, hw⟩ := hk
  have hmem : memM h0 rs m' = memM h0 rs m := by
   funext id
   rw [h.memIns R hj hm]
   unfold Rc.sets
   rw [hkk]
   rfl
  rcases hw with ⟨hw, hv⟩ | ⟨hw, hv⟩
  ·right
   refine ⟨hwant false hw, hN _ _ γ (hi.next R hj h hm (v' := undef) (by rw [hv]; exact undef_VR) (by rw [hmem]; exact .refl hi.pw.hr) fun id _ h2 => h2)⟩
  ·left
   refine ⟨hwant true hw, ?_⟩
   have h1 := vOp_op1 hv ⟨memM h0 rs m, [], 0, 0, []⟩
   obtain ⟨v', w', γ', hrun, hvr, hhi, hp⟩ := op1_sound (m := ⟨memM h0 rs m, [], 0, 0, []⟩) (γ := γ) (ρ' := a.eval) (w := w) hi.pw.hr (fun id h1 h2 => by dsimp only at h2; omega) hops h1
   have hp : Post (memM h0 rs m) 0 0 γ w (memM h0 rs m) 0 γ' w' := hp
   have hfin : N (a.put r.o.dst v') w' := hN _ _ γ' (hi.next R hj h hm hvr (by rw [hmem]; exact hp.pw) fun id _ h2 => hp.unb id (fun h3 => by omega) h2)
   unfold Oper.wp
   rcases hrun with e | ⟨e, rfl⟩
   ·rw [e]; exact hfin
   ·rw [e]; exact hfin
 | s =>
  rw [hkk] at hk
  obtain ⟨hw, hh, mm, h1, hu⟩ := hk
  left
  refine ⟨hwant true hw, ?_⟩
  have hnv : r.k.isV = false := by rw [hkk]; rfl
  have ck := R.ck j r hj hnv
  have hh' : r.h'.nx = r.h.nx + 4 := by rw [hh]
  obtain ⟨hid, d1, d2, d3⟩ := ck.hid (by rw [hkk]; rfl)
  have hop : ∃ m2, op1 P (sev r.s) ⟨viewH r.h r.h.nx hid, [], r.h.nx, r.h.nx + 4, []⟩ r.o = some (r.v, m2) ∧ m2.u = r.u := by
   rcases d3 with e | e
   ·subst e; exact ⟨mm, h1, hu⟩
   ·unfold again at e
    rw [hkk] at e
    dsimp only at e
    split at e
    ·rename_i x hx
     obtain ⟨v2, m2⟩ := x
     have := op1_ext (m := ⟨viewH r.h r.h.nx hid, [], r.h.nx, r.h.nx + 4, []⟩) (g' := viewH r.h r.h.nx r.hid) ⟨fun id ab => viewH_le d2, fun id hl _ => viewH_fr hl⟩ hx
     have := this.symm.trans h1
     cases this
     exact ⟨m2, hx, hu⟩
    ·cases e
  obtain ⟨m2, h2, hu2⟩ := hop
  have hfree := hi.free R hj h.un
  have hvis : ∀ id ab, viewH r.h r.h.nx hid id = some ab → memM h0 rs m id = some ab := fun id ab hvv => by
   obtain ⟨b1, b2, b3⟩ := viewH_some hvv
   rw [h.mem R hj fun k x hux => ?_]
   ·exact b1
   ·have hnb := (ck.nob k x hux).2
    refine Classical.byContradiction fun h3 => ?_
    have : id ∈ keysU x.u := by
     unfold Rc.sets at h3
     cases hxk : x.k with
     | v => have := hux.2.2.1; rw [hxk] at this; cases this
     | b g vs => rw [hxk] at hnb; cases hnb
     | s => rw [hxk] at h3; exact lookK_mem h3
     | o g vs => rw [hxk] at h3; exact lookK_mem h3
    exact b3 (d1 k x hux id this b2)
  have hext : Ext ⟨viewH r.h r.h.nx hid, [], r.h.nx, r.h.nx + 4, []⟩ (memM h0 rs m) := ⟨hvis, fun id hl hl2 => by
   have hf := hfree id hl (by rw [hh']; exact hl2)
   cases hc : memM h0 rs m id with
   | none => rfl
   | some ab => obtain ⟨p, q, _⟩ := hi.pw.hr.obj id ab hc; rw [hf] at q; cases q⟩
  have h3 := op1_ext hext h2
  obtain ⟨v', w', γ', hrun, hvr, hhi, hp⟩ := op1_sound (γ := γ) (ρ' := a.eval) (w := w) (m := (Ms.ext ⟨viewH r.h r.h.nx hid, [], r.h.nx, r.h.nx + 4, []⟩ (memM h0 rs m))) hi.pw.hr (fun id l1 l2 => hfree id l1 (by rw [hh']; exact l2)) hops h3
  have hp : Post (memM h0 rs m) r.h.nx (r.h.nx + 4) γ w (lookU m2.u (memM h0 rs m)) m2.nx γ' w' := hp
  have hmem : memM h0 rs m' = lookU m2.u (memM h0 rs m) := by
   rw [hu2]
   exact memFun R hj h hm fun id => by unfold Rc.sets; rw [hkk]
  have hfin : N (a.put r.o.dst v') w' := hN _ _ γ' (hi.next R hj h hm hvr (by rw [hmem]; exact hp.pw) fun id l1 l2 => hp.unb id (by rw [hh'] at l1; exact l1) l2)
  unfold Oper.wp
  rcases hrun with e | ⟨e, rfl⟩
  ·rw [e]; exact hfin
  ·rw [e]; exact hfin
 | o g vs =>
  rw [hkk] at hk
  obtain ⟨hw, hcc, nx', hh, h1⟩ := hk
  left
  refine ⟨hwant true hw, ?_⟩
  have hnv : r.k.isV = false := by rw [hkk]; rfl
  have ck := R.ck j r hj hnv
  have hh' : r.h'.nx = nx' := by rw [hh]
  obtain ⟨hid, d1, d2, d3⟩ := ck.hid (by rw [hkk]; rfl)
  have hop : orcS g vs (viewH r.h r.h.nx hid) r.h.nx = some (r.v, r.u, nx') := by
   rcases d3 with e | e
   ·subst e; exact h1
   ·unfold again at e
    rw [hkk] at e
    cases e
  have hfree := hi.free R hj h.un
  have hvis : ∀ id ab, viewH r.h r.h.nx hid id = some ab → memM h0 rs m id = some ab := fun id ab hvv => by
   obtain ⟨b1, b2, b3⟩ := viewH_some hvv
   rw [h.mem R hj fun k x hux => ?_]
   ·exact b1
   ·have hnb := (ck.nob k x hux).2
    refine Classical.byContradiction fun h3 => ?_
    have : id ∈ keysU x.u := by
     unfold Rc.sets at h3
     cases hxk : x.k with
     | v => have := hux.2.2.1; rw [hxk] at this; cases this
     | b g vs => rw [hxk] at hnb; cases hnb
     | s => rw [hxk] at h3; exact lookK_mem h3
     | o g vs => rw [hxk] at h3; exact lookK_mem h3
    exact b3 (d1 k x hux id this b2)
  obtain ⟨vs', hlr, hcall⟩ := call_wp (w := w) hcc ok.ops hops
  refine hcall N Q (Calls.mono (R.orc.call g vs _ _ _ _ _ hcc.good hop (memM h0 rs m) γ w vs' nx' hvis hi.pw.hr (by rw [← hh']; exact hfree) (Nat.le_refl _) hlr) fun e w' he => ?_)
  obtain ⟨v', γ', rfl, hvr, hp⟩ := he
  have hmem : memM h0 rs m' = lookU r.u (memM h0 rs m) := memFun R hj h hm fun id => by unfold Rc.sets; rw [hkk]
  exact ⟨v', rfl, hN _ _ γ' (hi.next R hj h hm hvr (by rw [hmem]; exact hp.pw) fun id l1 l2 => hp.unb id (by rw [hh'] at l1; exact l1) l2)⟩
 | b g vs =>
  rw [hkk] at hk
  obtain ⟨hw, hcc, h1⟩ := hk
  left
  refine ⟨hwant true hw, ?_⟩
  have hnv : r.k.isV = false := by rw [hkk]; rfl
  have ck := R.ck j r hj hnv
  have noU : ∀ k x, ¬ Unord M rs j k x := fun k x hux => by have := (ck.nob k x hux).1; rw [hkk] at this; cases this
  have hmem0 : memM h0 rs m = r.h.t.get := funext fun id => h.mem R hj fun k x hux => absurd hux (noU k x)
  obtain ⟨vs', hlr, hcall⟩ := call_wp (w := w) hcc ok.ops hops
  have hhr : HR r.h.t.get γ w := by rw [← hmem0]; exact hi.pw.hr
  have hch := (R.tx.chain R.le).2 j r hj
  have hfree : Free γ r.h.nx HI := by
   intro id l1 l2
   refine Classical.byContradiction fun h3 => ?_
   obtain ⟨i, r', a1, a2, a3, a4⟩ := hi.born id (by omega) l2 h3
   rcases Nat.lt_trichotomy i j with hlt | he | hgt
   ·have := hch.2.2 i r' hlt a1; omega
   ·subst he; rw [h.un] at a2; cases a2
   ·have hia := R.at_ a1
    have q1 := h.after R hia a2
    cases hv' : r'.k.isV with
    | true =>
     have ok' := (R.tx.at_ i r' a1).1.k
     cases hxk : r'.k with
     | v => rw [hxk] at ok'; rw [ok'.2.1] at a4; omega
     | _ => rw [hxk] at hv'; cases hv'
    | false =>
     refine noU i r' ⟨by omega, a1, hv', q1, ?_⟩
     cases hc : Lw.pre M i j with
     | false => rfl
     | true =>
      have := R.st.lt j r.o h.op i hc (fun k hk => ⟨_, Array.getElem?_eq_getElem (by have := (Array.getElem?_eq_some_iff.1 h.op).1; omega)⟩)
      omega
  refine hcall N Q (Calls.mono ((R.clf g vs r.h _ h1).1 w γ vs' hhr hfree hlr) fun e w' he => ?_)
  obtain ⟨r1, hr1, v', γ', rfl, hvr, hp⟩ := he
  rw [List.mem_singleton] at hr1
  subst hr1
  have hmem : memM h0 rs m' = r.h'.t.get := by
   funext id
   rw [h.memIns R hj hm]
   unfold Rc.sets
   rw [hkk]
   rfl
  refine ⟨v', rfl, hN _ _ γ' (hi.next R hj h hm hvr (by rw [hmem, hmem0]; exact hp.pw) fun id l1 l2 => ?_)⟩
  by_cases l3 : r.h.nx ≤ id ∧ id < HI
  ·exact hp.free id (Nat.le_of_not_lt fun h4 => l1 ⟨l3.1, h4⟩) l3.2
  ·exact hp.unb id l3 l2
end
end Go.Kr
end
section
namespace Go.Kr
section
variable {P : Program} {cl : Clf} {orcS : OrcS} {A : Array Oper} {M : List Nat} {n : Nat} {s0 : Sl} {h0 : Hp} {rs : List Rc} {sE : Sl} {hE : Hp} {γ0 : Gm} {w0 : World}
theorem Inv.same {m m' : Nat → Bool} (hm : ∀ i r, rs[i]? = some r → m i = m' i) {a : Act} {w : World} {γ : Gm} (hi : Inv n s0 h0 rs γ0 w0 m a w γ) : Inv n s0 h0 rs γ0 w0 m' a w γ := by
 have e1 : ∀ t, slotM s0 rs m t = slotM s0 rs m' t := fun t => by
  unfold slotM
  congr 1
  exact lastD_congr fun i r hr _ => by rw [Nat.zero_add]; exact hm i r hr
 have e2 : memM h0 rs m = memM h0 rs m' := funext fun t => by
  unfold memM
  congr 1
  exact lastD_congr fun i r hr _ => by rw [Nat.zero_add]; exact hm i r hr
 refine ⟨hi.defers, hi.size, fun t => by rw [← e1]; exact hi.slot t, by rw [← e2]; exact hi.pw, hi.unb, fun id h1 h2 h3 => ?_⟩
 obtain ⟨i, r, a1, a2, a3⟩ := hi.born id h1 h2 h3
 exact ⟨i, r, a1, by rw [← hm i r a1]; exact a2, a3⟩
theorem any_run (R : Rg P cl orcS A M n s0 h0 rs sE hE) {Q : Exit → Act → World → Prop} (hQ : ∀ a w γ, Inv n s0 h0 rs γ0 w0 (fun _ => true) a w γ → Q .normal a w) :
  ∀ (fuel : Nat) (listed : Array Bool) (a : Act) (w : World) (γ : Gm), listed.size = A.size → Lw.Closed A (fun i => listed.getD i false) → Lw.unl (fun i => listed.getD i false) A.size ≤ fuel →
   Inv n s0 h0 rs γ0 w0 (fun i => listed.getD i false) a w γ → wpAny P .any A Q fuel listed a w := by
 have hlen : rs.length = A.size := by rw [R.tx.len]; simp
 have done : ∀ (listed : Array Bool) (a : Act) (w : World) (γ : Gm), (∀ i, i < A.size → listed.getD i false = true) → Inv n s0 h0 rs γ0 w0 (fun i => listed.getD i false) a w γ → Q .normal a w := by
  intro listed a w γ hall hi
  refine hQ a w γ (hi.same fun i r hr => ?_)
  have := (List.getElem?_eq_some_iff.1 hr).1
  exact hall i (by omega)
 have stuck : ∀ (listed : Array Bool), listed.size = A.size → Region.ready .any A listed = [] → ∀ i, i < A.size → listed.getD i false = true := by
  intro listed hsz hr i
  induction i using Nat.strongRecOn with
  | _ i ih =>
   intro hi
   cases hli : listed.getD i false with
   | true => rfl
   | false =>
    exfalso
    have : i ∈ Region.ready .any A listed := by
     rw [mem_ready]
     refine ⟨?_, A[i], Array.getElem?_eq_getElem hi, fun e he hb => ih e.on ?_ ?_⟩
     ·have hli' : i < listed.size := by omega
      simp [Array.getD, hli'] at hli ⊢
      exact hli
     ·exact R.st.back i _ (Array.getElem?_eq_getElem hi) e (by simpa using he) hb
     ·have := R.st.back i _ (Array.getElem?_eq_getElem hi) e (by simpa using he) hb; omega
    rw [hr] at this
    cases this
 intro fuel
 induction fuel with
 | zero =>
  intro listed a w γ hsz hc hu hi
  have hall := fun i hi => Lw.unl_zero (Nat.le_zero.1 hu) i hi
  refine ⟨?_, done listed a w γ hall hi⟩
  cases hrd : Region.ready .any A listed with
  | nil => rfl
  | cons j js =>
   have hj : j ∈ Region.ready .any A listed := by rw [hrd]; simp
   rw [mem_ready] at hj
   obtain ⟨h1, o, ho, _⟩ := hj
   have hlt := (Array.getElem?_eq_some_iff.1 ho).1
   have h2 := hall j hlt
   simp [Array.getD, hsz, hlt] at h1 h2
   rw [h1] at h2
   cases h2
 | succ fuel ih =>
  intro listed a w γ hsz hc hu hi
  refine ⟨fun hz => done listed a w γ (stuck listed hsz hz) hi, fun j hj => ?_⟩
  rw [mem_ready] at hj
  obtain ⟨h1, o, ho, hpre'⟩ := hj
  have hlt := (Array.getElem?_eq_some_iff.1 ho).1
  have hun : listed.getD j false = false := by
   simp [Array.getD, hsz, hlt] at h1 ⊢
   exact h1
  have hpre : ∀ e ∈ o.after.toList, Region.binds .any e = true → listed.getD e.on false = true := fun e he hb => hpre' e (by simpa using he) hb
  have hjr : rs[j]? = some rs[j] := List.getElem?_eq_getElem (by omega)
  generalize hrj : rs[j] = r at hjr
  have hro : r.o = o := by have := R.at_ hjr; rw [ho] at this; cases this; rfl
  subst hro
  have hen : En A (fun i => listed.getD i false) j r.o := ⟨hc, ho, hun, hpre⟩
  have hm : ∀ i, (listed.setIfInBounds j true).getD i false = (listed.getD i false || i == j) := by
   intro i
   by_cases hij : i = j
   ·subst hij; simp [Array.getD, hsz, hlt]
   ·rw [getD_set_ne false (Ne.symm hij)]; simp [hij]
  have next : ∀ a' w' γ', Inv n s0 h0 rs γ0 w0 (fun i => (listed.setIfInBounds j true).getD i false) a' w' γ' → wpAny P .any A Q fuel (listed.setIfInBounds j true) a' w' := by
   intro a' w' γ' hi'
   refine ih _ a' w' γ' (by simpa using hsz) ?_ ?_ hi'
   ·intro i o' hio hmi e' he' hb
    simp only [hm, Bool.or_eq_true, beq_iff_eq] at hmi ⊢
    rcases hmi with hmi | hmi
    ·exact .inl (hc i o' hio hmi e' he' hb)
    ·subst hmi
     rw [ho] at hio
     cases hio
     exact .inl (hpre e' he' hb)
   ·have := Lw.unl_set (m := fun i => listed.getD i false) (m' := fun i => (listed.setIfInBounds j true).getD i false) hm hun A.size
    rw [if_pos hlt] at this
    omega
  unfold wpOp
  rw [ho]
  simp only
  rcases hi.step R hjr hen hm (Q := Q) next with ⟨h2, h3⟩ | ⟨h2, h3⟩
  ·rw [if_pos h2]; exact .inl h3
  ·rw [if_neg (by rw [h2]; simp)]; exact h3
theorem HR.same {H : Nat → Option Ab} {γ : Gm} {w w' : World} (h : HR H γ w) (hh : w'.heap = w.heap) : HR H γ w' :=
 ⟨fun id ab h1 => by obtain ⟨p, a1, a2, a3⟩ := h.obj id ab h1; exact ⟨p, a1, a2.mono (.refl γ) (by rw [hh]), by rw [hh]; exact a3⟩, h.dead, h.inj⟩
theorem Post.same {H H' : Nat → Option Ab} {nx nx' hi : Nat} {γ γ' : Gm} {w w1 w2 : World} (h : Post H nx hi γ w H' nx' γ' w1) (h1 : w2.heap = w1.heap) (h2 : w2.os = w1.os) (h3 : w2.tape = w1.tape) (h4 : w2.output = w1.output) : Post H nx hi γ w H' nx' γ' w2 :=
 ⟨h.hr.same h1, h.le, h.free, h.keep, h.unb, by rw [h1]; exact h.size, h2.trans h.os, h3.trans h.tape, h4.trans h.output, fun b hb ho => by rw [h1]; exact h.out b hb ho, h.own⟩
theorem drwE_ok (hmx : P.follows .mixedOrders = true) (ho : OrcSOk P orcS) : DrwOk P (drwE P orcS) := by
 intro cl hcl A n s h r id hd
 unfold drwE at hd
 split at hd
 ·rename_i hst
  split at hd
  ·rename_i s' h' rs hgo
   split at hd
   ·rename_i hck
    cases hd
    simp only [Bool.and_eq_true] at hck
    have tx := goD_tx _ _ _ _ _ _ _ _ hgo
    have R : Rg P cl orcS A (Lw.ancs A.toList []) n s h rs s' h' := ⟨Lw.statOk_spec hst, tx, fun i r hr hv => by
     have hm := memsD_spec rs 0 i r hr hv
     rw [Nat.zero_add] at hm
     exact chkD_spec hck.1 i r hm, Nat.le_of_ble_eq_true hck.2, ho, hcl⟩
    intro B a w γ hfl hat
    refine wp_region_any hmx ?_
    have hat' : B.at h γ { w with drawn := w.drawn + 1 } := Post.same hat rfl rfl rfl rfl
    refine any_run (γ0 := γ) (w0 := { w with drawn := w.drawn + 1 }) R (fun a' w' γ' hi => ?_) A.size _ a _ γ (by simp) ?_ ?_ ?_
    ·obtain ⟨f1, f2⟩ := tx.fin 0
     have e2 : memM h rs (fun _ => true) = h'.t.get := funext fun id => (f2 id).symm
     have hpw := hi.pw
     rw [e2] at hpw
     refine ⟨s', h', γ', ⟨hi.defers, hi.size, fun t => by rw [f1 t]; exact hi.slot t⟩, ?_, rfl⟩
     have hp : Post h.t.get h.nx HI γ { w with drawn := w.drawn + 1 } h'.t.get h'.nx γ' w' := ⟨hpw.hr, (tx.chain R.le).1, fun id h1 h2 => ?_, hpw.keep, hi.unb, hpw.size, hpw.os, hpw.tape, hpw.output, hpw.out, hpw.own⟩
     ·exact Post.trans hat' hp
     ·refine Classical.byContradiction fun h3 => ?_
      obtain ⟨i, r, a1, _, a3, a4⟩ := hi.born id (Nat.le_trans (tx.chain R.le).1 h1) h2 h3
      have := ((tx.chain R.le).2 i r a1).2.1
      omega
    ·intro j o ho hj
     exfalso
     have hlt := (Array.getElem?_eq_some_iff.1 ho).1
     simp [Array.getD, hlt] at hj
    ·unfold Lw.unl
     have := List.length_filter_le (fun i => !(Array.replicate A.size false).getD i false) (List.range A.size)
     simpa using this
    ·have off : ∀ i, 0 ≤ i → (Array.replicate A.size false).getD i false = false := fun i _ => by
      rcases Nat.lt_or_ge i A.size with h | h <;> simp [Array.getD, h]
     have e2 : memM h rs (fun i => (Array.replicate A.size false).getD i false) = h.t.get := funext fun id => by
      unfold memM; rw [lastD_off _ _ _ off]; rfl
     refine ⟨hfl.defers, hfl.size, fun t => ?_, ?_, fun _ _ h => h, fun id h1 h2 h3 => absurd (hat.free id h1 h2) h3⟩
     ·have : slotM s rs (fun i => (Array.replicate A.size false).getD i false) t = sget s t := by
       unfold slotM; rw [lastD_off _ _ _ off]; rfl
      rw [this]; exact hfl.slot t
     ·rw [e2]; exact .refl hat'.hr
   ·cases hd
  ·cases hd
 ·cases hd
end
end Go.Kr
end
