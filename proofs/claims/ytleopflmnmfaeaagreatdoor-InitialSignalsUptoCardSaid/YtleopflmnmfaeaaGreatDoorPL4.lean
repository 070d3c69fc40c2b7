/-
A part of the proof that the statement InitialValues holds of the given program (second form, tied card): summaries of calls.
-/
import Derived.Test.YtleopflmnmfaeaaGreatDoorPL3
import Derived.Test.YtleopflmnmfaeaaGreatDoorProg
set_option autoImplicit false
set_option linter.unusedSimpArgs false
set_option linter.unusedVariables false
set_option linter.unnecessarySimpa false
section
namespace Go.Kr
theorem lookU_of_K {u : List (Nat × Option Ab)} {g : Nat → Option Ab} {id : Nat} {x : Option Ab} (h : lookK u id = some x) : lookU u g id = x := by rw [lookU_K, h]; rfl
theorem lookU_of_none {u : List (Nat × Option Ab)} {g : Nat → Option Ab} {id : Nat} (h : lookK u id = none) : lookU u g id = g id := by rw [lookU_K, h]; rfl
theorem nodup_inj {bs : List Nat} (h : bs.Nodup) {i j x : Nat} (h1 : bs[i]? = some x) (h2 : bs[j]? = some x) : i = j := by
 have hp := List.pairwise_iff_getElem.1 h
 obtain ⟨l1, e1⟩ := List.getElem?_eq_some_iff.1 h1
 obtain ⟨l2, e2⟩ := List.getElem?_eq_some_iff.1 h2
 rcases Nat.lt_trichotomy i j with c | c | c
 ·exact absurd (e1.trans e2.symm) (hp i j l1 l2 c)
 ·exact c
 ·exact absurd (e2.trans e1.symm) (hp j i l2 l1 c)
open Classical in
theorem memo_call {P : Program} {g : FuncId} {e : Ent} (he : EntOk P g e) {gv : Nat → Option Ab} {args : List Value} {bs : List Nat} (hm : matchE gv e args = some bs) {lo : Nat} {v : Value} {u : List (Nat × Option Ab)}
  (hv : rnV (rnR bs e.objs.length lo e.nx) 8 e.r = some v) (hu : rnU (rnR bs e.objs.length lo e.nx) e.ups = some u) {H : Nat → Option Ab} {γ : Gm} {w : World} {vs : List Value} {hi : Nat} (hg : ∀ id ab, gv id = some ab → H id = some ab)
  (hr : HR H γ w) (hf : Free γ lo hi) (hhi : lo + (e.nx - e.objs.length) ≤ hi) (hl : LR γ args vs) :
  Calls P g vs.toArray w fun x w' => ∃ v' γ', x = .returned v' ∧ VR γ' v v' ∧ Post H lo hi γ w (lookU u H) (lo + (e.nx - e.objs.length)) γ' w' := by
 obtain ⟨hnd, hlen, hargs, hobjs⟩ := matchE_spec hm
 generalize hk : e.objs.length = k at *
 generalize hN : e.nx = N at *
 generalize hρ : rnR bs k lo N = ρ at *
 have hρb : ∀ (i x : Nat), bs[i]? = some x → ρ i = some x := fun i x hx => by
  have hlt : i < k := by have := (List.getElem?_eq_some_iff.1 hx).1; omega
  rw [← hρ]
  unfold rnR
  have : Nat.blt i k = true := by simp [Nat.blt]; omega
  rw [this]
  exact hx
 have hρi : ∀ r b, ρ r = some b → (r < k ∧ bs[r]? = some b) ∨ (k ≤ r ∧ r < N ∧ b = lo + (r - k)) := fun r b h => by
  rw [← hρ] at h
  unfold rnR at h
  split at h
  ·rename_i h1; exact .inl ⟨blt_lt h1, h⟩
  ·rename_i h1
   split at h
   ·rename_i h2
    cases h
    refine .inr ⟨?_, blt_lt h2, rfl⟩
    refine Nat.le_of_not_lt fun h3 => ?_
    have : Nat.blt r k = true := by simp [Nat.blt]; omega
    rw [this] at h1; cases h1
   ·cases h
 have hal : ∀ j id, bs[j]? = some id → ∃ a0 ab p, e.objs[j]? = some a0 ∧ H id = some ab ∧ ObjOk ρ a0 ab ∧ γ id = some (some p) ∧ AbR γ w ab p ∧ p.b < w.heap.size := fun j id hj => by
  have hlt : j < e.objs.length := by have := (List.getElem?_eq_some_iff.1 hj).1; omega
  obtain ⟨id', ab, a1, a2, a3⟩ := hobjs ρ hρb j _ (List.getElem?_eq_getElem hlt)
  rw [hj] at a1
  cases a1
  obtain ⟨p, b1, b2, b3⟩ := hr.obj id ab (hg id ab a2)
  exact ⟨_, ab, p, List.getElem?_eq_getElem hlt, hg id ab a2, a3, b1, b2, b3⟩
 have hold : ∀ j id, bs[j]? = some id → ¬ (lo ≤ id ∧ id < hi) := fun j id hj h => by
  obtain ⟨_, _, p, _, _, _, a, _⟩ := hal j id hj
  rw [hf id h.1 h.2] at a; cases a
 have hinj : ∀ r r' b, ρ r = some b → ρ r' = some b → r = r' := fun r r' b h1 h2 => by
  rcases hρi r b h1 with ⟨a1, a2⟩ | ⟨a1, a2, a3⟩ <;> rcases hρi r' b h2 with ⟨b1, b2⟩ | ⟨b1, b2, b3⟩
  ·exact nodup_inj hnd a2 b2
  ·exact absurd ⟨by omega, by omega⟩ (hold r b a2)
  ·exact absurd ⟨by omega, by omega⟩ (hold r' b b2)
  ·omega
 -- the summary's own numbers
 let γ0 : Gm := fun j => match bs[j]? with
  | some id => γ id
  | none => none
 have hγ0 : ∀ j id, bs[j]? = some id → γ0 j = γ id := fun j id h => by show (match bs[j]? with | some id => γ id | none => none) = _; rw [h]
 have hγ0n : ∀ j, k ≤ j → γ0 j = none := fun j h => by
  show (match bs[j]? with | some id => γ id | none => none) = _
  rw [List.getElem?_eq_none (by omega)]
 let γρ : Gm := fun id => γ id
 have hRn0 : Rn γ0 γ (fun r => if r < k then ρ r else none) := fun r b h => by
  dsimp only at h
  split at h
  ·rename_i hlt
   rcases hρi r b h with ⟨a1, a2⟩ | ⟨a1, _⟩
   ·exact hγ0 r b a2
   ·omega
  ·cases h
 have hρb' : ∀ (i x : Nat), bs[i]? = some x → (fun r => if r < k then ρ r else none) i = some x := fun i x hx => by
  have hlt : i < k := by have := (List.getElem?_eq_some_iff.1 hx).1; omega
  dsimp only
  rw [if_pos hlt]; exact hρb i x hx
 have hH0 : (heapOf e.objs).t.get = fun i => e.objs[i]? := heapOf_get _
 have hnx0 : (heapOf e.objs).nx = k := hk
 have hhr0 : HR (fun i => e.objs[i]?) γ0 w := by
  refine ⟨fun j a0 hj => ?_, fun j hj p hp => ?_, fun j j' a a' p p' h1 h2 h3 h4 h5 h6 => ?_⟩
  ·have hlt : j < bs.length := by have := (List.getElem?_eq_some_iff.1 hj).1; omega
   have hb := List.getElem?_eq_getElem hlt
   obtain ⟨a0', ab, p, c1, c2, _, c4, c5, c6⟩ := hal j _ hb
   obtain ⟨id2, ab2, d1, d2, d3⟩ := hobjs _ hρb' j a0 hj
   rw [hb] at d1
   cases d1
   have d2 := hg _ _ d2
   rw [c2] at d2
   cases d2
   refine ⟨p, (hγ0 j _ hb).trans c4, ?_, c6⟩
   cases ho : a0.own with
   | true =>
    obtain ⟨o1, o2⟩ := d3.own ho
    obtain ⟨x, y⟩ := a0
    dsimp only at ho
    subst ho
    obtain ⟨x', y'⟩ := ab
    dsimp only at o1
    subst o1
    exact (rnO_spec hRn0 o2).2 c5
   | false => exact d3.frz ho γ0 γ w p hRn0 c5
  ·have hge : k ≤ j := by
    refine Nat.le_of_not_lt fun h => ?_
    rw [List.getElem?_eq_getElem (by omega)] at hj; cases hj
   rw [hγ0n j hge] at hp; cases hp
  ·have get : ∀ j a, e.objs[j]? = some a → ∃ id ab, bs[j]? = some id ∧ H id = some ab ∧ γ0 j = γ id ∧ (a.own = true → ab.own = true) := fun j a hj => by
    obtain ⟨id2, ab2, d1, d2, d3⟩ := hobjs ρ hρb j a hj
    exact ⟨id2, ab2, d1, hg _ _ d2, hγ0 j _ d1, fun h => (d3.own h).1⟩
   obtain ⟨i1, b1, q1, q2, q3, q4⟩ := get j a h1
   obtain ⟨i2, b2, r1, r2, r3, r4⟩ := get j' a' h3
   rw [q3] at h5
   rw [r3] at h6
   refine hr.inj i1 i2 b1 b2 p p' q2 (q4 h2) r2 (fun hii => h4 ?_) h5 h6
   subst hii
   exact hinj j j' i1 (hρb _ _ q1) (hρb _ _ r1)
 have hf0 : Free γ0 k HI := fun id h1 _ => hγ0n id h1
 have hl0 : LR γ0 e.args vs := by
  obtain ⟨e1, e2⟩ := rnL_spec (hargs _ hρb')
  refine ⟨by rw [hl.len, e1], fun j x y hx hy => ?_⟩
  have hj : j < args.length := by have := (List.getElem?_eq_some_iff.1 hx).1; omega
  exact (rnV_spec hRn0 8 _ _ (e2 j x _ hx (List.getElem?_eq_getElem hj)) y).2 (hl.at_ j _ y (List.getElem?_eq_getElem hj) hy)
 obtain ⟨outs, hcall, houts⟩ := he.call
 refine Calls.mono (hcall w γ0 vs (by rw [hH0]; exact hhr0) (by rw [hnx0]; exact hf0) hl0) fun x w' hx => ?_
 obtain ⟨r1, hr1, v', γr, rfl, hvr, hpost⟩ := hx
 obtain ⟨hre, hups, hle1⟩ := houts r1 hr1
 rw [hre] at hvr
 rw [hH0, hnx0] at hpost
 obtain ⟨γ1, hk1, hor1, hp1⟩ := hpost.drop (H2 := lookU e.ups (fun i => e.objs[i]?)) hups
 have hvr1 : VR γ1 e.r v' := hvr.keep hk1
 clear hvr hpost hk1 hor1 hups
 generalize hH2 : lookU e.ups (fun i => e.objs[i]?) = H2 at *
 have hkN : k ≤ N := Nat.le_trans hp1.le (by omega)
 -- what the numbers of the whole are told by
 let γ' : Gm := fun id => if h : ∃ r, ρ r = some id then γ1 (Classical.choose h) else γ id
 have hγ' : ∀ r id, ρ r = some id → γ' id = γ1 r := fun r id h => by
  have hex : ∃ r, ρ r = some id := ⟨r, h⟩
  show (if h : ∃ r, ρ r = some id then γ1 (Classical.choose h) else γ id) = _
  rw [dif_pos hex]
  rw [hinj _ r id (Classical.choose_spec hex) h]
 have hγ'o : ∀ id, (¬ ∃ r, ρ r = some id) → γ' id = γ id := fun id h => dif_neg h
 have hRn : Rn γ1 γ' ρ := fun r b h => (hγ' r b h).symm
 have fresh : ∀ id, lo ≤ id → id < lo + (N - k) → ρ (id - lo + k) = some id := fun id h1 h2 => by
  rw [← hρ]
  unfold rnR
  have e1 : Nat.blt (id - lo + k) k = false := by
   cases hc : Nat.blt (id - lo + k) k with
   | false => rfl
   | true => have := blt_lt hc; omega
  have e2 : Nat.blt (id - lo + k) N = true := by simp [Nat.blt]; omega
  rw [e1, e2]
  simp only [Option.some.injEq]
  omega
 have hkeep : Keep γ γ' := fun id => by
  by_cases hex : ∃ r, ρ r = some id
  ·obtain ⟨r, hr'⟩ := hex
   rw [hγ' r id hr']
   rcases hρi r id hr' with ⟨a1, a2⟩ | ⟨a1, a2, a3⟩
   ·rw [← hγ0 r id a2]; exact hp1.keep r
   ·rw [hf id (by omega) (by omega)]
    exact ⟨fun p hp => (by cases hp), fun hp => (by cases hp)⟩
  ·rw [hγ'o id hex]; exact ⟨fun p hp => .inl hp, fun hp => hp⟩
 have ownH : ∀ b, Own (fun i => e.objs[i]?) γ0 b → ∃ j id ab p, bs[j]? = some id ∧ e.objs[j]? ≠ none ∧ (∀ a0 : Ab, e.objs[j]? = some a0 → a0.own = true) ∧ H id = some ab ∧ ab.own = true ∧ γ id = some (some p) ∧ p.b = b := fun b ⟨j, a0, p, c1, c2, c3, c4⟩ => by
  obtain ⟨id2, ab2, d1, d2, d3⟩ := hobjs ρ hρb j a0 c1
  rw [hγ0 j _ d1] at c3
  have c1 : e.objs[j]? = some a0 := c1
  exact ⟨j, id2, ab2, p, d1, by rw [c1]; simp, fun a h => by rw [c1] at h; cases h; exact c2, hg _ _ d2, (d3.own c2).1, c3, c4⟩
 -- an object that is not told anew
 have notU : ∀ id ab, lookK u id = none → H id = some ab → ∃ p, γ' id = some (some p) ∧ γ id = some (some p) ∧ AbR γ' w' ab p ∧ p.b < w.heap.size := fun id ab hn hH => by
  obtain ⟨p, c1, c2, c3⟩ := hr.obj id ab hH
  have blk : (∀ (j : Nat) (a0 : Ab), bs[j]? = some id → e.objs[j]? = some a0 → a0.own = false) → w'.heap[p.b]? = w.heap[p.b]? := fun hno => by
   refine hp1.out p.b c3 fun ho => ?_
   obtain ⟨j, id2, ab2, p2, d1, d2, d3, d4, d5, d6, d7⟩ := ownH _ ho
   by_cases hii : id2 = id
   ·subst hii
    cases hc : e.objs[j]? with
    | none => exact d2 hc
    | some a0 => have := hno j a0 d1 hc; rw [d3 a0 hc] at this; cases this
   ·exact hr.inj id2 id ab2 ab p2 p d4 d5 hH hii d6 c1 d7
  by_cases hex : ∃ r, ρ r = some id
  ·obtain ⟨r, hr'⟩ := hex
   rcases hρi r id hr' with ⟨a1, a2⟩ | ⟨a1, a2, a3⟩
   ·have hlt : r < e.objs.length := by omega
    have ho := List.getElem?_eq_getElem hlt
    have hnu : lookK e.ups r = none := by
     cases hc : lookK e.ups r with
     | none => rfl
     | some x => obtain ⟨x', q1, _⟩ := rnU_to hinj _ _ hu r x id hr' hc; rw [hn] at q1; cases q1
    have hH2r : H2 r = some e.objs[r] := by rw [← hH2, lookU_of_none hnu]; exact ho
    obtain ⟨p1, f1, f2, f3⟩ := hp1.hr.obj r _ hH2r
    have hpp : p1 = p := by
     rcases (hp1.keep r).1 p (by rw [hγ0 r id a2]; exact c1) with h | h <;> rw [f1] at h <;> cases h
     rfl
    subst hpp
    refine ⟨p1, by rw [hγ' r id hr']; exact f1, c1, ?_, c3⟩
    obtain ⟨id2, ab2, d1, d2, d3⟩ := hobjs ρ hρb r _ ho
    rw [a2] at d1
    cases d1
    have d2 := hg _ _ d2
    rw [hH] at d2
    cases d2
    cases hown : e.objs[r].own with
    | true =>
     obtain ⟨o1, o2⟩ := d3.own hown
     generalize e.objs[r] = a0 at *
     obtain ⟨x, y⟩ := a0
     dsimp only at hown
     subst hown
     obtain ⟨x', y'⟩ := ab
     dsimp only at o1
     subst o1
     exact (rnO_spec hRn o2).1 f2
    | false =>
     refine c2.mono hkeep (blk fun j a0 hj hj2 => ?_)
     have : j = r := hinj j r id (hρb _ _ hj) hr'
     subst this
     rw [ho] at hj2
     cases hj2
     exact hown
   ·rw [hf id (by omega) (by omega)] at c1; cases c1
  ·refine ⟨p, by rw [hγ'o id hex]; exact c1, c1, c2.mono hkeep (blk fun j a0 hj _ => absurd ⟨j, hρb _ _ hj⟩ hex), c3⟩
 -- an object that is
 have isU : ∀ id x', lookK u id = some x' → ∃ r x, ρ r = some id ∧ H2 r = x ∧ (r, x) ∈ e.ups ∧ lookK e.ups r = some x ∧ RnX ρ x x' ∧ γ' id = γ1 r := fun id x' hl => by
  obtain ⟨r, x, q1, q2, q3, q4⟩ := rnU_from _ _ hu id x' hl
  exact ⟨r, x, q1, by rw [← hH2]; exact lookU_of_K q2, q3, q2, q4, hγ' r id q1⟩
 have isUs : ∀ id ab', lookK u id = some (some ab') → ∃ r ab, ρ r = some id ∧ H2 r = some ab ∧ lookK e.ups r = some (some ab) ∧ ab.own = true ∧ ab'.own = true ∧ rnO ρ ab.o = some ab'.o ∧ γ' id = γ1 r := fun id ab' hl => by
  obtain ⟨r, x, q1, q2, q3, q4, q5, q6⟩ := isU id _ hl
  cases x with
  | none => exact q5.elim
  | some ab => exact ⟨r, ab, q1, q2, q4, he.own r ab q3, q5.1.trans (he.own r ab q3), q5.2, q6⟩
 have ownU : ∀ r ab p, H2 r = some ab → ab.own = true → γ1 r = some (some p) → (∃ j id ab2 p2, bs[j]? = some id ∧ (∀ a0 : Ab, e.objs[j]? = some a0 → a0.own = true) ∧ e.objs[j]? ≠ none ∧ H id = some ab2 ∧ ab2.own = true ∧ γ id = some (some p2) ∧ p2.b = p.b) ∨ w.heap.size ≤ p.b := fun r ab p q1 q2 q3 => by
  rcases hp1.own p.b ⟨r, ab, p, q1, q2, q3, rfl⟩ with h | h
  ·obtain ⟨j, id2, ab2, p2, d1, d2, d3, d4, d5, d6, d7⟩ := ownH _ h
   exact .inl ⟨j, id2, ab2, p2, d1, d3, d2, d4, d5, d6, d7⟩
  ·exact .inr h
 have cross : ∀ id ab' p id' ab2 p', lookK u id = some (some ab') → γ' id = some (some p) → lookK u id' = none → H id' = some ab2 → γ' id' = some (some p') → p.b ≠ p'.b := fun id ab' p id' ab2 p' k1 k2 k3 k4 k5 hbb => by
  obtain ⟨r, ab, q1, q2, q3, q4, q5, q6, q7⟩ := isUs id ab' k1
  obtain ⟨pp, n1, n2, n3, n4⟩ := notU id' ab2 k3 k4
  rw [k5] at n1
  cases n1
  rw [q7] at k2
  rcases ownU r ab p q2 q4 k2 with ⟨j, i3, ab3, p3, d1, d2, d3, d4, d5, d6, d7⟩ | h
  ·by_cases hii : i3 = id'
   ·subst hii
    have hnj : lookK e.ups j = none := by
     cases hc : lookK e.ups j with
     | none => rfl
     | some x => obtain ⟨x', z1, _⟩ := rnU_to hinj _ _ hu j x i3 (hρb _ _ d1) hc; rw [k3] at z1; cases z1
    cases hc : e.objs[j]? with
    | none => exact d3 hc
    | some a0 =>
     have hH2j : H2 j = some a0 := by rw [← hH2, lookU_of_none hnj]; exact hc
     have hg1 : γ1 j = some (some p') := by rw [← hγ' j i3 (hρb _ _ d1)]; exact k5
     refine hp1.hr.inj j r a0 ab p' p hH2j (d2 a0 hc) q2 (fun hjr => ?_) hg1 k2 hbb.symm
     subst hjr
     rw [hnj] at q3; cases q3
   ·exact hr.inj i3 id' ab3 ab2 p3 p' d4 d5 k4 hii d6 n2 (by omega)
  ·omega
 refine ⟨v', γ', rfl, (rnV_spec hRn 8 _ _ hv v').1 hvr1, ⟨fun id ab hid => ?_, fun id hid p hp => ?_, fun id id' ab ab' p p' m1 m2 m3 m4 m5 m6 => ?_⟩, Nat.le_add_right _ _, fun id h1 h2 => ?_, hkeep, fun id h1 h2 => ?_, hp1.size, hp1.os, hp1.tape, hp1.output, fun b hb hno => ?_, fun b ⟨id, ab, p, m1, m2, m3, m4⟩ => ?_⟩
 ·cases hc : lookK u id with
  | none =>
   rw [lookU_of_none hc] at hid
   obtain ⟨p, a1, a2, a3, a4⟩ := notU id ab hc hid
   exact ⟨p, a1, a3, Nat.lt_of_lt_of_le a4 hp1.size⟩
  | some x' =>
   rw [lookU_of_K hc] at hid
   subst hid
   obtain ⟨r, ab0, q1, q2, q3, q4, q5, q6, q7⟩ := isUs id ab hc
   obtain ⟨p, a1, a2, a3⟩ := hp1.hr.obj r ab0 q2
   refine ⟨p, by rw [q7]; exact a1, ?_, a3⟩
   obtain ⟨x, y⟩ := ab0
   obtain ⟨x', y'⟩ := ab
   dsimp only at q4 q5
   subst q4 q5
   exact (rnO_spec hRn q6).1 a2
 ·cases hc : lookK u id with
  | none =>
   rw [lookU_of_none hc] at hid
   by_cases hex : ∃ r, ρ r = some id
   ·obtain ⟨r, hr'⟩ := hex
    rw [hγ' r id hr'] at hp
    rcases hρi r id hr' with ⟨a1, a2⟩ | ⟨a1, a2, a3⟩
    ·obtain ⟨_, ab, _, _, z, _⟩ := hal r id a2
     rw [hid] at z; cases z
    ·have hnu : lookK e.ups r = none := by
      cases hc2 : lookK e.ups r with
      | none => rfl
      | some x => obtain ⟨x', z1, _⟩ := rnU_to hinj _ _ hu r x id hr' hc2; rw [hc] at z1; cases z1
     refine hp1.hr.dead r ?_ p hp
     rw [← hH2, lookU_of_none hnu]
     exact List.getElem?_eq_none (by omega)
   ·rw [hγ'o id hex] at hp; exact hr.dead id hid p hp
  | some x' =>
   rw [lookU_of_K hc] at hid
   subst hid
   obtain ⟨r, x, q1, q2, q3, q4, q5, q6⟩ := isU id _ hc
   cases x with
   | none => rw [q6] at hp; exact hp1.hr.dead r q2 p hp
   | some ab => exact q5
 ·cases hc : lookK u id with
  | none =>
   rw [lookU_of_none hc] at m1
   cases hc' : lookK u id' with
   | none =>
    rw [lookU_of_none hc'] at m3
    obtain ⟨p1, a1, a2, _⟩ := notU id ab hc m1
    obtain ⟨p2, b1, b2, _⟩ := notU id' ab' hc' m3
    rw [m5] at a1
    rw [m6] at b1
    cases a1
    cases b1
    exact hr.inj id id' ab ab' p p' m1 m2 m3 m4 a2 b2
   | some x' =>
    rw [lookU_of_K hc'] at m3
    subst m3
    exact fun hbb => cross id' ab' p' id ab p hc' m6 hc m1 m5 hbb.symm
  | some x =>
   rw [lookU_of_K hc] at m1
   subst m1
   cases hc' : lookK u id' with
   | none =>
    rw [lookU_of_none hc'] at m3
    exact cross id ab p id' ab' p' hc m5 hc' m3 m6
   | some x' =>
    rw [lookU_of_K hc'] at m3
    subst m3
    obtain ⟨r, a0, q1, q2, q3, q4, q5, q6, q7⟩ := isUs id ab hc
    obtain ⟨r', a0', s1, s2, s3, s4, s5, s6, s7⟩ := isUs id' ab' hc'
    rw [q7] at m5
    rw [s7] at m6
    refine hp1.hr.inj r r' a0 a0' p p' q2 q4 s2 (fun hrr => m4 ?_) m5 m6
    subst hrr
    rw [q1] at s1
    cases s1
    rfl
 ·by_cases hex : ∃ r, ρ r = some id
  ·obtain ⟨r, hr'⟩ := hex
   rcases hρi r id hr' with ⟨a1, a2⟩ | ⟨a1, a2, a3⟩
   ·exact absurd ⟨by omega, h2⟩ (hold r id a2)
   ·omega
  ·rw [hγ'o id hex]; exact hf id (by omega) h2
 ·by_cases hex : ∃ r, ρ r = some id
  ·obtain ⟨r, hr'⟩ := hex
   rcases hρi r id hr' with ⟨a1, a2⟩ | ⟨a1, a2, a3⟩
   ·obtain ⟨_, _, p, _, _, _, a, _⟩ := hal r id a2
    rw [h2] at a; cases a
   ·exact absurd ⟨by omega, by omega⟩ h1
  ·rw [hγ'o id hex]; exact h2
 ·refine hp1.out b hb fun ho => hno ?_
  obtain ⟨j, id2, ab2, p2, d1, d2, d3, d4, d5, d6, d7⟩ := ownH _ ho
  exact ⟨id2, ab2, p2, d4, d5, d6, d7⟩
 ·cases hc : lookK u id with
  | none =>
   rw [lookU_of_none hc] at m1
   obtain ⟨pp, a1, a2, _⟩ := notU id ab hc m1
   rw [m3] at a1
   cases a1
   exact .inl ⟨id, ab, p, m1, m2, a2, m4⟩
  | some x =>
   rw [lookU_of_K hc] at m1
   subst m1
   obtain ⟨r, a0, q1, q2, q3, q4, q5, q6, q7⟩ := isUs id ab hc
   rw [q7] at m3
   rcases ownU r a0 p q2 q4 m3 with ⟨j, i3, ab3, p3, d1, d2, d3, d4, d5, d6, d7⟩ | h
   ·exact .inl ⟨i3, ab3, p3, d4, d5, d6, by omega⟩
   ·exact .inr (by omega)
end Go.Kr
end
section
namespace Go.Kr
def useE (e : Ent) (gv : Nat → Option Ab) (args : List Value) (lo : Nat) : Option (Value × List (Nat × Option Ab) × Nat) := match matchE gv e args with
 | some bs => match rnV (rnR bs e.objs.length lo e.nx) 8 e.r, rnU (rnR bs e.objs.length lo e.nx) e.ups with
  | some v, some u => some (v, u, lo + (e.nx - e.objs.length))
  | _, _ => none
 | none => none
def firstE : List Ent → (Nat → Option Ab) → List Value → Nat → Option (Value × List (Nat × Option Ab) × Nat)
 | [], _, _, _ => none
 | e :: l, gv, args, lo => match useE e gv args lo with
  | some r => some r
  | none => firstE l gv args lo
def memoS (tbl : Nat → List Ent) : OrcS := fun g args gv lo => firstE (tbl g) gv args lo
theorem firstE_mem : ∀ {l : List Ent} {gv : Nat → Option Ab} {args : List Value} {lo : Nat} {r : Value × List (Nat × Option Ab) × Nat}, firstE l gv args lo = some r → ∃ e ∈ l, useE e gv args lo = some r
 | [], gv, args, lo, r, h => by cases h
 | e :: l, gv, args, lo, r, h => by
  simp only [firstE] at h
  split at h
  ·rename_i r1 h1; cases h; exact ⟨e, by simp, h1⟩
  ·obtain ⟨e', h1, h2⟩ := firstE_mem h; exact ⟨e', by simp [h1], h2⟩
theorem memoS_ok {P : Program} {tbl : Nat → List Ent} (h : ∀ g e, e ∈ tbl g → EntOk P g e) : OrcSOk P (memoS tbl) := ⟨by
 intro g args gv lo v u nx' _ ho H γ w vs hi hg hr hf hhi hl
 obtain ⟨e, he, hu⟩ := firstE_mem ho
 unfold useE at hu
 split at hu
 ·rename_i bs hm
  split at hu
  ·rename_i v1 u1 hv hu1
   cases hu
   exact memo_call (h g e he) hm hv hu1 hg hr hf hhi hl
  ·cases hu
 ·cases hu⟩
def orcOf (o : OrcS) : Orc := fun g args h => match o g args h.t.get h.nx with
 | some (v, u, nx') => match Nat.ble nx' HI with
  | true => some (v, ⟨applyU u h.t, nx'⟩)
  | false => none
 | none => none
theorem orcOf_ok {P : Program} {o : OrcS} (ho : OrcSOk P o) : OrcOk P (orcOf o) := by
 intro g args h r hg hr
 unfold orcOf at hr
 split at hr
 ·rename_i v u nx' h1
  split at hr
  ·rename_i hle
   cases hr
   intro w γ vs hhr hf hl
   refine Calls.mono (ho.call g args _ _ _ _ _ hg h1 h.t.get γ w vs HI (fun _ _ h => h) hhr hf (Nat.le_of_ble_eq_true hle) hl) fun e w' he => ?_
   obtain ⟨v', γ', rfl, hv, hp⟩ := he
   exact ⟨(v, ⟨applyU u h.t, nx'⟩), List.mem_singleton.2 rfl, v', γ', rfl, hv, by show Post _ _ _ _ _ (applyU u h.t).get _ _ _; rw [get_applyU]; exact hp⟩
  ·cases hr
 ·cases hr
def seenE (h : Hp) : Nat → List (Nat × Option Ab) → List (Option Ab)
 | 0, ups => ups.map fun p => h.t.get p.1
 | k + 1, ups => h.t.get k :: seenE h k ups
def expE (e : Ent) : Nat → List (Option Ab)
 | 0 => e.ups.map (·.2)
 | k + 1 => lookU e.ups (fun i => e.objs[i]?) k :: expE e k
def outsE (e : Ent) : List (Value × Hp) → List (Value × List (Option Ab) × Bool)
 | [] => []
 | r :: l => (r.1, seenE r.2 e.objs.length e.ups, Nat.ble r.2.nx e.nx) :: outsE e l
def replE (x : Value × List (Option Ab) × Bool) : Nat → List (Value × List (Option Ab) × Bool)
 | 0 => []
 | n + 1 => x :: replE x n
def finE (P : Program) (o : OrcS) (fuel : Nat) (g : FuncId) (e : Ent) : Option (List (Value × List (Option Ab) × Bool)) := match goodF P g with
 | some (fn, x) => match Nat.ble e.args.length fn.ntmps with
  | true => match evL P (orcOf o) (drwE P o) fuel fn.results.toList fn.ntmps [.code x] (argT e.args 0 .e) (heapOf e.objs) with
   | some outs => some (outsE e outs)
   | none => none
  | false => none
 | none => none
def ownE : List (Nat × Option Ab) → Bool
 | [] => true
 | (_, some ab) :: l => match ab.own with
  | true => ownE l
  | false => false
 | (_, none) :: l => ownE l
theorem ownE_spec : ∀ {l : List (Nat × Option Ab)}, ownE l = true → ∀ k ab, (k, some ab) ∈ l → ab.own = true
 | [], h, k, ab, hm => by cases hm
 | (k0, some a0) :: l, h, k, ab, hm => by
  simp only [ownE] at h
  split at h
  ·rename_i ho
   rcases List.mem_cons.1 hm with e | hm
   ·cases e; exact ho
   ·exact ownE_spec h k ab hm
  ·cases h
 | (k0, none) :: l, h, k, ab, hm => by
  rcases List.mem_cons.1 hm with e | hm
  ·cases e
  ·exact ownE_spec (l := l) (by simpa only [ownE] using h) k ab hm
theorem seenE_spec {h : Hp} {e : Ent} : ∀ (k : Nat), seenE h k e.ups = expE e k → (∀ p ∈ e.ups, h.t.get p.1 = p.2) ∧ ∀ i, i < k → h.t.get i = lookU e.ups (fun i => e.objs[i]?) i
 | 0, hs => by
  refine ⟨fun p hp => ?_, fun i hi => by omega⟩
  simp only [seenE, expE] at hs
  exact List.map_inj_left.1 hs p hp
 | k + 1, hs => by
  simp only [seenE, expE, List.cons.injEq] at hs
  obtain ⟨a1, a2⟩ := seenE_spec k hs.2
  refine ⟨a1, fun i hi => ?_⟩
  by_cases he : i = k
  ·subst he; exact hs.1
  ·exact a2 i (by omega)
theorem lookK_in {u : List (Nat × Option Ab)} {id : Nat} {x : Option Ab} (h : lookK u id = some x) : (id, x) ∈ u := by
 induction u with
 | nil => cases h
 | cons p u ih =>
  obtain ⟨k, y⟩ := p
  simp only [lookK] at h
  split at h
  ·rename_i e; cases h; rw [Nat.eq_of_beq_eq_true e]; simp
  ·exact List.mem_cons_of_mem _ (ih h)
theorem outsE_spec {e : Ent} {x : Value × List (Option Ab) × Bool} : ∀ {outs : List (Value × Hp)} {n : Nat}, outsE e outs = replE x n → ∀ r ∈ outs, (r.1, seenE r.2 e.objs.length e.ups, Nat.ble r.2.nx e.nx) = x
 | [], n, h => fun r hr => by cases hr
 | r0 :: l, 0, h => by cases h
 | r0 :: l, n + 1, h => by
  simp only [outsE, replE, List.cons.injEq] at h
  intro r hr
  rcases List.mem_cons.1 hr with rfl | hr
  ·exact h.1
  ·exact outsE_spec h.2 r hr
theorem entOk {P : Program} {o : OrcS} {fuel : Nat} {g : FuncId} {e : Ent} {n : Nat} (ho : OrcSOk P o) (hmx : P.follows .mixedOrders = true) (h : finE P o fuel g e = some (replE (e.r, expE e e.objs.length, true) n)) (hown : ownE e.ups = true) : EntOk P g e := by
 unfold finE at h
 split at h
 ·rename_i fn x hg
  split at h
  ·rename_i hlen
   split at h
   ·rename_i outs hev
    simp only [Option.some.injEq] at h
    have hc := evL_sound (orcOf_ok ho) (drwE_ok hmx ho) _ _ _ _ _ _ outs outs hev fun _ hr => hr
    refine ⟨⟨outs, callS_of hg (Nat.le_of_ble_eq_true hlen) hc, fun r hr => ?_⟩, ownE_spec hown⟩
    have hx := outsE_spec h r hr
    simp only [Prod.mk.injEq] at hx
    obtain ⟨h1, h2, h3⟩ := hx
    obtain ⟨a1, a2⟩ := seenE_spec _ h2
    refine ⟨h1, fun id ab hid => ?_, Nat.le_of_ble_eq_true h3⟩
    cases hk : lookK e.ups id with
    | some x' =>
     have := a1 _ (lookK_in hk)
     rw [lookU_of_K hk] at hid
     subst hid
     exact this
    | none =>
     by_cases hlt : id < e.objs.length
     ·rw [a2 id hlt]; exact hid
     ·rw [lookU_of_none hk] at hid
      rw [List.getElem?_eq_none (by omega)] at hid
      cases hid
   ·cases h
  ·cases h
 ·cases h
def tblOf (t : Tr (List Ent)) : Nat → List Ent := fun g => match t.get g with
 | some l => l
 | none => []
def allT : List (Nat × Ent) → Tr (List Ent) → Tr (List Ent)
 | [], t => t
 | (g, e) :: l, t => allT l (putT t g (some (e :: match t.get g with
  | some l => l
  | none => [])))
theorem allT_ok {P : Program} : ∀ (l : List (Nat × Ent)) (t : Tr (List Ent)), (∀ g e, e ∈ tblOf t g → EntOk P g e) → (∀ p ∈ l, EntOk P p.1 p.2) → ∀ g e, e ∈ tblOf (allT l t) g → EntOk P g e
 | [], t, h, _ => h
 | (g0, e0) :: l, t, h, hl => by
  refine allT_ok l _ (fun g e he => ?_) fun p hp => hl p (by simp [hp])
  unfold tblOf at he
  rw [get_putT] at he
  unfold updF at he
  by_cases hg : g = g0
  ·subst hg
   rw [if_pos rfl] at he
   dsimp only at he
   rcases List.mem_cons.1 he with rfl | he
   ·exact hl (g, e) (by simp)
   ·exact h g e he
  ·rw [if_neg hg] at he
   exact h g e he
end Go.Kr
end
section
namespace Go.Kr
noncomputable abbrev P : Program := Go.Proofs.Tryz.prog
theorem mixedP : P.follows .mixedOrders = true := by kernel_rfl
theorem nO : ∀ p ∈ ([] : List (Nat × Ent)), EntOk P p.1 p.2 := fun p h => by cases h
theorem cO {g : Nat} {e : Ent} {l : List (Nat × Ent)} (h : EntOk P g e) (hl : ∀ p ∈ l, EntOk P p.1 p.2) : ∀ p ∈ (g, e) :: l, EntOk P p.1 p.2 := fun p hp => by
 rcases List.mem_cons.1 hp with rfl | hp
 ·exact h
 ·exact hl p hp
theorem emO {P : Program} : ∀ g e, e ∈ tblOf .e g → EntOk P g e := fun g e h => by cases h
theorem eO {g : Nat} {e : Ent} (l : List (Nat × Ent)) (hl : ∀ p ∈ l, EntOk P p.1 p.2) (n : Nat) (h : finE P (memoS (tblOf (allT l .e))) 1000000 g e = some (replE (e.r, expE e e.objs.length, true) n)) (hown : ownE e.ups = true) : EntOk P g e :=
 entOk (memoS_ok (allT_ok l .e emO hl)) mixedP h hown
end Go.Kr
end
