/-
A part of the proof that the statement InitialValues holds of the given program (second form, tied card): contracts as summaries, summaries as contracts.
-/
import Derived.Test.YtleopflmnmfaeaaGreatDoorPL4
import Derived.Test.YtleopflmnmfaeaaGreatDoorPF2
set_option autoImplicit false
set_option linter.unusedSimpArgs false
set_option linter.unusedVariables false
set_option linter.unnecessarySimpa false
section
namespace Go.Kr
open Go.Lw
theorem HR.more {H : Nat → Option Ab} {γ : Gm} {w w' : World} (h : HR H γ w) (hs : w.heap.size ≤ w'.heap.size) (hb : ∀ b, b < w.heap.size → w'.heap[b]? = w.heap[b]?) : HR H γ w' :=
 ⟨fun id ab hid => by
  obtain ⟨p, a1, a2, a3⟩ := h.obj id ab hid
  exact ⟨p, a1, a2.mono (.refl _) (hb _ a3), Nat.lt_of_lt_of_le a3 hs⟩, h.dead, h.inj⟩
theorem cells170 : P.cellsOf 170 = 1 := by kernel_rfl
theorem ent_word {g : FuncId} {m : Bool} (xs : List Nat) (len cap : Nat) {t : ByteArray} (hc : AC P g [.i (.agg [.bool m, words (xs.take len)])] (.i (.str t))) (h1 : len ≤ xs.length) (h2 : len ≤ cap) (h3 : len ≤ top) :
  EntOk P g ⟨[.agg #[.bool m, .slice (some ⟨0, 0, none⟩) len cap]], [⟨true, .cells (xs.map fun n : Nat => Value.int .u32 (n : Int)).toArray 170 (0, 0)⟩], .string t, [], 1⟩ := by
 refine ⟨⟨[(.string t, heapOf [⟨true, .cells (xs.map fun n : Nat => Value.int .u32 (n : Int)).toArray 170 (0, 0)⟩])], fun w γ vs hr hf hl => ?_, fun r hrm => ?_⟩, fun k ab h => by cases h⟩
 ·obtain ⟨v, zs, rfl, hv, hz⟩ := hl.inv_cons
  rw [hz.inv_nil]
  obtain ⟨ys, rfl, hy⟩ := hv.agg_inv
  obtain ⟨y0, l0, e0, hy0, hl0⟩ := LR.inv_cons hy
  obtain ⟨y1, l1, e1, hy1, hl1⟩ := hl0.inv_cons
  have hn := hl1.inv_nil
  subst hn e1
  have ey : ys = [y0, y1].toArray := by apply Array.ext'; simpa using e0
  subst ey
  cases hy0
  cases hy1 with
  | sl _ a' _ _ c' har hcap =>
  obtain ⟨p, hp, hab, hpb⟩ := hr.obj 0 _ (by rw [heapOf_get]; rfl)
  have ha := har.2
  simp only [hp] at ha
  subst ha
  cases hab with
  | own _ cur _ b κ hκ hb hlc hcv =>
  have hcl : len ≤ c' := by
   rcases Nat.lt_or_ge cap big with h | h
   ·rw [hcap.1 h]; exact h2
   ·exact (hcap.2 h).1
  have hlen : (xs.take len).length = len := by rw [List.length_take]; omega
  simp only [List.length_map] at hlc
  have hcj : ∀ j, j < xs.length → ∀ u, cur[j]? = some u → u = .int .u32 ((xs.getD j 0 : Nat) : Int) := fun j hj u hu => by
   have := hcv j (.int .u32 ((xs.getD j 0 : Nat) : Int)) u (by simp [List.getElem?_map, List.getElem?_eq_getElem hj, List.getD_eq_getElem?_getD]) hu
   cases this; rfl
  have hV : V P w (fun _ => False) (.sl 170 ((xs.take len).map word)) (.slice (some ⟨b, 0, none⟩) ((xs.take len).map word).length c') := by
   refine .sl 170 _ b 0 c' (cur.take len) (by simp; omega) (by simp; omega) (by simp; omega) (fun j x u hx hu => ?_) (fun j u hu => ?_) (fun j u m0 c hu hm => ?_) hpb (fun h => h)
   ·rw [List.getElem?_take] at hu
    split at hu
    ·rename_i hj
     rw [hcj j (by omega) u hu]
     rw [List.getElem?_map, List.getElem?_take, if_pos hj, List.getElem?_eq_getElem (by omega)] at hx
     simp at hx
     rw [← hx, List.getD_eq_getElem?_getD, List.getElem?_eq_getElem (by omega)]
     exact .int _ _
    ·cases hu
   ·rw [List.getElem?_take] at hu
    split at hu
    ·rename_i hj
     rw [hcj j (by omega) u hu, cells170]; rfl
    ·cases hu
   ·rw [List.getElem?_take] at hu
    split at hu
    ·rename_i hj
     have hu2 := hcj j (by omega) u hu
     subst hu2
     cases m0 with
     | zero =>
      simp [Value.cells] at hm
      subst hm
      simp [World.cell?, hb, cells170, hu]
     | succ m0 => simp [Value.cells] at hm
    ·cases hu
  simp only [List.length_map, hlen] at hV
  have hz2 : Z (VD P ⟨w, fun _ => False, fun _ => 0, fun _ => none⟩) [.i (.agg [.bool m, words (xs.take len)])] [Value.agg [Value.bool m, .slice (some ⟨b, 0 + 0, none⟩) len c'].toArray] := by
   refine ⟨rfl, fun j x v hx hv => ?_⟩
   cases j with
   | zero =>
    simp at hx hv
    subst hx hv
    refine .i _ _ (.agg _ [.bool m, .slice (some ⟨b, 0, none⟩) len c'] rfl (fun j x v hx hv => ?_) (fun v hv => ?_))
    ·match j with
     | 0 => simp at hx hv; subst hx hv; exact .bool _
     | 1 => simp at hx hv; subst hx hv; exact hV
     | j + 2 => simp at hx
    ·simp at hv
     rcases hv with rfl | rfl <;> rfl
   | succ j => simp at hx
  refine Calls.mono (hc ⟨w, fun _ => False, fun _ => 0, fun _ => none⟩ _ (fun id o ho => by cases ho) (fun b hb => hb.elim) hz2) fun e w' ⟨v, he, hv, q1, q2, q3, q4, q5⟩ => ?_
  refine ⟨_, List.mem_singleton.2 rfl, v, γ, he, ?_, hr.more q1 q5, Nat.le_refl _, hf, .refl _, fun _ _ h => h, q1, q2, q3, q4, fun b hb _ => q5 b hb, fun b hb => .inl hb⟩
  cases hv with
  | i _ _ hv => cases hv; exact .str _
 ·rw [List.mem_singleton.1 hrm]
  refine ⟨rfl, fun id ab hid => ?_, Nat.le_refl _⟩
  rw [heapOf_get]; exact hid
theorem ac_of_ent {g : FuncId} {args : List Value} {ds : List D} {b : Bool} {nx : Nat} (h : EntOk P g ⟨args, [], .bool b, [], nx⟩) (ha : ∀ (gg : G) (vs : List Value), Z (VD P gg) ds vs → vs = args) (hl : ∀ γ : Gm, LR γ args args) : AC P g ds (.i (.bool b)) := by
 obtain ⟨⟨outs, hc, ho⟩, _⟩ := h
 intro gg vs _ _ zz
 rw [ha gg vs zz]
 have h0 : ∀ id, (heapOf []).t.get id = none := fun id => by rw [heapOf_get]; rfl
 refine Calls.mono (hc gg.w (fun _ => none) args ⟨fun id ab hid => ?_, fun _ _ _ hh => (by cases hh), fun id id' ab ab' p p' hid => ?_⟩ (fun _ _ _ => rfl) (hl _)) fun e w' ⟨r, hr, v', γ', he, hv, hp⟩ => ?_
 ·rw [h0 id] at hid; cases hid
 ·rw [h0 id] at hid; cases hid
 ·rw [(ho r hr).1] at hv
  cases hv
  exact ⟨_, he, .i _ _ (.bool b), hp.size, hp.os, hp.tape, hp.output, fun b hb => hp.out b hb fun ⟨id, ab, p, hh, _⟩ => by rw [h0 id] at hh; cases hh⟩
theorem ac_of_ent0 {g : FuncId} {b : Bool} {nx : Nat} (h : EntOk P g ⟨[], [], .bool b, [], nx⟩) : AC P g [] (.i (.bool b)) :=
 ac_of_ent h (fun gg vs zz => List.length_eq_zero_iff.1 (by simpa using zz.len)) fun γ => .nil γ
def okB (b : Bool) : Option (List (Value × List (Option Ab) × Bool)) → Bool
 | some [(.bool c, [], true)] => c == b
 | _ => false
theorem okB_eq {b : Bool} {o : Option (List (Value × List (Option Ab) × Bool))} (h : okB b o = true) : o = some (replE (.bool b, [], true) 1) := by
 unfold okB at h
 split at h
 ·rw [eq_of_beq h]; rfl
 ·cases h
def upTo (f : Nat → Bool) : Nat → Bool
 | 0 => true
 | n + 1 => match f n with
  | true => upTo f n
  | false => false
theorem upTo_spec {f : Nat → Bool} : ∀ {n : Nat}, upTo f n = true → ∀ k, k < n → f k = true
 | 0, _, k, hk => by omega
 | n + 1, h, k, hk => by
  simp only [upTo] at h
  split at h
  ·rename_i hn
   by_cases e : k = n
   ·subst e; exact hn
   ·exact upTo_spec h k (by omega)
  ·cases h
end Go.Kr
end
section
set_option maxRecDepth 100000
namespace Go.Kr
open Go.Lw
abbrev sl (b o l c : Nat) : Value := .slice (some ⟨b, o, none⟩) l c
abbrev fz : Ab := ⟨false, .cells #[] 0 (0, 0)⟩
abbrev ow (c : Array Value) (E : Nat) : Ab := ⟨true, .cells c E (0, 0)⟩
abbrev c1 : Nat := 18446744073709551617
abbrev c3 : Nat := 18446744073709551619
abbrev c4 : Nat := 18446744073709551620
abbrev c7 : Nat := 18446744073709551623
abbrev c9 : Nat := 18446744073709551625
theorem wd_1 : wd 1 = [1] := by unfold wd; rw [dg_pos (by omega) (by omega), show 1 / 1000000000 = 0 by omega, dg_zero]
theorem wd_0 : wd 0 = [] := dg_zero _
theorem nd_1 : ndig 1 = 1 := by unfold ndig; rw [if_neg (by omega), dg_pos (by omega) (by omega), show 1 / 10 = 0 by omega, dg_zero]; rfl
theorem tx_1 : txt 1 = ⟨#[49]⟩ := by unfold txt txtL; rw [nd_1]; decide
theorem str_1 : AC P 62 [.i (.agg [.bool false, words [1]])] (.i (.str ⟨#[49]⟩)) := by
 have h := string_all (z := 1) (by unfold Zb; show (wd 1).length ≤ _; rw [wd_1]; decide)
 rw [encZ_eq, show ztxt 1 = ⟨#[49]⟩ from tx_1] at h
 simpa [ew, wd_1] using h
theorem str_m : AC P 62 [.i (.agg [.bool true, words [1]])] (.i (.str ⟨#[45, 49]⟩)) := by
 have h := string_all (z := -1) (by unfold Zb; show (wd 1).length ≤ _; rw [wd_1]; decide)
 rw [encZ_eq, show ztxt (-1) = ⟨#[45, 49]⟩ by show ⟨#[45]⟩ ++ txt 1 = _; rw [tx_1]; decide] at h
 simpa [ew, wd_1] using h
theorem str_0 : AC P 62 [.i (.agg [.bool false, words []])] (.i (.str ⟨#[48]⟩)) := by
 have h := string_all (z := 0) (by unfold Zb; show (wd 0).length ≤ _; rw [wd_0]; decide)
 rw [encZ_eq, show ztxt 0 = ⟨#[48]⟩ by decide] at h
 simpa [ew, wd_0] using h
end Go.Kr
end
