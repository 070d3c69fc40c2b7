/-
A part of the proof that the statement InitialValues holds of the given program (second form, tied card): the contracts of the reference.
-/
import Derived.Test.YtleopflmnmfaeaaGreatDoorPM
import Derived.Test.YtleopflmnmfaeaaGreatDoorPC
set_option autoImplicit false
set_option linter.unusedSimpArgs false
set_option linter.unusedVariables false
set_option linter.unnecessarySimpa false
section
set_option maxRecDepth 10000
namespace Go.Lw
open Go.Proofs
def di (n : Nat) : I := .int .i64 (n : Int)
def dl (l : List Nat) : I := .sl 3 (l.map di)
theorem tu {s s0 : St} (h1 : s.n = s0.n := by rfl) (h2 : ∀ p ∈ s0.sl, (s.get p.1).norm = p.2.norm := by simp [St.get, look, D.norm, dl]) (h3 : ∀ p ∈ s0.ob, s.obj p.1 = p.2 := by simp [St.obj, lookO, word])
  (h4 : ∀ p ∈ s0.sl, p.2.ok (fun id => (s0.obj id).isSome) = true := by simp [D.ok, D.ok1, D.ok0, St.obj, lookO]) (h5 : ∀ p ∈ s0.ob, ∀ o, p.2 = some o → o.ok (fun id => (s0.obj id).isSome) = true := by simp [Ob.ok, D.ok1, D.ok0, St.obj, lookO]) : s.Tells s0 := ⟨h1, h2, h3, h4, h5⟩
theorem nth_di (l : List Nat) (k : Nat) (h : k < l.length) : nth (l.map di) k = .int .i64 (l.getD k 0 : Nat) := nth_mapD di l k 0 h
theorem get_di (l : List Nat) (k : Nat) (h : k < l.length) : (l.map di)[k]? = some (.int .i64 (l.getD k 0 : Nat)) := by
 rw [List.getElem?_map, List.getD_eq_getElem?_getD, List.getElem?_eq_getElem h]; rfl
theorem set_di (l : List Nat) (k : Nat) (z : Int) (h : 0 ≤ z) : (l.map di).set k (.int .i64 z) = (l.set k z.toNat).map di := by
 rw [List.map_set]; congr 1; unfold di; congr 1; omega
theorem app_di (l : List Nat) (z : Int) (h : 0 ≤ z) : l.map di ++ [.int .i64 z] = (l ++ [z.toNat]).map di := by
 rw [List.map_append]; congr 1; simp only [List.map_cons, List.map_nil, di]; congr 2; omega
theorem one_di (z : Int) (h : 0 ≤ z) : [I.int .i64 z] = [z.toNat].map di := by
 simp only [List.map_cons, List.map_nil, di]; congr 2; omega
theorem rep_di (n : Nat) : List.replicate n (I.int .i64 0) = (List.replicate n 0).map di := by rw [List.map_replicate]; rfl
theorem take_di (l : List Nat) (n : Nat) : (l.map di).take n = (l.take n).map di := List.map_take.symm
theorem drop_di (l : List Nat) (n : Nat) : (l.map di).drop n = (l.drop n).map di := List.map_drop.symm
theorem tn_sub (a b : Nat) : ((a : Int) - (b : Int)).toNat = a - b := by omega
theorem tn_sub1 (a : Nat) : ((a : Int) - 1).toNat = a - 1 := by omega
theorem tn_add (a b : Nat) : ((a : Int) + (b : Int)).toNat = a + b := by omega
theorem tn_add1 (a : Nat) : ((a : Int) + 1).toNat = a + 1 := by omega
theorem le_T {a b : Int} (h : a ≤ b) : (a ≤ b) = True := eq_true h
theorem lt_T {a b : Int} (h : a < b) : (a < b) = True := eq_true h
theorem le_F {a b : Int} (h : ¬ a ≤ b) : (a ≤ b) = False := eq_false h
theorem lt_F {a b : Int} (h : ¬ a < b) : (a < b) = False := eq_false h
theorem nle_T {a b : Nat} (h : a ≤ b) : (a ≤ b) = True := eq_true h
theorem nlt_T {a b : Nat} (h : a < b) : (a < b) = True := eq_true h
theorem eq_T {a b : Int} (h : a = b) : (a = b) = True := eq_true h
theorem eq_F {a b : Int} (h : ¬ a = b) : (a = b) = False := eq_false h
theorem wr_64 {n : Int} (h : -9223372036854775808 ≤ n ∧ n < 9223372036854775808) : IntKind.i64.wrap n = n := by rw [IntKind.wrap_i64]; omega
theorem wr_u64 {n : Int} (h : 0 ≤ n ∧ n < 18446744073709551616) : IntKind.u64.wrap n = n := wu64 n h.1 h.2
theorem wr_u32 {n : Int} (h : 0 ≤ n ∧ n < 4294967296) : IntKind.u32.wrap n = n := wrap_u32 n h.1 h.2
theorem wr_u8 {n : Int} (h : 0 ≤ n ∧ n < 256) : IntKind.u8.wrap n = n := by simp [IntKind.wrap, IntKind.bits, IntKind.signed]; omega
theorem td_e {n d : Int} (h : 0 ≤ n) : n.tdiv d = n / d := Int.tdiv_eq_ediv_of_nonneg h
theorem tm_e {n d : Int} (h : 0 ≤ n) : n.tmod d = n % d := Int.tmod_eq_emod_of_nonneg h
theorem td_len (l : List Nat) (k : Nat) : (l.drop k).take (l.length - k) = l.drop k := List.take_of_length_le (by simp)
theorem top_e : top = 140737488355328 := rfl
attribute [go_sem] td_len nth_di get_di set_di app_di rep_di take_di drop_di tn_sub tn_sub1 tn_add tn_add1 le_T lt_T le_F lt_F eq_T eq_F nle_T nlt_T wr_64 wr_u64 wr_u32 wr_u8 td_e tm_e top_e List.length_set List.length_append List.length_replicate List.length_take List.length_drop Bool.not_eq_true' Bool.not_eq_false' true_implies Nat.min_self List.take_length
end Go.Lw
end
section
set_option maxRecDepth 10000
namespace Go.Lw
open Go.Proofs
theorem take_snoc (l : List Nat) (k : Nat) (h : k < l.length) : l.take (k + 1) = l.take k ++ [l.getD k 0] := by
 rw [List.take_add_one]; simp [List.getD, List.getElem?_eq_getElem h]
theorem dv_take_succ (b : Nat) (l : List Nat) (k : Nat) : dv b (l.take (k + 1)) = dv b (l.take k) + b ^ k * l.getD k 0 := by
 rcases Nat.lt_or_ge k l.length with h | h
 ·rw [take_snoc l k h, dv_append]; simp [dv, List.length_take, Nat.min_eq_left (Nat.le_of_lt h)]
 ·rw [List.take_of_length_le (by omega), List.take_of_length_le h]; simp [List.getD, List.getElem?_eq_none h]
theorem trim_ac (l : List Nat) (hl : l.length ≤ 35184372088832) : AC P0 71 [.i (dl l)] (.i (dl (trimZ l))) := by
 refine AC.of_go Tryz.func71 rfl rfl (Nat.le_of_ble_eq_true rfl) ?_
 simp (disch := first | (intro _; intros; contradiction) | omega | (simp only [lens]; omega)) only [go_sem, ↓reduceIte, reduceCtorEq, Nat.reduceEqDiff, Nat.reduceLT, Nat.reduceSub, Int.reduceLT, Nat.reduceAdd, Nat.reduceLeDiff, Int.reduceEq, Int.reduceNe, Int.reduceToNat, Tryz.f71, dl]
 refine go_loopI (fun n : Int => ⟨21, [(0, .i (dl l)), (3, .i (.int .i64 n))], []⟩) (fun n => 0 ≤ n ∧ n ≤ l.length ∧ trimZ (l.take n.toNat) = trimZ l) Int.toNat l.length ?_ ⟨by omega, by omega, by simp⟩ ?_
 ·exact tu
 ·rintro K n ⟨h0, h1, h2⟩ hK
  simp +contextual (disch := first | (intro _; intros; contradiction) | omega | (simp only [lens]; omega)) only [go_sem, ↓reduceIte, reduceCtorEq, Nat.reduceEqDiff, Nat.reduceLT, Nat.reduceSub, Int.reduceLT, Nat.reduceAdd, Nat.reduceLeDiff, Int.reduceEq, Int.reduceNe, Int.reduceToNat, Tryz.f71, dl]
  refine ⟨fun hn => ⟨fun hz => ?_, fun hz => ?_⟩, fun hn => ?_⟩
  ·have e : n.toNat = (n - 1).toNat + 1 := by omega
   refine hK _ (n - 1) ⟨by omega, by omega, ?_⟩ (by omega) tu
   rw [← h2, e, take_snoc l _ (by omega), trimZ_snoc, if_pos (by omega)]
  ·have e : n.toNat = (n - 1).toNat + 1 := by omega
   rw [← h2, e, take_snoc l _ (by omega), trimZ_snoc, if_neg (by omega)]
  ·have e : n.toNat = 0 := by omega
   rw [← h2, e]; rfl
end Go.Lw
end
section
set_option maxRecDepth 10000
namespace Go.Lw
open Go.Proofs
def en (n : Nat) : I := dl (dg 10000 n)
def nilD : List Nat → I
 | [] => .sl 0 []
 | l => dl l
theorem nilD_eqv (l : List Nat) : Eqv (nilD l) (dl l) := by
 cases l with
 | nil => exact .sl0 0 3
 | cons x l => exact .refl _
theorem dg_step {u : Int} (h : 0 < u) : dg 10000 u.toNat = (u % 10000).toNat :: dg 10000 (u / 10000).toNat := by
 rw [dg_pos (by omega) (by omega)]
 congr 1
 ·omega
 ·congr 1; omega
def natSt (u : Int) : List Nat → St
 | [] => ⟨15, [(0, .i (.int .u64 u)), (3, .nils)], []⟩
 | x :: o => ⟨15, [(0, .i (.int .u64 u)), (3, .own 11 o.length 0 (o.length + 1))], [(11, some (.arr 3 o.length ((x :: o).map di)))]⟩
theorem natOf_ac (n : Int) (h0 : 0 ≤ n) (h1 : n < 18446744073709551616) : AC P0 34 [.i (.int .u64 n)] (.i (en n.toNat)) := by
 refine AC.eqv (x := nilD (dg 10000 n.toNat)) ?_ (nilD_eqv _)
 refine AC.of_go Tryz.func34 rfl rfl (Nat.le_of_ble_eq_true rfl) ?_
 simp (disch := first | (intro _; intros; contradiction) | omega | (simp only [lens]; omega)) only [go_sem, ↓reduceIte, reduceCtorEq, Nat.reduceEqDiff, Nat.reduceLT, Nat.reduceSub, Int.reduceLT, Nat.reduceAdd, Nat.reduceLeDiff, Int.reduceEq, Int.reduceNe, Int.reduceToNat, Tryz.f34]
 refine go_loopI (fun p : Int × List Nat => natSt p.1 p.2) (fun p => 0 ≤ p.1 ∧ p.1 < 18446744073709551616 ∧ p.1.toNat * 10000 ^ p.2.length ≤ n.toNat ∧ p.2 ++ dg 10000 p.1.toNat = dg 10000 n.toNat) (fun p => p.1.toNat) (n, []) ?_ ⟨h0, h1, by simp, by simp⟩ ?_
 ·simp only [natSt]; exact tu
 ·rintro K ⟨u, o⟩ ⟨h3, h4, h5, h6⟩ hK
  simp only at h3 h4 h5 h6
  have hstep : 0 < u → (u / 10000).toNat * 10000 ^ (o.length + 1) ≤ n.toNat := fun hu => by
   have e1 : (u / 10000).toNat * 10000 ≤ u.toNat := by omega
   have := Nat.mul_le_mul_right (10000 ^ o.length) e1
   rw [Nat.pow_succ, Nat.mul_comm (10000 ^ o.length), ← Nat.mul_assoc]
   omega
  have hlen : 0 < u → o.length ≤ 5 := fun hu => by
   rcases Nat.lt_or_ge 5 o.length with hk | hk
   ·have a1 : 10000 ^ 6 ≤ 10000 ^ o.length := Nat.pow_le_pow_right (by omega) hk
    have a2 : 1 * 10000 ^ o.length ≤ u.toNat * 10000 ^ o.length := Nat.mul_le_mul_right _ (by omega)
    omega
   ·exact hk
  cases o with
  | nil =>
   simp only [natSt]
   simp +contextual (disch := first | (intro _; intros; contradiction) | omega | (simp only [lens]; omega)) only [go_sem, ↓reduceIte, reduceCtorEq, Nat.reduceEqDiff, Nat.reduceLT, Nat.reduceSub, Int.reduceLT, Nat.reduceAdd, Nat.reduceLeDiff, Int.reduceEq, Int.reduceNe, Int.reduceToNat, Tryz.f34]
   refine ⟨fun hu => ?_, fun hu => ?_⟩
   ·refine hK _ (u / 10000, [(u % 10000).toNat]) ⟨by simp only; omega, by simp only; omega, hstep hu, by rw [← h6, dg_step hu]; rfl⟩ (by simp only; omega) ?_
    simp only [natSt, one_di _ (show (0 : Int) ≤ u % 10000 by omega)]
    exact tu
   ·have : u.toNat = 0 := by omega
    rw [← h6, this, dg_zero]; rfl
  | cons x o =>
   simp only [natSt]
   simp +contextual (disch := first | (intro _; intros; contradiction) | omega | (simp only [lens]; omega)) only [go_sem, ↓reduceIte, reduceCtorEq, Nat.reduceEqDiff, Nat.reduceLT, Nat.reduceSub, Int.reduceLT, Nat.reduceAdd, Nat.reduceLeDiff, Int.reduceEq, Int.reduceNe, Int.reduceToNat, Tryz.f34]
   refine ⟨fun hu => ?_, fun hu => ?_⟩
   ·have hk := hlen hu
    simp only [List.length_cons] at hk hstep
    refine ⟨⟨by omega, by omega⟩, ?_⟩
    refine hK _ (u / 10000, x :: (o ++ [(u % 10000).toNat])) ⟨by simp only; omega, by simp only; omega, by simp only [List.length_cons, List.length_append, List.length_nil]; exact hstep hu, by rw [← h6, dg_step hu]; simp⟩ (by simp only; omega) ?_
    simp only [natSt]
    exact tu
   ·have : u.toNat = 0 := by omega
    rw [← h6, this, dg_zero]
    simp [nilD, dl]
theorem dv_split (b : Nat) (l : List Nat) (k : Nat) (h : k ≤ l.length) : dv b l = dv b (l.take k) + b ^ k * dv b (l.drop k) := by
 conv => lhs; rw [← List.take_append_drop k l]
 rw [dv_append, List.length_take, Nat.min_eq_left h]
theorem lt_of_top {b : Nat} {x y : List Nat} (hl : x.length = y.length) (hx : Dl b x) {k : Nat} (hk : k < x.length) (hd : x.drop (k + 1) = y.drop (k + 1)) (hlt : x.getD k 0 < y.getD k 0) : dv b x < dv b y := by
 rw [dv_split b x (k + 1) (by omega), dv_split b y (k + 1) (by omega), hd, take_snoc x k hk, take_snoc y k (by omega)]
 have := dv_lt_of_last (b := b) (l := x.take k) (m := y.take k) (by simp; omega) (hx.take k) hlt
 omega
def cmpZ (a b : Nat) : Int := if a < b then -1 else if b < a then 1 else 0
theorem cmpNat_ac (a b : Nat) (ha : (dg 10000 a).length ≤ 35184372088832) (hb : (dg 10000 b).length ≤ 35184372088832) : AC P0 37 [.i (en a), .i (en b)] (.i (.int .i64 (cmpZ a b))) := by
 obtain ⟨A, hA⟩ : ∃ A, A = dg 10000 a := ⟨_, rfl⟩
 obtain ⟨B, hB⟩ : ∃ B, B = dg 10000 b := ⟨_, rfl⟩
 have cA : Cn 10000 A := hA ▸ dg_cn (by omega) a
 have cB : Cn 10000 B := hB ▸ dg_cn (by omega) b
 have vA : dv 10000 A = a := by rw [hA, dv_dg (by omega)]
 have vB : dv 10000 B = b := by rw [hB, dv_dg (by omega)]
 unfold en
 rw [← hA] at ha ⊢
 rw [← hB] at hb ⊢
 clear hA hB
 refine AC.of_go Tryz.func37 rfl rfl (Nat.le_of_ble_eq_true rfl) ?_
 simp +contextual (disch := first | (intro _; intros; contradiction) | omega | (simp only [lens]; omega)) only [go_sem, ↓reduceIte, reduceCtorEq, Nat.reduceEqDiff, Nat.reduceLT, Nat.reduceSub, Int.reduceLT, Nat.reduceAdd, Nat.reduceLeDiff, Int.reduceEq, Int.reduceNe, Int.reduceToNat, Tryz.f37, dl]
 refine ⟨fun hne => ⟨fun hlt => ?_, fun hlt => ?_⟩, fun heq => ?_⟩
 ·have := dv_lt_of_len (by omega) cA.dl cB (show A.length < B.length by omega)
  unfold cmpZ; rw [if_pos (by omega)]
 ·have := dv_lt_of_len (by omega) cB.dl cA (show B.length < A.length by omega)
  unfold cmpZ; rw [if_neg (by omega), if_pos (by omega)]
 ·have hl : A.length = B.length := by omega
  refine go_loopI (fun n : Int => ⟨41, [(0, .i (dl A)), (1, .i (dl B)), (5, .i (.int .i64 n))], []⟩) (fun n => -1 ≤ n ∧ n < A.length ∧ A.drop (n + 1).toNat = B.drop (n + 1).toNat) (fun n => (n + 1).toNat) ((B.length : Int) - 1) ?_ ⟨by omega, by omega, ?_⟩ ?_
  ·exact tu
  ·rw [List.drop_of_length_le (by omega), List.drop_of_length_le (by omega)]
  ·rintro K n ⟨h0, h1, h2⟩ hK
   simp +contextual (disch := first | (intro _; intros; contradiction) | omega | (simp only [lens]; omega)) only [go_sem, ↓reduceIte, reduceCtorEq, Nat.reduceEqDiff, Nat.reduceLT, Nat.reduceSub, Int.reduceLT, Nat.reduceAdd, Nat.reduceLeDiff, Int.reduceEq, Int.reduceNe, Int.reduceToNat, Tryz.f37, dl]
   refine ⟨fun hn => ?_, fun hn => ?_⟩
   ·refine go_drawn mixed0 (by kernel_rfl) ?_
    simp +contextual (disch := first | (intro _; intros; contradiction) | omega | (simp only [lens]; omega)) only [go_sem, ↓reduceIte, reduceCtorEq, Nat.reduceEqDiff, Nat.reduceLT, Nat.reduceSub, Int.reduceLT, Nat.reduceAdd, Nat.reduceLeDiff, Int.reduceEq, Int.reduceNe, Int.reduceToNat, Tryz.f37, dl]
    refine ⟨by kernel_rfl, ?_⟩
    refine ⟨fun hlt => ?_, fun hlt => ?_⟩
    ·have := lt_of_top hl cA.dl (k := n.toNat) (by omega) (by rw [show n.toNat + 1 = (n + 1).toNat by omega]; exact h2) (by omega)
     unfold cmpZ; rw [if_pos (by omega)]
    ·refine go_drawn mixed0 (by kernel_rfl) ?_
     simp +contextual (disch := first | (intro _; intros; contradiction) | omega | (simp only [lens]; omega)) only [go_sem, ↓reduceIte, reduceCtorEq, Nat.reduceEqDiff, Nat.reduceLT, Nat.reduceSub, Int.reduceLT, Nat.reduceAdd, Nat.reduceLeDiff, Int.reduceEq, Int.reduceNe, Int.reduceToNat, Tryz.f37, dl]
     refine ⟨by kernel_rfl, ?_⟩
     refine ⟨fun hgt => ?_, fun hgt => ?_⟩
     ·have := lt_of_top hl.symm cB.dl (k := n.toNat) (by omega) (by rw [show n.toNat + 1 = (n + 1).toNat by omega]; exact h2.symm) (by omega)
      unfold cmpZ; rw [if_neg (by omega), if_pos (by omega)]
     ·refine hK _ (n - 1) ⟨by omega, by omega, ?_⟩ (by omega) tu
      rw [show (n - 1 + 1).toNat = n.toNat by omega]
      have e : ∀ l : List Nat, n.toNat < l.length → l.drop n.toNat = l.getD n.toNat 0 :: l.drop (n + 1).toNat := fun l hlen => by
       rw [List.drop_eq_getElem_cons hlen, show (n + 1).toNat = n.toNat + 1 by omega]; simp [List.getD, hlen]
      rw [e A (by omega), e B (by omega), h2, show A.getD n.toNat 0 = B.getD n.toNat 0 by omega]
   ·have e : (n + 1).toNat = 0 := by omega
    rw [e, List.drop_zero, List.drop_zero] at h2
    unfold cmpZ
    rw [← vA, ← vB, h2, if_neg (by omega), if_neg (by omega)]
end Go.Lw
end
section
set_option maxRecDepth 10000
namespace Go.Lw
open Go.Proofs
theorem dl_getD_lt {l : List Nat} (h : Dl 10000 l) (k : Nat) : l.getD k 0 < 10000 := h.getD (by omega) k
theorem dl_set {b : Nat} {l : List Nat} (h : Dl b l) {k v : Nat} (hv : v < b) : Dl b (l.set k v) := fun x hx => by
 rcases List.mem_or_eq_of_mem_set hx with h1 | h1
 ·exact h x h1
 ·subst h1; exact hv
theorem dv_put {b : Nat} {l : List Nat} {k v : Nat} (hk : k < l.length) (h0 : l.getD k 0 = 0) : dv b (l.set k v) = dv b l + b ^ k * v := by
 have := dv_set b l k v hk
 rw [h0] at this; omega
theorem dl_rep {b : Nat} (hb : 0 < b) (n : Nat) : Dl b (List.replicate n 0) := fun x hx => by
 rw [List.mem_replicate] at hx; omega
theorem getD_rep (n j : Nat) : (List.replicate n 0).getD j 0 = 0 := by
 rw [List.getD_eq_getElem?_getD, List.getElem?_replicate]; split <;> rfl
theorem en_len {n k : Nat} (h : n < 10000 ^ k) : (dg 10000 n).length ≤ k := dg_len_le (by omega) h
theorem dl_trim {l : List Nat} (h : Dl 10000 l) : dl (trimZ l) = en (dv 10000 l) := by unfold en; rw [trimZ_dg (by omega) h]
theorem addNat_ac (a b : Nat) (ha : (dg 10000 a).length ≤ 1000000000000) (hb : (dg 10000 b).length ≤ 1000000000000) : AC P0 36 [.i (en a), .i (en b)] (.i (en (a + b))) := by
 obtain ⟨A, hA⟩ : ∃ A, A = dg 10000 a := ⟨_, rfl⟩
 obtain ⟨B, hB⟩ : ∃ B, B = dg 10000 b := ⟨_, rfl⟩
 have cA : Cn 10000 A := hA ▸ dg_cn (by omega) a
 have cB : Cn 10000 B := hB ▸ dg_cn (by omega) b
 have vA : dv 10000 A = a := by rw [hA, dv_dg (by omega)]
 have vB : dv 10000 B = b := by rw [hB, dv_dg (by omega)]
 have e1 : en a = dl A := by rw [hA]; rfl
 have e2 : en b = dl B := by rw [hB]; rfl
 rw [e1, e2]
 rw [← hA] at ha
 rw [← hB] at hb
 clear hA hB e1 e2
 refine AC.of_go Tryz.func36 rfl rfl (Nat.le_of_ble_eq_true rfl) ?_
 simp +contextual (disch := first | (intro _; intros; contradiction) | omega | (simp only [lens]; omega)) only [go_sem, ↓reduceIte, reduceCtorEq, Nat.reduceEqDiff, Nat.reduceLT, Nat.reduceSub, Int.reduceLT, Nat.reduceAdd, Nat.reduceLeDiff, Int.reduceEq, Int.reduceNe, Int.reduceToNat, Tryz.f36, dl]
 obtain ⟨N, hN⟩ : ∃ N : Nat, N = (max (A.length : Int) B.length + 1).toNat := ⟨_, rfl⟩
 rw [← hN]
 refine go_loopI (fun p : Int × Int × List Nat => ⟨52, [(0, .i (dl A)), (1, .i (dl B)), (5, .own 15 0 0 N), (6, .i (.int .i64 p.2.1)), (7, .i (.int .i64 p.1))], [(15, some (.arr 3 0 (p.2.2.map di)))]⟩)
  (fun p => 0 ≤ p.1 ∧ p.1 ≤ N ∧ 0 ≤ p.2.1 ∧ p.2.1 ≤ 2 ∧ p.2.2.length = N ∧ Dl 10000 p.2.2 ∧ (∀ j, p.1.toNat ≤ j → p.2.2.getD j 0 = 0) ∧
   dv 10000 p.2.2 + 10000 ^ p.1.toNat * p.2.1.toNat = dv 10000 (A.take p.1.toNat) + dv 10000 (B.take p.1.toNat)) (fun p => N - p.1.toNat) (0, 0, List.replicate N 0) ?_
  ⟨by simp, by simp only; omega, by simp, by simp, by simp, dl_rep (by omega) N, fun j _ => getD_rep N j, by simp [dv_replicate, dv]⟩ ?_
 ·exact tu
 ·rintro K ⟨i, c, o⟩ ⟨h1, h2, h3, h4, h5, h6, h7, h8⟩ hK
  simp only at h1 h2 h3 h4 h5 h6 h7 h8
  have x1 := dl_getD_lt cA.dl i.toNat
  have x2 := dl_getD_lt cB.dl i.toNat
  have key : ∀ v : Int, i < N → v = c + A.getD i.toNat 0 + B.getD i.toNat 0 → 0 ≤ i + 1 ∧ i + 1 ≤ N ∧ 0 ≤ v / 10000 ∧ v / 10000 ≤ 2 ∧ (o.set i.toNat (v % 10000).toNat).length = N ∧ Dl 10000 (o.set i.toNat (v % 10000).toNat) ∧
    (∀ j, (i + 1).toNat ≤ j → (o.set i.toNat (v % 10000).toNat).getD j 0 = 0) ∧ dv 10000 (o.set i.toNat (v % 10000).toNat) + 10000 ^ (i + 1).toNat * (v / 10000).toNat = dv 10000 (A.take (i + 1).toNat) + dv 10000 (B.take (i + 1).toNat) := fun v hi hv => by
   refine ⟨by omega, by omega, by omega, by omega, by simp [h5], dl_set h6 (by omega), fun j hj => by rw [getD_set, if_neg (by omega)]; exact h7 j (by omega), ?_⟩
   rw [dv_put (by omega) (h7 _ (Nat.le_refl _)), show (i + 1).toNat = i.toNat + 1 by omega, dv_take_succ, dv_take_succ, Nat.pow_succ]
   generalize 10000 ^ i.toNat = p at *
   have e : p * ((v % 10000).toNat + 10000 * (v / 10000).toNat) = p * (c.toNat + A.getD i.toNat 0 + B.getD i.toNat 0) := by congr 1; omega
   rw [Nat.mul_add, Nat.mul_add, Nat.mul_add, ← Nat.mul_assoc] at e
   omega
  simp +contextual (disch := first | (intro _; intros; contradiction) | omega | (simp only [lens]; omega)) only [go_sem, ↓reduceIte, reduceCtorEq, Nat.reduceEqDiff, Nat.reduceLT, Nat.reduceSub, Int.reduceLT, Nat.reduceAdd, Nat.reduceLeDiff, Int.reduceEq, Int.reduceNe, Int.reduceToNat, Tryz.f36, dl]
  have zA : ¬ i < A.length → A.getD i.toNat 0 = 0 := fun h => by simp [List.getD, List.getElem?_eq_none (show A.length ≤ i.toNat by omega)]
  have zB : ¬ i < B.length → B.getD i.toNat 0 = 0 := fun h => by simp [List.getD, List.getElem?_eq_none (show B.length ≤ i.toNat by omega)]
  refine ⟨fun hi => ⟨fun ha => ⟨fun hb => ?_, fun hb => ?_⟩, fun ha => ⟨fun hb => ?_, fun hb => ?_⟩⟩, fun hi => ?_⟩
  ·exact hK _ (i + 1, (c + A.getD i.toNat 0 + B.getD i.toNat 0) / 10000, _) (key _ hi rfl) (by simp only; omega) tu
  ·exact hK _ (i + 1, (c + A.getD i.toNat 0) / 10000, _) (key _ hi (by have := zB hb; omega)) (by simp only; omega) tu
  ·exact hK _ (i + 1, (c + B.getD i.toNat 0) / 10000, _) (key _ hi (by have := zA ha; omega)) (by simp only; omega) tu
  ·exact hK _ (i + 1, c / 10000, _) (key _ hi (by have := zA ha; have := zB hb; omega)) (by simp only; omega) tu
  ·refine .frz [15] ?_
   simp only [go_sem, ↓reduceIte, reduceCtorEq, Nat.reduceEqDiff, Nat.reduceLT, Nat.reduceSub, Int.reduceLT, Nat.reduceAdd, Nat.reduceLeDiff, Int.reduceEq, Int.reduceNe, Int.reduceToNat, Tryz.f36, St.frz, frzP, frzD, frzO, frzC, frzOr, frozen, left, D.ok, D.ok1, D.ok0, List.contains_cons, List.contains_nil, Nat.reduceBEq, Option.isSome_none, Bool.not_true, Bool.not_false, Bool.and_false, Bool.and_true]
   rw [show o.take N = o from List.take_of_length_le (by omega)]
   refine .ac (trim_ac o (by omega)) (by simp) ?_
   simp only [go_sem, ↓reduceIte, reduceCtorEq, Nat.reduceEqDiff, Nat.reduceLT, Nat.reduceSub, Int.reduceLT, Nat.reduceAdd, Nat.reduceLeDiff, Int.reduceEq, Int.reduceNe, Int.reduceToNat, Tryz.f36, dl_trim h6]
   have hc : c.toNat = 0 := by
    have l1 := dv_lt cA.dl
    have l2 := dv_lt cB.dl
    have m1 : 10000 ^ A.length ≤ 10000 ^ (N - 1) := Nat.pow_le_pow_right (by omega) (by omega)
    have m2 : 10000 ^ B.length ≤ 10000 ^ (N - 1) := Nat.pow_le_pow_right (by omega) (by omega)
    have m3 : 10000 ^ i.toNat = 10000 ^ (N - 1) * 10000 := by rw [show i.toNat = (N - 1) + 1 by omega, Nat.pow_succ]
    rw [show List.take i.toNat A = A from List.take_of_length_le (by omega), show List.take i.toNat B = B from List.take_of_length_le (by omega), m3] at h8
    generalize 10000 ^ (N - 1) = p at *
    rcases Nat.eq_zero_or_pos c.toNat with hz | hz
    ·exact hz
    ·have : p * 10000 * 1 ≤ p * 10000 * c.toNat := Nat.mul_le_mul_left _ hz
     omega
   rw [hc, show List.take i.toNat A = A from List.take_of_length_le (by omega), show List.take i.toNat B = B from List.take_of_length_le (by omega), vA, vB] at h8
   rw [show dv 10000 o = a + b by omega]
theorem subNat_ac (a b : Nat) (hle : b ≤ a) (ha : (dg 10000 a).length ≤ 1000000000000) : AC P0 38 [.i (en a), .i (en b)] (.i (en (a - b))) := by
 have hb : (dg 10000 b).length ≤ (dg 10000 a).length := dg_len_le (by omega) (Nat.lt_of_le_of_lt hle (dg_lt_pow (by omega) a))
 obtain ⟨A, hA⟩ : ∃ A, A = dg 10000 a := ⟨_, rfl⟩
 obtain ⟨B, hB⟩ : ∃ B, B = dg 10000 b := ⟨_, rfl⟩
 have cA : Cn 10000 A := hA ▸ dg_cn (by omega) a
 have cB : Cn 10000 B := hB ▸ dg_cn (by omega) b
 have vA : dv 10000 A = a := by rw [hA, dv_dg (by omega)]
 have vB : dv 10000 B = b := by rw [hB, dv_dg (by omega)]
 have e1 : en a = dl A := by rw [hA]; rfl
 have e2 : en b = dl B := by rw [hB]; rfl
 rw [e1, e2]
 rw [← hA, ← hB] at hb
 rw [← hA] at ha
 clear hA hB e1 e2
 refine AC.of_go Tryz.func38 rfl rfl (Nat.le_of_ble_eq_true rfl) ?_
 simp +contextual (disch := first | (intro _; intros; contradiction) | omega | (simp only [lens]; omega)) only [go_sem, ↓reduceIte, reduceCtorEq, Nat.reduceEqDiff, Nat.reduceLT, Nat.reduceSub, Int.reduceLT, Nat.reduceAdd, Nat.reduceLeDiff, Int.reduceEq, Int.reduceNe, Int.reduceToNat, Tryz.f38, dl]
 refine go_loopI (fun p : Int × Int × List Nat => ⟨44, [(0, .i (dl A)), (1, .i (dl B)), (5, .own 11 0 0 A.length), (6, .i (.int .i64 p.2.1)), (7, .i (.int .i64 p.1))], [(11, some (.arr 3 0 (p.2.2.map di)))]⟩)
  (fun p => 0 ≤ p.1 ∧ p.1 ≤ A.length ∧ 0 ≤ p.2.1 ∧ p.2.1 ≤ 1 ∧ p.2.2.length = A.length ∧ Dl 10000 p.2.2 ∧ (∀ j, p.1.toNat ≤ j → p.2.2.getD j 0 = 0) ∧
   dv 10000 p.2.2 + dv 10000 (B.take p.1.toNat) = dv 10000 (A.take p.1.toNat) + 10000 ^ p.1.toNat * p.2.1.toNat) (fun p => A.length - p.1.toNat) (0, 0, List.replicate A.length 0) ?_
  ⟨by simp, by simp only; omega, by simp, by simp, by simp, dl_rep (by omega) _, fun j _ => getD_rep _ j, by simp [dv_replicate, dv]⟩ ?_
 ·exact tu
 ·rintro K ⟨i, c, o⟩ ⟨h1, h2, h3, h4, h5, h6, h7, h8⟩ hK
  simp only at h1 h2 h3 h4 h5 h6 h7 h8
  have x1 := dl_getD_lt cA.dl i.toNat
  have x2 := dl_getD_lt cB.dl i.toNat
  have key : ∀ v c' : Int, i < A.length → (c' = 0 ∨ c' = 1) → 0 ≤ v → v < 10000 → v = A.getD i.toNat 0 - c - B.getD i.toNat 0 + 10000 * c' → 0 ≤ i + 1 ∧ i + 1 ≤ A.length ∧ 0 ≤ c' ∧ c' ≤ 1 ∧ (o.set i.toNat v.toNat).length = A.length ∧ Dl 10000 (o.set i.toNat v.toNat) ∧
    (∀ j, (i + 1).toNat ≤ j → (o.set i.toNat v.toNat).getD j 0 = 0) ∧ dv 10000 (o.set i.toNat v.toNat) + dv 10000 (B.take (i + 1).toNat) = dv 10000 (A.take (i + 1).toNat) + 10000 ^ (i + 1).toNat * c'.toNat := fun v c' hi hc hv0 hv1 hv => by
   refine ⟨by omega, by omega, by omega, by omega, by simp [h5], dl_set h6 (by omega), fun j hj => by rw [getD_set, if_neg (by omega)]; exact h7 j (by omega), ?_⟩
   rw [dv_put (by omega) (h7 _ (Nat.le_refl _)), show (i + 1).toNat = i.toNat + 1 by omega, dv_take_succ, dv_take_succ, Nat.pow_succ]
   generalize 10000 ^ i.toNat = p at *
   have e : p * (v.toNat + c.toNat + B.getD i.toNat 0) = p * (A.getD i.toNat 0 + 10000 * c'.toNat) := by congr 1; omega
   rw [Nat.mul_add, Nat.mul_add, Nat.mul_add, ← Nat.mul_assoc] at e
   omega
  simp +contextual (disch := first | (intro _; intros; contradiction) | omega | (simp only [lens]; omega)) only [go_sem, ↓reduceIte, reduceCtorEq, Nat.reduceEqDiff, Nat.reduceLT, Nat.reduceSub, Int.reduceLT, Nat.reduceAdd, Nat.reduceLeDiff, Int.reduceEq, Int.reduceNe, Int.reduceToNat, Tryz.f38, dl]
  have zB : ¬ i < B.length → B.getD i.toNat 0 = 0 := fun h => by simp [List.getD, List.getElem?_eq_none (show B.length ≤ i.toNat by omega)]
  refine ⟨fun hi => ⟨fun ha => ⟨fun hb => ?_, fun hb => ?_⟩, fun ha => ⟨fun hb => ?_, fun hb => ?_⟩⟩, fun hi => ?_⟩
  ·exact hK _ (i + 1, 1, _) (key ((A.getD i.toNat 0 : Int) - c - B.getD i.toNat 0 + 10000) 1 hi (by omega) (by omega) (by omega) (by omega)) (by simp only; omega) tu
  ·exact hK _ (i + 1, 0, _) (key ((A.getD i.toNat 0 : Int) - c - B.getD i.toNat 0) 0 hi (by omega) (by omega) (by omega) (by omega)) (by simp only; omega) tu
  ·exact hK _ (i + 1, 1, _) (key ((A.getD i.toNat 0 : Int) - c + 10000) 1 hi (by omega) (by omega) (by omega) (by have := zB ha; omega)) (by simp only; omega) tu
  ·exact hK _ (i + 1, 0, _) (key ((A.getD i.toNat 0 : Int) - c) 0 hi (by omega) (by omega) (by omega) (by have := zB ha; omega)) (by simp only; omega) tu
  ·refine .frz [11] ?_
   simp only [go_sem, ↓reduceIte, reduceCtorEq, Nat.reduceEqDiff, Nat.reduceLT, Nat.reduceSub, Int.reduceLT, Nat.reduceAdd, Nat.reduceLeDiff, Int.reduceEq, Int.reduceNe, Int.reduceToNat, Tryz.f38, St.frz, frzP, frzD, frzO, frzC, frzOr, frozen, left, D.ok, D.ok1, D.ok0, List.contains_cons, List.contains_nil, Nat.reduceBEq, Option.isSome_none, Bool.not_true, Bool.not_false, Bool.and_false, Bool.and_true]
   rw [show o.take A.length = o from List.take_of_length_le (by omega)]
   refine .ac (trim_ac o (by omega)) (by simp) ?_
   simp only [go_sem, ↓reduceIte, reduceCtorEq, Nat.reduceEqDiff, Nat.reduceLT, Nat.reduceSub, Int.reduceLT, Nat.reduceAdd, Nat.reduceLeDiff, Int.reduceEq, Int.reduceNe, Int.reduceToNat, Tryz.f38, dl_trim h6]
   have l1 := dv_lt h6
   rw [show List.take i.toNat A = A from List.take_of_length_le (by omega), show List.take i.toNat B = B from List.take_of_length_le (by omega), vA, vB, show i.toNat = o.length by omega] at h8
   generalize 10000 ^ o.length = p at *
   have hc : c = 0 ∨ c = 1 := by omega
   rcases hc with rfl | rfl
   ·rw [show dv 10000 o = a - b by simp at h8; omega]
   ·exfalso; simp at h8; omega
end Go.Lw
end
section
set_option maxRecDepth 10000
namespace Go.Lw
open Go.Proofs
theorem getD_ge {l : List Nat} {k : Nat} (h : l.length ≤ k) : l.getD k 0 = 0 := by simp [List.getD, List.getElem?_eq_none h]
theorem mulNat_ac (a b : Nat) (ha : (dg 10000 a).length ≤ 1000000000000) (hb : (dg 10000 b).length ≤ 1000000000000) : AC P0 35 [.i (en a), .i (en b)] (.i (en (a * b))) := by
 obtain ⟨A, hA⟩ : ∃ A, A = dg 10000 a := ⟨_, rfl⟩
 obtain ⟨B, hB⟩ : ∃ B, B = dg 10000 b := ⟨_, rfl⟩
 have cA : Cn 10000 A := hA ▸ dg_cn (by omega) a
 have cB : Cn 10000 B := hB ▸ dg_cn (by omega) b
 have vA : dv 10000 A = a := by rw [hA, dv_dg (by omega)]
 have vB : dv 10000 B = b := by rw [hB, dv_dg (by omega)]
 have e1 : en a = dl A := by rw [hA]; rfl
 have e2 : en b = dl B := by rw [hB]; rfl
 rw [e1, e2]
 rw [← hB] at hb
 rw [← hA] at ha
 clear hA hB e1 e2
 refine AC.of_go Tryz.func35 rfl rfl (Nat.le_of_ble_eq_true rfl) ?_
 simp +contextual (disch := first | (intro _; intros; contradiction) | omega | (simp only [lens]; omega)) only [go_sem, ↓reduceIte, reduceCtorEq, Nat.reduceEqDiff, Nat.reduceLT, Nat.reduceSub, Int.reduceLT, Nat.reduceAdd, Nat.reduceLeDiff, Int.reduceEq, Int.reduceNe, Int.reduceToNat, Tryz.f35, dl]
 obtain ⟨N, hN⟩ : ∃ N : Nat, N = ((A.length : Int) + B.length + 1).toNat := ⟨_, rfl⟩
 rw [← hN]
 refine go_loopI (fun p : Int × List Nat => ⟨67, [(0, .i (dl A)), (1, .i (dl B)), (5, .own 16 0 0 N), (6, .i (.int .i64 p.1))], [(16, some (.arr 3 0 (p.2.map di)))]⟩)
  (fun p => 0 ≤ p.1 ∧ p.1 ≤ A.length ∧ p.2.length = N ∧ Dl 10000 p.2 ∧ (∀ j, p.1.toNat + B.length ≤ j → p.2.getD j 0 = 0) ∧
   dv 10000 p.2 = dv 10000 (A.take p.1.toNat) * b) (fun p => A.length - p.1.toNat) (0, List.replicate N 0) ?_
  ⟨by simp, by simp only; omega, by simp, dl_rep (by omega) _, fun j _ => getD_rep _ j, by simp [dv_replicate, dv]⟩ ?_
 ·exact tu
 ·rintro K ⟨i, o0⟩ ⟨h1, h2, h3, h4, h5, h6⟩ hK
  simp only at h1 h2 h3 h4 h5 h6
  have x1 := dl_getD_lt cA.dl i.toNat
  simp +contextual (disch := first | (intro _; intros; contradiction) | omega | (simp only [lens]; omega)) only [go_sem, ↓reduceIte, reduceCtorEq, Nat.reduceEqDiff, Nat.reduceLT, Nat.reduceSub, Int.reduceLT, Nat.reduceAdd, Nat.reduceLeDiff, Int.reduceEq, Int.reduceNe, Int.reduceToNat, Tryz.f35, dl]
  refine ⟨fun hi => ?_, fun hi => ?_⟩
  ·obtain ⟨av, hav⟩ : ∃ av : Nat, av = A.getD i.toNat 0 := ⟨_, rfl⟩
   refine go_loopI (fun p : Int × Int × List Nat => ⟨67, [(0, .i (dl A)), (1, .i (dl B)), (5, .own 16 0 0 N), (6, .i (.int .i64 i)), (7, .i (.int .i64 p.2.1)), (8, .i (.int .i64 p.1))], [(16, some (.arr 3 0 (p.2.2.map di)))]⟩)
    (fun p => 0 ≤ p.1 ∧ p.1 ≤ B.length + 1 ∧ 0 ≤ p.2.1 ∧ p.2.1 < 10000 ∧ (p.1 = B.length + 1 → p.2.1 = 0) ∧ p.2.2.length = N ∧ Dl 10000 p.2.2 ∧ (∀ j, i.toNat + B.length + 1 ≤ j → p.2.2.getD j 0 = 0) ∧ (p.1 ≤ B.length → p.2.2.getD (i.toNat + B.length) 0 = 0) ∧
     dv 10000 p.2.2 + 10000 ^ (i.toNat + p.1.toNat) * p.2.1.toNat = dv 10000 o0 + 10000 ^ i.toNat * (av * dv 10000 (B.take p.1.toNat))) (fun p => B.length + 2 - p.1.toNat) (0, 0, o0) ?_
    ⟨by simp, by simp only; omega, by simp, by simp, fun _ => rfl, h3, h4, fun j hj => h5 j (by omega), fun _ => h5 _ (by omega), by simp [dv]⟩ ?_
   ·exact tu
   ·rintro K2 ⟨k, c, o⟩ ⟨g1, g2, g3, g4, g5, g6, g7, g8, g9, g10⟩ hK2
    simp only at g1 g2 g3 g4 g5 g6 g7 g8 g9 g10
    have x2 := dl_getD_lt cB.dl k.toNat
    have x3 := dl_getD_lt g7 (i.toNat + k.toNat)
    have hkk : k < B.length ∨ 0 < c → i.toNat + k.toNat < o.length := fun h => by omega
    have eik : 0 ≤ k → (i + k).toNat = i.toNat + k.toNat := fun h => by omega
    have hp : av * B.getD k.toNat 0 ≤ 9999 * 9999 := Nat.mul_le_mul (by omega) (by omega)
    have hp2 : (A.getD i.toNat 0 : Int) * (B.getD k.toNat 0 : Int) = ((av * B.getD k.toNat 0 : Nat) : Int) := by rw [hav]; simp
    have hpz : ¬ k < B.length → av * B.getD k.toNat 0 = 0 := fun h => by rw [getD_ge (by omega)]; simp
    have key : ∀ v : Int, (k < B.length ∨ 0 < c) → v = o.getD (i.toNat + k.toNat) 0 + c + (av * B.getD k.toNat 0 : Nat) → 0 ≤ k + 1 ∧ k + 1 ≤ B.length + 1 ∧ 0 ≤ v / 10000 ∧ v / 10000 < 10000 ∧ (k + 1 = B.length + 1 → v / 10000 = 0) ∧ (o.set (i.toNat + k.toNat) (v % 10000).toNat).length = N ∧ Dl 10000 (o.set (i.toNat + k.toNat) (v % 10000).toNat) ∧
      (∀ j, i.toNat + B.length + 1 ≤ j → (o.set (i.toNat + k.toNat) (v % 10000).toNat).getD j 0 = 0) ∧ (k + 1 ≤ B.length → (o.set (i.toNat + k.toNat) (v % 10000).toNat).getD (i.toNat + B.length) 0 = 0) ∧
      dv 10000 (o.set (i.toNat + k.toNat) (v % 10000).toNat) + 10000 ^ (i.toNat + (k + 1).toNat) * (v / 10000).toNat = dv 10000 o0 + 10000 ^ i.toNat * (av * dv 10000 (B.take (k + 1).toNat)) := fun v hc hv => by
     have hk1 := hkk hc
     refine ⟨by omega, by omega, by omega, by omega, fun he => ?_, by simp [g6], dl_set g7 (by omega), fun j hj => by rw [getD_set, if_neg (by omega)]; exact g8 j hj, fun hj => by rw [getD_set, if_neg (by omega)]; exact g9 (by omega), ?_⟩
     ·have e1 : k = B.length := by omega
      have e2 := hpz (by omega)
      have e3 := g9 (by omega)
      rw [show i.toNat + B.length = i.toNat + k.toNat by omega] at e3
      omega
     ·have hs := dv_set 10000 o (i.toNat + k.toNat) (v % 10000).toNat hk1
      rw [show (k + 1).toNat = k.toNat + 1 by omega, dv_take_succ, ← Nat.add_assoc i.toNat, Nat.pow_succ]
      have e1 : 10000 ^ i.toNat * (av * (dv 10000 (B.take k.toNat) + 10000 ^ k.toNat * B.getD k.toNat 0)) = 10000 ^ i.toNat * (av * dv 10000 (B.take k.toNat)) + 10000 ^ (i.toNat + k.toNat) * (av * B.getD k.toNat 0) := by
       rw [Nat.mul_add av, Nat.mul_add, Nat.pow_add, Nat.mul_left_comm av, Nat.mul_assoc (10000 ^ i.toNat) (10000 ^ k.toNat)]
      rw [e1]
      generalize 10000 ^ (i.toNat + k.toNat) = p at *
      generalize av * B.getD k.toNat 0 = q at *
      have e : p * ((v % 10000).toNat + 10000 * (v / 10000).toNat) = p * (o.getD (i.toNat + k.toNat) 0 + c.toNat + q) := by congr 1; omega
      rw [Nat.mul_add, Nat.mul_add, Nat.mul_add, ← Nat.mul_assoc] at e
      omega
    simp +contextual (disch := first | (intro _; intros; contradiction) | omega | (simp only [lens]; omega)) only [go_sem, ↓reduceIte, reduceCtorEq, Nat.reduceEqDiff, Nat.reduceLT, Nat.reduceSub, Int.reduceLT, Nat.reduceAdd, Nat.reduceLeDiff, Int.reduceEq, Int.reduceNe, Int.reduceToNat, Tryz.f35, dl, eik]
    refine ⟨fun hk => ⟨fun hc => ?_, fun hc => ?_⟩, fun hk => ?_⟩
    ·exact hK2 _ (k + 1, ((o.getD (i.toNat + k.toNat) 0 : Int) + c) / 10000, _) (key ((o.getD (i.toNat + k.toNat) 0 : Int) + c) (.inr hc) (by have := hpz hk; omega)) (by simp only; omega) tu
    ·refine hK _ (i + 1, o) ⟨by simp only; omega, by simp only; omega, g6, g7, fun j hj => g8 j (by simp only at hj; omega), ?_⟩ (by simp only; omega) tu
     have hc0 : c.toNat = 0 := by omega
     rw [hc0, Nat.mul_zero, Nat.add_zero, show B.take k.toNat = B from List.take_of_length_le (by omega), vB, h6] at g10
     simp only
     rw [g10, show (i + 1).toNat = i.toNat + 1 by omega, dv_take_succ, Nat.add_mul, ← hav, Nat.mul_assoc]
    ·refine go_drawn mixed0 (by kernel_rfl) ?_
     simp +contextual (disch := first | (intro _; intros; contradiction) | omega | (simp only [lens]; omega)) only [go_sem, ↓reduceIte, reduceCtorEq, Nat.reduceEqDiff, Nat.reduceLT, Nat.reduceSub, Int.reduceLT, Nat.reduceAdd, Nat.reduceLeDiff, Int.reduceEq, Int.reduceNe, Int.reduceToNat, Tryz.f35, dl, eik, hp2]
     refine ⟨by kernel_rfl, ?_⟩
     have := key ((o.getD (i.toNat + k.toNat) 0 : Int) + c + ((av * B.getD k.toNat 0 : Nat) : Int)) (.inl hk) rfl
     exact hK2 _ (k + 1, ((o.getD (i.toNat + k.toNat) 0 : Int) + c + ((av * B.getD k.toNat 0 : Nat) : Int)) / 10000, _) this (by simp only; omega) tu
  ·refine .frz [16] ?_
   simp only [go_sem, ↓reduceIte, reduceCtorEq, Nat.reduceEqDiff, Nat.reduceLT, Nat.reduceSub, Int.reduceLT, Nat.reduceAdd, Nat.reduceLeDiff, Int.reduceEq, Int.reduceNe, Int.reduceToNat, Tryz.f35, St.frz, frzP, frzD, frzO, frzC, frzOr, frozen, left, D.ok, D.ok1, D.ok0, List.contains_cons, List.contains_nil, Nat.reduceBEq, Option.isSome_none, Bool.not_true, Bool.not_false, Bool.and_false, Bool.and_true]
   rw [show o0.take N = o0 from List.take_of_length_le (by omega)]
   refine .ac (trim_ac o0 (by omega)) (by simp) ?_
   simp only [go_sem, ↓reduceIte, reduceCtorEq, Nat.reduceEqDiff, Nat.reduceLT, Nat.reduceSub, Int.reduceLT, Nat.reduceAdd, Nat.reduceLeDiff, Int.reduceEq, Int.reduceNe, Int.reduceToNat, Tryz.f35, dl_trim h4]
   rw [h6, show A.take i.toNat = A from List.take_of_length_le (by omega), vA]
end Go.Lw
end
section
set_option maxRecDepth 10000
namespace Go.Lw
open Go.Proofs
theorem mulDigit_ac (a d : Nat) (ha : (dg 10000 a).length ≤ 1000000000000) (hd : d < 1000000000000000000) : AC P0 111 [.i (en a), .i (.int .i64 d)] (.i (en (a * d))) := by
 refine AC.of_go Tryz.func111 rfl rfl (Nat.le_of_ble_eq_true rfl) ?_
 simp +contextual (disch := first | (intro _; intros; contradiction) | omega | (simp only [lens]; omega)) only [go_sem, ↓reduceIte, reduceCtorEq, Nat.reduceEqDiff, Nat.reduceLT, Nat.reduceSub, Int.reduceLT, Nat.reduceAdd, Nat.reduceLeDiff, Int.reduceEq, Int.reduceNe, Int.reduceToNat, Tryz.f111]
 refine .ac (natOf_ac d (by omega) (by omega)) (by simp) ?_
 simp +contextual (disch := first | (intro _; intros; contradiction) | omega | (simp only [lens]; omega)) only [go_sem, ↓reduceIte, reduceCtorEq, Nat.reduceEqDiff, Nat.reduceLT, Nat.reduceSub, Int.reduceLT, Nat.reduceAdd, Nat.reduceLeDiff, Int.reduceEq, Int.reduceNe, Int.reduceToNat, Tryz.f111]
 refine .ac (mulNat_ac a d ha (Nat.le_trans (en_len (k := 5) (by simp; omega)) (by omega))) (by simp) ?_
 simp +contextual (disch := first | (intro _; intros; contradiction) | omega | (simp only [lens]; omega)) only [go_sem, ↓reduceIte, reduceCtorEq, Nat.reduceEqDiff, Nat.reduceLT, Nat.reduceSub, Int.reduceLT, Nat.reduceAdd, Nat.reduceLeDiff, Int.reduceEq, Int.reduceNe, Int.reduceToNat, Tryz.f111]
theorem dv_drop_dg {b : Nat} (hb : 2 ≤ b) (u k : Nat) : dv b ((dg b u).drop k) = u / b ^ k := by
 induction k generalizing u with
 | zero => simp [dv_dg hb]
 | succ k ih =>
  by_cases h : u = 0
  ·subst h; simp [dg_zero, dv]
  ·rw [dg_pos hb h, List.drop_succ_cons, ih, Nat.div_div_eq_div_mul, Nat.pow_succ, Nat.mul_comm]
theorem top_ac (a : Nat) (k : Nat) (ha : (dg 10000 a).length ≤ 1000000000000) (hk : (dg 10000 a).length ≤ k + 4) : AC P0 110 [.i (en a), .i (.int .i64 k)] (.i (.int .i64 ((a / 10000 ^ k : Nat) : Int))) := by
 rw [← dv_drop_dg (by omega)]
 obtain ⟨A, hA⟩ : ∃ A, A = dg 10000 a := ⟨_, rfl⟩
 have cA : Cn 10000 A := hA ▸ dg_cn (by omega) a
 have e1 : en a = dl A := by rw [hA]; rfl
 rw [e1, ← hA]
 rw [← hA] at ha hk
 clear hA e1
 refine AC.of_go Tryz.func110 rfl rfl (Nat.le_of_ble_eq_true rfl) ?_
 simp +contextual (disch := first | (intro _; intros; contradiction) | omega | (simp only [lens]; omega)) only [go_sem, ↓reduceIte, reduceCtorEq, Nat.reduceEqDiff, Nat.reduceLT, Nat.reduceSub, Int.reduceLT, Nat.reduceAdd, Nat.reduceLeDiff, Int.reduceEq, Int.reduceNe, Int.reduceToNat, Tryz.f110, dl]
 refine go_loopI (fun p : Int × Int => ⟨27, [(0, .i (dl A)), (1, .i (.int .i64 k)), (5, .i (.int .i64 p.2)), (6, .i (.int .i64 p.1))], []⟩)
  (fun p => -1 ≤ p.1 ∧ p.1 < A.length ∧ ((k : Int) - 1 ≤ p.1 ∨ p.1 = A.length - 1) ∧ p.2 = dv 10000 (A.drop (p.1 + 1).toNat)) (fun p => (p.1 + 1).toNat) ((A.length : Int) - 1, 0) ?_ ⟨by simp only; omega, by simp only; omega, by simp, ?_⟩ ?_
 ·exact tu
 ·simp only; rw [List.drop_of_length_le (by omega)]; rfl
 ·rintro K ⟨i, v⟩ ⟨h1, h2, h3, h4⟩ hK
  simp only at h1 h2 h3 h4
  have x1 := dl_getD_lt cA.dl i.toNat
  have hv : (k : Int) ≤ i → v < 1000000000000 := fun hi => by
   have l1 := dv_lt (cA.dl.drop (i + 1).toNat)
   have l2 : 10000 ^ (A.drop (i + 1).toNat).length ≤ 10000 ^ 3 := Nat.pow_le_pow_right (by omega) (by simp; omega)
   omega
  have hv0 : 0 ≤ v := by omega
  have dr : 0 ≤ i → A.drop i.toNat = A.getD i.toNat 0 :: A.drop (i + 1).toNat := fun hi => by
   rw [List.drop_eq_getElem_cons (by omega), show (i + 1).toNat = i.toNat + 1 by omega]; simp [List.getD, show i.toNat < A.length by omega]
  simp +contextual (disch := first | (intro _; intros; contradiction) | omega | (simp only [lens]; omega)) only [go_sem, ↓reduceIte, reduceCtorEq, Nat.reduceEqDiff, Nat.reduceLT, Nat.reduceSub, Int.reduceLT, Nat.reduceAdd, Nat.reduceLeDiff, Int.reduceEq, Int.reduceNe, Int.reduceToNat, Tryz.f110, dl]
  refine ⟨fun hi => ?_, fun hi => ?_⟩
  ·refine hK _ (i - 1, v * 10000 + A.getD i.toNat 0) ⟨by simp only; omega, by simp only; omega, by simp only; omega, ?_⟩ (by simp only; omega) tu
   simp only
   rw [show (i - 1 + 1).toNat = i.toNat by omega, dr (by omega), dv, h4]
   omega
  ·rw [h4]
   rcases h3 with h3 | h3
   ·rw [show (i + 1).toNat = k by omega]
   ·rw [List.drop_of_length_le (by omega), List.drop_of_length_le (by omega)]
end Go.Lw
end
section
set_option maxRecDepth 10000
namespace Go.Lw
open Go.Proofs
theorem dg_len_lt {u k : Nat} (h : (dg 10000 u).length ≤ k) : u < 10000 ^ k := Nat.lt_of_lt_of_le (dg_lt_pow (by omega) u) (Nat.pow_le_pow_right (by omega) h)
theorem take_set_snoc (l : List Nat) (k v : Nat) (h : k < l.length) : (l.set k v).take (k + 1) = l.take k ++ [v] := by
 rw [take_snoc _ _ (by simp; exact h), List.take_set_of_le (Nat.le_refl _), getD_set, if_pos ⟨rfl, h⟩]
theorem divNat_ac (a b : Nat) (h0 : 0 < b) (ha : (dg 10000 a).length ≤ 1000000000) (hb : (dg 10000 b).length ≤ 1000000000) : AC P0 70 [.i (en a), .i (en b)] (.tup [.i (en (a / b)), .i (en (a % b))]) := by
 rcases Nat.lt_or_ge a b with hlt | hge
 ·refine AC.lq (r := .tup [.i (.sl 0 []), .i (en a)]) ?_ (.two (.i _ _ (by rw [Nat.div_eq_of_lt hlt]; unfold en; rw [dg_zero]; exact .sl0 0 3)) (by rw [Nat.mod_eq_of_lt hlt]; exact .refl _))
  refine AC.of_go Tryz.func70 rfl rfl (Nat.le_of_ble_eq_true rfl) ?_
  simp +contextual (disch := first | (intro _; intros; contradiction) | omega | (simp only [lens]; omega)) only [go_sem, ↓reduceIte, reduceCtorEq, Nat.reduceEqDiff, Nat.reduceLT, Nat.reduceSub, Int.reduceLT, Nat.reduceAdd, Nat.reduceLeDiff, Int.reduceEq, Int.reduceNe, Int.reduceToNat, Tryz.f70]
  refine .ac (cmpNat_ac a b (by omega) (by omega)) (by simp) ?_
  simp +contextual (disch := first | (intro _; intros; contradiction) | omega | (simp only [lens]; omega)) only [go_sem, ↓reduceIte, reduceCtorEq, Nat.reduceEqDiff, Nat.reduceLT, Nat.reduceSub, Int.reduceLT, Nat.reduceAdd, Nat.reduceLeDiff, Int.reduceEq, Int.reduceNe, Int.reduceToNat, Tryz.f70, show cmpZ a b = -1 by unfold cmpZ; rw [if_pos hlt]]
 ·have hc : ¬ cmpZ a b < 0 := by unfold cmpZ; rw [if_neg (by omega)]; split <;> omega
  have lab : (dg 10000 b).length ≤ (dg 10000 a).length := dg_len_le (by omega) (Nat.lt_of_le_of_lt hge (dg_lt_pow (by omega) a))
  have lb1 : 1 ≤ (dg 10000 b).length := by
   rcases Nat.eq_zero_or_pos (dg 10000 b).length with h | h
   ·have := (dg_nil_iff (b := 10000) (by omega) b).1 (List.length_eq_zero_iff.1 h); omega
   ·exact h
  have hcmp := cmpNat_ac a b (by omega) (by omega)
  obtain ⟨A, hA⟩ : ∃ A, A = dg 10000 a := ⟨_, rfl⟩
  obtain ⟨B, hB⟩ : ∃ B, B = dg 10000 b := ⟨_, rfl⟩
  have eA : en a = .sl 3 (A.map di) := by rw [hA]; rfl
  have eB : en b = .sl 3 (B.map di) := by rw [hB]; rfl
  obtain ⟨F, hF⟩ : ∃ F : Nat, (F : Int) = max 0 ((B.length : Int) - 2) := ⟨B.length - 2, by omega⟩
  rw [← hA] at ha lab
  rw [← hB] at hb lab lb1
  have cA : Cn 10000 A := hA ▸ dg_cn (by omega) a
  have cB : Cn 10000 B := hB ▸ dg_cn (by omega) b
  have htop := top_ac b F (by rw [← hB]; omega) (by rw [← hB]; omega)
  have hbF : b / 10000 ^ F < 100000000 := by
   rw [Nat.div_lt_iff_lt_mul (Nat.pow_pos (by omega))]
   have l1 := dg_len_lt (u := b) (k := F + 2) (by rw [← hB]; omega)
   rw [Nat.pow_add] at l1; omega
  obtain ⟨dT, hdT⟩ : ∃ dT : Nat, dT = b / 10000 ^ F := ⟨_, rfl⟩
  rw [← hdT] at htop hbF
  have hsmall : a / 10000 ^ ((A.length : Int) - B.length + 1).toNat < b := by
   have l1 := dg_pow_le (b := 10000) (by omega) (u := b) (by omega)
   rw [← hB] at l1
   have l2 : a < 10000 ^ A.length := by rw [hA]; exact dg_lt_pow (by omega) a
   rw [Nat.div_lt_iff_lt_mul (Nat.pow_pos (by omega))]
   have l3 : 10000 ^ A.length = 10000 ^ (B.length - 1) * 10000 ^ ((A.length : Int) - B.length + 1).toNat := by rw [← Nat.pow_add]; congr 1; omega
   rw [l3] at l2
   exact Nat.lt_of_lt_of_le l2 (Nat.mul_le_mul_right _ l1)
  have htrim : AC P0 71 [.i (.sl 3 ((A.drop ((A.length : Int) - B.length + 1).toNat).map di))] (.i (en (a / 10000 ^ ((A.length : Int) - B.length + 1).toNat % b))) := by
   have := trim_ac (A.drop ((A.length : Int) - B.length + 1).toNat) (by simp; omega)
   rwa [dl_trim (cA.dl.drop _), show dv 10000 (A.drop ((A.length : Int) - B.length + 1).toNat) = a / 10000 ^ ((A.length : Int) - B.length + 1).toNat by rw [hA, dv_drop_dg (by omega)], ← Nat.mod_eq_of_lt hsmall] at this
  refine AC.of_go Tryz.func70 rfl rfl (Nat.le_of_ble_eq_true rfl) ?_
  rw [eA, eB] at hcmp ⊢
  rw [eB] at htop
  simp +contextual (disch := first | (intro _; intros; contradiction) | omega | (simp only [lens]; omega)) only [go_sem, ↓reduceIte, reduceCtorEq, Nat.reduceEqDiff, Nat.reduceLT, Nat.reduceSub, Int.reduceLT, Nat.reduceAdd, Nat.reduceLeDiff, Int.reduceEq, Int.reduceNe, Int.reduceToNat, Tryz.f70]
  refine .ac hcmp (by simp) ?_
  simp +contextual (disch := first | (intro _; intros; contradiction) | omega | (simp only [lens]; omega)) only [go_sem, ↓reduceIte, reduceCtorEq, Nat.reduceEqDiff, Nat.reduceLT, Nat.reduceSub, Int.reduceLT, Nat.reduceAdd, Nat.reduceLeDiff, Int.reduceEq, Int.reduceNe, Int.reduceToNat, Tryz.f70]
  refine .frz [22] ?_
  simp only [go_sem, ↓reduceIte, reduceCtorEq, Nat.reduceEqDiff, Nat.reduceLT, Nat.reduceSub, Int.reduceLT, Nat.reduceAdd, Nat.reduceLeDiff, Int.reduceEq, Int.reduceNe, Int.reduceToNat, Tryz.f70, St.frz, frzP, frzD, frzO, frzC, frzOr, frozen, left, D.ok, D.ok1, D.ok0, List.contains_cons, List.contains_nil, Nat.reduceBEq, Option.isSome_none, Bool.not_true, Bool.not_false, Bool.and_false, Bool.and_true]
  refine .ac htrim (by simp) ?_
  simp +contextual (disch := first | (intro _; intros; contradiction) | omega | (simp only [lens]; omega)) only [go_sem, ↓reduceIte, reduceCtorEq, Nat.reduceEqDiff, Nat.reduceLT, Nat.reduceSub, Int.reduceLT, Nat.reduceAdd, Nat.reduceLeDiff, Int.reduceEq, Int.reduceNe, Int.reduceToNat, Tryz.f70, ← hF]
  refine .ac htop (by simp) ?_
  simp +contextual (disch := first | (intro _; intros; contradiction) | omega | (simp only [lens]; omega)) only [go_sem, ↓reduceIte, reduceCtorEq, Nat.reduceEqDiff, Nat.reduceLT, Nat.reduceSub, Int.reduceLT, Nat.reduceAdd, Nat.reduceLeDiff, Int.reduceEq, Int.reduceNe, Int.reduceToNat, Tryz.f70, ← hF]
  have hbpos : 0 < 10000 ^ F := Nat.pow_pos (by omega)
  refine ⟨fun hf => ?_, fun hf => ?_⟩
  case' inr.refine_1 =>
   obtain ⟨d, hd, hp, hd0, hd1⟩ : ∃ d : Nat, (d : Int) = (dT : Int) + 1 ∧ (∀ x, x / 10000 ^ F / d * b ≤ x) ∧ 0 < d ∧ d < 1000000000 := by
    refine ⟨dT + 1, by omega, fun x => ?_, by omega, by omega⟩
    have h1 : b ≤ 10000 ^ F * (dT + 1) := by rw [hdT]; exact Nat.le_of_lt (Nat.lt_mul_div_succ b hbpos)
    have h2 := Nat.mul_le_mul_left (x / 10000 ^ F / (dT + 1)) h1
    have h3 := Nat.mul_le_mul_left (10000 ^ F) (Nat.div_mul_le_self (x / 10000 ^ F) (dT + 1))
    have h4 := Nat.mul_div_le x (10000 ^ F)
    rw [Nat.mul_left_comm] at h2
    exact Nat.le_trans h2 (Nat.le_trans h3 h4)
   rw [← hd]
  case' inr.refine_2 =>
   obtain ⟨d, hd, hp, hd0, hd1⟩ : ∃ d : Nat, (d : Int) = (dT : Int) ∧ (∀ x, x / 10000 ^ F / d * b ≤ x) ∧ 0 < d ∧ d < 1000000000 := by
    have hF0 : F = 0 := by omega
    subst hF0
    have e : dT = b := by rw [hdT]; simp
    refine ⟨dT, rfl, fun x => ?_, by omega, by omega⟩
    rw [e]; simp only [Nat.pow_zero, Nat.div_one]; exact Nat.div_mul_le_self x b
   rw [← hd]
  all_goals (
   clear hd hdT hf hbF htop
   refine go_loopI (fun p : Int × List Nat => ⟨105, [(0, .i (dl A)), (1, .i (dl B)), (6, .own 21 0 0 A.length), (7, .i (en (a / 10000 ^ (p.1 + 1).toNat % b))), (8, .i (.int .i64 F)), (9, .i (.int .i64 d)), (10, .i (.int .i64 p.1))], [(21, some (.arr 3 0 (p.2.map di)))]⟩)
    (fun p => -1 ≤ p.1 ∧ p.1 ≤ (A.length : Int) - B.length ∧ p.2.length = A.length ∧ Dl 10000 p.2 ∧ (∀ j, j < (p.1 + 1).toNat → p.2.getD j 0 = 0) ∧ dv 10000 p.2 = a / 10000 ^ (p.1 + 1).toNat / b * 10000 ^ (p.1 + 1).toNat) (fun p => (p.1 + 1).toNat)
    ((A.length : Int) - B.length, List.replicate A.length 0) ?_ ⟨by simp only; omega, by simp only; omega, by simp, dl_rep (by omega) _, fun j _ => getD_rep _ j, ?_⟩ ?_
   ·exact tu
   ·rw [Nat.div_eq_of_lt hsmall]; simp [dv_replicate]
   ·rintro K ⟨i, Q⟩ ⟨h1, h2, h3, h4, h5, h6⟩ hK
    simp only at h1 h2 h3 h4 h5 h6
    obtain ⟨r, hr⟩ : ∃ r, r = a / 10000 ^ (i + 1).toNat % b := ⟨_, rfl⟩
    obtain ⟨R, hR⟩ : ∃ R, R = dg 10000 r := ⟨_, rfl⟩
    have eR : en r = .sl 3 (R.map di) := by rw [hR]; rfl
    have hrb : r < b := by rw [hr]; exact Nat.mod_lt _ h0
    have hRl : R.length ≤ B.length := by rw [hR, hB]; exact dg_len_le (by omega) (Nat.lt_trans hrb (dg_lt_pow (by omega) b))
    have cR : Cn 10000 R := hR ▸ dg_cn (by omega) r
    rw [← hr, eR]
    simp +contextual (disch := first | (intro _; intros; contradiction) | omega | (simp only [lens]; omega)) only [go_sem, ↓reduceIte, reduceCtorEq, Nat.reduceEqDiff, Nat.reduceLT, Nat.reduceSub, Int.reduceLT, Nat.reduceAdd, Nat.reduceLeDiff, Int.reduceEq, Int.reduceNe, Int.reduceToNat, Tryz.f70, dl]
    have x1 := dl_getD_lt cA.dl i.toNat
    refine ⟨fun hi => ?_, fun hi => ?_⟩
    ·refine go_loopI (fun p : Int × List Nat => ⟨105, [(0, .i (dl A)), (1, .i (dl B)), (6, .own 21 0 0 A.length), (7, .i (dl R)), (8, .i (.int .i64 F)), (9, .i (.int .i64 d)), (10, .i (.int .i64 i)), (11, .own 56 0 0 (R.length + 1)), (12, .i (.int .i64 p.1))], [(21, some (.arr 3 0 (Q.map di))), (56, some (.arr 3 0 (p.2.map di)))]⟩)
      (fun p => 0 ≤ p.1 ∧ p.1 ≤ R.length ∧ p.2.length = R.length + 1 ∧ p.2.take (p.1.toNat + 1) = A.getD i.toNat 0 :: R.take p.1.toNat) (fun p => R.length - p.1.toNat)
      (0, (List.replicate (R.length + 1) 0).set 0 (A.getD i.toNat 0)) ?_ ⟨by simp, by simp only; omega, by simp, by simp only; rw [show (0 : Int).toNat + 1 = 0 + 1 by rfl, take_set_snoc _ _ _ (by simp)]; simp⟩ ?_
     ·exact tu
     ·rintro K2 ⟨j, o⟩ ⟨g1, g2, g3, g4⟩ hK2
      simp only at g1 g2 g3 g4
      have ej : 0 ≤ j → (j + 1).toNat = j.toNat + 1 := fun h => by omega
      simp +contextual (disch := first | (intro _; intros; contradiction) | omega | (simp only [lens]; omega)) only [go_sem, ↓reduceIte, reduceCtorEq, Nat.reduceEqDiff, Nat.reduceLT, Nat.reduceSub, Int.reduceLT, Nat.reduceAdd, Nat.reduceLeDiff, Int.reduceEq, Int.reduceNe, Int.reduceToNat, Tryz.f70, dl, ej]
      refine ⟨fun hj => ?_, fun hj => ?_⟩
      ·refine hK2 _ (j + 1, o.set (j.toNat + 1) (R.getD j.toNat 0)) ⟨by simp only; omega, by simp only; omega, by simp [g3], ?_⟩ (by simp only; omega) tu
       simp only
       rw [show (j + 1).toNat = j.toNat + 1 by omega, take_set_snoc _ _ _ (by omega), g4, take_snoc R _ (by omega)]; rfl
      ·have eo : o = A.getD i.toNat 0 :: R := by
        rw [show R.take j.toNat = R from List.take_of_length_le (by omega), List.take_of_length_le (by omega)] at g4; exact g4
       refine .frz [56] ?_
       simp only [go_sem, ↓reduceIte, reduceCtorEq, Nat.reduceEqDiff, Nat.reduceLT, Nat.reduceSub, Int.reduceLT, Nat.reduceAdd, Nat.reduceLeDiff, Int.reduceEq, Int.reduceNe, Int.reduceToNat, Tryz.f70, St.frz, frzP, frzD, frzO, frzC, frzOr, frozen, left, D.ok, D.ok1, D.ok0, List.contains_cons, List.contains_nil, Nat.reduceBEq, Option.isSome_none, Bool.not_true, Bool.not_false, Bool.and_false, Bool.and_true]
       rw [show o.take (R.length + 1) = o from List.take_of_length_le (by omega), eo]
       have do_ : Dl 10000 (A.getD i.toNat 0 :: R) := Dl.cons x1 cR.dl
       obtain ⟨x, hx⟩ : ∃ x, x = A.getD i.toNat 0 + 10000 * r := ⟨_, rfl⟩
       have ex : dv 10000 (A.getD i.toNat 0 :: R) = x := by rw [dv, hR, dv_dg (by omega), hx]
       have htr := trim_ac (A.getD i.toNat 0 :: R) (by simp; omega)
       rw [dl_trim do_, ex] at htr
       refine .ac htr (by simp) ?_
       have hxb : x < 10000 * b := by omega
       have lx : (dg 10000 x).length ≤ B.length + 1 := dg_len_le (by omega) (by
        have := dg_lt_pow (b := 10000) (by omega) b
        rw [← hB] at this
        rw [Nat.pow_succ]; omega)
       clear hK2 K2
       simp +contextual (disch := first | (intro _; intros; contradiction) | omega | (simp only [lens]; omega)) only [go_sem, ↓reduceIte, reduceCtorEq, Nat.reduceEqDiff, Nat.reduceLT, Nat.reduceSub, Int.reduceLT, Nat.reduceAdd, Nat.reduceLeDiff, Int.reduceEq, Int.reduceNe, Int.reduceToNat, Tryz.f70, dl]
       refine .ac (top_ac x F (by omega) (by omega)) (by simp) ?_
       have hdz : ¬ (d : Int) = 0 := by omega
       have hq := hp x
       obtain ⟨q0, hq0⟩ : ∃ q0, q0 = x / 10000 ^ F / d := ⟨_, rfl⟩
       rw [← hq0] at hq
       have hq1 : q0 < 10000 := by
        rcases Nat.lt_or_ge q0 10000 with h | h
        ·exact h
        ·have := Nat.mul_le_mul_right b h; omega
       have eq0 : ((x / 10000 ^ F : Nat) : Int) / (d : Int) = (q0 : Int) := by rw [hq0]; simp
       generalize x / 10000 ^ F = xf at *
       simp +contextual (disch := first | (intro _; intros; contradiction) | omega | (simp only [lens]; omega)) only [go_sem, ↓reduceIte, reduceCtorEq, Nat.reduceEqDiff, Nat.reduceLT, Nat.reduceSub, Int.reduceLT, Nat.reduceAdd, Nat.reduceLeDiff, Int.reduceEq, Int.reduceNe, Int.reduceToNat, Tryz.f70, dl, hdz, eq0]
       have hmd := mulDigit_ac b q0 (by rw [← hB]; omega) (by omega)
       rw [eB] at hmd
       refine .ac hmd (by simp) ?_
       simp +contextual (disch := first | (intro _; intros; contradiction) | omega | (simp only [lens]; omega)) only [go_sem, ↓reduceIte, reduceCtorEq, Nat.reduceEqDiff, Nat.reduceLT, Nat.reduceSub, Int.reduceLT, Nat.reduceAdd, Nat.reduceLeDiff, Int.reduceEq, Int.reduceNe, Int.reduceToNat, Tryz.f70, dl, hdz, eq0]
       have hq2 : b * q0 ≤ x := by rw [Nat.mul_comm]; exact hq
       refine .ac (subNat_ac x (b * q0) hq2 (by omega)) (by simp) ?_
       simp +contextual (disch := first | (intro _; intros; contradiction) | omega | (simp only [lens]; omega)) only [go_sem, ↓reduceIte, reduceCtorEq, Nat.reduceEqDiff, Nat.reduceLT, Nat.reduceSub, Int.reduceLT, Nat.reduceAdd, Nat.reduceLeDiff, Int.reduceEq, Int.reduceNe, Int.reduceToNat, Tryz.f70, dl, hdz, eq0]
       refine go_loopI (fun q : Nat => ⟨105, [(0, .i (dl A)), (1, .i (dl B)), (6, .own 21 0 0 A.length), (7, .i (en (x - b * q))), (8, .i (.int .i64 F)), (9, .i (.int .i64 d)), (10, .i (.int .i64 i)), (13, .i (.int .i64 q))], [(21, some (.arr 3 0 (Q.map di)))]⟩)
        (fun q => b * q ≤ x ∧ q < 10000) (fun q => 10000 - q) q0 ?_ ⟨hq2, hq1⟩ ?_
       ·exact tu
       ·rintro K2 q ⟨g1, g2⟩ hK2
        have lq : (dg 10000 (x - b * q)).length ≤ B.length + 1 := Nat.le_trans (dg_len_le (by omega) (Nat.lt_of_le_of_lt (Nat.sub_le _ _) (dg_lt_pow (by omega) x))) lx
        have hcm := cmpNat_ac (x - b * q) b (by omega) (by rw [← hB]; omega)
        rw [eB] at hcm
        simp +contextual (disch := first | (intro _; intros; contradiction) | omega | (simp only [lens]; omega)) only [go_sem, ↓reduceIte, reduceCtorEq, Nat.reduceEqDiff, Nat.reduceLT, Nat.reduceSub, Int.reduceLT, Nat.reduceAdd, Nat.reduceLeDiff, Int.reduceEq, Int.reduceNe, Int.reduceToNat, Tryz.f70, dl, hdz, eq0]
        refine .ac hcm (by simp) ?_
        simp +contextual (disch := first | (intro _; intros; contradiction) | omega | (simp only [lens]; omega)) only [go_sem, ↓reduceIte, reduceCtorEq, Nat.reduceEqDiff, Nat.reduceLT, Nat.reduceSub, Int.reduceLT, Nat.reduceAdd, Nat.reduceLeDiff, Int.reduceEq, Int.reduceNe, Int.reduceToNat, Tryz.f70, dl, hdz, eq0]
        refine ⟨fun hc => ?_, fun hc => ?_⟩
        ·have hge : b ≤ x - b * q := by
          unfold cmpZ at hc
          rcases Nat.lt_or_ge (x - b * q) b with h | h
          ·rw [if_pos h] at hc; omega
          ·exact h
         have hsb := subNat_ac (x - b * q) b hge (by omega)
         rw [eB] at hsb
         refine .ac hsb (by simp) ?_
         simp +contextual (disch := first | (intro _; intros; contradiction) | omega | (simp only [lens]; omega)) only [go_sem, ↓reduceIte, reduceCtorEq, Nat.reduceEqDiff, Nat.reduceLT, Nat.reduceSub, Int.reduceLT, Nat.reduceAdd, Nat.reduceLeDiff, Int.reduceEq, Int.reduceNe, Int.reduceToNat, Tryz.f70, dl, hdz, eq0]
         have g3 : b * (q + 1) ≤ x := by rw [Nat.mul_add]; omega
         have g4 : q + 1 < 10000 := by
          rcases Nat.lt_or_ge (q + 1) 10000 with h | h
          ·exact h
          ·have := Nat.mul_le_mul_left b h; omega
         refine hK2 _ (q + 1) ⟨g3, g4⟩ (by omega) ?_
         rw [show x - b * q - b = x - b * (q + 1) by rw [Nat.mul_add]; omega]
         exact tu
        ·have hlt : x - b * q < b := by
          unfold cmpZ at hc
          rcases Nat.lt_or_ge (x - b * q) b with h | h
          ·exact h
          ·rw [if_neg (by omega)] at hc; split at hc <;> omega
         have eq1 : x / b = q := by
          rw [show x = (x - b * q) + b * q by omega, Nat.add_mul_div_left _ _ h0, Nat.div_eq_of_lt hlt]; omega
         have eq2 : x % b = x - b * q := by
          conv => lhs; rw [show x = (x - b * q) + b * q by omega]
          rw [Nat.add_mul_mod_self_left, Nat.mod_eq_of_lt hlt]
         have eai : A.getD i.toNat 0 = a / 10000 ^ i.toNat % 10000 := by rw [hA, getD_eq_of_dg (by omega)]
         have ei : (i + 1).toNat = i.toNat + 1 := by omega
         have hstep : a / 10000 ^ i.toNat = b * (10000 * (a / 10000 ^ (i + 1).toNat / b)) + x := by
          have d1 := Nat.div_add_mod (a / 10000 ^ i.toNat) 10000
          rw [Nat.div_div_eq_div_mul, show 10000 ^ i.toNat * 10000 = 10000 ^ (i + 1).toNat by rw [ei, Nat.pow_succ]] at d1
          have d2 := Nat.div_add_mod (a / 10000 ^ (i + 1).toNat) b
          rw [← hr] at d2
          rw [hx, eai]
          rw [← d2, Nat.mul_add] at d1
          rw [Nat.mul_left_comm b]
          omega
         have hdv : a / 10000 ^ i.toNat / b = 10000 * (a / 10000 ^ (i + 1).toNat / b) + q := by
          rw [hstep, Nat.add_comm, Nat.add_mul_div_left _ _ h0, eq1]; omega
         have hmd : a / 10000 ^ i.toNat % b = x - b * q := by
          rw [hstep, Nat.add_comm, Nat.add_mul_mod_self_left, eq2]
         refine hK _ (i - 1, Q.set i.toNat q) ⟨by simp only; omega, by simp only; omega, by simp [h3], dl_set h4 g2, fun j hj => by simp only at hj ⊢; rw [getD_set, if_neg (by omega)]; exact h5 j (by omega), ?_⟩ (by simp only; omega) ?_
         ·simp only
          rw [show (i - 1 + 1).toNat = i.toNat by omega, dv_put (by omega) (h5 _ (by omega)), h6, hdv, ei, Nat.pow_succ, Nat.add_mul]
          rw [Nat.mul_comm (10000 ^ i.toNat) 10000, Nat.mul_comm (10000 ^ i.toNat) q, Nat.mul_left_comm, Nat.mul_assoc]
         ·simp only
          rw [show (i - 1 + 1).toNat = i.toNat by omega, hmd]
          exact tu
    ·have ei : (i + 1).toNat = 0 := by omega
     rw [ei, Nat.pow_zero, Nat.div_one] at hr
     rw [ei, Nat.pow_zero, Nat.div_one, Nat.mul_one] at h6
     refine .frz [21] ?_
     simp only [go_sem, ↓reduceIte, reduceCtorEq, Nat.reduceEqDiff, Nat.reduceLT, Nat.reduceSub, Int.reduceLT, Nat.reduceAdd, Nat.reduceLeDiff, Int.reduceEq, Int.reduceNe, Int.reduceToNat, Tryz.f70, St.frz, frzP, frzD, frzO, frzC, frzOr, frozen, left, D.ok, D.ok1, D.ok0, List.contains_cons, List.contains_nil, Nat.reduceBEq, Option.isSome_none, Bool.not_true, Bool.not_false, Bool.and_false, Bool.and_true]
     rw [show Q.take A.length = Q from List.take_of_length_le (by omega)]
     have htr := trim_ac Q (by omega)
     rw [dl_trim h4, h6] at htr
     refine .ac htr (by simp) ?_
     simp +contextual (disch := first | (intro _; intros; contradiction) | omega | (simp only [lens]; omega)) only [go_sem, ↓reduceIte, reduceCtorEq, Nat.reduceEqDiff, Nat.reduceLT, Nat.reduceSub, Int.reduceLT, Nat.reduceAdd, Nat.reduceLeDiff, Int.reduceEq, Int.reduceNe, Int.reduceToNat, Tryz.f70, dl]
     rw [← eR, hr])
end Go.Lw
end
section
set_option maxRecDepth 10000
namespace Go.Lw
open Go.Proofs
def Lb (k n : Nat) : Prop := n < 10000 ^ k
theorem Lb.len {k n : Nat} (h : Lb k n) : (dg 10000 n).length ≤ k := en_len h
theorem Lb.mono {k m n : Nat} (h : Lb k n) (hk : k ≤ m) : Lb m n := Nat.lt_of_lt_of_le h (Nat.pow_le_pow_right (by omega) hk)
theorem Lb.le {k m n : Nat} (h : Lb k n) (hk : m ≤ n) : Lb k m := Nat.lt_of_le_of_lt hk h
theorem Lb.mul {j k m n : Nat} (h : Lb j m) (h2 : Lb k n) : Lb (j + k) (m * n) := by
 unfold Lb at *
 rw [Nat.pow_add]
 exact Nat.mul_lt_mul'' h h2
theorem Lb.add {k m n : Nat} (h : Lb k m) (h2 : Lb k n) : Lb (k + 1) (m + n) := by
 unfold Lb at *
 rw [Nat.pow_succ]; omega
theorem Lb.of_len {k n : Nat} (h : (dg 10000 n).length ≤ k) : Lb k n := dg_len_lt h
theorem len_pos {n : Nat} : 0 < (dg 10000 n).length ↔ n ≠ 0 := by
 rw [Nat.pos_iff_ne_zero, Ne, List.length_eq_zero_iff, dg_nil_iff (by omega)]
theorem gcdNat_ac (a b : Nat) (ha : Lb 1000000000 a) (hb : Lb 1000000000 b) : AC P0 67 [.i (en a), .i (en b)] (.i (en (Nat.gcd a b))) := by
 refine AC.of_go Tryz.func67 rfl rfl (Nat.le_of_ble_eq_true rfl) ?_
 simp (disch := first | (intro _; intros; contradiction) | omega | (simp only [lens]; omega)) only [go_sem, ↓reduceIte, reduceCtorEq, Nat.reduceEqDiff, Nat.reduceLT, Nat.reduceSub, Int.reduceLT, Nat.reduceAdd, Nat.reduceLeDiff, Int.reduceEq, Int.reduceNe, Int.reduceToNat, Tryz.f67]
 refine go_loopI (fun p : Nat × Nat => ⟨19, [(0, .i (en p.1)), (1, .i (en p.2))], []⟩) (fun p => Nat.gcd p.1 p.2 = Nat.gcd a b ∧ Lb 1000000000 p.1 ∧ Lb 1000000000 p.2) (fun p => p.2) (a, b) ?_ ⟨rfl, ha, hb⟩ ?_
 ·exact tu
 ·rintro K ⟨x, y⟩ ⟨h1, h2, h3⟩ hK
  simp only at h1 h2 h3
  have eY : en y = .sl 3 ((dg 10000 y).map di) := rfl
  simp +contextual (disch := first | (intro _; intros; contradiction) | omega | (simp only [lens]; omega)) only [go_sem, ↓reduceIte, reduceCtorEq, Nat.reduceEqDiff, Nat.reduceLT, Nat.reduceSub, Int.reduceLT, Nat.reduceAdd, Nat.reduceLeDiff, Int.reduceEq, Int.reduceNe, Int.reduceToNat, Tryz.f67, eY]
  have hl := len_pos (n := y)
  refine ⟨fun hy => ?_, fun hy => ?_⟩
  ·have h0 : 0 < y := by omega
   have hd := divNat_ac x y h0 h2.len h3.len
   rw [eY] at hd
   refine .ac hd (by simp) ?_
   simp +contextual (disch := first | (intro _; intros; contradiction) | omega | (simp only [lens]; omega)) only [go_sem, ↓reduceIte, reduceCtorEq, Nat.reduceEqDiff, Nat.reduceLT, Nat.reduceSub, Int.reduceLT, Nat.reduceAdd, Nat.reduceLeDiff, Int.reduceEq, Int.reduceNe, Int.reduceToNat, Tryz.f67]
   rw [← eY]
   refine hK _ (y, x % y) ⟨?_, h3, h2.le (Nat.mod_le _ _)⟩ (by simp only; exact Nat.mod_lt _ h0) tu
   simp only
   rw [← h1, Nat.gcd_comm y, ← Nat.gcd_rec, Nat.gcd_comm]
  ·have : y = 0 := by omega
   subst this
   rw [← h1, Nat.gcd_zero_right]
def eqr (q : Rat) : I := .agg [.bool (decide (q.num < 0)), en q.num.natAbs, en q.den]
theorem eqr_zero : eqr 0 = .agg [.bool false, en 0, en 1] := rfl
theorem sv_mul (m : Bool) (n k : Nat) : sv m (n * k) = sv m n * k := by unfold sv; split <;> simp [Int.neg_mul]
theorem sv_div (m : Bool) {n g : Nat} (h : g ∣ n) : sv m n / (g : Int) = sv m (n / g) := by
 cases m
 ·simp only [sv, Bool.false_eq_true, if_false]; exact (Int.natCast_ediv n g).symm
 ·simp only [sv, if_true]; rw [Int.neg_ediv_of_dvd (Int.natCast_dvd_natCast.2 h), Int.natCast_ediv]
theorem mkRat_num {m : Bool} {n d : Nat} (hd : 0 < d) : (mkRat (sv m n) d).num = sv m (n / Nat.gcd n d) ∧ (mkRat (sv m n) d).den = d / Nat.gcd n d := by
 rw [← Rat.normalize_eq_mkRat (by omega), Rat.normalize_eq]
 refine ⟨?_, ?_⟩
 ·show sv m n / (((sv m n).natAbs.gcd d : Nat) : Int) = _
  rw [sv_abs, sv_div m (Nat.gcd_dvd_left n d)]
 ·show d / (sv m n).natAbs.gcd d = _
  rw [sv_abs]
theorem lowest_ac (m : Bool) (n d : Nat) (hd : 0 < d) (hn : Lb 1000000000 n) (hd2 : Lb 1000000000 d) : AC P0 33 [.i (.bool m), .i (en n), .i (en d)] (.i (eqr (mkRat (sv m n) d))) := by
 have eN : en n = .sl 3 ((dg 10000 n).map di) := rfl
 have hl := len_pos (n := n)
 rcases Nat.eq_zero_or_pos n with h0 | h0
 ·subst h0
  have e0 : eqr (mkRat (sv m 0) d) = .agg [.bool false, en 0, en 1] := by rw [sv_zero, Rat.zero_mkRat]; rfl
  rw [e0]
  refine AC.eqv (x := .agg [.bool false, .sl 0 [], en 1]) ?_ (.agg _ _ rfl fun j x y hx hy => by
   match j with
   | 0 => simp at hx hy; subst hx hy; exact .refl _
   | 1 => simp at hx hy; subst hx hy; unfold en; rw [dg_zero]; exact .sl0 0 3
   | 2 => simp at hx hy; subst hx hy; exact .refl _
   | j + 3 => simp at hx)
  refine AC.of_go Tryz.func33 rfl rfl (Nat.le_of_ble_eq_true rfl) ?_
  rw [eN]
  simp (disch := first | (intro _; intros; contradiction) | omega | (simp only [lens]; omega)) only [go_sem, ↓reduceIte, reduceCtorEq, Nat.reduceEqDiff, Nat.reduceLT, Nat.reduceSub, Int.reduceLT, Nat.reduceAdd, Nat.reduceLeDiff, Int.reduceEq, Int.reduceNe, Int.reduceToNat, Tryz.f33, dg_zero, List.map_nil, Int.natCast_zero, Int.natCast_eq_zero]
  refine .ac (natOf_ac 1 (by omega) (by omega)) (by simp) ?_
  simp (disch := first | (intro _; intros; contradiction) | omega | (simp only [lens]; omega)) only [go_sem, ↓reduceIte, reduceCtorEq, Nat.reduceEqDiff, Nat.reduceLT, Nat.reduceSub, Int.reduceLT, Nat.reduceAdd, Nat.reduceLeDiff, Int.reduceEq, Int.reduceNe, Int.reduceToNat, Tryz.f33, en, dl]
 ·refine AC.of_go Tryz.func33 rfl rfl (Nat.le_of_ble_eq_true rfl) ?_
  rw [eN]
  have hg := gcdNat_ac n d hn hd2
  have hg0 : 0 < Nat.gcd n d := Nat.gcd_pos_of_pos_left _ h0
  have lg : Lb 1000000000 (Nat.gcd n d) := hn.le (Nat.gcd_le_left _ h0)
  have hq := divNat_ac n (Nat.gcd n d) hg0 hn.len lg.len
  rw [eN] at hg hq
  simp +contextual (disch := first | (intro _; intros; contradiction) | omega | (simp only [lens]; omega)) only [go_sem, ↓reduceIte, reduceCtorEq, Nat.reduceEqDiff, Nat.reduceLT, Nat.reduceSub, Int.reduceLT, Nat.reduceAdd, Nat.reduceLeDiff, Int.reduceEq, Int.reduceNe, Int.reduceToNat, Tryz.f33]
  refine .ac hg (by simp) ?_
  simp +contextual (disch := first | (intro _; intros; contradiction) | omega | (simp only [lens]; omega)) only [go_sem, ↓reduceIte, reduceCtorEq, Nat.reduceEqDiff, Nat.reduceLT, Nat.reduceSub, Int.reduceLT, Nat.reduceAdd, Nat.reduceLeDiff, Int.reduceEq, Int.reduceNe, Int.reduceToNat, Tryz.f33]
  refine .ac hq (by simp) ?_
  simp +contextual (disch := first | (intro _; intros; contradiction) | omega | (simp only [lens]; omega)) only [go_sem, ↓reduceIte, reduceCtorEq, Nat.reduceEqDiff, Nat.reduceLT, Nat.reduceSub, Int.reduceLT, Nat.reduceAdd, Nat.reduceLeDiff, Int.reduceEq, Int.reduceNe, Int.reduceToNat, Tryz.f33]
  refine .ac (divNat_ac d (Nat.gcd n d) hg0 hd2.len lg.len) (by simp) ?_
  simp +contextual (disch := first | (intro _; intros; contradiction) | omega | (simp only [lens]; omega)) only [go_sem, ↓reduceIte, reduceCtorEq, Nat.reduceEqDiff, Nat.reduceLT, Nat.reduceSub, Int.reduceLT, Nat.reduceAdd, Nat.reduceLeDiff, Int.reduceEq, Int.reduceNe, Int.reduceToNat, Tryz.f33, en, dl]
  obtain ⟨m1, m2⟩ := mkRat_num (m := m) (n := n) hd
  have hpos : n / Nat.gcd n d ≠ 0 := by
   have := Nat.div_pos (Nat.le_of_dvd h0 (Nat.gcd_dvd_left n d)) hg0; omega
  unfold eqr en dl
  rw [m1, m2, sv_neg, sv_abs]
  simp [hpos]
def Qb (k : Nat) (q : Rat) : Prop := Lb k q.num.natAbs ∧ Lb k q.den
theorem Qb.mono {k m : Nat} {q : Rat} (h : Qb k q) (hk : k ≤ m) : Qb m q := ⟨h.1.mono hk, h.2.mono hk⟩
theorem mkRat_le {z : Int} {d : Nat} (hd : 0 < d) : (mkRat z d).num.natAbs ≤ z.natAbs ∧ (mkRat z d).den ≤ d := by
 rw [← sv_self z]
 obtain ⟨m1, m2⟩ := mkRat_num (m := decide (z < 0)) (n := z.natAbs) hd
 rw [m1, m2, sv_abs, sv_abs]
 exact ⟨Nat.div_le_self _ _, Nat.div_le_self _ _⟩
theorem Qb.mk {k : Nat} {z : Int} {d : Nat} (hd : 0 < d) (h1 : Lb k z.natAbs) (h2 : Lb k d) : Qb k (mkRat z d) := ⟨h1.le (mkRat_le hd).1, h2.le (mkRat_le hd).2⟩
theorem add_mk (a b : Rat) : a + b = mkRat (a.num * b.den + b.num * a.den) (a.den * b.den) := by rw [Rat.add_def, Rat.normalize_eq_mkRat]
theorem mul_mk (a b : Rat) : a * b = mkRat (a.num * b.num) (a.den * b.den) := by rw [Rat.mul_def, Rat.normalize_eq_mkRat]
theorem Qb.add {j k : Nat} {a b : Rat} (ha : Qb j a) (hb : Qb k b) : Qb (j + k + 1) (a + b) := by
 rw [add_mk]
 refine .mk (Nat.mul_pos a.den_pos b.den_pos) ?_ ((ha.2.mul hb.2).mono (by omega))
 have h1 := (ha.1.mul hb.2).add ((ha.2.mul hb.1))
 refine h1.le (Nat.le_trans (Int.natAbs_add_le _ _) ?_)
 rw [Int.natAbs_mul, Int.natAbs_mul, Int.natAbs_natCast, Int.natAbs_natCast, Nat.mul_comm b.num.natAbs]
 omega
theorem Qb.mul {j k : Nat} {a b : Rat} (ha : Qb j a) (hb : Qb k b) : Qb (j + k) (a * b) := by
 rw [mul_mk]
 refine .mk (Nat.mul_pos a.den_pos b.den_pos) ?_ (ha.2.mul hb.2)
 rw [Int.natAbs_mul]; exact ha.1.mul hb.1
end Go.Lw
end
section
set_option maxRecDepth 10000
namespace Go.Lw
open Go.Proofs
theorem mk_sv (z : Int) (d : Nat) : mkRat (sv (decide (z < 0)) z.natAbs) d = mkRat z d := by rw [sv_self]
theorem lb1 : Lb 1 1 := by unfold Lb; omega
theorem qOf_ac (n : Int) (h0 : -9223372036854775808 ≤ n) (h1 : n < 9223372036854775808) : AC P0 11 [.i (.int .i64 n)] (.i (eqr (n : Rat))) := by
 have e : ((n : Rat)) = mkRat (sv (decide (n < 0)) n.natAbs) 1 := by rw [sv_self, Rat.mkRat_one]
 have hb : Lb 5 n.natAbs := by unfold Lb; omega
 rw [e]
 have hlo := lowest_ac (decide (n < 0)) n.natAbs 1 (by omega) (hb.mono (by omega)) (lb1.mono (by omega))
 refine AC.of_go Tryz.func11 rfl rfl (Nat.le_of_ble_eq_true rfl) ?_
 simp +contextual (disch := first | (intro _; intros; contradiction) | omega | (simp only [lens]; omega)) only [go_sem, ↓reduceIte, reduceCtorEq, Nat.reduceEqDiff, Nat.reduceLT, Nat.reduceSub, Int.reduceLT, Nat.reduceAdd, Nat.reduceLeDiff, Int.reduceEq, Int.reduceNe, Int.reduceToNat, Tryz.f11, unI]
 refine ⟨fun hn => ?_, fun hn => ?_⟩
 ·have hno := natOf_ac (-(n + 1) + 1) (by omega) (by omega)
  rw [show (-(n + 1) + 1).toNat = n.natAbs by omega] at hno
  simp only [show decide (n < 0) = true by simp [hn]] at hlo ⊢
  refine .ac hno (by simp) ?_
  simp +contextual (disch := first | (intro _; intros; contradiction) | omega | (simp only [lens]; omega)) only [go_sem, ↓reduceIte, reduceCtorEq, Nat.reduceEqDiff, Nat.reduceLT, Nat.reduceSub, Int.reduceLT, Nat.reduceAdd, Nat.reduceLeDiff, Int.reduceEq, Int.reduceNe, Int.reduceToNat, Tryz.f11, unI]
  refine .ac (natOf_ac 1 (by omega) (by omega)) (by simp) ?_
  simp +contextual (disch := first | (intro _; intros; contradiction) | omega | (simp only [lens]; omega)) only [go_sem, ↓reduceIte, reduceCtorEq, Nat.reduceEqDiff, Nat.reduceLT, Nat.reduceSub, Int.reduceLT, Nat.reduceAdd, Nat.reduceLeDiff, Int.reduceEq, Int.reduceNe, Int.reduceToNat, Tryz.f11, unI]
  refine .norm ?_
  simp only [List.map_cons, List.map_nil, D.norm]
  refine .ac hlo (by simp) ?_
  simp +contextual (disch := first | (intro _; intros; contradiction) | omega | (simp only [lens]; omega)) only [go_sem, ↓reduceIte, reduceCtorEq, Nat.reduceEqDiff, Nat.reduceLT, Nat.reduceSub, Int.reduceLT, Nat.reduceAdd, Nat.reduceLeDiff, Int.reduceEq, Int.reduceNe, Int.reduceToNat, Tryz.f11, eqr]
 ·have hno := natOf_ac n (by omega) (by omega)
  rw [show n.toNat = n.natAbs by omega] at hno
  simp only [show decide (n < 0) = false by simp [hn]] at hlo ⊢
  refine .ac hno (by simp) ?_
  simp +contextual (disch := first | (intro _; intros; contradiction) | omega | (simp only [lens]; omega)) only [go_sem, ↓reduceIte, reduceCtorEq, Nat.reduceEqDiff, Nat.reduceLT, Nat.reduceSub, Int.reduceLT, Nat.reduceAdd, Nat.reduceLeDiff, Int.reduceEq, Int.reduceNe, Int.reduceToNat, Tryz.f11, unI]
  refine .ac (natOf_ac 1 (by omega) (by omega)) (by simp) ?_
  simp +contextual (disch := first | (intro _; intros; contradiction) | omega | (simp only [lens]; omega)) only [go_sem, ↓reduceIte, reduceCtorEq, Nat.reduceEqDiff, Nat.reduceLT, Nat.reduceSub, Int.reduceLT, Nat.reduceAdd, Nat.reduceLeDiff, Int.reduceEq, Int.reduceNe, Int.reduceToNat, Tryz.f11, unI]
  refine .norm ?_
  simp only [List.map_cons, List.map_nil, D.norm]
  refine .ac hlo (by simp) ?_
  simp +contextual (disch := first | (intro _; intros; contradiction) | omega | (simp only [lens]; omega)) only [go_sem, ↓reduceIte, reduceCtorEq, Nat.reduceEqDiff, Nat.reduceLT, Nat.reduceSub, Int.reduceLT, Nat.reduceAdd, Nat.reduceLeDiff, Int.reduceEq, Int.reduceNe, Int.reduceToNat, Tryz.f11, eqr]
theorem plus_ac (a b : Rat) (ha : Qb 100000000 a) (hb : Qb 100000000 b) : AC P0 12 [.i (eqr a), .i (eqr b)] (.i (eqr (a + b))) := by
 have bx := ha.1.mul hb.2
 have bY := hb.1.mul ha.2
 have bd := ha.2.mul hb.2
 have hd : 0 < a.den * b.den := Nat.mul_pos a.den_pos b.den_pos
 have mx := mulNat_ac a.num.natAbs b.den (Nat.le_trans ha.1.len (by omega)) (Nat.le_trans hb.2.len (by omega))
 have my := mulNat_ac b.num.natAbs a.den (Nat.le_trans hb.1.len (by omega)) (Nat.le_trans ha.2.len (by omega))
 have md := mulNat_ac a.den b.den (Nat.le_trans ha.2.len (by omega)) (Nat.le_trans hb.2.len (by omega))
 obtain ⟨x, hx⟩ : ∃ x, x = a.num.natAbs * b.den := ⟨_, rfl⟩
 obtain ⟨y, hy⟩ : ∃ y, y = b.num.natAbs * a.den := ⟨_, rfl⟩
 have sum : a + b = mkRat (sv (decide (a.num < 0)) x + sv (decide (b.num < 0)) y) (a.den * b.den) := by
  rw [hx, hy, sv_mul, sv_mul, sv_self, sv_self, add_mk]
 rw [← hx] at mx bx
 rw [← hy] at my bY
 rw [sum]
 refine AC.of_go Tryz.func12 rfl rfl (Nat.le_of_ble_eq_true rfl) ?_
 simp +contextual (disch := first | (intro _; intros; contradiction) | omega | (simp only [lens]; omega)) only [go_sem, ↓reduceIte, reduceCtorEq, Nat.reduceEqDiff, Nat.reduceLT, Nat.reduceSub, Int.reduceLT, Nat.reduceAdd, Nat.reduceLeDiff, Int.reduceEq, Int.reduceNe, Int.reduceToNat, Tryz.f12, eqr]
 refine go_drawn mixed0 (by kernel_rfl) ?_
 simp +contextual (disch := first | (intro _; intros; contradiction) | omega | (simp only [lens]; omega)) only [go_sem, ↓reduceIte, reduceCtorEq, Nat.reduceEqDiff, Nat.reduceLT, Nat.reduceSub, Int.reduceLT, Nat.reduceAdd, Nat.reduceLeDiff, Int.reduceEq, Int.reduceNe, Int.reduceToNat, Tryz.f12, eqr]
 refine ⟨_, mx, _, my, _, md, by kernel_rfl, ?_⟩
 simp +contextual (disch := first | (intro _; intros; contradiction) | omega | (simp only [lens]; omega)) only [go_sem, ↓reduceIte, reduceCtorEq, Nat.reduceEqDiff, Nat.reduceLT, Nat.reduceSub, Int.reduceLT, Nat.reduceAdd, Nat.reduceLeDiff, Int.reduceEq, Int.reduceNe, Int.reduceToNat, Tryz.f12, boolI]
 refine ⟨fun hs => ?_, fun hs => ?_⟩
 ·have hs2 : decide (a.num < 0) = decide (b.num < 0) := by simpa using hs
  rw [hs2, show sv (decide (b.num < 0)) x + sv (decide (b.num < 0)) y = sv (decide (b.num < 0)) (x + y) by unfold sv; split <;> omega]
  refine go_drawn mixed0 (by kernel_rfl) ?_
  simp +contextual (disch := first | (intro _; intros; contradiction) | omega | (simp only [lens]; omega)) only [go_sem, ↓reduceIte, reduceCtorEq, Nat.reduceEqDiff, Nat.reduceLT, Nat.reduceSub, Int.reduceLT, Nat.reduceAdd, Nat.reduceLeDiff, Int.reduceEq, Int.reduceNe, Int.reduceToNat, Tryz.f12, eqr]
  refine ⟨_, addNat_ac x y (Nat.le_trans bx.len (by omega)) (Nat.le_trans bY.len (by omega)), _, lowest_ac _ (x + y) (a.den * b.den) hd ((bx.add (bY.mono (by omega))).mono (by omega)) (bd.mono (by omega)), ?_⟩
  simp +contextual (disch := first | (intro _; intros; contradiction) | omega | (simp only [lens]; omega)) only [go_sem, ↓reduceIte, reduceCtorEq, Nat.reduceEqDiff, Nat.reduceLT, Nat.reduceSub, Int.reduceLT, Nat.reduceAdd, Nat.reduceLeDiff, Int.reduceEq, Int.reduceNe, Int.reduceToNat, Tryz.f12, eqr]
  kernel_rfl
 ·have hs2 : ¬ decide (a.num < 0) = decide (b.num < 0) := by simpa using hs
  refine .ac (cmpNat_ac x y (Nat.le_trans bx.len (by omega)) (Nat.le_trans bY.len (by omega))) (by simp) ?_
  simp +contextual (disch := first | (intro _; intros; contradiction) | omega | (simp only [lens]; omega)) only [go_sem, ↓reduceIte, reduceCtorEq, Nat.reduceEqDiff, Nat.reduceLT, Nat.reduceSub, Int.reduceLT, Nat.reduceAdd, Nat.reduceLeDiff, Int.reduceEq, Int.reduceNe, Int.reduceToNat, Tryz.f12, boolI]
  have hs3 : decide (a.num < 0) = !decide (b.num < 0) := by cases h1 : decide (a.num < 0) <;> cases h2 : decide (b.num < 0) <;> simp_all
  refine ⟨fun hc => ?_, fun hc => ?_⟩
  ·have hle : y ≤ x := by
    unfold cmpZ at hc
    rcases Nat.lt_or_ge x y with h | h
    ·rw [if_pos h] at hc; omega
    ·exact h
   have e : sv (decide (a.num < 0)) x + sv (decide (b.num < 0)) y = sv (decide (a.num < 0)) (x - y) := by
    rw [hs3]; unfold sv; cases decide (b.num < 0) <;> simp <;> omega
   rw [e]
   refine go_drawn mixed0 (by kernel_rfl) ?_
   simp +contextual (disch := first | (intro _; intros; contradiction) | omega | (simp only [lens]; omega)) only [go_sem, ↓reduceIte, reduceCtorEq, Nat.reduceEqDiff, Nat.reduceLT, Nat.reduceSub, Int.reduceLT, Nat.reduceAdd, Nat.reduceLeDiff, Int.reduceEq, Int.reduceNe, Int.reduceToNat, Tryz.f12, eqr]
   refine ⟨_, subNat_ac x y hle (Nat.le_trans bx.len (by omega)), _, lowest_ac _ (x - y) (a.den * b.den) hd ((bx.le (Nat.sub_le _ _)).mono (by omega)) (bd.mono (by omega)), ?_⟩
   simp +contextual (disch := first | (intro _; intros; contradiction) | omega | (simp only [lens]; omega)) only [go_sem, ↓reduceIte, reduceCtorEq, Nat.reduceEqDiff, Nat.reduceLT, Nat.reduceSub, Int.reduceLT, Nat.reduceAdd, Nat.reduceLeDiff, Int.reduceEq, Int.reduceNe, Int.reduceToNat, Tryz.f12, eqr]
   kernel_rfl
  ·have hle : x ≤ y := by
    unfold cmpZ at hc
    rcases Nat.lt_or_ge x y with h | h
    ·omega
    ·rw [if_neg (by omega)] at hc; split at hc <;> omega
   have e : sv (decide (a.num < 0)) x + sv (decide (b.num < 0)) y = sv (decide (b.num < 0)) (y - x) := by
    rw [hs3]; unfold sv; cases decide (b.num < 0) <;> simp <;> omega
   rw [e]
   refine go_drawn mixed0 (by kernel_rfl) ?_
   simp +contextual (disch := first | (intro _; intros; contradiction) | omega | (simp only [lens]; omega)) only [go_sem, ↓reduceIte, reduceCtorEq, Nat.reduceEqDiff, Nat.reduceLT, Nat.reduceSub, Int.reduceLT, Nat.reduceAdd, Nat.reduceLeDiff, Int.reduceEq, Int.reduceNe, Int.reduceToNat, Tryz.f12, eqr]
   refine ⟨_, subNat_ac y x hle (Nat.le_trans bY.len (by omega)), _, lowest_ac _ (y - x) (a.den * b.den) hd ((bY.le (Nat.sub_le _ _)).mono (by omega)) (bd.mono (by omega)), ?_⟩
   simp +contextual (disch := first | (intro _; intros; contradiction) | omega | (simp only [lens]; omega)) only [go_sem, ↓reduceIte, reduceCtorEq, Nat.reduceEqDiff, Nat.reduceLT, Nat.reduceSub, Int.reduceLT, Nat.reduceAdd, Nat.reduceLeDiff, Int.reduceEq, Int.reduceNe, Int.reduceToNat, Tryz.f12, eqr]
   kernel_rfl
theorem times_ac (a b : Rat) (ha : Qb 100000000 a) (hb : Qb 100000000 b) : AC P0 13 [.i (eqr a), .i (eqr b)] (.i (eqr (a * b))) := by
 have bx := ha.1.mul hb.1
 have bd := ha.2.mul hb.2
 have hd : 0 < a.den * b.den := Nat.mul_pos a.den_pos b.den_pos
 have mx := mulNat_ac a.num.natAbs b.num.natAbs (Nat.le_trans ha.1.len (by omega)) (Nat.le_trans hb.1.len (by omega))
 have md := mulNat_ac a.den b.den (Nat.le_trans ha.2.len (by omega)) (Nat.le_trans hb.2.len (by omega))
 have sum : a * b = mkRat (sv (!(decide (a.num < 0) == decide (b.num < 0))) (a.num.natAbs * b.num.natAbs)) (a.den * b.den) := by
  rw [mul_mk]
  congr 1
  conv => lhs; rw [← sv_self a.num, ← sv_self b.num]
  unfold sv
  cases decide (a.num < 0) <;> cases decide (b.num < 0) <;> simp [Int.neg_mul, Int.mul_neg]
 rw [sum]
 refine AC.of_go Tryz.func13 rfl rfl (Nat.le_of_ble_eq_true rfl) ?_
 simp +contextual (disch := first | (intro _; intros; contradiction) | omega | (simp only [lens]; omega)) only [go_sem, ↓reduceIte, reduceCtorEq, Nat.reduceEqDiff, Nat.reduceLT, Nat.reduceSub, Int.reduceLT, Nat.reduceAdd, Nat.reduceLeDiff, Int.reduceEq, Int.reduceNe, Int.reduceToNat, Tryz.f13, eqr]
 refine go_drawn mixed0 (by kernel_rfl) ?_
 simp +contextual (disch := first | (intro _; intros; contradiction) | omega | (simp only [lens]; omega)) only [go_sem, ↓reduceIte, reduceCtorEq, Nat.reduceEqDiff, Nat.reduceLT, Nat.reduceSub, Int.reduceLT, Nat.reduceAdd, Nat.reduceLeDiff, Int.reduceEq, Int.reduceNe, Int.reduceToNat, Tryz.f13, eqr, boolI]
 refine ⟨_, mx, _, md, _, lowest_ac _ _ _ hd (bx.mono (by omega)) (bd.mono (by omega)), ?_⟩
 simp +contextual (disch := first | (intro _; intros; contradiction) | omega | (simp only [lens]; omega)) only [go_sem, ↓reduceIte, reduceCtorEq, Nat.reduceEqDiff, Nat.reduceLT, Nat.reduceSub, Int.reduceLT, Nat.reduceAdd, Nat.reduceLeDiff, Int.reduceEq, Int.reduceNe, Int.reduceToNat, Tryz.f13, eqr]
 kernel_rfl
theorem divInt_mk (x d : Int) : Rat.divInt x d = mkRat (if d < 0 then -x else x) d.natAbs := by
 cases d with
 | ofNat n => rw [if_neg (by simp)]; rfl
 | negSucc n =>
  rw [if_pos (Int.negSucc_lt_zero n)]
  exact Rat.normalize_eq_mkRat (Nat.succ_ne_zero n)
theorem over_ac (a b : Rat) (ha : Qb 100000000 a) (hb : Qb 100000000 b) (h0 : b ≠ 0) : AC P0 14 [.i (eqr a), .i (eqr b)] (.i (eqr (a / b))) := by
 have bx := ha.1.mul hb.2
 have bd := ha.2.mul hb.1
 have hb0 : b.num ≠ 0 := fun h => h0 (Rat.num_eq_zero.1 h)
 have hd : 0 < a.den * b.num.natAbs := Nat.mul_pos a.den_pos (by omega)
 have mx := mulNat_ac a.num.natAbs b.den (Nat.le_trans ha.1.len (by omega)) (Nat.le_trans hb.2.len (by omega))
 have md := mulNat_ac a.den b.num.natAbs (Nat.le_trans ha.2.len (by omega)) (Nat.le_trans hb.1.len (by omega))
 have sum : a / b = mkRat (sv (!(decide (a.num < 0) == decide (b.num < 0))) (a.num.natAbs * b.den)) (a.den * b.num.natAbs) := by
  rw [Rat.div_def, Rat.inv_def, divInt_mk]
  conv => lhs; lhs; rw [← Rat.mkRat_self a]
  rw [Rat.mkRat_mul_mkRat]
  congr 1
  conv => lhs; lhs; rw [← sv_self a.num]
  by_cases h1 : a.num < 0 <;> by_cases h2 : b.num < 0 <;> simp [sv, h1, h2, Int.neg_mul, Int.mul_neg]
 rw [sum]
 refine AC.of_go Tryz.func14 rfl rfl (Nat.le_of_ble_eq_true rfl) ?_
 simp +contextual (disch := first | (intro _; intros; contradiction) | omega | (simp only [lens]; omega)) only [go_sem, ↓reduceIte, reduceCtorEq, Nat.reduceEqDiff, Nat.reduceLT, Nat.reduceSub, Int.reduceLT, Nat.reduceAdd, Nat.reduceLeDiff, Int.reduceEq, Int.reduceNe, Int.reduceToNat, Tryz.f14, eqr]
 refine go_drawn mixed0 (by kernel_rfl) ?_
 simp +contextual (disch := first | (intro _; intros; contradiction) | omega | (simp only [lens]; omega)) only [go_sem, ↓reduceIte, reduceCtorEq, Nat.reduceEqDiff, Nat.reduceLT, Nat.reduceSub, Int.reduceLT, Nat.reduceAdd, Nat.reduceLeDiff, Int.reduceEq, Int.reduceNe, Int.reduceToNat, Tryz.f14, eqr, boolI]
 refine ⟨_, mx, _, md, _, lowest_ac _ _ _ hd (bx.mono (by omega)) (bd.mono (by omega)), ?_⟩
 simp +contextual (disch := first | (intro _; intros; contradiction) | omega | (simp only [lens]; omega)) only [go_sem, ↓reduceIte, reduceCtorEq, Nat.reduceEqDiff, Nat.reduceLT, Nat.reduceSub, Int.reduceLT, Nat.reduceAdd, Nat.reduceLeDiff, Int.reduceEq, Int.reduceNe, Int.reduceToNat, Tryz.f14, eqr]
 kernel_rfl
theorem opp_ac (a : Rat) : AC P0 32 [.i (eqr a)] (.i (eqr (-a))) := by
 have hl := len_pos (n := a.num.natAbs)
 have eN : en a.num.natAbs = .sl 3 ((dg 10000 a.num.natAbs).map di) := rfl
 have e : eqr (-a) = .agg [.bool (!decide (a.num < 0) && decide (0 < (dg 10000 a.num.natAbs).length)), en a.num.natAbs, en a.den] := by
  unfold eqr
  rw [Rat.neg_num, Rat.neg_den, Int.natAbs_neg]
  congr 2
  by_cases h : a.num < 0
  ·have : ¬ -a.num < 0 := by omega
   simp [h]; omega
  ·by_cases h2 : a.num = 0
   ·simp [h2, dg_zero]
   ·have : -a.num < 0 := by omega
    simp [h, this]; omega
 rw [e]
 refine AC.of_go Tryz.func32 rfl rfl (Nat.le_of_ble_eq_true rfl) ?_
 simp +contextual (disch := first | (intro _; intros; contradiction) | omega | (simp only [lens]; omega)) only [go_sem, ↓reduceIte, reduceCtorEq, Nat.reduceEqDiff, Nat.reduceLT, Nat.reduceSub, Int.reduceLT, Nat.reduceAdd, Nat.reduceLeDiff, Int.reduceEq, Int.reduceNe, Int.reduceToNat, Tryz.f32, eqr, unI, eN, en, dl]
 intro h
 simp
theorem minus_ac (a b : Rat) (ha : Qb 100000000 a) (hb : Qb 100000000 b) : AC P0 10 [.i (eqr a), .i (eqr b)] (.i (eqr (a - b))) := by
 have hb2 : Qb 100000000 (-b) := ⟨by rw [Rat.neg_num, Int.natAbs_neg]; exact hb.1, by rw [Rat.neg_den]; exact hb.2⟩
 rw [Rat.sub_eq_add_neg]
 have ho := opp_ac b
 have hp := plus_ac a (-b) ha hb2
 refine AC.of_go Tryz.func10 rfl rfl (Nat.le_of_ble_eq_true rfl) ?_
 simp +contextual (disch := first | (intro _; intros; contradiction) | omega | (simp only [lens]; omega)) only [go_sem, ↓reduceIte, reduceCtorEq, Nat.reduceEqDiff, Nat.reduceLT, Nat.reduceSub, Int.reduceLT, Nat.reduceAdd, Nat.reduceLeDiff, Int.reduceEq, Int.reduceNe, Int.reduceToNat, Tryz.f10, eqr]
 refine go_drawn mixed0 (by kernel_rfl) ?_
 simp +contextual (disch := first | (intro _; intros; contradiction) | omega | (simp only [lens]; omega)) only [go_sem, ↓reduceIte, reduceCtorEq, Nat.reduceEqDiff, Nat.reduceLT, Nat.reduceSub, Int.reduceLT, Nat.reduceAdd, Nat.reduceLeDiff, Int.reduceEq, Int.reduceNe, Int.reduceToNat, Tryz.f10, eqr]
 refine ⟨_, ho, _, hp, ?_⟩
 simp +contextual (disch := first | (intro _; intros; contradiction) | omega | (simp only [lens]; omega)) only [go_sem, ↓reduceIte, reduceCtorEq, Nat.reduceEqDiff, Nat.reduceLT, Nat.reduceSub, Int.reduceLT, Nat.reduceAdd, Nat.reduceLeDiff, Int.reduceEq, Int.reduceNe, Int.reduceToNat, Tryz.f10, eqr]
 kernel_rfl
theorem qsign_ac (a : Rat) : AC P0 39 [.i (eqr a)] (.i (.int .i64 a.num.sign)) := by
 have hl := len_pos (n := a.num.natAbs)
 have eN : en a.num.natAbs = .sl 3 ((dg 10000 a.num.natAbs).map di) := rfl
 refine AC.of_go Tryz.func39 rfl rfl (Nat.le_of_ble_eq_true rfl) ?_
 simp +contextual (disch := first | (intro _; intros; contradiction) | omega | (simp only [lens]; omega)) only [go_sem, ↓reduceIte, reduceCtorEq, Nat.reduceEqDiff, Nat.reduceLT, Nat.reduceSub, Int.reduceLT, Nat.reduceAdd, Nat.reduceLeDiff, Int.reduceEq, Int.reduceNe, Int.reduceToNat, Tryz.f39, eqr, unI, eN]
 refine ⟨fun h => ?_, fun h => ⟨fun h2 => ?_, fun h2 => ?_⟩⟩
 ·rw [show a.num = 0 by omega]; rfl
 ·rw [Int.sign_eq_neg_one_of_neg h2]
 ·rw [Int.sign_eq_one_of_pos (by omega)]
theorem against_ac (a b : Rat) (ha : Qb 100000000 a) (hb : Qb 100000000 b) : AC P0 15 [.i (eqr a), .i (eqr b)] (.i (.int .i64 (a - b).num.sign)) := by
 refine AC.of_go Tryz.func15 rfl rfl (Nat.le_of_ble_eq_true rfl) ?_
 simp +contextual (disch := first | (intro _; intros; contradiction) | omega | (simp only [lens]; omega)) only [go_sem, ↓reduceIte, reduceCtorEq, Nat.reduceEqDiff, Nat.reduceLT, Nat.reduceSub, Int.reduceLT, Nat.reduceAdd, Nat.reduceLeDiff, Int.reduceEq, Int.reduceNe, Int.reduceToNat, Tryz.f15, eqr]
 refine .ac (minus_ac a b ha hb) (by simp) ?_
 simp +contextual (disch := first | (intro _; intros; contradiction) | omega | (simp only [lens]; omega)) only [go_sem, ↓reduceIte, reduceCtorEq, Nat.reduceEqDiff, Nat.reduceLT, Nat.reduceSub, Int.reduceLT, Nat.reduceAdd, Nat.reduceLeDiff, Int.reduceEq, Int.reduceNe, Int.reduceToNat, Tryz.f15]
 refine .ac (qsign_ac (a - b)) (by simp) ?_
 simp +contextual (disch := first | (intro _; intros; contradiction) | omega | (simp only [lens]; omega)) only [go_sem, ↓reduceIte, reduceCtorEq, Nat.reduceEqDiff, Nat.reduceLT, Nat.reduceSub, Int.reduceLT, Nat.reduceAdd, Nat.reduceLeDiff, Int.reduceEq, Int.reduceNe, Int.reduceToNat, Tryz.f15]
theorem whole_ac (a : Rat) (ha : Qb 1000000000 a) : AC P0 109 [.i (eqr a)] (.i (.bool (decide (a.den = 1)))) := by
 have h0 := a.den_pos
 have e : decide (cmpZ a.den 1 = 0) = decide (a.den = 1) := by
  rw [decide_eq_decide]; unfold cmpZ; split <;> (try split) <;> omega
 refine AC.of_go Tryz.func109 rfl rfl (Nat.le_of_ble_eq_true rfl) ?_
 simp +contextual (disch := first | (intro _; intros; contradiction) | omega | (simp only [lens]; omega)) only [go_sem, ↓reduceIte, reduceCtorEq, Nat.reduceEqDiff, Nat.reduceLT, Nat.reduceSub, Int.reduceLT, Nat.reduceAdd, Nat.reduceLeDiff, Int.reduceEq, Int.reduceNe, Int.reduceToNat, Tryz.f109, eqr]
 refine go_drawn mixed0 (by kernel_rfl) ?_
 simp +contextual (disch := first | (intro _; intros; contradiction) | omega | (simp only [lens]; omega)) only [go_sem, ↓reduceIte, reduceCtorEq, Nat.reduceEqDiff, Nat.reduceLT, Nat.reduceSub, Int.reduceLT, Nat.reduceAdd, Nat.reduceLeDiff, Int.reduceEq, Int.reduceNe, Int.reduceToNat, Tryz.f109, eqr]
 refine ⟨_, natOf_ac 1 (by omega) (by omega), _, cmpNat_ac a.den 1 (Nat.le_trans ha.2.len (by omega)) (Nat.le_trans lb1.len (by omega)), ?_⟩
 simp +contextual (disch := first | (intro _; intros; contradiction) | omega | (simp only [lens]; omega)) only [go_sem, ↓reduceIte, reduceCtorEq, Nat.reduceEqDiff, Nat.reduceLT, Nat.reduceSub, Int.reduceLT, Nat.reduceAdd, Nat.reduceLeDiff, Int.reduceEq, Int.reduceNe, Int.reduceToNat, Tryz.f109, e]
 kernel_rfl
end Go.Lw
end
section
set_option maxRecDepth 10000
namespace Go.Lw
open Go.Proofs
def AllD (s : ByteArray) : Prop := ∀ k, k < s.size → 48 ≤ (nthB s k).toNat ∧ (nthB s k).toNat ≤ 57
structure DigOk (s : ByteArray) : Prop where
 pos : 1 ≤ s.size
 len : s.size ≤ 300
 lead : 1 < s.size → (nthB s 0).toNat ≠ 48
 all : AllD s
def vt (s : ByteArray) : Nat → Nat
 | 0 => 0
 | k + 1 => 10 * vt s k + ((nthB s k).toNat - 48)
theorem digits_ac (s : ByteArray) (hs : s.size ≤ top) (b : Bool) (hb : b = true ↔ DigOk s) : AC P0 65 [.i (.str s)] (.i (.bool b)) := by
 have bf : ¬ DigOk s → b = false := fun h => by rw [← Bool.not_eq_true, hb]; exact h
 unfold top at hs
 refine AC.of_go Tryz.func65 rfl rfl (Nat.le_of_ble_eq_true rfl) ?_
 simp +contextual (disch := first | (intro _; intros; contradiction) | omega | (simp only [lens]; omega)) only [go_sem, ↓reduceIte, reduceCtorEq, Nat.reduceEqDiff, Nat.reduceLT, Nat.reduceSub, Int.reduceLT, Nat.reduceAdd, Nat.reduceLeDiff, Int.reduceEq, Int.reduceNe, Int.reduceToNat, Tryz.f65]
 refine ⟨fun h0 => ⟨fun h1 => ⟨fun h2 => ⟨fun h3 => ?_, fun h3 => ?_⟩, fun h2 => ?_⟩, fun h1 => ?_⟩, fun h0 => ?_⟩
 ·rw [bf fun h => h.lead (by omega) (by omega)]
 case' refine_2 => have hlead : 1 < s.size → (nthB s 0).toNat ≠ 48 := fun _ => by omega
 case' refine_3 => have hlead : 1 < s.size → (nthB s 0).toNat ≠ 48 := fun _ => by omega
 case refine_4 => rw [bf fun h => by have := h.len; omega]
 case refine_5 => rw [bf fun h => by have := h.pos; omega]
 all_goals (
  refine go_loopI (fun i : Int => ⟨38, [(0, .i (.str s)), (3, .i (.int .i64 i))], []⟩) (fun i => 0 ≤ i ∧ i ≤ s.size ∧ ∀ k, k < i.toNat → 48 ≤ (nthB s k).toNat ∧ (nthB s k).toNat ≤ 57) (fun i => s.size - i.toNat) 0 ?_ ⟨by omega, by omega, fun k hk => absurd hk (by simp)⟩ ?_
  ·exact tu
  ·rintro K i ⟨g1, g2, g3⟩ hK
   simp +contextual (disch := first | (intro _; intros; contradiction) | omega | (simp only [lens]; omega)) only [go_sem, ↓reduceIte, reduceCtorEq, Nat.reduceEqDiff, Nat.reduceLT, Nat.reduceSub, Int.reduceLT, Nat.reduceAdd, Nat.reduceLeDiff, Int.reduceEq, Int.reduceNe, Int.reduceToNat, Tryz.f65]
   refine ⟨fun h5 => ⟨fun h6 => ⟨fun h7 => ?_, fun h7 => ?_⟩, fun h6 => ?_⟩, fun h5 => ?_⟩
   ·rw [bf fun h => by have := h.all i.toNat (by omega); omega]
   ·refine hK _ (i + 1) ⟨by omega, by omega, fun k hk => ?_⟩ (by omega) tu
    by_cases e : k = i.toNat
    ·subst e; omega
    ·exact g3 k (by omega)
   ·rw [bf fun h => by have := h.all i.toNat (by omega); omega]
   ·rw [hb.2 ⟨by omega, by omega, hlead, fun k hk => g3 k (by omega)⟩])
theorem vt_lt (s : ByteArray) (h : AllD s) : ∀ k, k ≤ s.size → vt s k < 10 ^ k
 | 0, _ => by simp [vt]
 | k + 1, hk => by
  have := vt_lt s h k (by omega)
  have := h k (by omega)
  rw [vt, Nat.pow_succ]; omega
theorem vt_split (s : ByteArray) (j : Nat) : ∀ k, ∃ d, vt s (j + k) = vt s j * 10 ^ k + d
 | 0 => ⟨0, by simp⟩
 | k + 1 => by
  obtain ⟨d, hd⟩ := vt_split s j k
  refine ⟨10 * d + ((nthB s (j + k)).toNat - 48), ?_⟩
  rw [← Nat.add_assoc, vt, hd, Nat.pow_succ, Nat.mul_add, ← Nat.mul_assoc, Nat.mul_comm 10, Nat.mul_assoc, Nat.mul_comm 10]
  omega
def rdSt (s : ByteArray) (e : Int) : List Nat → St
 | [] => ⟨35, [(0, .i (.str s)), (3, .nils), (4, .i (.int .i64 e))], []⟩
 | x :: o => ⟨35, [(0, .i (.str s)), (3, .own 32 o.length 0 (o.length + 1)), (4, .i (.int .i64 e))], [(32, some (.arr 3 o.length ((x :: o).map di)))]⟩
def rdSt2 (s : ByteArray) (e i d : Int) : List Nat → St
 | [] => ⟨35, [(0, .i (.str s)), (3, .nils), (4, .i (.int .i64 e)), (5, .i (.int .i64 d)), (6, .i (.int .i64 i))], []⟩
 | x :: o => ⟨35, [(0, .i (.str s)), (3, .own 32 o.length 0 (o.length + 1)), (4, .i (.int .i64 e)), (5, .i (.int .i64 d)), (6, .i (.int .i64 i))], [(32, some (.arr 3 o.length ((x :: o).map di)))]⟩
theorem readNat_ac (s : ByteArray) (h0 : 1 ≤ s.size) (h1 : s.size ≤ 100000) (h : AllD s) : AC P0 66 [.i (.str s)] (.i (en (vt s s.size))) := by
 refine AC.of_go Tryz.func66 rfl rfl (Nat.le_of_ble_eq_true rfl) ?_
 simp +contextual (disch := first | (intro _; intros; contradiction) | omega | (simp only [lens]; omega)) only [go_sem, ↓reduceIte, reduceCtorEq, Nat.reduceEqDiff, Nat.reduceLT, Nat.reduceSub, Int.reduceLT, Nat.reduceAdd, Nat.reduceLeDiff, Int.reduceEq, Int.reduceNe, Int.reduceToNat, Tryz.f66]
 refine go_loopI (fun p : Int × List Nat => rdSt s p.1 p.2) (fun p => p.1 + 4 * p.2.length = s.size ∧ -4 < p.1 ∧ Dl 10000 p.2 ∧ vt s s.size = vt s p.1.toNat * 10000 ^ p.2.length + dv 10000 p.2) (fun p => p.1.toNat) ((s.size : Int), []) ?_ ⟨by simp, by simp only; omega, .nil _, by simp [dv]⟩ ?_
 ·simp only [rdSt]; exact tu
 ·rintro K ⟨e, o⟩ ⟨g1, g2, g3, g4⟩ hK
  simp only at g1 g2 g3 g4
  obtain ⟨lo, hlo⟩ : ∃ lo : Int, lo = max 0 (e - 4) := ⟨_, rfl⟩
  rcases hL : o with _ | ⟨x, o'⟩
  all_goals (
   simp only [rdSt]
   simp +contextual (disch := first | (intro _; intros; contradiction) | omega | (simp only [lens]; omega)) only [go_sem, ↓reduceIte, reduceCtorEq, Nat.reduceEqDiff, Nat.reduceLT, Nat.reduceSub, Int.reduceLT, Nat.reduceAdd, Nat.reduceLeDiff, Int.reduceEq, Int.reduceNe, Int.reduceToNat, Tryz.f66, ← hlo]
   have hll := congrArg List.length hL
   simp only [List.length_cons, List.length_nil] at hll
   refine ⟨fun he => ?_, fun he => ?_⟩
   ·refine go_loopI (fun p : Int × Int => rdSt2 s e p.1 p.2 o) (fun p => lo ≤ p.1 ∧ p.1 ≤ e ∧ 0 ≤ p.2 ∧ p.2 < ((10 ^ (p.1 - lo).toNat : Nat) : Int) ∧ vt s p.1.toNat = vt s lo.toNat * 10 ^ (p.1 - lo).toNat + p.2.toNat) (fun p => (e - p.1).toNat) (lo, 0) ?_ ⟨by simp, by simp only; omega, by simp, by simp, by simp⟩ ?_
    ·simp only [hL, rdSt2]; exact tu
    ·rintro K2 ⟨i, d⟩ ⟨f1, f2, f3, f4, f5⟩ hK2
     simp only at f1 f2 f3 f4 f5
     have hx : i < e → 48 ≤ (nthB s i.toNat).toNat ∧ (nthB s i.toNat).toNat ≤ 57 := fun hi => h i.toNat (by omega)
     have hd4 : d < 10000 := by
      have l2 : 10 ^ (i - lo).toNat ≤ 10 ^ 4 := Nat.pow_le_pow_right (by omega) (by omega)
      omega
     simp only [hL, rdSt2]
     simp +contextual (disch := first | (intro _; intros; contradiction) | omega | (simp only [lens]; omega)) only [go_sem, ↓reduceIte, reduceCtorEq, Nat.reduceEqDiff, Nat.reduceLT, Nat.reduceSub, Int.reduceLT, Nat.reduceAdd, Nat.reduceLeDiff, Int.reduceEq, Int.reduceNe, Int.reduceToNat, Tryz.f66]
     refine ⟨fun hi => ?_, fun hi => ?_⟩
     ·have hx2 := hx hi
      refine hK2 _ (i + 1, 10 * d + ((nthB s i.toNat).toNat - 48)) ⟨by simp only; omega, by simp only; omega, by simp only; omega, ?_, ?_⟩ (by simp only; omega) ?_
      ·simp only
       rw [show (i + 1 - lo).toNat = (i - lo).toNat + 1 by omega, Nat.pow_succ]
       generalize 10 ^ (i - lo).toNat = p at *
       omega
      ·simp only
       rw [show (i + 1 - lo).toNat = (i - lo).toNat + 1 by omega, show (i + 1).toNat = i.toNat + 1 by omega, vt, f5, Nat.pow_succ, Nat.mul_add, ← Nat.mul_assoc, Nat.mul_comm 10, Nat.mul_assoc, Nat.mul_comm 10]
       omega
      ·simp only [hL, rdSt2]; exact tu
     ·have hie : i = e := by omega
      subst hie
      have hlen : (o ++ [d.toNat]).length = o.length + 1 := by simp
      refine hK _ (i - 4, o ++ [d.toNat]) ⟨by simp only [hlen]; omega, by simp only; omega, fun y hy => ?_, ?_⟩ (by simp only; omega) ?_
      ·rcases List.mem_append.1 hy with hy | hy
       ·exact g3 y hy
       ·simp at hy; omega
      ·simp only [hlen]
       rw [g4, dv_append, f5]
       rcases Int.lt_or_le i 4 with h4 | h4
       ·rw [show lo.toNat = 0 by omega, show (i - 4).toNat = 0 by omega]
        simp [vt, dv, Nat.mul_comm]; omega
       ·rw [show (i - lo).toNat = 4 by omega, show lo.toNat = (i - 4).toNat by omega, show (10 : Nat) ^ 4 = 10000 from rfl, Nat.pow_succ 10000 o.length, Nat.add_mul]
        simp only [dv, Nat.mul_zero, Nat.add_zero]
        rw [Nat.mul_assoc, Nat.mul_comm 10000, Nat.mul_comm d.toNat]
        omega
      ·have ed : I.int .i64 d = di d.toNat := by unfold di; congr 1; omega
       simp only [hL, rdSt, List.nil_append, List.cons_append, List.length_append, List.length_nil, List.length_cons, List.map_cons, List.map_nil, ed]
       exact tu
   ·first
     | (exfalso; omega)
     | (refine .frz [32] ?_
        simp only [go_sem, ↓reduceIte, reduceCtorEq, Nat.reduceEqDiff, Nat.reduceLT, Nat.reduceSub, Int.reduceLT, Nat.reduceAdd, Nat.reduceLeDiff, Int.reduceEq, Int.reduceNe, Int.reduceToNat, Tryz.f66, St.frz, frzP, frzD, frzO, frzC, frzOr, frozen, left, D.ok, D.ok1, D.ok0, List.contains_cons, List.contains_nil, Nat.reduceBEq, Option.isSome_none, Bool.not_true, Bool.not_false, Bool.and_false, Bool.and_true]
        rw [← List.map_cons, ← hL]
        refine .ac (trim_ac o (by omega)) (by simp) ?_
        simp +contextual (disch := first | (intro _; intros; contradiction) | omega | (simp only [lens]; omega)) only [go_sem, ↓reduceIte, reduceCtorEq, Nat.reduceEqDiff, Nat.reduceLT, Nat.reduceSub, Int.reduceLT, Nat.reduceAdd, Nat.reduceLeDiff, Int.reduceEq, Int.reduceNe, Int.reduceToNat, Tryz.f66, dl_trim g3]
        rw [g4, show e.toNat = 0 by omega]
        simp [vt]))
end Go.Lw
end
section
set_option maxRecDepth 10000
set_option exponentiation.threshold 400
namespace Go.Lw
open Go.Proofs
def slash (s : ByteArray) (k : Nat) : Prop := (∀ j, j < k → (nthB s j).toNat ≠ 47) ∧ (k < s.size → (nthB s k).toNat = 47) ∧ k ≤ s.size
inductive RdU (t : ByteArray) (n d : Nat) : Prop
 | whole (k : Nat) (hk : slash t k) (he : k = t.size) (ht : DigOk (t.extract 0 k)) (hn : n = vt (t.extract 0 k) (t.extract 0 k).size) (hd : d = 1)
 | quot (k : Nat) (hk : slash t k) (he : k < t.size) (ht : DigOk (t.extract 0 k)) (hb : DigOk (t.extract (k + 1) t.size)) (hn : n = vt (t.extract 0 k) (t.extract 0 k).size)
   (hd : d = vt (t.extract (k + 1) t.size) (t.extract (k + 1) t.size).size) (h1 : 1 < d) (hg : Nat.gcd n d = 1)
inductive Rd (s : ByteArray) (q : Rat) : Prop
 | pos (n d : Nat) (h0 : ¬ (0 < s.size ∧ (nthB s 0).toNat = 45)) (h : RdU s n d) (hq : q = mkRat n d)
 | neg (n d : Nat) (h0 : 0 < s.size) (h1 : (nthB s 0).toNat = 45) (h : RdU (s.extract 1 s.size) n d) (hn : n ≠ 0) (hq : q = mkRat (-(n : Int)) d)
theorem slash_uniq {s : ByteArray} {j k : Nat} (hj : slash s j) (hk : slash s k) : j = k := by
 obtain ⟨a1, a2, a3⟩ := hj
 obtain ⟨b1, b2, b3⟩ := hk
 rcases Nat.lt_trichotomy j k with h | h | h
 ·exact absurd (a2 (by omega)) (b1 j h)
 ·exact h
 ·exact absurd (b2 (by omega)) (a1 k h)
theorem RdU.uniq {t : ByteArray} {n d n' d' : Nat} (h : RdU t n d) (h' : RdU t n' d') : n = n' ∧ d = d' := by
 cases h with
 | whole k hk he ht hn hd =>
  cases h' with
  | whole k' hk' he' ht' hn' hd' =>
   have := slash_uniq hk hk'; subst this; exact ⟨by rw [hn, hn'], by rw [hd, hd']⟩
  | quot k' hk' he' ht' hb' hn' hd' h1 hg => have := slash_uniq hk hk'; omega
 | quot k hk he ht hb hn hd h1 hg =>
  cases h' with
  | whole k' hk' he' ht' hn' hd' => have := slash_uniq hk hk'; omega
  | quot k' hk' he' ht' hb' hn' hd' h1 hg => have := slash_uniq hk hk'; subst this; exact ⟨by rw [hn, hn'], by rw [hd, hd']⟩
theorem ex_bool (p : Prop) : ∃ b : Bool, b = true ↔ p := by
 by_cases h : p
 ·exact ⟨true, by simp [h]⟩
 ·exact ⟨false, by simp [h]⟩
def readR : Option Rat → D
 | some q => .tup [.i (eqr q), .i (.bool true)]
 | none => .tup [.i (.agg [.bool false, .sl 0 [], .sl 0 []]), .i (.bool false)]
theorem vt_lb (s : ByteArray) (h : DigOk s) : Lb 75 (vt s s.size) := by
 have h1 := vt_lt s h.all s.size (Nat.le_refl _)
 have h2 : 10 ^ s.size ≤ 10 ^ 300 := Nat.pow_le_pow_right (by omega) h.len
 unfold Lb
 rw [show (10000 : Nat) ^ 75 = 10 ^ 300 by rw [show (10000 : Nat) = 10 ^ 4 from rfl, ← Nat.pow_mul]]
 omega
theorem eqr_fin {m : Bool} {n d : Nat} (hd : 0 < d) (hg : Nat.gcd n d = 1) (h : ¬ (m = true ∧ n = 0)) : eqr (mkRat (sv m n) d) = .agg [.bool m, en n, en d] := by
 obtain ⟨m1, m2⟩ := mkRat_num (m := m) (n := n) hd
 unfold eqr
 rw [m1, m2, hg, Nat.div_one, Nat.div_one, sv_neg, sv_abs]
 cases m
 ·simp
 ·have : n ≠ 0 := fun e => h ⟨rfl, e⟩
  simp [this]
theorem readR_fin {m : Bool} {n d : Nat} (hd : 0 < d) (hg : Nat.gcd n d = 1) (h : ¬ (m = true ∧ n = 0)) : readR (some (mkRat (sv m n) d)) = .tup [.i (.agg [.bool m, en n, en d]), .i (.bool true)] := by
 show D.tup [.i (eqr _), _] = _; rw [eqr_fin hd hg h]
theorem RdU.ok {t : ByteArray} {n d : Nat} (h : RdU t n d) : 0 < d ∧ Nat.gcd n d = 1 := by
 cases h with
 | whole k hk he ht hn hd => subst hd; exact ⟨by omega, Nat.gcd_one_right n⟩
 | quot k hk he ht hb hn hd h1 hg => exact ⟨by omega, hg⟩
theorem read_ac (s : ByteArray) (hs : s.size ≤ top) (r : Option Rat) (hr : ∀ q, r = some q ↔ Rd s q) : AC P0 29 [.i (.str s)] (readR r) := by
 unfold top at hs
 have main : ∀ (m : Bool) (t : ByteArray), (m = true ↔ (0 < s.size ∧ (nthB s 0).toNat = 45)) → (t = if m then s.extract 1 s.size else s) →
   (∀ n d, RdU t n d → ¬ (m = true ∧ n = 0) → r = some (mkRat (sv m n) d)) ∧ ((∀ n d, ¬ RdU t n d) → r = none) ∧ (∀ n d, RdU t n d → m = true → n = 0 → r = none) := fun m t hm ht => by
  refine ⟨fun n d h hn => (hr _).2 ?_, fun h => ?_, fun n d h hm1 hn => ?_⟩
  ·cases m with
   | true => exact .neg n d (hm.1 rfl).1 (hm.1 rfl).2 (by rw [ht] at h; exact h) (fun e => hn ⟨rfl, e⟩) rfl
   | false => exact .pos n d (fun hc => by have := hm.2 hc; simp at this) (by rw [ht] at h; exact h) rfl
  ·cases hq : r with
   | none => rfl
   | some q =>
    exfalso
    cases (hr q).1 hq with
    | pos n d h0 h1 hq => cases m with
     | true => exact h0 (hm.1 rfl)
     | false => exact h n d (by rw [ht]; exact h1)
    | neg n d h0 h1 h2 hn hq => exact h n d (by rw [ht, if_pos (hm.2 ⟨h0, h1⟩)]; exact h2)
  ·cases hq : r with
   | none => rfl
   | some q =>
    exfalso
    cases (hr q).1 hq with
    | pos n d h0 h1 hq => exact h0 (hm.1 hm1)
    | neg n' d' h0 h1 h2 hn' hq =>
     rw [ht, if_pos hm1] at h
     exact hn' ((h.uniq h2).1 ▸ hn)
 refine AC.of_go Tryz.func29 rfl rfl (Nat.le_of_ble_eq_true rfl) ?_
 simp +contextual (disch := first | (intro _; intros; contradiction) | omega | (simp only [lens]; omega)) only [go_sem, ↓reduceIte, reduceCtorEq, Nat.reduceEqDiff, Nat.reduceLT, Nat.reduceSub, Int.reduceLT, Nat.reduceAdd, Nat.reduceLeDiff, Int.reduceEq, Int.reduceNe, Int.reduceToNat, Tryz.f29]
 refine ⟨fun h0 => ⟨fun h1 => ?_, fun h1 => ?_⟩, fun h0 => ?_⟩
 case' refine_1 => obtain ⟨m, hm⟩ : ∃ m, m = true := ⟨_, rfl⟩; obtain ⟨t, ht⟩ : ∃ t, t = s.extract 1 s.size := ⟨_, rfl⟩; rw [← ht]; have hmm : m = true ↔ (0 < s.size ∧ (nthB s 0).toNat = 45) := ⟨fun _ => ⟨by omega, by omega⟩, fun _ => hm⟩; have htt : t = if m then s.extract 1 s.size else s := (by rw [ht, hm, if_pos rfl])
 case' refine_2 => obtain ⟨m, hm⟩ : ∃ m, m = false := ⟨_, rfl⟩; obtain ⟨t, ht⟩ : ∃ t, t = s := ⟨_, rfl⟩; rw [← ht]; have hmm : m = true ↔ (0 < s.size ∧ (nthB s 0).toNat = 45) := ⟨fun e => (by rw [hm] at e; cases e), fun hc => (by exfalso; omega)⟩; have htt : t = if m then s.extract 1 s.size else s := (by rw [ht, hm, if_neg (by simp)])
 case' refine_3 => obtain ⟨m, hm⟩ : ∃ m, m = false := ⟨_, rfl⟩; obtain ⟨t, ht⟩ : ∃ t, t = s := ⟨_, rfl⟩; rw [← ht]; have hmm : m = true ↔ (0 < s.size ∧ (nthB s 0).toNat = 45) := ⟨fun e => (by rw [hm] at e; cases e), fun hc => (by exfalso; omega)⟩; have htt : t = if m then s.extract 1 s.size else s := (by rw [ht, hm, if_neg (by simp)])
 all_goals (
  have hts : t.size ≤ 140737488355328 := by rw [htt]; split <;> (try simp only [ByteArray.size_extract]) <;> omega
  obtain ⟨hS, hN, hZ⟩ := main m t hmm htt
  clear main hmm htt hr hs
  refine go_loopI (fun k : Int => ⟨82, [(0, .i (.str t)), (2, .loc 2 0), (4, .i (.bool m)), (5, .i (.int .i64 k))], [(2, some (.var 33 [.kb false, .nils, .nils]))]⟩) (fun k => 0 ≤ k ∧ k ≤ t.size ∧ ∀ j, j < k.toNat → (nthB t j).toNat ≠ 47) (fun k => t.size - k.toNat) 0 ?_ ⟨by omega, by omega, fun j hj => absurd hj (by simp)⟩ ?_
  ·rw [hm]; exact tu
  ·rintro K k ⟨g1, g2, g3⟩ hK
   simp +contextual (disch := first | (intro _; intros; contradiction) | omega | (simp only [lens]; omega)) only [go_sem, ↓reduceIte, reduceCtorEq, Nat.reduceEqDiff, Nat.reduceLT, Nat.reduceSub, Int.reduceLT, Nat.reduceAdd, Nat.reduceLeDiff, Int.reduceEq, Int.reduceNe, Int.reduceToNat, Tryz.f29]
   have ek : (k + 1).toNat = k.toNat + 1 := by omega
   obtain ⟨x, hx⟩ : ∃ x, x = t.extract 0 k.toNat := ⟨_, rfl⟩
   have hxs : x.size = k.toNat := by rw [hx, ByteArray.size_extract]; omega
   obtain ⟨b, hb⟩ := ex_bool (DigOk x)
   have hdx := digits_ac x (by unfold top; omega) b hb
   rw [← hx]
   refine ⟨fun hk => ⟨fun h47 => ?_, fun h47 => ?_⟩, fun hk => ?_⟩
   ·refine hK _ (k + 1) ⟨by omega, by omega, fun j hj => ?_⟩ (by omega) tu
    by_cases e : j = k.toNat
    ·subst e; omega
    ·exact g3 j (by omega)
   ·clear hK K
    have hsl : slash t k.toNat := ⟨g3, fun _ => by omega, by omega⟩
    refine .ac hdx (by simp) ?_
    simp +contextual (disch := first | (intro _; intros; contradiction) | omega | (simp only [lens]; omega)) only [go_sem, ↓reduceIte, reduceCtorEq, Nat.reduceEqDiff, Nat.reduceLT, Nat.reduceSub, Int.reduceLT, Nat.reduceAdd, Nat.reduceLeDiff, Int.reduceEq, Int.reduceNe, Int.reduceToNat, Tryz.f29, unI]
    refine ⟨fun hbf => ?_, fun hbt => ?_⟩
    ·have hno : ¬ DigOk x := fun h => by rw [← hb, hbf] at h; cases h
     rw [hN fun n d h => by
      cases h with
      | whole k' hk' he ht hn hd => have := slash_uniq hsl hk'; subst this; exact hno (hx ▸ ht)
      | quot k' hk' he ht hb2 hn hd h1 hg => have := slash_uniq hsl hk'; subst this; exact hno (hx ▸ ht)]
     rfl
    ·have hd := hb.1 hbt
     have hrd := readNat_ac x hd.pos (Nat.le_trans hd.len (by omega)) hd.all
     have lx := vt_lb x hd
     obtain ⟨n, hn⟩ : ∃ n, n = vt x x.size := ⟨_, rfl⟩
     rw [← hn] at hrd lx
     rw [← hx]
     refine .ac hrd (by simp) ?_
     simp +contextual (disch := first | (intro _; intros; contradiction) | omega | (simp only [lens]; omega)) only [go_sem, ↓reduceIte, reduceCtorEq, Nat.reduceEqDiff, Nat.reduceLT, Nat.reduceSub, Int.reduceLT, Nat.reduceAdd, Nat.reduceLeDiff, Int.reduceEq, Int.reduceNe, Int.reduceToNat, Tryz.f29, unI]
     refine .ac (natOf_ac 1 (by omega) (by omega)) (by simp) ?_
     obtain ⟨y, hy⟩ : ∃ y, y = t.extract (k.toNat + 1) t.size := ⟨_, rfl⟩
     have hys : y.size = t.size - (k.toNat + 1) := by rw [hy, ByteArray.size_extract]; omega
     simp +contextual (disch := first | (intro _; intros; contradiction) | omega | (simp only [lens]; omega)) only [go_sem, ↓reduceIte, reduceCtorEq, Nat.reduceEqDiff, Nat.reduceLT, Nat.reduceSub, Int.reduceLT, Nat.reduceAdd, Nat.reduceLeDiff, Int.reduceEq, Int.reduceNe, Int.reduceToNat, Tryz.f29, unI, ek, ← hy]
     obtain ⟨b2, hb2⟩ := ex_bool (DigOk y)
     refine .ac (digits_ac y (by unfold top; omega) b2 hb2) (by simp) ?_
     simp +contextual (disch := first | (intro _; intros; contradiction) | omega | (simp only [lens]; omega)) only [go_sem, ↓reduceIte, reduceCtorEq, Nat.reduceEqDiff, Nat.reduceLT, Nat.reduceSub, Int.reduceLT, Nat.reduceAdd, Nat.reduceLeDiff, Int.reduceEq, Int.reduceNe, Int.reduceToNat, Tryz.f29, unI, ek, ← hy]
     refine ⟨fun hbf => ?_, fun hbt2 => ?_⟩
     ·have hno : ¬ DigOk y := fun h => by rw [← hb2, hbf] at h; cases h
      rw [hN fun n d h => by
       cases h with
       | whole k' hk' he ht hn hd => have := slash_uniq hsl hk'; omega
       | quot k' hk' he ht hb2 hn hd h1 hg => have := slash_uniq hsl hk'; subst this; exact hno (hy ▸ hb2)]
      rfl
     ·have hd2 := hb2.1 hbt2
      have hrd2 := readNat_ac y hd2.pos (Nat.le_trans hd2.len (by omega)) hd2.all
      have ly := vt_lb y hd2
      obtain ⟨d, hdd⟩ : ∃ d, d = vt y y.size := ⟨_, rfl⟩
      rw [← hdd] at hrd2 ly
      refine .ac hrd2 (by simp) ?_
      simp +contextual (disch := first | (intro _; intros; contradiction) | omega | (simp only [lens]; omega)) only [go_sem, ↓reduceIte, reduceCtorEq, Nat.reduceEqDiff, Nat.reduceLT, Nat.reduceSub, Int.reduceLT, Nat.reduceAdd, Nat.reduceLeDiff, Int.reduceEq, Int.reduceNe, Int.reduceToNat, Tryz.f29, unI]
      refine .ac (natOf_ac 1 (by omega) (by omega)) (by simp) ?_
      simp +contextual (disch := first | (intro _; intros; contradiction) | omega | (simp only [lens]; omega)) only [go_sem, ↓reduceIte, reduceCtorEq, Nat.reduceEqDiff, Nat.reduceLT, Nat.reduceSub, Int.reduceLT, Nat.reduceAdd, Nat.reduceLeDiff, Int.reduceEq, Int.reduceNe, Int.reduceToNat, Tryz.f29, unI]
      refine .ac (cmpNat_ac d 1 (Nat.le_trans ly.len (by omega)) (Nat.le_trans lb1.len (by omega))) (by simp) ?_
      have mk : ∀ n' d', RdU t n' d' → n' = n ∧ d' = d ∧ 1 < d ∧ Nat.gcd n d = 1 := fun n' d' h => by
       cases h with
       | whole k' hk' he ht hn hd => have := slash_uniq hsl hk'; omega
       | quot k' hk' he ht hb2 hn2 hd2 h1 hg => have := slash_uniq hsl hk'; subst this; rw [← hx] at hn2; rw [← hy] at hd2; rw [hn2, hd2] at hg; rw [hd2] at h1; exact ⟨by rw [hn2, hn], by rw [hd2, hdd], by omega, by rw [hn, hdd]; exact hg⟩
      simp +contextual (disch := first | (intro _; intros; contradiction) | omega | (simp only [lens]; omega)) only [go_sem, ↓reduceIte, reduceCtorEq, Nat.reduceEqDiff, Nat.reduceLT, Nat.reduceSub, Int.reduceLT, Nat.reduceAdd, Nat.reduceLeDiff, Int.reduceEq, Int.reduceNe, Int.reduceToNat, Tryz.f29, unI]
      refine ⟨fun hc => ?_, fun hc => ?_⟩
      ·have hd1 : 1 < d := by
        unfold cmpZ at hc
        rcases Nat.lt_or_ge 1 d with h | h
        ·exact h
        ·rw [if_neg (by omega)] at hc; split at hc <;> omega
       have lg : Lb 75 (Nat.gcd n d) := ly.le (Nat.gcd_le_right _ (by omega))
       refine .ac (gcdNat_ac n d (lx.mono (by omega)) (ly.mono (by omega))) (by simp) ?_
       simp +contextual (disch := first | (intro _; intros; contradiction) | omega | (simp only [lens]; omega)) only [go_sem, ↓reduceIte, reduceCtorEq, Nat.reduceEqDiff, Nat.reduceLT, Nat.reduceSub, Int.reduceLT, Nat.reduceAdd, Nat.reduceLeDiff, Int.reduceEq, Int.reduceNe, Int.reduceToNat, Tryz.f29, unI]
       refine .ac (natOf_ac 1 (by omega) (by omega)) (by simp) ?_
       simp +contextual (disch := first | (intro _; intros; contradiction) | omega | (simp only [lens]; omega)) only [go_sem, ↓reduceIte, reduceCtorEq, Nat.reduceEqDiff, Nat.reduceLT, Nat.reduceSub, Int.reduceLT, Nat.reduceAdd, Nat.reduceLeDiff, Int.reduceEq, Int.reduceNe, Int.reduceToNat, Tryz.f29, unI]
       refine .ac (cmpNat_ac (Nat.gcd n d) 1 (Nat.le_trans lg.len (by omega)) (Nat.le_trans lb1.len (by omega))) (by simp) ?_
       have hl := len_pos (n := n)
       have hg0 : 0 < Nat.gcd n d := Nat.gcd_pos_of_pos_right _ (by omega)
       have hcg : cmpZ (Nat.gcd n d) 1 = 0 ↔ Nat.gcd n d = 1 := by unfold cmpZ; split <;> (try split) <;> omega
       simp +contextual (disch := first | (intro _; intros; contradiction) | omega | (simp only [lens]; omega)) only [go_sem, ↓reduceIte, reduceCtorEq, Nat.reduceEqDiff, Nat.reduceLT, Nat.reduceSub, Int.reduceLT, Nat.reduceAdd, Nat.reduceLeDiff, Int.reduceEq, Int.reduceNe, Int.reduceToNat, Tryz.f29, unI, en, dl]
       refine ⟨fun hz => ?_, fun hz => ?_⟩
       ·rw [hN fun n' d' h => hz (hcg.2 (mk n' d' h).2.2.2)]; rfl
       ·have hgg := hcg.1 hz
        have hu : RdU t n d := .quot k.toNat hsl (by omega) (hx ▸ hd) (hy ▸ hd2) (by rw [hn, hx]) (by rw [hdd, hy]) hd1 hgg
        refine ⟨fun hm1 => ⟨fun hz => ?_, fun hz => ?_⟩, fun hm1 => ?_⟩
        ·rw [hZ n d hu hm1 (by omega)]; rfl
        ·have hq : ¬ (m = true ∧ n = 0) := fun h => by omega
         rw [hS n d hu hq, readR_fin (by omega) hgg hq, hm1]; rfl
        ·have hq : ¬ (m = true ∧ n = 0) := fun h => by rw [hm1] at h; simp at h
         rw [hS n d hu hq, readR_fin (by omega) hgg hq, hm1]; rfl
      ·rw [hN fun n' d' h => by
        obtain ⟨_, _, h3, _⟩ := mk n' d' h
        unfold cmpZ at hc; rw [if_neg (by omega), if_pos h3] at hc; omega]
       rfl
   ·clear hK K
    have hsl : slash t k.toNat := ⟨g3, fun _ => by omega, by omega⟩
    refine .ac hdx (by simp) ?_
    simp +contextual (disch := first | (intro _; intros; contradiction) | omega | (simp only [lens]; omega)) only [go_sem, ↓reduceIte, reduceCtorEq, Nat.reduceEqDiff, Nat.reduceLT, Nat.reduceSub, Int.reduceLT, Nat.reduceAdd, Nat.reduceLeDiff, Int.reduceEq, Int.reduceNe, Int.reduceToNat, Tryz.f29, unI]
    refine ⟨fun hbf => ?_, fun hbt => ?_⟩
    ·have hno : ¬ DigOk x := fun h => by rw [← hb, hbf] at h; cases h
     rw [hN fun n d h => by
      cases h with
      | whole k' hk' he ht hn hd => have := slash_uniq hsl hk'; subst this; exact hno (hx ▸ ht)
      | quot k' hk' he ht hb2 hn hd h1 hg => have := slash_uniq hsl hk'; subst this; exact hno (hx ▸ ht)]
     rfl
    ·have hd := hb.1 hbt
     have hrd := readNat_ac x hd.pos (Nat.le_trans hd.len (by omega)) hd.all
     have hu : RdU t (vt x x.size) 1 := by rw [hx]; exact .whole k.toNat hsl (by omega) (hx ▸ hd) rfl rfl
     have lx := vt_lb x hd
     obtain ⟨n, hn⟩ : ∃ n, n = vt x x.size := ⟨_, rfl⟩
     rw [← hn] at hrd hu lx
     rw [← hx]
     refine .ac hrd (by simp) ?_
     simp +contextual (disch := first | (intro _; intros; contradiction) | omega | (simp only [lens]; omega)) only [go_sem, ↓reduceIte, reduceCtorEq, Nat.reduceEqDiff, Nat.reduceLT, Nat.reduceSub, Int.reduceLT, Nat.reduceAdd, Nat.reduceLeDiff, Int.reduceEq, Int.reduceNe, Int.reduceToNat, Tryz.f29, unI]
     refine .ac (natOf_ac 1 (by omega) (by omega)) (by simp) ?_
     have eN : en n = .sl 3 ((dg 10000 n).map di) := rfl
     have hl := len_pos (n := n)
     simp +contextual (disch := first | (intro _; intros; contradiction) | omega | (simp only [lens]; omega)) only [go_sem, ↓reduceIte, reduceCtorEq, Nat.reduceEqDiff, Nat.reduceLT, Nat.reduceSub, Int.reduceLT, Nat.reduceAdd, Nat.reduceLeDiff, Int.reduceEq, Int.reduceNe, Int.reduceToNat, Tryz.f29, unI, en, dl]
     obtain ⟨hd0, hgg⟩ := hu.ok
     refine ⟨fun hm1 => ⟨fun hz => ?_, fun hz => ?_⟩, fun hm1 => ?_⟩
     ·rw [hZ n 1 hu hm1 (by omega)]; rfl
     ·have hq : ¬ (m = true ∧ n = 0) := fun h => by omega
      rw [hS n 1 hu hq, readR_fin hd0 hgg hq, hm1]; rfl
     ·have hq : ¬ (m = true ∧ n = 0) := fun h => by rw [hm1] at h; simp at h
      rw [hS n 1 hu hq, readR_fin hd0 hgg hq, hm1]; rfl)
end Go.Lw
end
section
set_option maxRecDepth 10000
namespace Go.Lw
open Go.Proofs
theorem ty_convS_178_9 : convS P0 178 9 = true := by kernel_rfl
def d8 (n : Nat) : I := .int .u8 (n : Int)
theorem nth_d8 (l : List Nat) (k : Nat) (h : k < l.length) : nth (l.map d8) k = .int .u8 (l.getD k 0 : Nat) := nth_mapD d8 l k 0 h
theorem get_d8 (l : List Nat) (k : Nat) (h : k < l.length) : (l.map d8)[k]? = some (.int .u8 (l.getD k 0 : Nat)) := by
 rw [List.getElem?_map, List.getD_eq_getElem?_getD, List.getElem?_eq_getElem h]; rfl
theorem set_d8 (l : List Nat) (k : Nat) (z : Int) (h : 0 ≤ z) : (l.map d8).set k (.int .u8 z) = (l.set k z.toNat).map d8 := by
 rw [List.map_set]; congr 1; unfold d8; congr 1; omega
theorem rep_d8 (n : Nat) : List.replicate n (I.int .u8 0) = (List.replicate n 0).map d8 := by rw [List.map_replicate]; rfl
theorem all_d8 (l : List Nat) : (l.map d8).all isU8 = true := by simp [d8, isU8]
theorem take_d8 (l : List Nat) (n : Nat) : (l.map d8).take n = (l.take n).map d8 := List.map_take.symm
theorem drop_d8 (l : List Nat) (n : Nat) : (l.map d8).drop n = (l.drop n).map d8 := List.map_drop.symm
attribute [go_sem] ty_convS_178_9 nth_d8 get_d8 set_d8 rep_d8 all_d8 take_d8 drop_d8
def ndig (n : Nat) : Nat := if n = 0 then 1 else (dg 10 n).length
theorem ndig_pos (n : Nat) : 0 < ndig n := by
 unfold ndig; split
 ·omega
 ·rename_i h; rw [Nat.pos_iff_ne_zero, Ne, List.length_eq_zero_iff, dg_nil_iff (by omega)]; exact h
theorem pow4 (k : Nat) : (10000 : Nat) ^ k = 10 ^ (4 * k) := by rw [show (10000 : Nat) = 10 ^ 4 from rfl, ← Nat.pow_mul]
theorem dg_len_top {n k j : Nat} (h1 : n / 10000 ^ k ≠ 0) (hj : (dg 10 (n / 10000 ^ k)).length = j) : (dg 10 n).length = 4 * k + j := by
 have l1 := dg_pow_le (b := 10) (by omega) h1
 have l2 := dg_lt_pow (b := 10) (by omega) (n / 10000 ^ k)
 rw [hj] at l1 l2
 have hj0 : 0 < j := by
  rw [← hj, Nat.pos_iff_ne_zero, Ne, List.length_eq_zero_iff, dg_nil_iff (by omega)]; exact h1
 obtain ⟨i, rfl⟩ : ∃ i, j = i + 1 := ⟨j - 1, by omega⟩
 rw [show 4 * k + (i + 1) = (4 * k + i) + 1 by omega]
 have hp : 0 < 10000 ^ k := Nat.pow_pos (by omega)
 refine dg_len_eq (by omega) ?_ ?_
 ·have := Nat.mul_le_mul_left (10000 ^ k) l1
  have h3 := Nat.mul_div_le n (10000 ^ k)
  rw [Nat.pow_add, ← pow4]
  exact Nat.le_trans this h3
 ·rw [Nat.div_lt_iff_lt_mul hp] at l2
  rw [Nat.add_assoc, Nat.pow_add, ← pow4, Nat.mul_comm]
  exact l2
theorem dg_last {n : Nat} (h : n ≠ 0) : (dg 10000 n).getD ((dg 10000 n).length - 1) 0 = n / 10000 ^ ((dg 10000 n).length - 1) ∧ n / 10000 ^ ((dg 10000 n).length - 1) ≠ 0 := by
 have hl : 0 < (dg 10000 n).length := len_pos.2 h
 have h1 := dg_pow_le (b := 10000) (by omega) h
 have h2 := dg_lt_pow (b := 10000) (by omega) n
 have hp : 0 < 10000 ^ ((dg 10000 n).length - 1) := Nat.pow_pos (by omega)
 have h3 : n / 10000 ^ ((dg 10000 n).length - 1) < 10000 := by
  rw [Nat.div_lt_iff_lt_mul hp, Nat.mul_comm, ← Nat.pow_succ, Nat.succ_eq_add_one, show (dg 10000 n).length - 1 + 1 = (dg 10000 n).length by omega]
  exact h2
 refine ⟨?_, ?_⟩
 ·rw [getD_eq_of_dg (by omega), Nat.mod_eq_of_lt h3]
 ·have := Nat.div_pos h1 hp; omega
theorem sizeNat_ac (n : Nat) (hn : Lb 1000000000 n) : AC P0 107 [.i (en n)] (.i (.int .i64 (ndig n))) := by
 have hl := len_pos (n := n)
 have hll := hn.len
 have eN : en n = .sl 3 ((dg 10000 n).map di) := rfl
 rw [eN]
 refine AC.of_go Tryz.func107 rfl rfl (Nat.le_of_ble_eq_true rfl) ?_
 simp +contextual (disch := first | (intro _; intros; contradiction) | omega | (simp only [lens]; omega)) only [go_sem, ↓reduceIte, reduceCtorEq, Nat.reduceEqDiff, Nat.reduceLT, Nat.reduceSub, Int.reduceLT, Nat.reduceAdd, Nat.reduceLeDiff, Int.reduceEq, Int.reduceNe, Int.reduceToNat, Tryz.f107]
 refine ⟨fun h => ?_, fun h => ?_⟩
 ·rw [show ndig n = 1 by unfold ndig; rw [if_pos (by omega)]]; rfl
 ·obtain ⟨h1, h2⟩ := dg_last (n := n) (by omega)
  have e := dg_len_top h2 rfl
  have hnd : ndig n = (dg 10 n).length := by unfold ndig; rw [if_neg (by omega)]
  refine go_loopI (fun p : Int × Nat => ⟨25, [(3, .i (.int .i64 p.1)), (4, .i (.int .i64 p.2))], []⟩) (fun p => 0 ≤ p.1 ∧ p.1 + (dg 10 p.2).length = ndig n ∧ p.2 < 10000 ∧ p.1 ≤ 5000000000) (fun p => p.2) (4 * (((dg 10000 n).length : Int) - 1), (dg 10000 n).getD ((dg 10000 n).length - 1) 0) ?_ ⟨by simp only; omega, ?_, ?_, by simp only; omega⟩ ?_
  ·exact tu
  ·simp only; rw [h1, hnd, e]; omega
  ·exact dl_getD_lt (dg_dl (by omega) n) _
  ·rintro K ⟨c, d⟩ ⟨g1, g2, g3, g4⟩ hK
   simp only at g1 g2 g3 g4
   have hd : d ≠ 0 → (dg 10 d).length = (dg 10 (d / 10)).length + 1 := fun h => by rw [dg_pos (by omega) h]; rfl
   simp +contextual (disch := first | (intro _; intros; contradiction) | omega | (simp only [lens]; omega)) only [go_sem, ↓reduceIte, reduceCtorEq, Nat.reduceEqDiff, Nat.reduceLT, Nat.reduceSub, Int.reduceLT, Nat.reduceAdd, Nat.reduceLeDiff, Int.reduceEq, Int.reduceNe, Int.reduceToNat, Tryz.f107]
   refine ⟨fun h => ?_, fun h => ?_⟩
   ·have := hd (by omega)
    refine hK _ (c + 1, d / 10) ⟨by simp only; omega, by simp only; omega, by simp only; omega, ?_⟩ (by simp only; exact Nat.div_lt_self (by omega) (by omega)) ?_
    ·have l1 : (dg 10 (d / 10)).length < 5 := Nat.lt_of_le_of_lt (dg_len_le (by omega) (show d / 10 < 10 ^ 4 by omega)) (by omega)
     have l2 : ndig n ≤ 4000000004 := by
      have : (dg 10 (n / 10000 ^ ((dg 10000 n).length - 1))).length ≤ 4 := dg_len_le (by omega) (by have := dl_getD_lt (dg_dl (b := 10000) (by omega) n) ((dg 10000 n).length - 1); omega)
      omega
     simp only; omega
    ·simp only [show ((d / 10 : Nat) : Int) = (d : Int) / 10 by omega]; exact tu
   ·rw [show d = 0 by omega, dg_zero] at g2
    rw [← g2]; simp
theorem fits_ac (q : Rat) (hq : Qb 1000000000 q) : AC P0 68 [.i (eqr q)] (.i (.bool (decide (ndig q.num.natAbs ≤ 300) && decide (ndig q.den ≤ 300)))) := by
 refine AC.of_go Tryz.func68 rfl rfl (Nat.le_of_ble_eq_true rfl) ?_
 simp +contextual (disch := first | (intro _; intros; contradiction) | omega | (simp only [lens]; omega)) only [go_sem, ↓reduceIte, reduceCtorEq, Nat.reduceEqDiff, Nat.reduceLT, Nat.reduceSub, Int.reduceLT, Nat.reduceAdd, Nat.reduceLeDiff, Int.reduceEq, Int.reduceNe, Int.reduceToNat, Tryz.f68, eqr]
 refine .ac (sizeNat_ac _ hq.1) (by simp) ?_
 simp +contextual (disch := first | (intro _; intros; contradiction) | omega | (simp only [lens]; omega)) only [go_sem, ↓reduceIte, reduceCtorEq, Nat.reduceEqDiff, Nat.reduceLT, Nat.reduceSub, Int.reduceLT, Nat.reduceAdd, Nat.reduceLeDiff, Int.reduceEq, Int.reduceNe, Int.reduceToNat, Tryz.f68, eqr]
 refine ⟨fun h => ?_, fun h => ?_⟩
 ·refine .ac (sizeNat_ac _ hq.2) (by simp) ?_
  simp +contextual (disch := first | (intro _; intros; contradiction) | omega | (simp only [lens]; omega)) only [go_sem, ↓reduceIte, reduceCtorEq, Nat.reduceEqDiff, Nat.reduceLT, Nat.reduceSub, Int.reduceLT, Nat.reduceAdd, Nat.reduceLeDiff, Int.reduceEq, Int.reduceNe, Int.reduceToNat, Tryz.f68, eqr]
  have : ndig q.num.natAbs ≤ 300 := by omega
  simp [this]
  omega
 ·have : ¬ ndig q.num.natAbs ≤ 300 := by omega
  simp [this]
def txtL (n : Nat) : List Nat := (List.range (ndig n)).map fun j => 48 + n / 10 ^ (ndig n - 1 - j) % 10
def txt (n : Nat) : ByteArray := strB ((txtL n).map d8)
theorem txtL_len (n : Nat) : (txtL n).length = ndig n := by simp [txtL]
theorem txtL_get (n j : Nat) (h : j < ndig n) : (txtL n).getD j 0 = 48 + n / 10 ^ (ndig n - 1 - j) % 10 := by
 simp [txtL, List.getD, h]
theorem txtL_ext {n : Nat} {o : List Nat} (hl : o.length = ndig n) (h : ∀ k, k < ndig n → o.getD (ndig n - 1 - k) 0 = 48 + n / 10 ^ k % 10) : o = txtL n := by
 refine List.ext_getElem (by rw [hl, txtL_len]) fun i h1 h2 => ?_
 have e := h (ndig n - 1 - i) (by omega)
 rw [show ndig n - 1 - (ndig n - 1 - i) = i by omega, ← txtL_get n i (by omega)] at e
 simpa [List.getD, h1, h2] using e
theorem textNat_ac (n : Nat) (hn : Lb 1000000000 n) : AC P0 108 [.i (en n)] (.i (.str (txt n))) := by
 have hl := len_pos (n := n)
 have hll := hn.len
 obtain ⟨A, hA⟩ : ∃ A, A = dg 10000 n := ⟨_, rfl⟩
 have eN : en n = .sl 3 (A.map di) := by rw [hA]; rfl
 have hsz := sizeNat_ac n hn
 obtain ⟨N, hN⟩ : ∃ N, N = ndig n := ⟨_, rfl⟩
 have hN0 := ndig_pos n
 have hN4 : (A.length = 0 ∧ N = 1 ∧ n = 0) ∨ (0 < A.length ∧ N ≤ 4 * A.length ∧ 4 * (A.length - 1) < N) := by
  rcases Nat.eq_zero_or_pos n with h | h
  ·left; subst h; rw [hA, dg_zero]; exact ⟨rfl, by rw [hN]; rfl, rfl⟩
  ·right
   obtain ⟨h1, h2⟩ := dg_last (n := n) (by omega)
   have e := dg_len_top h2 rfl
   have hnd : ndig n = (dg 10 n).length := by unfold ndig; rw [if_neg (by omega)]
   rw [← hA] at h1 h2 e
   have l1 : (dg 10 (n / 10000 ^ (A.length - 1))).length ≤ 4 := dg_len_le (by omega) (by rw [← h1]; exact dl_getD_lt (hA ▸ dg_dl (b := 10000) (by omega) n) _)
   have l2 : 0 < (dg 10 (n / 10000 ^ (A.length - 1))).length := by
    rw [Nat.pos_iff_ne_zero, Ne, List.length_eq_zero_iff, dg_nil_iff (by omega)]; exact h2
   have : 0 < A.length := by rw [hA]; omega
   omega
 have hNb : N ≤ 4000000000 := by rw [← hA] at hll; omega
 rw [← hN] at hsz hN0
 rw [eN] at hsz ⊢
 refine AC.of_go Tryz.func108 rfl rfl (Nat.le_of_ble_eq_true rfl) ?_
 simp +contextual (disch := first | (intro _; intros; contradiction) | omega | (simp only [lens]; omega)) only [go_sem, ↓reduceIte, reduceCtorEq, Nat.reduceEqDiff, Nat.reduceLT, Nat.reduceSub, Int.reduceLT, Nat.reduceAdd, Nat.reduceLeDiff, Int.reduceEq, Int.reduceNe, Int.reduceToNat, Tryz.f108]
 refine .ac hsz (by simp) ?_
 simp +contextual (disch := first | (intro _; intros; contradiction) | omega | (simp only [lens]; omega)) only [go_sem, ↓reduceIte, reduceCtorEq, Nat.reduceEqDiff, Nat.reduceLT, Nat.reduceSub, Int.reduceLT, Nat.reduceAdd, Nat.reduceLeDiff, Int.reduceEq, Int.reduceNe, Int.reduceToNat, Tryz.f108]
 refine go_loopI (fun p : Int × List Nat => ⟨55, [(0, .i (dl A)), (3, .own 11 0 0 N), (4, .i (.int .i64 p.1))], [(11, some (.arr 5 0 (p.2.map d8)))]⟩) (fun p => 0 ≤ p.1 ∧ p.1 ≤ N ∧ p.2.length = N ∧ ∀ j, j < p.1.toNat → p.2.getD j 0 = 48) (fun p => N - p.1.toNat) (0, List.replicate N 0) ?_ ⟨by simp, by simp only; omega, by simp, fun j hj => absurd hj (by simp)⟩ ?_
 ·exact tu
 ·rintro K ⟨i, o⟩ ⟨g1, g2, g3, g4⟩ hK
  simp only at g1 g2 g3 g4
  simp +contextual (disch := first | (intro _; intros; contradiction) | omega | (simp only [lens]; omega)) only [go_sem, ↓reduceIte, reduceCtorEq, Nat.reduceEqDiff, Nat.reduceLT, Nat.reduceSub, Int.reduceLT, Nat.reduceAdd, Nat.reduceLeDiff, Int.reduceEq, Int.reduceNe, Int.reduceToNat, Tryz.f108, dl]
  refine ⟨fun hi => ?_, fun hi => ?_⟩
  ·refine hK _ (i + 1, o.set i.toNat 48) ⟨by simp only; omega, by simp only; omega, by simp [g3], fun j hj => ?_⟩ (by simp only; omega) tu
   simp only at hj ⊢
   rw [getD_set]
   by_cases e : j = i.toNat
   ·rw [if_pos ⟨e, by omega⟩]
   ·rw [if_neg (by omega)]; exact g4 j (by omega)
  ·clear hK K
   have g5 : ∀ j, j < N → o.getD j 0 = 48 := fun j hj => g4 j (by omega)
   refine go_loopI (fun p : Int × Int × List Nat => ⟨55, [(0, .i (dl A)), (3, .own 11 0 0 N), (5, .i (.int .i64 p.2.1)), (6, .i (.int .i64 p.1))], [(11, some (.arr 5 0 (p.2.2.map d8)))]⟩)
    (fun p => 0 ≤ p.1 ∧ p.1 ≤ A.length ∧ p.2.1 = N - 1 - min (4 * p.1) N ∧ p.2.2.length = N ∧ ∀ j, j < N → p.2.2.getD (N - 1 - j) 0 = if j < 4 * p.1.toNat then 48 + n / 10 ^ j % 10 else 48) (fun p => A.length - p.1.toNat) (0, (N : Int) - 1, o) ?_
    ⟨by simp, by simp only; omega, by simp only; omega, g3, fun j hj => by simp only; rw [if_neg (by simp)]; exact g5 _ (by omega)⟩ ?_
   ·exact tu
   ·rintro K ⟨i, at_, o⟩ ⟨f1, f2, f3, f4, f5⟩ hK
    simp only at f1 f2 f3 f4 f5
    simp +contextual (disch := first | (intro _; intros; contradiction) | omega | (simp only [lens]; omega)) only [go_sem, ↓reduceIte, reduceCtorEq, Nat.reduceEqDiff, Nat.reduceLT, Nat.reduceSub, Int.reduceLT, Nat.reduceAdd, Nat.reduceLeDiff, Int.reduceEq, Int.reduceNe, Int.reduceToNat, Tryz.f108, dl]
    refine ⟨fun hi => ?_, fun hi => ?_⟩
    ·have hai : A.getD i.toNat 0 = n / 10 ^ (4 * i.toNat) % 10000 := by rw [hA, getD_eq_of_dg (by omega), pow4]
     have ha4 := dl_getD_lt (hA ▸ dg_dl (b := 10000) (by omega) n : Dl 10000 A) i.toNat
     refine go_loopI (fun p : Nat × Int × Nat × List Nat => ⟨55, [(0, .i (dl A)), (3, .own 11 0 0 N), (5, .i (.int .i64 p.2.1)), (6, .i (.int .i64 i)), (7, .i (.int .i64 p.2.2.1)), (8, .i (.int .i64 p.1))], [(11, some (.arr 5 0 (p.2.2.2.map d8)))]⟩)
      (fun p => p.1 ≤ 4 ∧ p.2.1 = N - 1 - (4 * i + p.1) ∧ -1 ≤ p.2.1 ∧ p.2.2.1 = A.getD i.toNat 0 / 10 ^ p.1 ∧ p.2.2.2.length = N ∧ ∀ j, j < N → p.2.2.2.getD (N - 1 - j) 0 = if j < 4 * i.toNat + p.1 then 48 + n / 10 ^ j % 10 else 48) (fun p => 4 - p.1) (0, at_, A.getD i.toNat 0, o) ?_
      ⟨by simp, by simp only; omega, by simp only; omega, by simp, f4, fun j hj => by simp only [Nat.add_zero]; exact f5 j hj⟩ ?_
     ·exact tu
     ·rintro K2 ⟨k, at2, d, o⟩ ⟨e1, e2, e3, e4, e5, e6⟩ hK2
      simp only at e1 e2 e3 e4 e5 e6
      have hd : d < 10000 := by rw [e4]; exact Nat.lt_of_le_of_lt (Nat.div_le_self _ _) ha4
      simp +contextual (disch := first | (intro _; intros; contradiction) | omega | (simp only [lens]; omega)) only [go_sem, ↓reduceIte, reduceCtorEq, Nat.reduceEqDiff, Nat.reduceLT, Nat.reduceSub, Int.reduceLT, Nat.reduceAdd, Nat.reduceLeDiff, Int.reduceEq, Int.reduceNe, Int.reduceToNat, Tryz.f108, dl]
      refine ⟨fun hk => ⟨fun ha => ?_, fun ha => ?_⟩, fun hk => ?_⟩
      ·refine hK2 _ (k + 1, at2 - 1, d / 10, o.set at2.toNat (48 + d % 10)) ⟨by simp only; omega, by simp only; omega, by simp only; omega, ?_, by simp [e5], fun j hj => ?_⟩ (by simp only; omega) ?_
       ·simp only; rw [e4, Nat.div_div_eq_div_mul, ← Nat.pow_succ]
       ·simp only at hj ⊢
        rw [getD_set]
        by_cases e : j = 4 * i.toNat + k
        ·rw [if_pos ⟨by omega, by omega⟩, if_pos (by omega), e4, hai, e]
         have hk4 : k = 0 ∨ k = 1 ∨ k = 2 ∨ k = 3 := by omega
         rw [Nat.pow_add, ← Nat.div_div_eq_div_mul]
         generalize n / 10 ^ (4 * i.toNat) = m
         rcases hk4 with rfl | rfl | rfl | rfl <;> omega
        ·rw [if_neg (by omega), e6 j hj]
         by_cases e2 : j < 4 * i.toNat + k
         ·rw [if_pos e2, if_pos (by omega)]
         ·rw [if_neg e2, if_neg (by omega)]
       ·simp only [show ((k + 1 : Nat) : Int) = (k : Int) + 1 by omega, show ((d / 10 : Nat) : Int) = (d : Int) / 10 by omega, show 48 + d % 10 = (48 + (d : Int) % 10).toNat by omega]
        exact tu
      ·refine hK _ (i + 1, at2, o) ⟨by simp only; omega, by simp only; omega, by simp only; omega, e5, fun j hj => ?_⟩ (by simp only; omega) tu
       simp only
       rw [e6 j hj, if_pos (by omega), if_pos (by omega)]
      ·refine hK _ (i + 1, at2, o) ⟨by simp only; omega, by simp only; omega, by simp only; omega, e5, fun j hj => ?_⟩ (by simp only; omega) tu
       simp only
       rw [e6 j hj, show 4 * i.toNat + k = 4 * (i + 1).toNat by omega]
    ·have ho : o = txtL n := txtL_ext (by omega) fun k hk => by
      rw [← hN] at hk ⊢
      rw [f5 k hk]
      rcases hN4 with ⟨h1, h2, h3⟩ | ⟨h1, h2, h3⟩
      ·subst h3; rw [if_neg (by omega)]; simp
      ·rw [if_pos (by omega)]
     rw [List.take_of_length_le (by simp [f4]), ho]
     rfl
end Go.Lw
end
section
set_option maxRecDepth 10000
namespace Go.Lw
open Go.Proofs
theorem ba_size (a : Array UInt8) : (ByteArray.mk a).size = a.size := rfl
attribute [go_sem] ba_size List.size_toArray ByteArray.size_append
theorem txt_size (n : Nat) : (txt n).size = ndig n := by
 unfold txt strB
 rw [strOfNums_size]; simp [txtL_len]
def wtop (q : Rat) : ByteArray := if q.num < 0 then ⟨#[45]⟩ ++ txt q.num.natAbs else txt q.num.natAbs
def wtxt (q : Rat) : ByteArray := if q.den = 1 then wtop q else (wtop q ++ ⟨#[47]⟩) ++ txt q.den
theorem ndig_le {n k : Nat} (hk : 0 < k) (h : Lb k n) : ndig n ≤ 4 * k := by
 unfold ndig
 split
 ·omega
 ·exact dg_len_le (by omega) (by unfold Lb at h; rwa [pow4] at h)
theorem write_ac (q : Rat) (hq : Qb 1000000000 q) : AC P0 69 [.i (eqr q)] (.i (.str (wtxt q))) := by
 have l1 := ndig_le (by omega) hq.1
 have l2 := ndig_le (by omega) hq.2
 have s1 := txt_size q.num.natAbs
 have s2 := txt_size q.den
 have ht := textNat_ac _ hq.1
 have hd := textNat_ac _ hq.2
 have hw := whole_ac q hq
 refine AC.of_go Tryz.func69 rfl rfl (Nat.le_of_ble_eq_true rfl) ?_
 simp +contextual (disch := first | (intro _; intros; contradiction) | omega | (simp only [lens]; omega)) only [go_sem, ↓reduceIte, reduceCtorEq, Nat.reduceEqDiff, Nat.reduceLT, Nat.reduceSub, Int.reduceLT, Nat.reduceAdd, Nat.reduceLeDiff, Int.reduceEq, Int.reduceNe, Int.reduceToNat, Tryz.f69, eqr]
 refine .ac ht (by simp) ?_
 simp +contextual (disch := first | (intro _; intros; contradiction) | omega | (simp only [lens]; omega)) only [go_sem, ↓reduceIte, reduceCtorEq, Nat.reduceEqDiff, Nat.reduceLT, Nat.reduceSub, Int.reduceLT, Nat.reduceAdd, Nat.reduceLeDiff, Int.reduceEq, Int.reduceNe, Int.reduceToNat, Tryz.f69]
 refine ⟨fun hn => ?_, fun hn => ?_⟩
 case' refine_1 => have ew : wtop q = ⟨#[45]⟩ ++ txt q.num.natAbs := (by unfold wtop; rw [if_pos hn])
 case' refine_2 => have ew : wtop q = txt q.num.natAbs := (by unfold wtop; rw [if_neg hn])
 all_goals (
  have hw2 := hw
  simp only [eqr, hn, decide_true, decide_false] at hw2
  refine .ac hw2 (by simp) ?_
  simp +contextual (disch := first | (intro _; intros; contradiction) | omega | (simp only [lens]; omega)) only [go_sem, ↓reduceIte, reduceCtorEq, Nat.reduceEqDiff, Nat.reduceLT, Nat.reduceSub, Int.reduceLT, Nat.reduceAdd, Nat.reduceLeDiff, Int.reduceEq, Int.reduceNe, Int.reduceToNat, Tryz.f69, unI]
  refine ⟨fun h1 => ?_, fun h1 => ?_⟩
  ·refine .ac hd (by simp) ?_
   simp +contextual (disch := first | (intro _; intros; contradiction) | omega | (simp only [lens]; omega)) only [go_sem, ↓reduceIte, reduceCtorEq, Nat.reduceEqDiff, Nat.reduceLT, Nat.reduceSub, Int.reduceLT, Nat.reduceAdd, Nat.reduceLeDiff, Int.reduceEq, Int.reduceNe, Int.reduceToNat, Tryz.f69, unI]
   unfold wtxt
   rw [if_neg h1, ew]
  ·unfold wtxt
   rw [if_pos h1, ew])
theorem out_ac (q : Rat) (hq : Qb 1000000000 q) : AC P0 31 [.i (eqr q)] (if ndig q.num.natAbs ≤ 300 ∧ ndig q.den ≤ 300 then .tup [.i (.str (wtxt q)), .i (.int .i64 0)] else .tup [.i (.str ⟨#[]⟩), .i (.int .i64 2)]) := by
 refine AC.of_go Tryz.func31 rfl rfl (Nat.le_of_ble_eq_true rfl) ?_
 simp +contextual (disch := first | (intro _; intros; contradiction) | omega | (simp only [lens]; omega)) only [go_sem, ↓reduceIte, reduceCtorEq, Nat.reduceEqDiff, Nat.reduceLT, Nat.reduceSub, Int.reduceLT, Nat.reduceAdd, Nat.reduceLeDiff, Int.reduceEq, Int.reduceNe, Int.reduceToNat, Tryz.f31, eqr]
 refine .ac (fits_ac q hq) (by simp) ?_
 simp +contextual (disch := first | (intro _; intros; contradiction) | omega | (simp only [lens]; omega)) only [go_sem, ↓reduceIte, reduceCtorEq, Nat.reduceEqDiff, Nat.reduceLT, Nat.reduceSub, Int.reduceLT, Nat.reduceAdd, Nat.reduceLeDiff, Int.reduceEq, Int.reduceNe, Int.reduceToNat, Tryz.f31, eqr, unI]
 have hw := write_ac q hq
 refine ⟨fun h => ?_, fun h => ?_⟩
 ·rw [if_neg fun h2 => by simp [h2] at h]
 ·have h2 : ndig q.num.natAbs ≤ 300 ∧ ndig q.den ≤ 300 := by simpa using h
  refine .ac hw (by simp) ?_
  simp +contextual (disch := first | (intro _; intros; contradiction) | omega | (simp only [lens]; omega)) only [go_sem, ↓reduceIte, reduceCtorEq, Nat.reduceEqDiff, Nat.reduceLT, Nat.reduceSub, Int.reduceLT, Nat.reduceAdd, Nat.reduceLeDiff, Int.reduceEq, Int.reduceNe, Int.reduceToNat, Tryz.f31, eqr, unI, h2, and_self, if_true]
theorem is_ac (s : ByteArray) (hs : s.size ≤ top) (r : Option Rat) (hr : ∀ q, r = some q ↔ Rd s q) : AC P0 8 [.i (.str s)] (.i (.bool r.isSome)) := by
 have h := read_ac s hs r hr
 refine AC.of_go Tryz.func8 rfl rfl (Nat.le_of_ble_eq_true rfl) ?_
 simp +contextual (disch := first | (intro _; intros; contradiction) | omega | (simp only [lens]; omega)) only [go_sem, ↓reduceIte, reduceCtorEq, Nat.reduceEqDiff, Nat.reduceLT, Nat.reduceSub, Int.reduceLT, Nat.reduceAdd, Nat.reduceLeDiff, Int.reduceEq, Int.reduceNe, Int.reduceToNat, Tryz.f8]
 refine .ac h (by simp) ?_
 cases r with
 | none =>
  simp +contextual (disch := first | (intro _; intros; contradiction) | omega | (simp only [lens]; omega)) only [go_sem, ↓reduceIte, reduceCtorEq, Nat.reduceEqDiff, Nat.reduceLT, Nat.reduceSub, Int.reduceLT, Nat.reduceAdd, Nat.reduceLeDiff, Int.reduceEq, Int.reduceNe, Int.reduceToNat, Tryz.f8, readR]
  rfl
 | some q =>
  simp +contextual (disch := first | (intro _; intros; contradiction) | omega | (simp only [lens]; omega)) only [go_sem, ↓reduceIte, reduceCtorEq, Nat.reduceEqDiff, Nat.reduceLT, Nat.reduceSub, Int.reduceLT, Nat.reduceAdd, Nat.reduceLeDiff, Int.reduceEq, Int.reduceNe, Int.reduceToNat, Tryz.f8, readR, eqr]
end Go.Lw
end
section
set_option maxRecDepth 10000
namespace Go.Lw
open Go.Proofs
def Let (c : Int) : Prop := (97 ≤ c ∧ c ≤ 122) ∨ (65 ≤ c ∧ c ≤ 90)
def NameC (c : Int) : Prop := Let c ∨ (48 ≤ c ∧ c ≤ 57) ∨ c = 95 ∨ c = 46 ∨ c = 91 ∨ c = 93 ∨ c = 44 ∨ c = 39
structure NameOk (s : ByteArray) : Prop where
 pos : 1 ≤ s.size
 len : s.size ≤ 80
 first : Let (nthB s 0).toNat
 all : ∀ k, k < s.size → NameC (nthB s k).toNat
theorem letter_ac (c : Int) (b : Bool) (hb : b = true ↔ Let c) : AC P0 63 [.i (.int .u8 c)] (.i (.bool b)) := by
 have bf : ∀ x : Bool, (x = true ↔ Let c) → x = b := fun x h => by rw [Bool.eq_iff_iff, h, hb]
 refine AC.of_go Tryz.func63 rfl rfl (Nat.le_of_ble_eq_true rfl) ?_
 simp +contextual (disch := first | (intro _; intros; contradiction) | omega | (simp only [lens]; omega)) only [go_sem, ↓reduceIte, reduceCtorEq, Nat.reduceEqDiff, Nat.reduceLT, Nat.reduceSub, Int.reduceLT, Nat.reduceAdd, Nat.reduceLeDiff, Int.reduceEq, Int.reduceNe, Int.reduceToNat, Tryz.f63]
 unfold Let at bf
 refine ⟨fun h => ⟨fun h2 => ?_, fun h2 => ?_⟩, fun h => ⟨fun h2 => ?_, fun h2 => ?_⟩⟩
 ·exact congrArg I.bool (bf _ (by simp only [Bool.false_eq_true, false_iff]; omega))
 ·exact congrArg I.bool (bf _ (by simp only [true_iff]; omega))
 ·exact congrArg I.bool (bf _ (by simp only [decide_eq_true_eq]; omega))
 ·exact congrArg I.bool (bf _ (by simp only [Bool.false_eq_true, false_iff]; omega))
theorem digit_ac (c : Int) (b : Bool) (hb : b = true ↔ (48 ≤ c ∧ c ≤ 57)) : AC P0 64 [.i (.int .u8 c)] (.i (.bool b)) := by
 have bf : ∀ x : Bool, (x = true ↔ (48 ≤ c ∧ c ≤ 57)) → x = b := fun x h => by rw [Bool.eq_iff_iff, h, hb]
 refine AC.of_go Tryz.func64 rfl rfl (Nat.le_of_ble_eq_true rfl) ?_
 simp +contextual (disch := first | (intro _; intros; contradiction) | omega | (simp only [lens]; omega)) only [go_sem, ↓reduceIte, reduceCtorEq, Nat.reduceEqDiff, Nat.reduceLT, Nat.reduceSub, Int.reduceLT, Nat.reduceAdd, Nat.reduceLeDiff, Int.reduceEq, Int.reduceNe, Int.reduceToNat, Tryz.f64]
 refine ⟨fun h => ?_, fun h => ?_⟩
 ·exact congrArg I.bool (bf _ (by simp only [decide_eq_true_eq]; omega))
 ·exact congrArg I.bool (bf _ (by simp only [Bool.false_eq_true, false_iff]; omega))
theorem isName_ac (s : ByteArray) (hs : s.size ≤ top) (b : Bool) (hb : b = true ↔ NameOk s) : AC P0 27 [.i (.str s)] (.i (.bool b)) := by
 have bf : ¬ NameOk s → b = false := fun h => by rw [← Bool.not_eq_true, hb]; exact h
 unfold top at hs
 refine AC.of_go Tryz.func27 rfl rfl (Nat.le_of_ble_eq_true rfl) ?_
 simp +contextual (disch := first | (intro _; intros; contradiction) | omega | (simp only [lens]; omega)) only [go_sem, ↓reduceIte, reduceCtorEq, Nat.reduceEqDiff, Nat.reduceLT, Nat.reduceSub, Int.reduceLT, Nat.reduceAdd, Nat.reduceLeDiff, Int.reduceEq, Int.reduceNe, Int.reduceToNat, Tryz.f27, unI]
 refine ⟨fun h1 => ⟨fun h2 => ?_, fun h2 => ?_⟩, fun h1 => ?_⟩
 ·obtain ⟨b0, hb0⟩ := ex_bool (Let (nthB s 0).toNat)
  refine .ac (letter_ac _ b0 hb0) (by simp) ?_
  simp +contextual (disch := first | (intro _; intros; contradiction) | omega | (simp only [lens]; omega)) only [go_sem, ↓reduceIte, reduceCtorEq, Nat.reduceEqDiff, Nat.reduceLT, Nat.reduceSub, Int.reduceLT, Nat.reduceAdd, Nat.reduceLeDiff, Int.reduceEq, Int.reduceNe, Int.reduceToNat, Tryz.f27, unI]
  refine ⟨fun h3 => ?_, fun h3 => ?_⟩
  ·rw [bf fun h => by rw [hb0.2 h.first] at h3; cases h3]
  ·have hf := hb0.1 h3
   refine go_loopI (fun i : Int => ⟨60, [(0, .i (.str s)), (3, .i (.int .i64 i))], []⟩) (fun i => 0 ≤ i ∧ i ≤ s.size ∧ ∀ k, k < i.toNat → NameC (nthB s k).toNat) (fun i => s.size - i.toNat) 0 ?_ ⟨by omega, by omega, fun k hk => absurd hk (by simp)⟩ ?_
   ·exact tu
   ·rintro K i ⟨g1, g2, g3⟩ hK
    simp +contextual (disch := first | (intro _; intros; contradiction) | omega | (simp only [lens]; omega)) only [go_sem, ↓reduceIte, reduceCtorEq, Nat.reduceEqDiff, Nat.reduceLT, Nat.reduceSub, Int.reduceLT, Nat.reduceAdd, Nat.reduceLeDiff, Int.reduceEq, Int.reduceNe, Int.reduceToNat, Tryz.f27]
    refine ⟨fun h5 => ?_, fun h5 => ?_⟩
    ·obtain ⟨c, hc⟩ : ∃ c : Int, c = (nthB s i.toNat).toNat := ⟨_, rfl⟩
     have next : NameC c → ∀ k, k < (i + 1).toNat → NameC (nthB s k).toNat := fun h k hk => by
      by_cases e : k = i.toNat
      ·subst e; rw [← hc]; exact h
      ·exact g3 k (by omega)
     have stop : ¬ NameC c → b = false := fun h => bf fun h' => h (by rw [hc]; exact h'.all i.toNat (by omega))
     rw [← hc]
     obtain ⟨b1, hb1⟩ := ex_bool (Let c)
     obtain ⟨b2, hb2⟩ := ex_bool (48 ≤ c ∧ c ≤ 57)
     refine .ac (letter_ac _ b1 hb1) (by simp) ?_
     simp +contextual (disch := first | (intro _; intros; contradiction) | omega | (simp only [lens]; omega)) only [go_sem, ↓reduceIte, reduceCtorEq, Nat.reduceEqDiff, Nat.reduceLT, Nat.reduceSub, Int.reduceLT, Nat.reduceAdd, Nat.reduceLeDiff, Int.reduceEq, Int.reduceNe, Int.reduceToNat, Tryz.f27, unI]
     refine ⟨fun h6 => ?_, fun h6 => ?_⟩
     ·refine .ac (digit_ac _ b2 hb2) (by simp) ?_
      simp +contextual (disch := first | (intro _; intros; contradiction) | omega | (simp only [lens]; omega)) only [go_sem, ↓reduceIte, reduceCtorEq, Nat.reduceEqDiff, Nat.reduceLT, Nat.reduceSub, Int.reduceLT, Nat.reduceAdd, Nat.reduceLeDiff, Int.reduceEq, Int.reduceNe, Int.reduceToNat, Tryz.f27, unI]
      have nx : NameC c → ∀ st : St, st.Tells ⟨60, [(0, .i (.str s)), (3, .i (.int .i64 (i + 1)))], []⟩ → K st := fun h st hst => hK st (i + 1) ⟨by omega, by omega, next h⟩ (by omega) hst
      exact ⟨fun _ => ⟨fun _ => ⟨fun _ => ⟨fun _ => ⟨fun _ => ⟨fun _ => ⟨fun _ => (congrArg I.bool (Eq.symm (stop (by unfold NameC; rw [← hb1, ← hb2]; intro h; simp_all)))), fun e => nx (by unfold NameC Let; omega) _ tu⟩, fun e => nx (by unfold NameC Let; omega) _ tu⟩, fun e => nx (by unfold NameC Let; omega) _ tu⟩, fun e => nx (by unfold NameC Let; omega) _ tu⟩, fun e => nx (by unfold NameC Let; omega) _ tu⟩, fun e => nx (by unfold NameC Let; omega) _ tu⟩, fun e => nx (.inr (.inl (hb2.1 e))) _ tu⟩
     ·exact hK _ (i + 1) ⟨by omega, by omega, next (.inl (hb1.1 h6))⟩ (by omega) tu
    ·rw [hb.2 ⟨by omega, by omega, hf, fun k hk => g3 k (by omega)⟩]
 ·rw [bf fun h => by have := h.len; omega]
 ·rw [bf fun h => by have := h.pos; omega]
theorem Rd.uniq {s : ByteArray} {q q' : Rat} (h : Rd s q) (h' : Rd s q') : q = q' := by
 cases h with
 | pos n d h0 h hq =>
  cases h' with
  | pos n' d' h0' h2 hq' => obtain ⟨e1, e2⟩ := RdU.uniq h h2; rw [hq, hq', e1, e2]
  | neg n' d' h0' h1' h' hn' hq' => exact absurd ⟨h0', h1'⟩ h0
 | neg n d h0 h1 h hn hq =>
  cases h' with
  | pos n' d' h0' h' hq' => exact absurd ⟨h0, h1⟩ h0'
  | neg n' d' h0' h1' h2 hn' hq' => obtain ⟨e1, e2⟩ := RdU.uniq h h2; rw [hq, hq', e1, e2]
theorem rd_ex (s : ByteArray) : ∃ r : Option Rat, ∀ q, r = some q ↔ Rd s q := by
 by_cases h : ∃ q, Rd s q
 ·obtain ⟨q0, h0⟩ := h
  exact ⟨some q0, fun q => ⟨fun e => by cases e; exact h0, fun hq => by rw [h0.uniq hq]⟩⟩
 ·exact ⟨none, fun q => ⟨fun e => (by cases e), fun hq => absurd ⟨q, hq⟩ h⟩⟩
def strs (l : List ByteArray) : I := .sl 9 (l.map .str)
theorem nth_str (l : List ByteArray) (k : Nat) (h : k < l.length) : nth (l.map I.str) k = .str (l.getD k ⟨#[]⟩) := nth_mapD I.str l k ⟨#[]⟩ h
attribute [go_sem] nth_str
theorem numbers_ac (l : List ByteArray) (hl : l.length ≤ 10000000000) (hs : ∀ s ∈ l, s.size ≤ top) (b : Bool) (hb : b = true ↔ ∀ s ∈ l, ∃ q, Rd s q) : AC P0 28 [.i (strs l)] (.i (.bool b)) := by
 refine AC.of_go Tryz.func28 rfl rfl (Nat.le_of_ble_eq_true rfl) ?_
 simp +contextual (disch := first | (intro _; intros; contradiction) | omega | (simp only [lens]; omega)) only [go_sem, ↓reduceIte, reduceCtorEq, Nat.reduceEqDiff, Nat.reduceLT, Nat.reduceSub, Int.reduceLT, Nat.reduceAdd, Nat.reduceLeDiff, Int.reduceEq, Int.reduceNe, Int.reduceToNat, Tryz.f28, strs]
 refine go_loopI (fun i : Int => ⟨16, [(0, .i (strs l)), (3, .i (.int .i64 i))], []⟩) (fun i => 0 ≤ i ∧ i ≤ l.length ∧ ∀ k, k < i.toNat → ∃ q, Rd (l.getD k ⟨#[]⟩) q) (fun i => l.length - i.toNat) 0 ?_ ⟨by omega, by omega, fun k hk => absurd hk (by simp)⟩ ?_
 ·simp only [strs]; exact tu
 ·rintro K i ⟨g1, g2, g3⟩ hK
  simp +contextual (disch := first | (intro _; intros; contradiction) | omega | (simp only [lens]; omega)) only [go_sem, ↓reduceIte, reduceCtorEq, Nat.reduceEqDiff, Nat.reduceLT, Nat.reduceSub, Int.reduceLT, Nat.reduceAdd, Nat.reduceLeDiff, Int.reduceEq, Int.reduceNe, Int.reduceToNat, Tryz.f28, strs]
  refine ⟨fun h => ?_, fun h => ?_⟩
  ·have hm : l.getD i.toNat ⟨#[]⟩ ∈ l := by
    rw [List.getD_eq_getElem?_getD, List.getElem?_eq_getElem (by omega)]; exact List.getElem_mem _
   obtain ⟨r, hr⟩ := rd_ex (l.getD i.toNat ⟨#[]⟩)
   refine .ac (is_ac _ (hs _ hm) r hr) (by simp) ?_
   simp +contextual (disch := first | (intro _; intros; contradiction) | omega | (simp only [lens]; omega)) only [go_sem, ↓reduceIte, reduceCtorEq, Nat.reduceEqDiff, Nat.reduceLT, Nat.reduceSub, Int.reduceLT, Nat.reduceAdd, Nat.reduceLeDiff, Int.reduceEq, Int.reduceNe, Int.reduceToNat, Tryz.f28, unI]
   refine ⟨fun h2 => ?_, fun h2 => ?_⟩
   ·have : b = false := by
     rw [← Bool.not_eq_true, hb]; intro h'
     obtain ⟨q, hq⟩ := h' _ hm
     rw [(hr q).2 hq] at h2; cases h2
    rw [this]
   ·refine hK _ (i + 1) ⟨by omega, by omega, fun k hk => ?_⟩ (by omega) ?_
    ·by_cases e : k = i.toNat
     ·subst e
      obtain ⟨q, hq⟩ := Option.isSome_iff_exists.1 h2
      exact ⟨q, (hr q).1 hq⟩
     ·exact g3 k (by omega)
    ·simp only [strs]; exact tu
  ·have : b = true := by
    rw [hb]; intro s hs'
    obtain ⟨k, hk, rfl⟩ := List.getElem_of_mem hs'
    obtain ⟨q, hq⟩ := g3 k (by omega)
    rw [List.getD_eq_getElem?_getD, List.getElem?_eq_getElem hk] at hq
    exact ⟨q, hq⟩
   rw [this]
end Go.Lw
end
section
set_option maxRecDepth 10000
namespace Go.Lw
open Go.Proofs
def fallQ (c : Rat) (p : Int) : Nat → Rat
 | 0 => c
 | k + 1 => fallQ c p k * ((p - k : Int) : Rat)
def sumQ (f : Nat → Rat) (t : Rat) : Nat → Nat → Rat
 | _, 0 => 0
 | k, n + 1 => sumQ f t (k + 1) n * t + f k
theorem Qb.int {n : Int} (h : n.natAbs < 10000) : Qb 1 (n : Rat) := ⟨by unfold Lb; rw [Rat.num_intCast]; omega, by unfold Lb; rw [Rat.den_intCast]; omega⟩
theorem fallQ_b {c : Rat} {p : Int} {j : Nat} (hc : Qb j c) (hp : p.natAbs < 5000) : ∀ k, k < 5000 → Qb (j + k) (fallQ c p k)
 | 0, _ => hc
 | k + 1, hk => by
  rw [fallQ, ← Nat.add_assoc]
  exact (fallQ_b hc hp k (by omega)).mul (Qb.int (by omega))
theorem Rd.b {s : ByteArray} {q : Rat} (h : Rd s q) : Qb 75 q := by
 have key : ∀ {t : ByteArray} {n d : Nat}, RdU t n d → Lb 75 n ∧ Lb 75 d := fun h => by
  cases h with
  | whole k hk he ht hn hd => rw [hn, hd]; exact ⟨vt_lb _ ht, lb1.mono (by omega)⟩
  | quot k hk he ht hb hn hd h1 hg => rw [hn, hd]; exact ⟨vt_lb _ ht, vt_lb _ hb⟩
 cases h with
 | pos n d h0 h hq =>
  obtain ⟨a, b⟩ := key h
  rw [hq]; exact .mk h.ok.1 (by simpa using a) b
 | neg n d h0 h1 h hn hq =>
  obtain ⟨a, b⟩ := key h
  rw [hq]; exact .mk h.ok.1 (by simpa using a) b
def ec (q : Rat) : List D := [.i (.bool (decide (q.num < 0))), .i (en q.num.natAbs), .i (en q.den)]
def sigI (name : ByteArray) (l : List ByteArray) : I := .agg [.str name, strs l]
theorem atR_ac (name : ByteArray) (l : List ByteArray) (hl : l.length ≤ 8) (hs : ∀ s ∈ l, s.size ≤ top) (c : Nat → Rat) (hc : ∀ k, k < l.length → Rd (l.getD k ⟨#[]⟩) (c k)) (ord : Nat) (ho : ord ≤ 6) (t : Rat) (ht : Qb 75 t) :
  AC P0 30 [.i (sigI name l), .i (.int .i64 ord), .i (eqr t)] (.i (eqr (sumQ (fun k => fallQ (c k) k ord) t ord (l.length - ord)))) := by
 refine AC.of_go Tryz.func30 rfl rfl (Nat.le_of_ble_eq_true rfl) ?_
 simp +contextual (disch := first | (intro _; intros; contradiction) | omega | (simp only [lens]; omega)) only [go_sem, ↓reduceIte, reduceCtorEq, Nat.reduceEqDiff, Nat.reduceLT, Nat.reduceSub, Int.reduceLT, Nat.reduceAdd, Nat.reduceLeDiff, Int.reduceEq, Int.reduceNe, Int.reduceToNat, Tryz.f30, sigI, eqr, strs]
 refine .ac (qOf_ac 0 (by omega) (by omega)) (by simp) ?_
 simp +contextual (disch := first | (intro _; intros; contradiction) | omega | (simp only [lens]; omega)) only [go_sem, ↓reduceIte, reduceCtorEq, Nat.reduceEqDiff, Nat.reduceLT, Nat.reduceSub, Int.reduceLT, Nat.reduceAdd, Nat.reduceLeDiff, Int.reduceEq, Int.reduceNe, Int.reduceToNat, Tryz.f30, eqr]
 refine .ac (qOf_ac 1 (by omega) (by omega)) (by simp) ?_
 simp +contextual (disch := first | (intro _; intros; contradiction) | omega | (simp only [lens]; omega)) only [go_sem, ↓reduceIte, reduceCtorEq, Nat.reduceEqDiff, Nat.reduceLT, Nat.reduceSub, Int.reduceLT, Nat.reduceAdd, Nat.reduceLeDiff, Int.reduceEq, Int.reduceNe, Int.reduceToNat, Tryz.f30, eqr]
 obtain ⟨f, hf⟩ : ∃ f : Nat → Rat, f = fun k => fallQ (c k) (k : Int) ord := ⟨_, rfl⟩
 rw [← hf]
 obtain ⟨X, hX⟩ : ∃ X, X = sumQ f t ord (l.length - ord) := ⟨_, rfl⟩
 rw [← hX]
 have fb : ∀ k, k < l.length → Qb 81 (f k) := fun k hk => by rw [hf]; exact (fallQ_b (hc k hk).b (by omega) ord (by omega)).mono (by omega)
 refine go_loopI (fun p : Int × Rat × Rat => ⟨52, [(1, .i (.int .i64 ord)), (3, .loc 3 0), (5, .loc 5 0), (6, .loc 6 0), (7, .loc 7 0), (8, .loc 8 0), (9, .i (.int .i64 p.1))],
   [(3, some (.var 24 [.i (.str name), .i (.sl 9 (l.map .str))])), (5, some (.var 33 (ec t))), (6, some (.var 33 [.kb false, .nils, .nils])), (7, some (.var 33 (ec p.2.1))), (8, some (.var 33 (ec p.2.2)))]⟩)
  (fun p => (ord : Int) ≤ p.1 ∧ (p.1 ≤ l.length ∨ p.1 = ord) ∧ p.2.1 + p.2.2 * sumQ f t p.1.toNat (l.length - p.1.toNat) = X ∧ Qb (1 + 2000 * (p.1.toNat - ord)) p.2.1 ∧ Qb (1 + 75 * (p.1.toNat - ord)) p.2.2) (fun p => l.length - p.1.toNat) ((ord : Int), ((0 : Int) : Rat), ((1 : Int) : Rat)) ?_
  ⟨by simp, by simp, ?_, ?_, ?_⟩ ?_
 ·simp only [ec]; exact tu
 ·simp only [Int.toNat_natCast]; rw [← hX, Rat.intCast_zero, Rat.intCast_one]; grind
 ·simp only [Int.toNat_natCast, Nat.sub_self]; exact Qb.int (by omega)
 ·simp only [Int.toNat_natCast, Nat.sub_self]; exact Qb.int (by omega)
 ·rintro K ⟨p, out, pw⟩ ⟨g1, g2, g3, g4, g5⟩ hK
  simp only at g1 g2 g3 g4 g5
  simp +contextual (disch := first | (intro _; intros; contradiction) | omega | (simp only [lens]; omega)) only [go_sem, ↓reduceIte, reduceCtorEq, Nat.reduceEqDiff, Nat.reduceLT, Nat.reduceSub, Int.reduceLT, Nat.reduceAdd, Nat.reduceLeDiff, Int.reduceEq, Int.reduceNe, Int.reduceToNat, Tryz.f30, ec]
  refine ⟨fun hp => ?_, fun hp => ?_⟩
  ·have hrd := hc p.toNat (by omega)
   have hmem : l.getD p.toNat ⟨#[]⟩ ∈ l := by
    rw [List.getD_eq_getElem?_getD, List.getElem?_eq_getElem (by omega)]; exact List.getElem_mem _
   have hra := read_ac _ (hs _ hmem) (some (c p.toNat)) (fun q => ⟨fun e => by cases e; exact hrd, fun h => by rw [hrd.uniq h]⟩)
   refine .ac hra (by simp) ?_
   simp +contextual (disch := first | (intro _; intros; contradiction) | omega | (simp only [lens]; omega)) only [go_sem, ↓reduceIte, reduceCtorEq, Nat.reduceEqDiff, Nat.reduceLT, Nat.reduceSub, Int.reduceLT, Nat.reduceAdd, Nat.reduceLeDiff, Int.reduceEq, Int.reduceNe, Int.reduceToNat, Tryz.f30, readR, eqr]
   have fb1 : ∀ k, k ≤ 6 → Qb 81 (fallQ (c p.toNat) p k) := fun k hk => (fallQ_b hrd.b (by omega) k (by omega)).mono (by omega)
   refine go_loopI (fun k : Nat => ⟨52, [(1, .i (.int .i64 ord)), (3, .loc 3 0), (5, .loc 5 0), (6, .loc 6 0), (7, .loc 7 0), (8, .loc 8 0), (9, .i (.int .i64 p)), (10, .loc 10 0), (12, .i (.int .i64 k))],
     [(3, some (.var 24 [.i (.str name), .i (.sl 9 (l.map .str))])), (5, some (.var 33 (ec t))), (6, some (.var 33 [.kb false, .nils, .nils])), (7, some (.var 33 (ec out))), (8, some (.var 33 (ec pw))), (10, some (.var 33 (ec (fallQ (c p.toNat) p k))))]⟩)
    (fun k => k ≤ ord) (fun k => ord - k) 0 ?_ (by omega) ?_
   ·rw [show fallQ (c p.toNat) p 0 = c p.toNat from rfl]; simp only [ec]; exact tu
   ·rintro K2 k g6 hK2
    have hk := fb1 k (by omega)
    have hq := qOf_ac (p - k) (by omega) (by omega)
    have hqb : Qb 1 (((p - k : Int)) : Rat) := Qb.int (by omega)
    have htm := times_ac _ _ (hk.mono (by omega)) (hqb.mono (by omega : 1 ≤ 100000000))
    have e1 : fallQ (c p.toNat) p k * ((p - k : Int) : Rat) = fallQ (c p.toNat) p (k + 1) := rfl
    rw [e1] at htm
    simp +contextual (disch := first | (intro _; intros; contradiction) | omega | (simp only [lens]; omega)) only [go_sem, ↓reduceIte, reduceCtorEq, Nat.reduceEqDiff, Nat.reduceLT, Nat.reduceSub, Int.reduceLT, Nat.reduceAdd, Nat.reduceLeDiff, Int.reduceEq, Int.reduceNe, Int.reduceToNat, Tryz.f30, ec]
    refine ⟨fun h => ?_, fun h => ?_⟩
    ·refine go_drawn mixed0 (by kernel_rfl) ?_
     simp +contextual (disch := first | (intro _; intros; contradiction) | omega | (simp only [lens]; omega)) only [go_sem, ↓reduceIte, reduceCtorEq, Nat.reduceEqDiff, Nat.reduceLT, Nat.reduceSub, Int.reduceLT, Nat.reduceAdd, Nat.reduceLeDiff, Int.reduceEq, Int.reduceNe, Int.reduceToNat, Tryz.f30, ec]
     refine ⟨_, hq, _, htm, ?_⟩
     simp +contextual (disch := first | (intro _; intros; contradiction) | omega | (simp only [lens]; omega)) only [go_sem, ↓reduceIte, reduceCtorEq, Nat.reduceEqDiff, Nat.reduceLT, Nat.reduceSub, Int.reduceLT, Nat.reduceAdd, Nat.reduceLeDiff, Int.reduceEq, Int.reduceNe, Int.reduceToNat, Tryz.f30, ec, eqr]
     refine ⟨by kernel_rfl, ?_⟩
     refine hK2 _ (k + 1) (by omega) (by omega) ?_
     simp only [ec, show ((k + 1 : Nat) : Int) = (k : Int) + 1 by omega]; exact tu
    ·have hko : k = ord := by omega
     subst hko
     have ef : fallQ (c p.toNat) p k = f p.toNat := by rw [hf]; simp only; rw [show ((p.toNat : Nat) : Int) = p by omega]
     rw [ef] at hk ⊢
     refine go_drawn mixed0 (by kernel_rfl) ?_
     simp +contextual (disch := first | (intro _; intros; contradiction) | omega | (simp only [lens]; omega)) only [go_sem, ↓reduceIte, reduceCtorEq, Nat.reduceEqDiff, Nat.reduceLT, Nat.reduceSub, Int.reduceLT, Nat.reduceAdd, Nat.reduceLeDiff, Int.reduceEq, Int.reduceNe, Int.reduceToNat, Tryz.f30, ec]
     have hm := times_ac _ _ (hk.mono (by omega : 81 ≤ 100000000)) (g5.mono (by omega : _ ≤ 100000000))
     have hmb := hk.mul g5
     have hpl := plus_ac _ _ (g4.mono (by omega : _ ≤ 100000000)) (hmb.mono (by omega : _ ≤ 100000000))
     have hplb := g4.add hmb
     refine ⟨_, hm, _, hpl, ?_⟩
     simp +contextual (disch := first | (intro _; intros; contradiction) | omega | (simp only [lens]; omega)) only [go_sem, ↓reduceIte, reduceCtorEq, Nat.reduceEqDiff, Nat.reduceLT, Nat.reduceSub, Int.reduceLT, Nat.reduceAdd, Nat.reduceLeDiff, Int.reduceEq, Int.reduceNe, Int.reduceToNat, Tryz.f30, ec, eqr]
     refine ⟨by kernel_rfl, ?_⟩
     refine .ac (times_ac _ _ (g5.mono (by omega : _ ≤ 100000000)) (ht.mono (by omega))) (by simp) ?_
     have hpb := g5.mul ht
     simp +contextual (disch := first | (intro _; intros; contradiction) | omega | (simp only [lens]; omega)) only [go_sem, ↓reduceIte, reduceCtorEq, Nat.reduceEqDiff, Nat.reduceLT, Nat.reduceSub, Int.reduceLT, Nat.reduceAdd, Nat.reduceLeDiff, Int.reduceEq, Int.reduceNe, Int.reduceToNat, Tryz.f30, ec, eqr]
     refine hK _ (p + 1, out + f p.toNat * pw, pw * t) ⟨by simp only; omega, by simp only; omega, ?_, hplb.mono ?_, hpb.mono ?_⟩ (by simp only; omega) ?_
     ·simp only
      rw [← g3, show (p + 1).toNat = p.toNat + 1 by omega, show l.length - p.toNat = (l.length - (p.toNat + 1)) + 1 by omega, sumQ]
      grind
     ·simp only; omega
     ·simp only; omega
     ·simp only [ec]; exact tu
  ·have e0 : l.length - p.toNat = 0 := by omega
   rw [e0, sumQ] at g3
   have : out = X := by rw [← g3]; grind
   rw [this]
end Go.Lw
end
section
set_option maxRecDepth 10000
namespace Go.Lw
open Go.Proofs
def errD (e : Int) : D := .tup [.i (.str ⟨#[]⟩), .i (.int .i64 e)]
inductive ValSpec (name : ByteArray) (l : List ByteArray) (ord : Int) (time : ByteArray) : D → Prop
 | form (h : ¬ (NameOk name ∧ (∀ s ∈ l, ∃ q, Rd s q) ∧ ∃ q, Rd time q)) : ValSpec name l ord time (errD 1)
 | size (h : NameOk name ∧ (∀ s ∈ l, ∃ q, Rd s q) ∧ ∃ q, Rd time q) (h8 : 8 < l.length) : ValSpec name l ord time (errD 2)
 | arg (h : NameOk name ∧ (∀ s ∈ l, ∃ q, Rd s q) ∧ ∃ q, Rd time q) (h8 : l.length ≤ 8) (ho : ord < 0 ∨ 6 < ord) : ValSpec name l ord time (errD 3)
 | val (hn : NameOk name) (c : Nat → Rat) (t : Rat) (hc : ∀ k, k < l.length → Rd (l.getD k ⟨#[]⟩) (c k)) (ht : Rd time t) (h8 : l.length ≤ 8) (h0 : 0 ≤ ord) (h6 : ord ≤ 6) (v : Rat)
   (hv : v = sumQ (fun k => fallQ (c k) k ord.toNat) t ord.toNat (l.length - ord.toNat)) (hf : ndig v.num.natAbs ≤ 300 ∧ ndig v.den ≤ 300) : ValSpec name l ord time (.tup [.i (.str (wtxt v)), .i (.int .i64 0)])
 | big (hn : NameOk name) (c : Nat → Rat) (t : Rat) (hc : ∀ k, k < l.length → Rd (l.getD k ⟨#[]⟩) (c k)) (ht : Rd time t) (h8 : l.length ≤ 8) (h0 : 0 ≤ ord) (h6 : ord ≤ 6) (v : Rat)
   (hv : v = sumQ (fun k => fallQ (c k) k ord.toNat) t ord.toNat (l.length - ord.toNat)) (hf : ¬ (ndig v.num.natAbs ≤ 300 ∧ ndig v.den ≤ 300)) : ValSpec name l ord time (errD 2)
theorem getD_mem {l : List ByteArray} {k : Nat} (h : k < l.length) : l.getD k ⟨#[]⟩ ∈ l := by
 rw [List.getD_eq_getElem?_getD, List.getElem?_eq_getElem h]; exact List.getElem_mem _
theorem sumQ_b {f : Nat → Rat} {t : Rat} (ht : Qb 75 t) : ∀ n k, (∀ j, k ≤ j → j < k + n → Qb 81 (f j)) → Qb (1 + 200 * n) (sumQ f t k n)
 | 0, k, _ => ⟨by unfold Lb; simp [sumQ], by unfold Lb; simp [sumQ]⟩
 | n + 1, k, h => by
  rw [sumQ]
  exact (((sumQ_b ht n (k + 1) fun j h1 h2 => h j (by omega) (by omega)).mul ht).add (h k (by omega) (by omega))).mono (by omega)
theorem refValue_ac (name : ByteArray) (l : List ByteArray) (ord : Int) (time : ByteArray) (r : D) (hr : ValSpec name l ord time r) (hl : l.length ≤ 1000) (hs1 : name.size ≤ top) (hs2 : ∀ s ∈ l, s.size ≤ top) (hs3 : time.size ≤ top) :
  AC P0 7 [.i (sigI name l), .i (.int .i64 ord), .i (.str time)] r := by
 obtain ⟨b1, hb1⟩ := ex_bool (NameOk name)
 obtain ⟨b2, hb2⟩ := ex_bool (∀ s ∈ l, ∃ q, Rd s q)
 obtain ⟨rt, hrt⟩ := rd_ex time
 have hb3 : rt.isSome = true ↔ ∃ q, Rd time q := by
  rw [Option.isSome_iff_exists]; exact ⟨fun ⟨q, h⟩ => ⟨q, (hrt q).1 h⟩, fun ⟨q, h⟩ => ⟨q, (hrt q).2 h⟩⟩
 have a1 := isName_ac name hs1 b1 hb1
 have a2 := numbers_ac l (by omega) hs2 b2 hb2
 have a3 := is_ac time hs3 rt hrt
 have a4 := read_ac time hs3 rt hrt
 have form : ¬ (NameOk name ∧ (∀ s ∈ l, ∃ q, Rd s q) ∧ ∃ q, Rd time q) → r = errD 1 := fun h => by
  cases hr with
  | form => rfl
  | size h' => exact absurd h' h
  | arg h' => exact absurd h' h
  | val hn c t hc ht => exact absurd ⟨hn, fun s hs => by obtain ⟨k, hk, rfl⟩ := List.getElem_of_mem hs; exact ⟨_, by have := hc k hk; rwa [List.getD_eq_getElem?_getD, List.getElem?_eq_getElem hk] at this⟩, t, ht⟩ h
  | big hn c t hc ht => exact absurd ⟨hn, fun s hs => by obtain ⟨k, hk, rfl⟩ := List.getElem_of_mem hs; exact ⟨_, by have := hc k hk; rwa [List.getD_eq_getElem?_getD, List.getElem?_eq_getElem hk] at this⟩, t, ht⟩ h
 have size : (NameOk name ∧ (∀ s ∈ l, ∃ q, Rd s q) ∧ ∃ q, Rd time q) → 8 < l.length → r = errD 2 := fun h h8 => by
  cases hr with
  | form h' => exact absurd h h'
  | size h' => rfl
  | arg h' h8' => omega
  | val hn c t hc ht h8' => omega
  | big hn c t hc ht h8' => rfl
 have arg : (NameOk name ∧ (∀ s ∈ l, ∃ q, Rd s q) ∧ ∃ q, Rd time q) → l.length ≤ 8 → (ord < 0 ∨ 6 < ord) → r = errD 3 := fun h h8 ho => by
  cases hr with
  | form h' => exact absurd h h'
  | size h' h8' => omega
  | arg h' h8' => rfl
  | val hn c t hc ht h8' => omega
  | big hn c t hc ht h8' => omega
 refine AC.of_go Tryz.func7 rfl rfl (Nat.le_of_ble_eq_true rfl) ?_
 simp +contextual (disch := first | (intro _; intros; contradiction) | omega | (simp only [lens]; omega)) only [go_sem, ↓reduceIte, reduceCtorEq, Nat.reduceEqDiff, Nat.reduceLT, Nat.reduceSub, Int.reduceLT, Nat.reduceAdd, Nat.reduceLeDiff, Int.reduceEq, Int.reduceNe, Int.reduceToNat, Tryz.f7, sigI, strs]
 refine .ac a1 (by simp) ?_
 simp +contextual (disch := first | (intro _; intros; contradiction) | omega | (simp only [lens]; omega)) only [go_sem, ↓reduceIte, reduceCtorEq, Nat.reduceEqDiff, Nat.reduceLT, Nat.reduceSub, Int.reduceLT, Nat.reduceAdd, Nat.reduceLeDiff, Int.reduceEq, Int.reduceNe, Int.reduceToNat, Tryz.f7, unI]
 refine ⟨fun h1 => ?_, fun h1 => ?_⟩
 rotate_left
 ·rw [form fun h => by rw [← hb1, h1] at h; simp at h]; rfl
 refine .ac a2 (by simp) ?_
 simp +contextual (disch := first | (intro _; intros; contradiction) | omega | (simp only [lens]; omega)) only [go_sem, ↓reduceIte, reduceCtorEq, Nat.reduceEqDiff, Nat.reduceLT, Nat.reduceSub, Int.reduceLT, Nat.reduceAdd, Nat.reduceLeDiff, Int.reduceEq, Int.reduceNe, Int.reduceToNat, Tryz.f7, unI]
 refine ⟨fun h2 => ?_, fun h2 => ?_⟩
 rotate_left
 ·rw [form fun h => by rw [← hb2, h2] at h; simp at h]; rfl
 refine .ac a3 (by simp) ?_
 simp +contextual (disch := first | (intro _; intros; contradiction) | omega | (simp only [lens]; omega)) only [go_sem, ↓reduceIte, reduceCtorEq, Nat.reduceEqDiff, Nat.reduceLT, Nat.reduceSub, Int.reduceLT, Nat.reduceAdd, Nat.reduceLeDiff, Int.reduceEq, Int.reduceNe, Int.reduceToNat, Tryz.f7, unI]
 refine ⟨fun h3 => ?_, fun h3 => ?_⟩
 ·rw [form fun h => by rw [← hb3, h3] at h; simp at h]; rfl
 have hok : NameOk name ∧ (∀ s ∈ l, ∃ q, Rd s q) ∧ ∃ q, Rd time q := ⟨hb1.1 h1, hb2.1 h2, hb3.1 h3⟩
 refine ⟨fun h4 => ?_, fun h4 => ⟨fun h5 => ⟨fun h6 => ?_, fun h6 => ?_⟩, fun h5 => ?_⟩⟩
 ·rw [size hok (by omega)]; rfl
 rotate_right
 ·rw [arg hok (by omega) (by omega)]; rfl
 ·rw [arg hok (by omega) (by omega)]; rfl
 clear form size arg
 obtain ⟨t, ht⟩ := hok.2.2
 have hrt2 : rt = some t := (hrt t).2 ht
 rw [hrt2] at a4
 refine .ac a4 (by simp) ?_
 simp +contextual (disch := first | (intro _; intros; contradiction) | omega | (simp only [lens]; omega)) only [go_sem, ↓reduceIte, reduceCtorEq, Nat.reduceEqDiff, Nat.reduceLT, Nat.reduceSub, Int.reduceLT, Nat.reduceAdd, Nat.reduceLeDiff, Int.reduceEq, Int.reduceNe, Int.reduceToNat, Tryz.f7, unI, readR, eqr]
 have main : ∃ c : Nat → Rat, (∀ k, k < l.length → Rd (l.getD k ⟨#[]⟩) (c k)) ∧ ∀ v, v = sumQ (fun k => fallQ (c k) k ord.toNat) t ord.toNat (l.length - ord.toNat) →
   r = if ndig v.num.natAbs ≤ 300 ∧ ndig v.den ≤ 300 then .tup [.i (.str (wtxt v)), .i (.int .i64 0)] else errD 2 := by
  cases hr with
  | form h' => exact absurd hok h'
  | size h' h8' => omega
  | arg h' h8' ho => omega
  | val hn c t' hc ht' h8' h0' h6' v hv hf =>
   rw [ht'.uniq ht] at hv
   exact ⟨c, hc, fun v' hv' => by rw [hv', ← hv, if_pos hf]⟩
  | big hn c t' hc ht' h8' h0' h6' v hv hf =>
   rw [ht'.uniq ht] at hv
   exact ⟨c, hc, fun v' hv' => by rw [hv', ← hv, if_neg hf]⟩
 obtain ⟨c, hc, hv⟩ := main
 have hat := atR_ac name l (by omega) hs2 c hc ord.toNat (by omega) t ht.b
 rw [show ((ord.toNat : Nat) : Int) = ord by omega] at hat
 obtain ⟨v, hv0⟩ : ∃ v, v = sumQ (fun k => fallQ (c k) k ord.toNat) t ord.toNat (l.length - ord.toNat) := ⟨_, rfl⟩
 rw [← hv0] at hat
 have hvb : Qb 1000000000 v := by
  rw [hv0]
  exact (sumQ_b ht.b _ _ fun j h1 h2 => (fallQ_b (hc j (by omega)).b (by omega) ord.toNat (by omega)).mono (by omega)).mono (by omega)
 have hout : AC P0 31 [.i (eqr v)] r := by rw [hv v hv0]; exact out_ac v hvb
 refine .ac hat (by simp) ?_
 simp +contextual (disch := first | (intro _; intros; contradiction) | omega | (simp only [lens]; omega)) only [go_sem, ↓reduceIte, reduceCtorEq, Nat.reduceEqDiff, Nat.reduceLT, Nat.reduceSub, Int.reduceLT, Nat.reduceAdd, Nat.reduceLeDiff, Int.reduceEq, Int.reduceNe, Int.reduceToNat, Tryz.f7]
 refine .ac hout (by simp) ?_
 rw [hv v hv0]
 split
 ·simp +contextual (disch := first | (intro _; intros; contradiction) | omega | (simp only [lens]; omega)) only [go_sem, ↓reduceIte, reduceCtorEq, Nat.reduceEqDiff, Nat.reduceLT, Nat.reduceSub, Int.reduceLT, Nat.reduceAdd, Nat.reduceLeDiff, Int.reduceEq, Int.reduceNe, Int.reduceToNat, Tryz.f7]
 ·simp +contextual (disch := first | (intro _; intros; contradiction) | omega | (simp only [lens]; omega)) only [go_sem, ↓reduceIte, reduceCtorEq, Nat.reduceEqDiff, Nat.reduceLT, Nat.reduceSub, Int.reduceLT, Nat.reduceAdd, Nat.reduceLeDiff, Int.reduceEq, Int.reduceNe, Int.reduceToNat, Tryz.f7, errD]
end Go.Lw
end
