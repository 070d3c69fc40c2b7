/-
A part of the proof that the statement InitialSignals holds of the given program (second form, tied card): what was written is read; the sum that Taylor says.
-/
import Derived.Test.YtleopflmnmfaeaaGreatDoorPG
set_option autoImplicit false
set_option linter.unusedSimpArgs false
set_option linter.unusedVariables false
set_option linter.unnecessarySimpa false
section
set_option maxRecDepth 10000
namespace Go.Lw
open Go.Proofs
theorem nthB_app (a b : ByteArray) (j : Nat) : nthB (a ++ b) j = if j < a.size then nthB a j else nthB b (j - a.size) := by
 unfold nthB
 rw [ByteArray.data_append, Array.getD_eq_getD_getElem?, Array.getD_eq_getD_getElem?, Array.getD_eq_getD_getElem?, Array.getElem?_append]
 show _ = if j < a.data.size then _ else (b.data[j - a.data.size]?).getD 0
 split <;> rfl
theorem txt_nth (n j : Nat) (h : j < ndig n) : (nthB (txt n) j).toNat = 48 + n / 10 ^ (ndig n - 1 - j) % 10 := by
 rw [txt_bytes]
 have hj : j < ((txtL n).map UInt8.ofNat).length := by rw [List.length_map, txtL_len]; exact h
 have e : nthB ⟨((txtL n).map UInt8.ofNat).toArray⟩ j = UInt8.ofNat ((txtL n).getD j 0) := by
  unfold nthB
  rw [Array.getD_eq_getD_getElem?, List.getElem?_toArray, List.getElem?_map, List.getD_eq_getElem?_getD, List.getElem?_eq_getElem (by simpa using hj)]
  rfl
 rw [e, txtL_get n j h]
 have : n / 10 ^ (ndig n - 1 - j) % 10 < 10 := Nat.mod_lt _ (by omega)
 rw [UInt8.toNat_ofNat']
 omega
theorem ndig_lt (n : Nat) : n < 10 ^ ndig n := by
 unfold ndig
 split
 ·omega
 ·exact dg_lt_pow (by omega) n
theorem ndig_ge {n : Nat} (h : 1 < ndig n) : 10 ^ (ndig n - 1) ≤ n := by
 rcases Nat.lt_or_ge n (10 ^ (ndig n - 1)) with h1 | h1
 ·exfalso
  have h2 : (dg 10 n).length ≤ ndig n - 1 := dg_len_le (by omega) h1
  unfold ndig at h h2
  split at h
  ·omega
  ·rename_i h0; rw [if_neg h0] at h2; omega
 ·exact h1
theorem txt_all (n : Nat) : AllD (txt n) := fun j hj => by
 rw [txt_size] at hj
 rw [txt_nth n j hj]
 have : n / 10 ^ (ndig n - 1 - j) % 10 < 10 := Nat.mod_lt _ (by omega)
 omega
theorem txt_vt (n : Nat) : ∀ k, k ≤ ndig n → vt (txt n) k = n / 10 ^ (ndig n - k)
 | 0, _ => by rw [vt, Nat.sub_zero, Nat.div_eq_of_lt (ndig_lt n)]
 | k + 1, h => by
  rw [vt, txt_vt n k (by omega), txt_nth n k (by omega)]
  obtain ⟨m, hm⟩ : ∃ m, m = ndig n - 1 - k := ⟨_, rfl⟩
  rw [← hm, show ndig n - k = m + 1 by omega, show ndig n - (k + 1) = m by omega, Nat.pow_succ, ← Nat.div_div_eq_div_mul]
  generalize n / 10 ^ m = x
  omega
theorem txt_val (n : Nat) : vt (txt n) (txt n).size = n := by
 rw [txt_size, txt_vt n _ (Nat.le_refl _), Nat.sub_self, Nat.pow_zero, Nat.div_one]
theorem txt_dig (n : Nat) (h : ndig n ≤ 300) : DigOk (txt n) := ⟨by rw [txt_size]; exact ndig_pos n, by rw [txt_size]; exact h, fun h1 => by
 rw [txt_size] at h1
 rw [txt_nth n 0 (by omega)]
 have h2 := ndig_ge h1
 have h3 := ndig_lt n
 obtain ⟨m, hm⟩ : ∃ m, m = ndig n - 1 := ⟨_, rfl⟩
 rw [show ndig n - 1 - 0 = m by omega]
 rw [← hm] at h2
 rw [show ndig n = m + 1 by omega, Nat.pow_succ] at h3
 have h4 : 0 < n / 10 ^ m := Nat.div_pos h2 (Nat.pow_pos (by omega))
 have h5 : n / 10 ^ m < 10 := Nat.div_lt_of_lt_mul h3
 rw [Nat.mod_eq_of_lt h5]
 omega, txt_all n⟩
theorem app_left (a b : ByteArray) : (a ++ b).extract 0 a.size = a :=
 ext_nth (by rw [size_extr _ _ _ (by rw [ByteArray.size_append]; omega)]; omega) fun j hj => by
  rw [size_extr _ _ _ (by rw [ByteArray.size_append]; omega)] at hj
  rw [nthB_extr _ _ _ _ (by omega) (by rw [ByteArray.size_append]; omega), Nat.zero_add, nthB_app, if_pos (by omega)]
theorem app_right (a b : ByteArray) (k : Nat) (hk : k = a.size) : (a ++ b).extract k (a ++ b).size = b := by
 have hs : (a ++ b).size = a.size + b.size := ByteArray.size_append
 refine ext_nth (by rw [size_extr _ _ _ (Nat.le_refl _)]; omega) fun j hj => ?_
 rw [size_extr _ _ _ (Nat.le_refl _)] at hj
 rw [nthB_extr _ _ _ _ (by omega) (Nat.le_refl _), nthB_app, if_neg (by omega)]
 congr 1; omega
def utxt (n d : Nat) : ByteArray := if d = 1 then txt n else (txt n ++ ⟨#[47]⟩) ++ txt d
theorem not_slash {t : ByteArray} (h : AllD t) (j : Nat) (hj : j < t.size) : (nthB t j).toNat ≠ 47 := by have := h j hj; omega
theorem utxt_rd {n d : Nat} (hd : 0 < d) (hg : Nat.gcd n d = 1) (h1 : ndig n ≤ 300) (h2 : ndig d ≤ 300) : RdU (utxt n d) n d := by
 unfold utxt
 split
 ·rename_i e
  have ea : (txt n).extract 0 (txt n).size = txt n := extr_all _
  exact .whole (txt n).size ⟨fun j hj => not_slash (txt_all n) j hj, fun h => absurd h (by omega), Nat.le_refl _⟩ rfl (by rw [ea]; exact txt_dig n h1) (by rw [ea, txt_val]) e
 ·rename_i e
  have s1 : (⟨#[47]⟩ : ByteArray).size = 1 := rfl
  have sa : (txt n ++ ⟨#[47]⟩ : ByteArray).size = (txt n).size + 1 := by rw [ByteArray.size_append, s1]
  have ss : ((txt n ++ ⟨#[47]⟩) ++ txt d : ByteArray).size = (txt n).size + 1 + (txt d).size := by rw [ByteArray.size_append, sa]
  have el : ((txt n ++ ⟨#[47]⟩) ++ txt d : ByteArray).extract 0 (txt n).size = txt n := by
   rw [ByteArray.append_assoc]; exact app_left _ _
  have er : ((txt n ++ ⟨#[47]⟩) ++ txt d : ByteArray).extract ((txt n).size + 1) ((txt n ++ ⟨#[47]⟩) ++ txt d : ByteArray).size = txt d := app_right _ _ _ sa.symm
  refine .quot (txt n).size ⟨fun j hj => ?_, fun _ => ?_, by omega⟩ (by omega) (by rw [el]; exact txt_dig n h1) (by rw [er]; exact txt_dig d h2) (by rw [el, txt_val]) (by rw [er, txt_val]) (by omega) hg
  ·rw [nthB_app, if_pos (by omega), nthB_app, if_pos hj]; exact not_slash (txt_all n) j hj
  ·rw [nthB_app, if_pos (by omega), nthB_app, if_neg (by omega), Nat.sub_self]; rfl
theorem rd_wtxt (q : Rat) (h1 : ndig q.num.natAbs ≤ 300) (h2 : ndig q.den ≤ 300) : Rd (wtxt q) q := by
 have hu := utxt_rd q.den_pos q.reduced h1 h2
 have hp := ndig_pos q.num.natAbs
 have hfirst : 48 ≤ (nthB (utxt q.num.natAbs q.den) 0).toNat := by
  have h0 := txt_all q.num.natAbs 0 (by rw [txt_size]; exact hp)
  unfold utxt
  split
  ·exact h0.1
  ·rw [nthB_app, if_pos (by rw [ByteArray.size_append, txt_size]; omega), nthB_app, if_pos (by rw [txt_size]; omega)]; exact h0.1
 by_cases hn : q.num < 0
 ·have e : wtxt q = ⟨#[45]⟩ ++ utxt q.num.natAbs q.den := by
   unfold wtxt wtop utxt
   rw [if_pos hn]
   split
   ·rfl
   ·rw [ByteArray.append_assoc, ByteArray.append_assoc, ByteArray.append_assoc]
  have s1 : (⟨#[45]⟩ : ByteArray).size = 1 := rfl
  rw [e]
  refine .neg q.num.natAbs q.den (by rw [ByteArray.size_append, s1]; omega) (by rw [nthB_app, if_pos (by omega)]; rfl) ?_ (by omega) ?_
  ·rw [app_right _ _ 1 s1.symm]; exact hu
  ·rw [show (-(q.num.natAbs : Int)) = q.num by omega, Rat.mkRat_self]
 ·have e : wtxt q = utxt q.num.natAbs q.den := by unfold wtxt wtop utxt; rw [if_neg hn]
  rw [e]
  refine .pos q.num.natAbs q.den (fun h => by omega) hu ?_
  rw [show ((q.num.natAbs : Nat) : Int) = q.num by omega, Rat.mkRat_self]
end Go.Lw
end
section
set_option maxRecDepth 10000
namespace Go.Lw
open Go.Proofs
def pwQ (h : Rat) : Nat → Rat
 | 0 => 1
 | j + 1 => pwQ h j * h / (((j + 1 : Nat) : Int) : Rat)
def tsQ (V : Nat → Rat) (h : Rat) (o : Nat) : Nat → Rat
 | 0 => 0
 | j + 1 => tsQ V h o j + V (o + j) * pwQ h j
def gQ (c : Nat → Rat) (n o : Nat) (s : Rat) : Rat := sumQ (fun k => fallQ (c k) k o) s o (n - o)
theorem sumQ_nil {f : Nat → Rat} {s : Rat} : ∀ (m k : Nat), (∀ j, k ≤ j → f j = 0) → sumQ f s k m = 0
 | 0, k, h => rfl
 | m + 1, k, h => by rw [sumQ, sumQ_nil m (k + 1) fun j hj => h j (by omega), h k (Nat.le_refl _)]; grind
theorem sumQ_ext {f g : Nat → Rat} {s : Rat} : ∀ (a b k : Nat), (∀ j, j < k + a → f j = g j) → (∀ j, k + a ≤ j → g j = 0) → sumQ f s k a = sumQ g s k (a + b)
 | 0, b, k, h1, h2 => by rw [Nat.zero_add, sumQ_nil b k fun j hj => h2 j (by omega)]; rfl
 | a + 1, b, k, h1, h2 => by
  rw [show a + 1 + b = (a + b) + 1 by omega, sumQ, sumQ, sumQ_ext a b (k + 1) (fun j hj => h1 j (by omega)) (fun j hj => h2 j (by omega)), h1 k (by omega)]
theorem fallQ_zero (p : Int) : ∀ k, fallQ 0 p k = 0
 | 0 => rfl
 | k + 1 => by rw [fallQ, fallQ_zero p k]; grind
theorem gQ_pad (c : Nat → Rat) {n : Nat} (hn : n ≤ 7) {o : Nat} (ho : o ≤ 6) (s : Rat) : gQ c n o s = gQ (fun k => if k < n then c k else 0) 7 o s := by
 unfold gQ
 rcases Nat.lt_or_ge o n with h | h
 ·rw [show 7 - o = (n - o) + (7 - n) by omega]
  refine sumQ_ext _ _ _ (fun j hj => ?_) (fun j hj => ?_)
  ·simp only; rw [if_pos (by omega)]
  ·simp only; rw [if_neg (by omega), fallQ_zero]
 ·rw [show n - o = 0 by omega, sumQ_nil (7 - o) o fun j hj => by simp only; rw [if_neg (by omega), fallQ_zero]]; rfl
theorem taylor7 (c : Nat → Rat) (t h : Rat) (o : Nat) (ho : o ≤ 6) : tsQ (fun k => gQ c 7 k t) h o (7 - o) = gQ c 7 o (t + h) := by
 have : o = 0 ∨ o = 1 ∨ o = 2 ∨ o = 3 ∨ o = 4 ∨ o = 5 ∨ o = 6 := by omega
 rcases this with rfl | rfl | rfl | rfl | rfl | rfl | rfl
 all_goals (
  simp [tsQ, pwQ, gQ, sumQ, fallQ]
  grind)
theorem taylor (c : Nat → Rat) {n : Nat} (hn : n ≤ 7) (t h : Rat) (o : Nat) (ho : o ≤ 6) : tsQ (fun k => gQ c n k t) h o (7 - o) = gQ c n o (t + h) := by
 rw [gQ_pad c hn ho, ← taylor7 _ t h o ho]
 have : ∀ j, j ≤ 7 - o → tsQ (fun k => gQ c n k t) h o j = tsQ (fun k => gQ (fun k => if k < n then c k else 0) 7 k t) h o j := fun j => by
  induction j with
  | zero => intro _; rfl
  | succ j ih => intro hj; rw [tsQ, tsQ, ih (by omega), gQ_pad c hn (by omega)]
 exact this _ (Nat.le_refl _)
theorem readq_ac {s : ByteArray} {q : Rat} (h : Rd s q) (hs : s.size ≤ top) : AC P0 9 [.i (.str s)] (.i (eqr q)) := by
 have hr := read_ac s hs (some q) fun q' => ⟨fun e => by cases e; exact h, fun h' => by rw [h.uniq h']⟩
 unfold readR at hr
 simp only [eqr] at hr
 refine AC.of_go Tryz.func9 rfl rfl (Nat.le_of_ble_eq_true rfl) ?_
 simp +contextual (disch := first | (intro _; intros; contradiction) | omega | (simp only [lens]; omega)) only [go_sem, ↓reduceIte, reduceCtorEq, Nat.reduceEqDiff, Nat.reduceLT, Nat.reduceSub, Int.reduceLT, Nat.reduceAdd, Nat.reduceLeDiff, Int.reduceEq, Int.reduceNe, Int.reduceToNat, Tryz.f9, eqr]
 refine .ac hr (by simp) ?_
 simp +contextual (disch := first | (intro _; intros; contradiction) | omega | (simp only [lens]; omega)) only [go_sem, ↓reduceIte, reduceCtorEq, Nat.reduceEqDiff, Nat.reduceLT, Nat.reduceSub, Int.reduceLT, Nat.reduceAdd, Nat.reduceLeDiff, Int.reduceEq, Int.reduceNe, Int.reduceToNat, Tryz.f9, eqr]
theorem Qb.over {k m : Nat} {a : Rat} (ha : Qb k a) (h1 : 1 ≤ m) (h2 : m < 10000) : Qb (k + 1) (a / ((m : Int) : Rat)) := by
 have e : a / ((m : Int) : Rat) = mkRat a.num (a.den * m) := by
  have e1 : a = (a.num : Rat) / (a.den : Rat) := by rw [← Rat.mkRat_eq_div, Rat.mkRat_self]
  have e3 : (a.den : Rat) ≠ 0 := by rw [Ne, Rat.natCast_eq_zero_iff]; exact a.den_nz
  have e4 : (m : Rat) ≠ 0 := by rw [Ne, Rat.natCast_eq_zero_iff]; omega
  rw [Rat.mkRat_eq_div, Rat.natCast_mul, Rat.intCast_natCast]
  conv => lhs; rw [e1]
  grind
 rw [e]
 exact .mk (Nat.mul_pos a.den_pos h1) (ha.1.mono (by omega)) (ha.2.mul (by unfold Lb; omega))
theorem Qb.sub {j k : Nat} {a b : Rat} (ha : Qb j a) (hb : Qb k b) : Qb (j + k + 1) (a - b) := by
 rw [Rat.sub_eq_add_neg]
 exact ha.add ⟨by rw [Rat.neg_num, Int.natAbs_neg]; exact hb.1, by rw [Rat.neg_den]; exact hb.2⟩
theorem pwQ_b {h : Rat} (hh : Qb 151 h) : ∀ j, j < 5000 → Qb (1 + 152 * j) (pwQ h j)
 | 0, _ => ⟨by unfold Lb; simp [pwQ], by unfold Lb; simp [pwQ]⟩
 | j + 1, hj => by rw [pwQ]; exact (((pwQ_b hh j (by omega)).mul hh).over (by omega) (by omega)).mono (by omega)
theorem tsQ_b {V : Nat → Rat} {h : Rat} (hh : Qb 151 h) (o : Nat) : ∀ j, j ≤ 7 → (∀ i, i < j → Qb 75 (V (o + i))) → Qb (1 + 2000 * j) (tsQ V h o j)
 | 0, _, _ => ⟨by unfold Lb; simp [tsQ], by unfold Lb; simp [tsQ]⟩
 | j + 1, hj, hv => by rw [tsQ]; exact ((tsQ_b hh o j (by omega) fun i hi => hv i (by omega)).add ((hv j (by omega)).mul (pwQ_b hh j (by omega)))).mono (by omega)
theorem wtxt_size {q : Rat} (h1 : ndig q.num.natAbs ≤ 300) (h2 : ndig q.den ≤ 300) : (wtxt q).size ≤ 1000 := by
 have s1 : (⟨#[45]⟩ : ByteArray).size = 1 := rfl
 have s2 : (⟨#[47]⟩ : ByteArray).size = 1 := rfl
 have ht : (wtop q).size ≤ 301 := by
  unfold wtop; split
  ·rw [ByteArray.size_append, txt_size, s1]; omega
  ·rw [txt_size]; omega
 unfold wtxt; split
 ·omega
 ·rw [ByteArray.size_append, ByteArray.size_append, txt_size, s2]; omega
end Go.Lw
end
