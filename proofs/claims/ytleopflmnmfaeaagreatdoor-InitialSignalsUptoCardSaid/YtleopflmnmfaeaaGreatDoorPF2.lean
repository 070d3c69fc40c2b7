/-
A part of the proof that the statement InitialValues holds of the given program (second form, tied card): the texts of numbers.
-/
import Derived.Test.YtleopflmnmfaeaaGreatDoorPE
import Derived.Test.YtleopflmnmfaeaaGreatDoorPF1
set_option autoImplicit false
set_option linter.unusedSimpArgs false
set_option linter.unusedVariables false
set_option linter.unnecessarySimpa false
section
set_option maxRecDepth 10000
namespace Go.Lw
open Go.Proofs
theorem flat9 (g : Nat → List UInt8) (hg : ∀ k, (g k).length = 9) (n : Nat) (i : Nat) (hi : i < 9 * n) : ((List.range n).flatMap g)[i]? = (g (i / 9))[i % 9]? := by
 induction n with
 | zero => omega
 | succ n ih =>
  have hl : ((List.range n).flatMap g).length = 9 * n := by
   clear ih hi
   induction n with
   | zero => rfl
   | succ n ih => rw [List.range_succ, List.flatMap_append, List.length_append, ih]; simp [hg]; omega
  rw [List.range_succ, List.flatMap_append, List.getElem?_append, hl]
  split
  ·rename_i h; exact ih h
  ·rename_i h
   have e1 : i / 9 = n := by omega
   have e2 : i % 9 = i - 9 * n := by omega
   rw [e1, e2]; simp
def topW (n : Nat) (k : Nat) : WX := ⟨((wd n).length - 1 - k, n / 1000000000 ^ ((wd n).length - 1 - k) % 1000000000), Nat.mod_lt _ (by omega)⟩
theorem chunks_at (n i : Nat) (h : i < 9 * (wd n).length) : (chunks ((List.range (wd n).length).map (topW n)))[i]? = some (UInt8.ofNat (48 + n / 10 ^ (9 * (wd n).length - 1 - i) % 10)) := by
 unfold chunks
 rw [List.flatMap_map, flat9 _ (fun k => chunk_len _) _ _ h]
 have h9 : i % 9 < 9 := Nat.mod_lt _ (by omega)
 simp only [chunk, topW]
 rw [List.getElem?_map, List.getElem?_range h9, Option.map_some]
 congr 3
 obtain ⟨k, hk⟩ : ∃ k, k = (wd n).length - 1 - i / 9 := ⟨_, rfl⟩
 rw [← hk, show 9 * (wd n).length - 1 - i = 9 * k + (8 - i % 9) by omega]
 have e1 : (1000000000 : Nat) ^ k = 10 ^ (9 * k) := by rw [Nat.pow_mul]
 rw [e1, Nat.pow_add, ← Nat.div_div_eq_div_mul]
 generalize n / 10 ^ (9 * k) = m
 have hr : 8 - i % 9 < 9 := by omega
 generalize 8 - i % 9 = r at hr
 have e2 : (1000000000 : Nat) = 10 ^ r * 10 ^ (9 - r) := by rw [← Nat.pow_add, show r + (9 - r) = 9 by omega]
 rw [e2, Nat.mod_mul_right_div_self, show 9 - r = (8 - r) + 1 by omega, Nat.pow_succ, Nat.mul_comm, Nat.mod_mul_right_mod]
theorem chunks_trim {n : Nat} (hn : n ≠ 0) : Lib.trimLeftB (chunks ((List.range (wd n).length).map (topW n))) 48 = (txtL n).map UInt8.ofNat := by
 have hd : ndig n = (dg 10 n).length := by unfold ndig; rw [if_neg hn]
 have h1 := dg_lt_pow (b := 10) (by omega) n
 have h2 := dg_pow_le (b := 10) (by omega) hn
 have hD : (dg 10 n).length ≤ 9 * (wd n).length := dg_len_le (by omega) (by rw [Nat.pow_mul]; exact dg_lt_pow (b := 1000000000) (by omega) n)
 have hp := ndig_pos n
 rw [← hd] at h1 h2 hD
 have hlen : (chunks ((List.range (wd n).length).map (topW n))).length = 9 * (wd n).length := by rw [chunks_len]; simp
 have hat := chunks_at n
 generalize chunks ((List.range (wd n).length).map (topW n)) = L at hat hlen
 rw [Lib.trimLeftB_drop L 48 (9 * (wd n).length - ndig n) (by omega) (fun j b hj hb => ?_) (fun b hb => ?_)]
 ·refine List.ext_getElem? fun i => ?_
  rw [List.getElem?_drop, List.getElem?_map]
  by_cases hi : i < ndig n
  ·rw [hat _ (by omega), show 9 * (wd n).length - 1 - (9 * (wd n).length - ndig n + i) = ndig n - 1 - i by omega, ← txtL_get n i hi]
   rw [List.getD_eq_getElem?_getD, List.getElem?_eq_getElem (by rw [txtL_len]; exact hi)]
   rfl
  ·rw [List.getElem?_eq_none (by omega), List.getElem?_eq_none (by rw [txtL_len]; omega)]; rfl
 ·rw [hat j (by omega)] at hb
  have : n / 10 ^ (9 * (wd n).length - 1 - j) = 0 := Nat.div_eq_of_lt (Nat.lt_of_lt_of_le h1 (Nat.pow_le_pow_right (by omega) (by omega)))
  rw [this] at hb
  cases hb; rfl
 ·rw [hat _ (by omega), show 9 * (wd n).length - 1 - (9 * (wd n).length - ndig n) = ndig n - 1 by omega] at hb
  have h3 : 1 ≤ n / 10 ^ (ndig n - 1) := (Nat.le_div_iff_mul_le (Nat.pow_pos (by omega))).2 (by omega)
  have h4 : n / 10 ^ (ndig n - 1) < 10 := Nat.div_lt_of_lt_mul (by rw [Nat.mul_comm, ← Nat.pow_succ', show (ndig n - 1).succ = ndig n by omega]; exact h1)
  generalize n / 10 ^ (ndig n - 1) = q at h3 h4 hb
  cases hb
  intro e
  have := congrArg UInt8.toNat e
  rw [UInt8.toNat_ofNat'] at this
  simp at this
  omega
theorem txt_bytes (n : Nat) : txt n = ⟨((txtL n).map UInt8.ofNat).toArray⟩ := by
 unfold txt strB strOfNums
 congr 2
 rw [List.map_map, List.map_map]
 rfl
def ztxt (z : Int) : ByteArray := if z < 0 then ⟨#[45]⟩ ++ txt z.natAbs else txt z.natAbs
theorem ztxt_size (z : Int) : (ztxt z).size ≤ ndig z.natAbs + 1 := by
 unfold ztxt; split
 ·rw [ByteArray.size_append, txt_size]; simp [ByteArray.size]; omega
 ·rw [txt_size]; omega
theorem ndig_wd {n k : Nat} (hk : 0 < k) (h : (wd n).length ≤ k) : ndig n ≤ 9 * k := by
 unfold ndig
 split
 ·omega
 ·exact dg_len_le (by omega) (by rw [Nat.pow_mul]; exact Nat.lt_of_lt_of_le (dg_lt_pow (b := 1000000000) (by omega) n) (Nat.pow_le_pow_right (by omega) h))
theorem string_z {z : Int} (hz : Zb 1000000000 z) (h0 : z ≠ 0) : AC P0 62 [.i (encZ z)] (.i (.str (ztxt z))) := by
 intro g vs hlt hF zz
 obtain ⟨v, rfl⟩ : ∃ v, vs = [v] := by
  match vs, zz.len with
  | [v], _ => exact ⟨v, rfl⟩
 have hv := zz.at_ 0 _ v rfl rfl
 have hn : z.natAbs ≠ 0 := by omega
 obtain ⟨n, hnn⟩ : ∃ n, n = z.natAbs := ⟨_, rfl⟩
 rw [← hnn] at hn
 have hlen : 0 < (wd n).length := wd_lenpos.2 hn
 have hlen2 : (wd n).length ≤ 1000000000 := hnn ▸ hz
 rw [encZ_eq, ← hnn] at hv
 cases hv with
 | i _ _ hV =>
 cases hV with
 | agg xs us hl hh h1 =>
 obtain ⟨u0, u1, rfl⟩ : ∃ u0 u1, us = [u0, u1] := by
  match us, hl with
  | [u0, u1], _ => exact ⟨u0, u1, rfl⟩
 have a0 := hh 0 _ _ rfl rfl
 have a1 := hh 1 _ _ rfl rfl
 cases a0
 simp only [ew, words] at a1
 obtain ⟨ws, hws⟩ : ∃ ws, ws = (wd n).map word := ⟨_, rfl⟩
 rw [← hws] at a1
 have hwl : ws.length = (wd n).length := by rw [hws]; simp
 cases a1 with
 | sl0 E A cap => simp at hwl; omega
 | sl E xs b off cap us2 hl2 hc ht h hs hm hb hFb =>
  have hcell : ∀ k, k < (wd n).length → g.w.cell? ⟨b, off + ((wd n).length - 1 - k), none⟩ = some (.int .u32 ((topW n k).1.2 : Int)) := fun k hk => by
   have hj : (wd n).length - 1 - k < (wd n).length := by omega
   generalize hjj : (wd n).length - 1 - k = j at hj
   have hx : ws[j]? = some (word ((wd n).getD j 0)) := by
    rw [hws, List.getElem?_map, List.getD_eq_getElem?_getD, List.getElem?_eq_getElem hj]; rfl
   obtain ⟨u, hu⟩ := get_of_len hl2.symm hx
   have hV := h j _ u hx hu
   have hue : u = .int .u32 (((wd n).getD j 0 : Nat) : Int) := by cases hV; rfl
   subst hue
   have := hm j _ 0 _ hu (by simp [Value.cells]; rfl)
   rw [cells_170, Nat.mul_one, Nat.add_zero] at this
   rw [this]
   show some (Value.int IntKind.u32 (((wd n).getD j 0 : Nat) : Int)) = some (Value.int IntKind.u32 ((n / 1000000000 ^ ((wd n).length - 1 - k) % 1000000000 : Nat) : Int))
   rw [hjj]
   congr 3
   exact getD_eq_of_dg (by omega) n j
  have hcall := string_calls (decide (z < 0)) b off (wd n).length cap (topW n) (by omega) hlen g.w hb (fun k _ => rfl) hcell
  rw [chunks_trim hn, ← txt_bytes] at hcall
  rw [hwl]
  refine Calls.mono hcall fun e w' ⟨s, he, hs', hB⟩ => ?_
  have hst : s = ztxt z := by
   rw [hs']; unfold ztxt; rw [← hnn]
   by_cases hz0 : z < 0
   ·simp [hz0]
   ·simp only [hz0, decide_false, Bool.false_eq_true, if_false]
    apply ByteArray.ext; simp
  refine ⟨_, he, ?_, hB.size, hB.os, hB.tape, hB.output, fun b hb => hB.block b hb⟩
  subst hst
  refine .i _ _ (.str _ ?_)
  have h1 := ztxt_size z
  have h2 := ndig_wd (n := z.natAbs) (k := 1000000000) (by omega) (by rw [← hnn]; exact hlen2)
  unfold top; omega
end Go.Lw
end
section
set_option maxRecDepth 10000
namespace Go.Lw
open Go.Proofs
theorem string_0 : AC P0 62 [.i (encZ 0)] (.i (.str (ztxt 0))) := by
 have cz := zero_z 0
 have e0 : ztxt 0 = ⟨#[48]⟩ := by decide
 rw [e0]
 simp only [encZ_eq, ew, words] at cz
 refine AC.of_go Tryz.func62 rfl rfl (Nat.le_of_ble_eq_true rfl) ?_
 simp +contextual (disch := first | (intro _; intros; contradiction) | omega | (simp only [lens]; omega)) only [go_sem, ↓reduceIte, reduceCtorEq, Nat.reduceEqDiff, Nat.reduceLT, Nat.reduceSub, Int.reduceLT, Nat.reduceAdd, Nat.reduceLeDiff, Int.reduceEq, Int.reduceNe, Int.reduceToNat, Tryz.f62, encZ_eq, ew, words]
 refine .ac cz (by simp) ?_
 simp +contextual (disch := first | (intro _; intros; contradiction) | omega | (simp only [lens]; omega)) only [go_sem, ↓reduceIte, reduceCtorEq, Nat.reduceEqDiff, Nat.reduceLT, Nat.reduceSub, Int.reduceLT, Nat.reduceAdd, Nat.reduceLeDiff, Int.reduceEq, Int.reduceNe, Int.reduceToNat, Tryz.f62]
theorem string_all {z : Int} (hz : Zb 1000000000 z) : AC P0 62 [.i (encZ z)] (.i (.str (ztxt z))) := by
 by_cases h : z = 0
 ·subst h; exact string_0
 ·exact string_z hz h
theorem digits_z {z : Int} (hz : Zb 1000000000 z) : AC P0 55 [.i (encZ z)] (.i (.int .i64 (ndig z.natAbs))) := by
 have ca := abs_z z
 have cs := string_all (z := (z.natAbs : Int)) (by unfold Zb at hz ⊢; rw [Int.natAbs_natCast]; exact hz)
 have e1 : (ztxt (z.natAbs : Int)).size = ndig z.natAbs := by
  unfold ztxt; rw [if_neg (by omega), Int.natAbs_natCast, txt_size]
 obtain ⟨s, hs⟩ : ∃ s, s = ztxt (z.natAbs : Int) := ⟨_, rfl⟩
 rw [← hs] at cs e1
 simp only [encZ_nat, encZ_eq z, ew, words] at ca cs
 refine AC.of_go Tryz.func55 rfl rfl (Nat.le_of_ble_eq_true rfl) ?_
 simp +contextual (disch := first | (intro _; intros; contradiction) | omega | (simp only [lens]; omega)) only [go_sem, ↓reduceIte, reduceCtorEq, Nat.reduceEqDiff, Nat.reduceLT, Nat.reduceSub, Int.reduceLT, Nat.reduceAdd, Nat.reduceLeDiff, Int.reduceEq, Int.reduceNe, Int.reduceToNat, Tryz.f55, encZ_eq, ew, words]
 refine .ac ca (by simp) ?_
 simp +contextual (disch := first | (intro _; intros; contradiction) | omega | (simp only [lens]; omega)) only [go_sem, ↓reduceIte, reduceCtorEq, Nat.reduceEqDiff, Nat.reduceLT, Nat.reduceSub, Int.reduceLT, Nat.reduceAdd, Nat.reduceLeDiff, Int.reduceEq, Int.reduceNe, Int.reduceToNat, Tryz.f55]
 refine .ac cs (by simp) ?_
 simp +contextual (disch := first | (intro _; intros; contradiction) | omega | (simp only [lens]; omega)) only [go_sem, ↓reduceIte, reduceCtorEq, Nat.reduceEqDiff, Nat.reduceLT, Nat.reduceSub, Int.reduceLT, Nat.reduceAdd, Nat.reduceLeDiff, Int.reduceEq, Int.reduceNe, Int.reduceToNat, Tryz.f55, e1]
theorem short_q {q : Rat} (hq : Qb 1000000000 q) : AC P0 25 [.i (ef q)] (.i (.bool (decide (ndig q.num.natAbs ≤ 300) && decide (ndig q.den ≤ 300)))) := by
 have c1 := digits_z (z := q.num) (hq.1.wk (Nat.le_refl _))
 have c2 := digits_z (z := (q.den : Int)) (by unfold Zb; rw [Int.natAbs_natCast]; exact hq.2.wk (Nat.le_refl _))
 rw [Int.natAbs_natCast] at c2
 simp only [encZ_nat, encZ_eq q.num, ew, words] at c1 c2
 refine AC.of_go Tryz.func25 rfl rfl (Nat.le_of_ble_eq_true rfl) ?_
 simp +contextual (disch := first | (intro _; intros; contradiction) | omega | (simp only [lens]; omega)) only [go_sem, ↓reduceIte, reduceCtorEq, Nat.reduceEqDiff, Nat.reduceLT, Nat.reduceSub, Int.reduceLT, Nat.reduceAdd, Nat.reduceLeDiff, Int.reduceEq, Int.reduceNe, Int.reduceToNat, Tryz.f25, ef, ew, words]
 refine .ac c1 (by simp) ?_
 simp +contextual (disch := first | (intro _; intros; contradiction) | omega | (simp only [lens]; omega)) only [go_sem, ↓reduceIte, reduceCtorEq, Nat.reduceEqDiff, Nat.reduceLT, Nat.reduceSub, Int.reduceLT, Nat.reduceAdd, Nat.reduceLeDiff, Int.reduceEq, Int.reduceNe, Int.reduceToNat, Tryz.f25]
 refine ⟨fun h1 => .ac c2 (by simp) ?_, fun h1 => ?_⟩
 ·simp +contextual (disch := first | (intro _; intros; contradiction) | omega | (simp only [lens]; omega)) only [go_sem, ↓reduceIte, reduceCtorEq, Nat.reduceEqDiff, Nat.reduceLT, Nat.reduceSub, Int.reduceLT, Nat.reduceAdd, Nat.reduceLeDiff, Int.reduceEq, Int.reduceNe, Int.reduceToNat, Tryz.f25]
  rw [decide_eq_decide.2 (show ((ndig q.den : Int) ≤ 300) ↔ ndig q.den ≤ 300 by omega)]
 ·rw [decide_eq_false (show ¬ ndig q.num.natAbs ≤ 300 by omega)]; rfl
theorem wtop_z (q : Rat) : wtop q = ztxt q.num := by unfold wtop ztxt; rfl
theorem fstring_q {q : Rat} (hq : Qb 100000000 q) : AC P0 26 [.i (ef q)] (.i (.str (wtxt q))) := by
 have c0 := one_z (q.den : Int)
 have c1 := string_all (z := q.num) (hq.1.wk (by omega))
 have c2 := string_all (z := (q.den : Int)) (by unfold Zb; rw [Int.natAbs_natCast]; exact hq.2.wk (by omega))
 rw [← wtop_z] at c1
 have e2 : ztxt (q.den : Int) = txt q.den := by unfold ztxt; rw [if_neg (by omega), Int.natAbs_natCast]
 rw [e2] at c2
 have s1 : (wtop q).size ≤ 900000001 := by
  rw [wtop_z]
  have := ztxt_size q.num
  have := ndig_wd (n := q.num.natAbs) (k := 100000000) (by omega) (hq.1.wk (Nat.le_refl _))
  omega
 have s2 : (txt q.den).size ≤ 900000000 := by
  rw [txt_size]
  exact ndig_wd (n := q.den) (k := 100000000) (by omega) (hq.2.wk (Nat.le_refl _))
 obtain ⟨a, ha⟩ : ∃ a, a = wtop q := ⟨_, rfl⟩
 obtain ⟨b, hb⟩ : ∃ b, b = txt q.den := ⟨_, rfl⟩
 unfold wtxt
 rw [← ha, ← hb]
 rw [← ha] at c1 s1
 rw [← hb] at c2 s2
 simp only [encZ_nat, encZ_eq q.num, ew, words] at c0 c1 c2
 refine AC.of_go Tryz.func26 rfl rfl (Nat.le_of_ble_eq_true rfl) ?_
 simp +contextual (disch := first | (intro _; intros; contradiction) | omega | (simp only [lens]; omega)) only [go_sem, ↓reduceIte, reduceCtorEq, Nat.reduceEqDiff, Nat.reduceLT, Nat.reduceSub, Int.reduceLT, Nat.reduceAdd, Nat.reduceLeDiff, Int.reduceEq, Int.reduceNe, Int.reduceToNat, Tryz.f26, ef, ew, words]
 refine .ac c0 (by simp) ?_
 simp +contextual (disch := first | (intro _; intros; contradiction) | omega | (simp only [lens]; omega)) only [go_sem, ↓reduceIte, reduceCtorEq, Nat.reduceEqDiff, Nat.reduceLT, Nat.reduceSub, Int.reduceLT, Nat.reduceAdd, Nat.reduceLeDiff, Int.reduceEq, Int.reduceNe, Int.reduceToNat, Tryz.f26]
 refine ⟨fun h1 => ?_, fun h1 => ?_⟩
 ·refine .ac c1 (by simp) ?_
  simp +contextual (disch := first | (intro _; intros; contradiction) | omega | (simp only [lens]; omega)) only [go_sem, ↓reduceIte, reduceCtorEq, Nat.reduceEqDiff, Nat.reduceLT, Nat.reduceSub, Int.reduceLT, Nat.reduceAdd, Nat.reduceLeDiff, Int.reduceEq, Int.reduceNe, Int.reduceToNat, Tryz.f26]
  rw [if_pos (by omega)]
 ·rw [if_neg (by omega)]
  have t1 : a.size + (⟨#[47]⟩ : ByteArray).size ≤ top := by rw [show (⟨#[47]⟩ : ByteArray).size = 1 from rfl]; unfold top; omega
  have t2 : (a ++ (⟨#[47]⟩ : ByteArray)).size + b.size ≤ top := by rw [ByteArray.size_append, show (⟨#[47]⟩ : ByteArray).size = 1 from rfl]; unfold top; omega
  refine go_drawn mixed0 (by kernel_rfl) ?_
  simp +contextual (disch := first | (intro _; intros; contradiction) | omega | (simp only [lens]; omega)) only [go_sem, ↓reduceIte, reduceCtorEq, Nat.reduceEqDiff, Nat.reduceLT, Nat.reduceSub, Int.reduceLT, Nat.reduceAdd, Nat.reduceLeDiff, Int.reduceEq, Int.reduceNe, Int.reduceToNat, Tryz.f26]
  refine ⟨_, c1, ?_⟩
  simp +contextual (disch := first | (intro _; intros; contradiction) | omega | (simp only [lens]; omega)) only [go_sem, ↓reduceIte, reduceCtorEq, Nat.reduceEqDiff, Nat.reduceLT, Nat.reduceSub, Int.reduceLT, Nat.reduceAdd, Nat.reduceLeDiff, Int.reduceEq, Int.reduceNe, Int.reduceToNat, Tryz.f26, t1]
  refine ⟨_, c2, ?_⟩
  simp +contextual (disch := first | (intro _; intros; contradiction) | omega | (simp only [lens]; omega)) only [go_sem, ↓reduceIte, reduceCtorEq, Nat.reduceEqDiff, Nat.reduceLT, Nat.reduceSub, Int.reduceLT, Nat.reduceAdd, Nat.reduceLeDiff, Int.reduceEq, Int.reduceNe, Int.reduceToNat, Tryz.f26, t1, t2]
  kernel_rfl
end Go.Lw
end
