/-
A part of the proof that the statement InitialValues holds of the given program (second form, tied card): reading numbers, names and signals; the value of a signal.
-/
import Derived.Test.YtleopflmnmfaeaaGreatDoorPF4
import Derived.Test.YtleopflmnmfaeaaGreatDoorPY
set_option autoImplicit false
set_option linter.unusedSimpArgs false
set_option linter.unusedVariables false
set_option linter.unnecessarySimpa false
section
set_option maxRecDepth 10000
namespace Go.Lw
open Go.Proofs Go.RowKit
theorem nextF_lt {s : ByteArray} {pos id : Nat} (h : pos < s.size) : nextF s pos id = .ok ((nthB s pos).toNat < 128) (.tup [.kb true, .i (.int .i64 pos), .i (.int .i32 ((nthB s pos).toNat : Int))]) [(id, .strit s (pos + 1))] none := if_pos h
theorem nextF_ge {s : ByteArray} {pos id : Nat} (h : ¬ pos < s.size) : nextF s pos id = .ok True (.tup [.kb false]) [] none := if_neg h
def PDig (t : ByteArray) (b : Bool) : Prop := 0 < t.size ∧ ¬ ((nthB t 0).toNat = 48 ∧ (1 < t.size ∨ b = true)) ∧ AllD t
def wpSt (t : ByteArray) (b : Bool) (e : Int) : List Nat → St
 | [] => ⟨66, [(2, .loc 2 0), (4, .i (.str t)), (5, .i (.bool b)), (6, .nils), (7, .i (.int .i64 e))], [(2, some (.var 71 [.kb false, .nils]))]⟩
 | x :: o => ⟨66, [(2, .loc 2 0), (4, .i (.str t)), (5, .i (.bool b)), (6, .own 62 o.length 0 (o.length + 1)), (7, .i (.int .i64 e))], [(2, some (.var 71 [.kb false, .nils])), (62, some (.arr 170 o.length ((x :: o).map word)))]⟩
def wpSt2 (t : ByteArray) (b : Bool) (e : Int) (P : ByteArray) (pos w : Nat) : List Nat → St
 | [] => ⟨66, [(2, .loc 2 0), (4, .i (.str t)), (5, .i (.bool b)), (6, .nils), (7, .i (.int .i64 e)), (8, .i (.int .u32 (w : Int))), (49, .it 49)], [(2, some (.var 71 [.kb false, .nils])), (49, some (.strit P pos))]⟩
 | x :: o => ⟨66, [(2, .loc 2 0), (4, .i (.str t)), (5, .i (.bool b)), (6, .own 62 o.length 0 (o.length + 1)), (7, .i (.int .i64 e)), (8, .i (.int .u32 (w : Int))), (49, .it 49)], [(2, some (.var 71 [.kb false, .nils])), (62, some (.arr 170 o.length ((x :: o).map word))), (49, some (.strit P pos))]⟩
def parseD (t : ByteArray) (b : Bool) (ok : Bool) : D := if ok then .tup [.i (encZ (sv b (vt t t.size))), .i (.bool true)] else .tup [.i (.agg [.bool false, .sl 0 []]), .i (.bool false)]
theorem dv1 (b w : Nat) : dv b [w] = w := by simp [dv]
theorem nthB_extr (s : ByteArray) (i j k : Nat) (h : k < j - i) (hj : j ≤ s.size) : nthB (s.extract i j) k = nthB s (i + k) := by
 have h1 : i + k < s.data.size := by have : s.size = s.data.size := rfl; omega
 have h2 : min j s.data.size = j := by have : s.size = s.data.size := rfl; omega
 unfold nthB
 rw [ByteArray.data_extract, Array.getD_eq_getD_getElem?, Array.getD_eq_getD_getElem?, Array.getElem?_extract]
 rw [h2, if_pos (by omega)]
set_option maxHeartbeats 1000000 in
theorem wparse_ac (s : ByteArray) (hs : s.size ≤ 1000000000) (b : Bool) (hb : b = true ↔ MinusB s) (ok : Bool) (hok : ok = true ↔ PDig (restM s) b) :
  AC P0 53 [.i (.str s)] (parseD (restM s) b ok) := by
 have hcp := cutPrefix_ac s (by unfold top; omega) b hb
 obtain ⟨t, ht⟩ : ∃ t, t = restM s := ⟨_, rfl⟩
 rw [← ht] at hcp hok ⊢
 have hts : t.size ≤ 1000000000 := by
  rw [ht]; unfold restM; split
  ·rw [ByteArray.size_extract]; omega
  ·exact hs
 refine AC.of_go Tryz.func53 rfl rfl (Nat.le_of_ble_eq_true rfl) ?_
 simp +contextual (disch := first | (intro _; intros; contradiction) | omega | (simp only [lens]; omega)) only [go_sem, ↓reduceIte, reduceCtorEq, Nat.reduceEqDiff, Nat.reduceLT, Nat.reduceSub, Int.reduceLT, Nat.reduceAdd, Nat.reduceLeDiff, Int.reduceEq, Int.reduceNe, Int.reduceToNat, Tryz.f53]
 refine .ac hcp (by simp) ?_
 simp +contextual (disch := first | (intro _; intros; contradiction) | omega | (simp only [lens]; omega)) only [go_sem, ↓reduceIte, reduceCtorEq, Nat.reduceEqDiff, Nat.reduceLT, Nat.reduceSub, Int.reduceLT, Nat.reduceAdd, Nat.reduceLeDiff, Int.reduceEq, Int.reduceNe, Int.reduceToNat, Tryz.f53]
 have fail : ¬ PDig t b → ok = false := fun h => by rw [← Bool.not_eq_true, hok]; exact h
 refine ⟨fun h0 => ?_, fun h0 => ?_⟩
 rotate_left
 ·rw [fail fun h => by have := h.1; rw [h0] at this; exact absurd this (by decide)]; rfl
 have h0' : 0 < t.size := by
  rcases Nat.eq_zero_or_pos t.size with e | e
  ·exact absurd (ByteArray.ext (Array.eq_empty_of_size_eq_zero e)) h0
  ·exact e
 obtain ⟨tr, htr, htn⟩ := strTrim_ac t h0' (by unfold top; omega)
 refine ⟨h0', fun h1 => ⟨fun h2 => ⟨fun h3 => ?_, fun h3 => ?_⟩, fun h2 => ?_⟩, fun h1 => ?_⟩
 case' refine_1.refine_1 =>
  have hlead : ¬ ((nthB t 0).toNat = 48 ∧ (1 < t.size ∨ b = true)) := fun h => (h.2.elim (fun h => by omega) (fun h => by rw [h3] at h; cases h))
  have hpb : parseD t false ok = parseD t b ok := by rw [h3]
  rw [hpb]
 case' refine_1.refine_4 =>
  have hlead : ¬ ((nthB t 0).toNat = 48 ∧ (1 < t.size ∨ b = true)) := fun h => by omega
 case refine_1.refine_2 => rw [fail fun h => h.2.1 ⟨by omega, .inr h3⟩]; rfl
 case refine_1.refine_3 => rw [fail fun h => h.2.1 ⟨by omega, .inl (by omega)⟩]; rfl
 all_goals (
  refine .ac htr (by simp) ?_
  simp +contextual (disch := first | (intro _; intros; contradiction) | omega | (simp only [lens]; omega)) only [go_sem, ↓reduceIte, reduceCtorEq, Nat.reduceEqDiff, Nat.reduceLT, Nat.reduceSub, Int.reduceLT, Nat.reduceAdd, Nat.reduceLeDiff, Int.reduceEq, Int.reduceNe, Int.reduceToNat, Tryz.f53]
  refine ⟨fun h5 => ?_, fun h5 => ?_⟩
  ·rw [fail fun h => h5 (htn.2 h.2.2)]; rfl
  ·have hall := htn.1 h5
   rw [hok.2 ⟨h0', hlead, hall⟩]
   refine go_loopI (fun p : Int × List Nat => wpSt t b p.1 p.2) (fun p => p.1 + 9 * p.2.length = t.size ∧ -9 < p.1 ∧ Dig p.2 ∧ vt t t.size = vt t p.1.toNat * 1000000000 ^ p.2.length + dv 1000000000 p.2) (fun p => p.1.toNat) ((t.size : Int), []) ?_ ⟨by simp, by simp only; omega, fun y hy => by simp at hy, by simp [dv]⟩ ?_
   ·simp only [wpSt]
    try rw [h3]
    exact tu
   ·rintro K ⟨e, o⟩ ⟨g1, g2, g3, g4⟩ hK
    simp only at g1 g2 g3 g4
    obtain ⟨lo, hlo⟩ : ∃ lo : Int, lo = max (e - 9) 0 := ⟨_, rfl⟩
    rcases hL : o with _ | ⟨x, o'⟩
    all_goals (
     simp only [wpSt]
     simp +contextual (disch := first | (intro _; intros; contradiction) | omega | (simp only [lens]; omega)) only [go_sem, ↓reduceIte, reduceCtorEq, Nat.reduceEqDiff, Nat.reduceLT, Nat.reduceSub, Int.reduceLT, Nat.reduceAdd, Nat.reduceLeDiff, Int.reduceEq, Int.reduceNe, Int.reduceToNat, Tryz.f53, ← hlo]
     have hll := congrArg List.length hL
     simp only [List.length_cons, List.length_nil] at hll
     refine ⟨fun he => ?_, fun he => ?_⟩
     ·obtain ⟨Pc, hPc⟩ : ∃ Pc, Pc = t.extract lo.toNat e.toNat := ⟨_, rfl⟩
      have hPs : Pc.size = e.toNat - lo.toNat := by rw [hPc, ByteArray.size_extract]; omega
      have hPb : ∀ j, j < Pc.size → nthB Pc j = nthB t (lo.toNat + j) := fun j hj => by rw [hPc]; exact nthB_extr t _ _ _ (by omega) (by omega)
      simp only [← hPc]
      refine go_loopI (fun p : Nat × Nat => wpSt2 t b e Pc p.1 p.2 o) (fun p => p.1 ≤ Pc.size ∧ p.2 < 10 ^ p.1 ∧ vt t (lo.toNat + p.1) = vt t lo.toNat * 10 ^ p.1 + p.2) (fun p => Pc.size - p.1) (0, 0) ?_ ⟨by omega, by simp, by simp⟩ ?_
      ·simp only [hL, wpSt2]; exact tu
      ·rintro K2 ⟨pos, w⟩ ⟨f1, f2, f3⟩ hK2
       simp only at f1 f2 f3
       have hw9 : 10 ^ pos ≤ 10 ^ 9 := Nat.pow_le_pow_right (by omega) (by omega)
       by_cases hp : pos < Pc.size
       ·have hby := hall (lo.toNat + pos) (by omega)
        rw [← hPb pos hp] at hby
        have hw8 : w < 100000000 := by
         have : 10 ^ pos ≤ 10 ^ 8 := Nat.pow_le_pow_right (by omega) (by omega)
         omega
        obtain ⟨n, hn⟩ : ∃ n, n = (nthB Pc pos).toNat := ⟨_, rfl⟩
        rw [← hn] at hby
        have hc1 : IntKind.i32.wrap ((n : Int) - 48) = (n : Int) - 48 := by simp [IntKind.wrap, IntKind.bits, IntKind.signed]; omega
        have hc2 : IntKind.u32.wrap (10 * (w : Int)) = 10 * (w : Int) := by simp [IntKind.wrap, IntKind.bits, IntKind.signed]; omega
        have hc3 : IntKind.u32.wrap (10 * (w : Int) + ((n : Int) - 48)) = ((10 * w + (n - 48) : Nat) : Int) := by simp [IntKind.wrap, IntKind.bits, IntKind.signed]; omega
        simp only [hL, wpSt2]
        simp +contextual (disch := first | (intro _; intros; contradiction) | omega | (simp only [lens]; omega)) only [go_sem, ↓reduceIte, reduceCtorEq, Nat.reduceEqDiff, Nat.reduceLT, Nat.reduceSub, Int.reduceLT, Nat.reduceAdd, Nat.reduceLeDiff, Int.reduceEq, Int.reduceNe, Int.reduceToNat, Tryz.f53, nextF_lt hp, ← hn, hc1, hc2, hc3]
        refine hK2 _ (pos + 1, 10 * w + (n - 48)) ⟨by simp only; omega, ?_, ?_⟩ (by simp only; omega) ?_
        ·simp only
         rw [Nat.pow_succ]
         generalize 10 ^ pos = q at *
         omega
        ·simp only
         rw [← Nat.add_assoc, vt, f3, ← hPb pos hp, ← hn, Nat.pow_succ, Nat.mul_add, ← Nat.mul_assoc, Nat.mul_comm 10, Nat.mul_assoc, Nat.mul_comm 10]
         omega
        ·simp only [hL, wpSt2]; exact tu
       ·simp only [hL, wpSt2]
        simp +contextual (disch := first | (intro _; intros; contradiction) | omega | (simp only [lens]; omega)) only [go_sem, ↓reduceIte, reduceCtorEq, Nat.reduceEqDiff, Nat.reduceLT, Nat.reduceSub, Int.reduceLT, Nat.reduceAdd, Nat.reduceLeDiff, Int.reduceEq, Int.reduceNe, Int.reduceToNat, Tryz.f53, nextF_ge hp]
        have hpe : pos = Pc.size := by omega
        have hlen : (o ++ [w]).length = o.length + 1 := by simp
        refine hK _ (e - 9, o ++ [w]) ⟨by simp only [hlen]; omega, by simp only; omega, fun y hy => ?_, ?_⟩ (by simp only; omega) ?_
        ·rcases List.mem_append.1 hy with hy | hy
         ·exact g3 y hy
         ·simp at hy; omega
        ·simp only [hlen]
         rw [g4, dv_append]
         have hvt : vt t e.toNat = vt t lo.toNat * 10 ^ pos + w := by rw [← f3]; congr 1; omega
         rw [hvt, dv1]
         rcases Int.lt_or_le e 9 with h9 | h9
         ·rw [show lo.toNat = 0 by omega, show (e - 9).toNat = 0 by omega]
          generalize 1000000000 ^ (o.length + 1) = A
          generalize 1000000000 ^ o.length = B
          simp only [vt, Nat.zero_mul, Nat.zero_add]
          rw [Nat.mul_comm w B]; omega
         ·rw [show pos = 9 by omega, show lo.toNat = (e - 9).toNat by omega, show (10 : Nat) ^ 9 = 1000000000 from rfl, Nat.pow_succ 1000000000 o.length, Nat.add_mul]
          generalize 1000000000 ^ o.length = B
          rw [Nat.mul_assoc, Nat.mul_comm 1000000000, Nat.mul_comm w]
          omega
        ·simp only [hL, wpSt, List.nil_append, List.cons_append, List.length_append, List.length_nil, List.length_cons, List.map_cons, List.map_nil, word]
         exact tu
     ·first
      | (exfalso; omega)
      | (refine .frz [62] ?_
         simp only [go_sem, ↓reduceIte, reduceCtorEq, Nat.reduceEqDiff, Nat.reduceLT, Nat.reduceSub, Int.reduceLT, Nat.reduceAdd, Nat.reduceLeDiff, Int.reduceEq, Int.reduceNe, Int.reduceToNat, Tryz.f53, St.frz, frzP, frzD, frzO, frzC, frzOr, frozen, left, D.ok, D.ok1, D.ok0, List.contains_cons, List.contains_nil, Nat.reduceBEq, Option.isSome_none, Bool.not_true, Bool.not_false, Bool.and_false, Bool.and_true]
         rw [← List.map_cons, ← hL]
         have hsg := signed_z g3 (by unfold top; omega) b
         have hv : dv 1000000000 o = vt t t.size := by rw [g4, show e.toNat = 0 by omega, vt, Nat.zero_mul, Nat.zero_add]
         rw [hv] at hsg
         simp only [words, encZ_eq, ew] at hsg
         refine .ac hsg (by simp) ?_
         simp +contextual (disch := first | (intro _; intros; contradiction) | omega | (simp only [lens]; omega)) only [go_sem, ↓reduceIte, reduceCtorEq, Nat.reduceEqDiff, Nat.reduceLT, Nat.reduceSub, Int.reduceLT, Nat.reduceAdd, Nat.reduceLeDiff, Int.reduceEq, Int.reduceNe, Int.reduceToNat, Tryz.f53, parseD, encZ_eq, ew, words])))
end Go.Lw
end
section
set_option maxRecDepth 10000
namespace Go.Lw
open Go.Proofs Go.RowKit
theorem ndig_vt (t : ByteArray) (h : AllD t) (h0 : 0 < t.size) (hl : 1 < t.size → (nthB t 0).toNat ≠ 48) : ndig (vt t t.size) = t.size := by
 have hlt := vt_lt t h t.size (Nat.le_refl _)
 have hb := h 0 h0
 obtain ⟨k, hk⟩ : ∃ k, t.size = 1 + k := ⟨t.size - 1, by omega⟩
 obtain ⟨d, hd⟩ := vt_split t 1 k
 rw [← hk] at hd
 have e1 : vt t 1 = (nthB t 0).toNat - 48 := by simp [vt]
 rw [e1] at hd
 by_cases hz : (nthB t 0).toNat = 48
 ·have hk0 : k = 0 := by
   rcases Nat.eq_zero_or_pos k with e | e
   ·exact e
   ·exact absurd hz (hl (by omega))
  subst hk0
  have : vt t t.size = 0 := by rw [hk]; show vt t 1 = 0; rw [e1]; omega
  rw [this, hk]; rfl
 ·have h1 : 1 ≤ (nthB t 0).toNat - 48 := by omega
  have h2 : 10 ^ k ≤ vt t t.size := by
   rw [hd]
   have := Nat.mul_le_mul_right (10 ^ k) h1
   omega
  have hne : vt t t.size ≠ 0 := by
   have : 0 < 10 ^ k := Nat.pow_pos (by omega)
   omega
  unfold ndig
  rw [if_neg hne, dg_len_eq (n := k) (by omega) h2 (by rw [show k + 1 = t.size by omega]; exact hlt)]
  omega
theorem ext_nth {s t : ByteArray} (hs : s.size = t.size) (h : ∀ j, j < s.size → nthB s j = nthB t j) : s = t := by
 apply ByteArray.ext
 apply Array.ext hs
 intro i h1 h2
 have := h i h1
 unfold nthB at this
 rwa [Array.getD_eq_getD_getElem?, Array.getD_eq_getD_getElem?, Array.getElem?_eq_getElem h1, Array.getElem?_eq_getElem h2] at this
theorem size_extr (s : ByteArray) (i j : Nat) (h : j ≤ s.size) : (s.extract i j).size = j - i := by rw [ByteArray.size_extract]; omega
theorem extr_extr (s : ByteArray) (i j k l : Nat) (hj : j ≤ s.size) (hl : i + l ≤ j) : (s.extract i j).extract k l = s.extract (i + k) (i + l) := by
 have e1 := size_extr s i j hj
 refine ext_nth (by rw [size_extr _ _ _ (by omega), size_extr _ _ _ (by omega)]; omega) fun m hm => ?_
 rw [size_extr _ _ _ (by omega)] at hm
 rw [nthB_extr _ _ _ _ (by omega) (by omega), nthB_extr _ _ _ _ (by omega) hj, nthB_extr _ _ _ _ (by omega) (by omega)]
 congr 1; omega
theorem slash_shift {s : ByteArray} {k : Nat} (h0 : 0 < s.size) (h1 : (nthB s 0).toNat = 45) (hk : slash s k) : 1 ≤ k ∧ slash (s.extract 1 s.size) (k - 1) := by
 obtain ⟨a1, a2, a3⟩ := hk
 have k1 : 1 ≤ k := by
  rcases Nat.eq_zero_or_pos k with e | e
  ·subst e; have := a2 h0; omega
  ·exact e
 have hsz := size_extr s 1 s.size (Nat.le_refl _)
 refine ⟨k1, fun j hj => ?_, fun hj => ?_, by omega⟩
 ·rw [nthB_extr _ _ _ _ (by omega) (Nat.le_refl _)]; exact a1 _ (by omega)
 ·rw [nthB_extr _ _ _ _ (by omega) (Nat.le_refl _), show 1 + (k - 1) = k by omega]; exact a2 (by omega)
structure FQ (b : Bool) (n d : Nat) (q : Rat) : Prop where
 hq : q = mkRat (sv b n) d
 hd : 0 < d
 hg : Nat.gcd n d = 1
theorem digOk_iff {t : ByteArray} : DigOk t ↔ PDig t false ∧ t.size ≤ 300 := by
 constructor
 ·intro h
  refine ⟨⟨by have := h.pos; omega, fun hh => ?_, h.all⟩, h.len⟩
  rcases hh.2 with h2 | h2
  ·exact h.lead h2 hh.1
  ·cases h2
 ·rintro ⟨⟨h1, h2, h3⟩, h4⟩
  exact ⟨h1, h4, fun h5 h6 => h2 ⟨h6, .inl h5⟩, h3⟩
theorem ndig_p {t : ByteArray} {b : Bool} (h : PDig t b) : ndig (vt t t.size) = t.size := ndig_vt t h.2.2 h.1 fun h1 h2 => h.2.1 ⟨h2, .inl h1⟩
theorem restM_cut {s : ByteArray} {k : Nat} (hk : slash s k) (h0 : 0 < s.size) (h1 : (nthB s 0).toNat = 45) : restM (s.extract 0 k) = (s.extract 1 s.size).extract 0 (k - 1) ∧ MinusB (s.extract 0 k) := by
 obtain ⟨k1, hk2⟩ := slash_shift h0 h1 hk
 have hks := hk.2.2
 have hm : MinusB (s.extract 0 k) := ⟨by rw [size_extr _ _ _ hks]; omega, by rw [nthB_extr _ _ _ _ (by omega) hks]; exact h1⟩
 refine ⟨?_, hm⟩
 rw [restM, if_pos (show 0 < (s.extract 0 k).size ∧ (nthB (s.extract 0 k) 0).toNat = 45 from hm)]
 rw [size_extr _ _ _ hks, extr_extr _ _ _ _ _ hks (by omega), extr_extr _ _ _ _ _ (Nat.le_refl _) (by omega)]
 congr 1 <;> omega
theorem restM_plain {s : ByteArray} {k : Nat} (hk : slash s k) (h : ¬ (0 < s.size ∧ (nthB s 0).toNat = 45)) : restM (s.extract 0 k) = s.extract 0 k ∧ ¬ MinusB (s.extract 0 k) := by
 have hks := hk.2.2
 have hm : ¬ MinusB (s.extract 0 k) := fun hm => by
  obtain ⟨a, b⟩ := hm
  rw [size_extr _ _ _ hks] at a
  rw [nthB_extr _ _ _ _ (by omega) hks] at b
  exact h ⟨by omega, b⟩
 exact ⟨by rw [restM, if_neg (show ¬ (0 < (s.extract 0 k).size ∧ (nthB (s.extract 0 k) 0).toNat = 45) from hm)], hm⟩
end Go.Lw
end
section
set_option maxRecDepth 10000
namespace Go.Lw
open Go.Proofs Go.RowKit
theorem rd_frac {s : ByteArray} {k : Nat} (hk : slash s k) (hks : k < s.size) {b : Bool} (hb : b = true ↔ MinusB (s.extract 0 k)) (q : Rat) {tt low : ByteArray} (ht : tt = restM (s.extract 0 k)) (hl : low = s.extract (k + 1) s.size) :
  Rd s q ↔ (PDig tt b ∧ tt.size ≤ 300 ∧ DigOk low ∧ 1 < vt low low.size ∧ Nat.gcd (vt tt tt.size) (vt low low.size) = 1 ∧ q = mkRat (sv b (vt tt tt.size)) (vt low low.size)) := by
 by_cases hm : 0 < s.size ∧ (nthB s 0).toNat = 45
 ·obtain ⟨e1, e2⟩ := restM_cut hk hm.1 hm.2
  obtain ⟨k1, hk2⟩ := slash_shift hm.1 hm.2 hk
  have hbt : b = true := hb.2 e2
  subst hbt
  rw [e1] at ht
  have hsz := size_extr s 1 s.size (Nat.le_refl _)
  have hl2 : low = (s.extract 1 s.size).extract (k - 1 + 1) (s.extract 1 s.size).size := by
   rw [hl, hsz, extr_extr _ _ _ _ _ (Nat.le_refl _) (by omega)]; congr 1 <;> omega
  have hnz : PDig tt true → vt tt tt.size ≠ 0 := fun h e => by
   have h1 := ndig_p h
   rw [e] at h1
   have hs1 : tt.size = 1 := by rw [← h1]; rfl
   have h2 : vt tt 1 = 0 := by rw [← hs1]; exact e
   have h3 := h.2.2 0 h.1
   simp [vt] at h2
   exact h.2.1 ⟨by omega, .inr rfl⟩
  have hdg : DigOk tt → vt tt tt.size ≠ 0 → PDig tt true ∧ tt.size ≤ 300 := fun h hne => by
   obtain ⟨⟨a, c, d⟩, e⟩ := digOk_iff.1 h
   refine ⟨⟨a, fun hh => ?_, d⟩, e⟩
   by_cases h1 : 1 < tt.size
   ·exact c ⟨hh.1, .inl h1⟩
   ·apply hne
    rw [show tt.size = 1 by omega]
    simp [vt, hh.1]
  constructor
  ·intro h
   cases h with
   | pos n d h0 h hq => exact absurd hm h0
   | neg n d h0 h1 h hn hq =>
    cases h with
    | whole k' hk' he => have := slash_uniq hk2 hk'; omega
    | quot k' hk' he hdt hdb hn' hd h1 hg =>
     have := slash_uniq hk2 hk'; subst this
     rw [← ht] at hdt hn'
     rw [← hl2] at hdb hd
     rw [hn', hd] at hg
     rw [hd] at h1
     rw [hn'] at hn
     refine ⟨(hdg hdt hn).1, (hdg hdt hn).2, hdb, h1, hg, ?_⟩
     rw [hq, hn', hd]; rfl
  ·rintro ⟨a1, a2, a3, a4, a5, a6⟩
   have hdt : DigOk tt := digOk_iff.2 ⟨⟨a1.1, fun h => a1.2.1 ⟨h.1, h.2.elim .inl (fun h => by cases h)⟩, a1.2.2⟩, a2⟩
   refine .neg (vt tt tt.size) (vt low low.size) hm.1 hm.2 (.quot (k - 1) hk2 (by omega) (ht ▸ hdt) (hl2 ▸ a3) (by rw [ht]) (by rw [hl2]) a4 a5) (hnz a1) ?_
   rw [a6]; rfl
 ·obtain ⟨e1, e2⟩ := restM_plain hk hm
  have hbf : b = false := by rw [← Bool.not_eq_true, hb]; exact e2
  subst hbf
  rw [e1] at ht
  constructor
  ·intro h
   cases h with
   | neg n d h0 h1 => exact absurd ⟨h0, h1⟩ hm
   | pos n d h0 h hq =>
    cases h with
    | whole k' hk' he => have := slash_uniq hk hk'; omega
    | quot k' hk' he hdt hdb hn hd h1 hg =>
     have := slash_uniq hk hk'; subst this
     rw [← ht] at hdt hn
     rw [← hl] at hdb hd
     rw [hn, hd] at hg
     rw [hd] at h1
     refine ⟨(digOk_iff.1 hdt).1, (digOk_iff.1 hdt).2, hdb, h1, hg, ?_⟩
     rw [hq, hn, hd]; rfl
  ·rintro ⟨a1, a2, a3, a4, a5, a6⟩
   refine .pos (vt tt tt.size) (vt low low.size) hm (.quot k hk hks (ht ▸ digOk_iff.2 ⟨a1, a2⟩) (hl ▸ a3) (by rw [ht]) (by rw [hl]) a4 a5) ?_
   rw [a6]; rfl
theorem rd_whole {s : ByteArray} {k : Nat} (hk : slash s k) (hks : k = s.size) {b : Bool} (hb : b = true ↔ MinusB (s.extract 0 k)) (q : Rat) {tt : ByteArray} (ht : tt = restM (s.extract 0 k)) :
  Rd s q ↔ (PDig tt b ∧ tt.size ≤ 300 ∧ q = mkRat (sv b (vt tt tt.size)) 1) := by
 by_cases hm : 0 < s.size ∧ (nthB s 0).toNat = 45
 ·obtain ⟨e1, e2⟩ := restM_cut hk hm.1 hm.2
  obtain ⟨k1, hk2⟩ := slash_shift hm.1 hm.2 hk
  have hbt : b = true := hb.2 e2
  subst hbt
  rw [e1] at ht
  have hsz := size_extr s 1 s.size (Nat.le_refl _)
  have hnz : PDig tt true → vt tt tt.size ≠ 0 := fun h e => by
   have h1 := ndig_p h
   rw [e] at h1
   have hs1 : tt.size = 1 := by rw [← h1]; rfl
   have h2 : vt tt 1 = 0 := by rw [← hs1]; exact e
   have h3 := h.2.2 0 h.1
   simp [vt] at h2
   exact h.2.1 ⟨by omega, .inr rfl⟩
  have hdg : DigOk tt → vt tt tt.size ≠ 0 → PDig tt true ∧ tt.size ≤ 300 := fun h hne => by
   obtain ⟨⟨a, c, d⟩, e⟩ := digOk_iff.1 h
   refine ⟨⟨a, fun hh => ?_, d⟩, e⟩
   by_cases h1 : 1 < tt.size
   ·exact c ⟨hh.1, .inl h1⟩
   ·apply hne
    rw [show tt.size = 1 by omega]
    simp [vt, hh.1]
  constructor
  ·intro h
   cases h with
   | pos n d h0 h hq => exact absurd hm h0
   | neg n d h0 h1 h hn hq =>
    cases h with
    | quot k' hk' he => have := slash_uniq hk2 hk'; omega
    | whole k' hk' he hdt hn' hd =>
     have := slash_uniq hk2 hk'; subst this
     rw [← ht] at hdt hn'
     rw [hn'] at hn
     refine ⟨(hdg hdt hn).1, (hdg hdt hn).2, ?_⟩
     rw [hq, hn', hd]; rfl
  ·rintro ⟨a1, a2, a6⟩
   have hdt : DigOk tt := digOk_iff.2 ⟨⟨a1.1, fun h => a1.2.1 ⟨h.1, h.2.elim .inl (fun h => by cases h)⟩, a1.2.2⟩, a2⟩
   refine .neg (vt tt tt.size) 1 hm.1 hm.2 (.whole (k - 1) hk2 (by omega) (ht ▸ hdt) (by rw [ht]) rfl) (hnz a1) ?_
   rw [a6]; rfl
 ·obtain ⟨e1, e2⟩ := restM_plain hk hm
  have hbf : b = false := by rw [← Bool.not_eq_true, hb]; exact e2
  subst hbf
  rw [e1] at ht
  constructor
  ·intro h
   cases h with
   | neg n d h0 h1 => exact absurd ⟨h0, h1⟩ hm
   | pos n d h0 h hq =>
    cases h with
    | quot k' hk' he => have := slash_uniq hk hk'; omega
    | whole k' hk' he hdt hn hd =>
     have := slash_uniq hk hk'; subst this
     rw [← ht] at hdt hn
     refine ⟨(digOk_iff.1 hdt).1, (digOk_iff.1 hdt).2, ?_⟩
     rw [hq, hn, hd]; rfl
  ·rintro ⟨a1, a2, a6⟩
   refine .pos (vt tt tt.size) 1 hm (.whole k hk hks (ht ▸ digOk_iff.2 ⟨a1, a2⟩) (by rw [ht]) rfl) ?_
   rw [a6]; rfl
end Go.Lw
end
section
set_option maxRecDepth 10000
namespace Go.Lw
open Go.Proofs Go.RowKit
def fpR : Option Rat → D
 | some q => .tup [.i (ef q), .i (.bool true)]
 | none => .tup [.agg [.any, .any, .any, .any], .i (.bool false)]
theorem short_nd {z : Int} {d : Nat} (hz : Zb 1000000000 z) (hd : Zb 1000000000 (d : Int)) : AC P0 25 [.i (.agg [.bool (decide (z < 0)), ew z.natAbs, .bool false, ew d])] (.i (.bool (decide (ndig z.natAbs ≤ 300) && decide (ndig d ≤ 300)))) := by
 have c1 := digits_z hz
 have c2 := digits_z hd
 rw [Int.natAbs_natCast] at c2
 simp only [encZ_nat, encZ_eq z, ew, words] at c1 c2
 refine AC.of_go Tryz.func25 rfl rfl (Nat.le_of_ble_eq_true rfl) ?_
 simp +contextual (disch := first | (intro _; intros; contradiction) | omega | (simp only [lens]; omega)) only [go_sem, ↓reduceIte, reduceCtorEq, Nat.reduceEqDiff, Nat.reduceLT, Nat.reduceSub, Int.reduceLT, Nat.reduceAdd, Nat.reduceLeDiff, Int.reduceEq, Int.reduceNe, Int.reduceToNat, Tryz.f25, ew, words]
 refine .ac c1 (by simp) ?_
 simp +contextual (disch := first | (intro _; intros; contradiction) | omega | (simp only [lens]; omega)) only [go_sem, ↓reduceIte, reduceCtorEq, Nat.reduceEqDiff, Nat.reduceLT, Nat.reduceSub, Int.reduceLT, Nat.reduceAdd, Nat.reduceLeDiff, Int.reduceEq, Int.reduceNe, Int.reduceToNat, Tryz.f25]
 refine ⟨fun h1 => .ac c2 (by simp) ?_, fun h1 => ?_⟩
 ·simp +contextual (disch := first | (intro _; intros; contradiction) | omega | (simp only [lens]; omega)) only [go_sem, ↓reduceIte, reduceCtorEq, Nat.reduceEqDiff, Nat.reduceLT, Nat.reduceSub, Int.reduceLT, Nat.reduceAdd, Nat.reduceLeDiff, Int.reduceEq, Int.reduceNe, Int.reduceToNat, Tryz.f25]
  rw [decide_eq_decide.2 (show ((ndig d : Int) ≤ 300) ↔ ndig d ≤ 300 by omega)]
 ·rw [decide_eq_false (show ¬ ndig z.natAbs ≤ 300 by omega)]; rfl
theorem extr_all (s : ByteArray) : s.extract 0 s.size = s :=
 ext_nth (by rw [size_extr _ _ _ (Nat.le_refl _)]; omega) fun j hj => by
  rw [size_extr _ _ _ (Nat.le_refl _)] at hj
  rw [nthB_extr _ _ _ _ (by omega) (Nat.le_refl _)]; congr 1; omega
theorem ef_fin {b : Bool} {n d : Nat} (hd : 0 < d) (hg : Nat.gcd n d = 1) : ef (mkRat (sv b n) d) = .agg [.bool (decide (sv b n < 0)), ew n, .bool false, ew d] := by
 obtain ⟨m1, m2⟩ := mkRat_nd (n := sv b n) (d := d) (by omega)
 unfold ef
 rw [m1, m2, sv_abs, hg]
 simp only [Int.natCast_one, Int.ediv_one, Nat.div_one, sv_abs]
theorem vt_zb {t : ByteArray} (h : AllD t) (b : Bool) (hs : t.size ≤ 8000000) : Zb 1000000 (sv b (vt t t.size)) := by
 have h1 := vt_lt t h t.size (Nat.le_refl _)
 obtain ⟨m, hm⟩ : ∃ m, m = t.size / 9 + 1 := ⟨_, rfl⟩
 have h2 : 10 ^ t.size ≤ 10 ^ (9 * m) := Nat.pow_le_pow_right (by omega) (by omega)
 rw [Nat.pow_mul, show (10 : Nat) ^ 9 = 1000000000 from rfl] at h2
 unfold Zb
 rw [sv_abs]
 exact Nat.le_trans (Wb.len (k := m) (Nat.lt_of_lt_of_le h1 h2)) (by omega)
set_option maxHeartbeats 1000000 in
theorem fparse_ac (s : ByteArray) (hs : s.size ≤ 8000000) (r : Option Rat) (hr : ∀ q, r = some q ↔ Rd s q) : AC P0 23 [.i (.str s)] (fpR r) := by
 obtain ⟨k, hk, hcut⟩ := cut_ac s (by unfold top; omega)
 have hkl := hk.2.2
 have none_of : (∀ q, ¬ Rd s q) → r = none := fun h => by
  cases hrq : r with
  | none => rfl
  | some q => exact absurd ((hr q).1 hrq) (h q)
 have one := of_z 1 (by omega) (by omega)
 rw [show (1 : Int) = ((1 : Nat) : Int) from rfl, encZ_nat] at one
 simp only [ew, words] at one
 obtain ⟨b, hb⟩ := ex_bool (MinusB (s.extract 0 k))
 obtain ⟨ok, hok⟩ := ex_bool (PDig (restM (s.extract 0 k)) b)
 have hp := wparse_ac (s.extract 0 k) (by rw [size_extr _ _ _ hkl]; omega) b hb ok hok
 refine AC.of_goL Tryz.func23 rfl rfl (Nat.le_of_ble_eq_true rfl) ?_
 simp +contextual (disch := first | (intro _; intros; contradiction) | omega | (simp only [lens]; omega)) only [go_sem, ↓reduceIte, reduceCtorEq, Nat.reduceEqDiff, Nat.reduceLT, Nat.reduceSub, Int.reduceLT, Nat.reduceAdd, Nat.reduceLeDiff, Int.reduceEq, Int.reduceNe, Int.reduceToNat, Tryz.f23]
 refine .ac hcut (by simp) ?_
 unfold cutD
 by_cases hks : k < s.size
 ·simp only [if_pos hks]
  simp +contextual (disch := first | (intro _; intros; contradiction) | omega | (simp only [lens]; omega)) only [go_sem, ↓reduceIte, reduceCtorEq, Nat.reduceEqDiff, Nat.reduceLT, Nat.reduceSub, Int.reduceLT, Nat.reduceAdd, Nat.reduceLeDiff, Int.reduceEq, Int.reduceNe, Int.reduceToNat, Tryz.f23]
  refine .ac hp (by simp) ?_
  unfold parseD
  have fr := fun q => rd_frac hk hks hb q (tt := restM (s.extract 0 k)) (low := s.extract (k + 1) s.size) rfl rfl
  cases ok
  ·rw [none_of fun q h => by have := hok.2 ((fr q).1 h).1; cases this]
   simp +contextual (disch := first | (intro _; intros; contradiction) | omega | (simp only [lens]; omega)) only [go_sem, ↓reduceIte, reduceCtorEq, Nat.reduceEqDiff, Nat.reduceLT, Nat.reduceSub, Int.reduceLT, Nat.reduceAdd, Nat.reduceLeDiff, Int.reduceEq, Int.reduceNe, Int.reduceToNat, Tryz.f23]
   exact ⟨_, Lq.two (.agg _ 4 rfl) (.refl _), rfl⟩
  ·have hp1 := hok.1 rfl
   obtain ⟨tt, htt⟩ : ∃ tt, tt = restM (s.extract 0 k) := ⟨_, rfl⟩
   obtain ⟨low, hlow⟩ : ∃ low, low = s.extract (k + 1) s.size := ⟨_, rfl⟩
   rw [← htt] at fr hp1
   rw [← hlow] at fr
   rw [← htt]
   have hts : tt.size ≤ 8000000 := by
    rw [htt]; unfold restM; split
    ·rw [ByteArray.size_extract, size_extr _ _ _ hkl]; omega
    ·rw [size_extr _ _ _ hkl]; omega
   simp +contextual (disch := first | (intro _; intros; contradiction) | omega | (simp only [lens]; omega)) only [go_sem, ↓reduceIte, reduceCtorEq, Nat.reduceEqDiff, Nat.reduceLT, Nat.reduceSub, Int.reduceLT, Nat.reduceAdd, Nat.reduceLeDiff, Int.reduceEq, Int.reduceNe, Int.reduceToNat, Tryz.f23, encZ_eq, ew, words, ← hlow]
   obtain ⟨b2, hb2⟩ := ex_bool (MinusB low)
   obtain ⟨ok2, hok2⟩ := ex_bool (PDig (restM low) b2)
   have hlz : low.size ≤ 8000000 := by rw [hlow, size_extr _ _ _ (Nat.le_refl _)]; omega
   have hp2 := wparse_ac low (by omega) b2 hb2 ok2 hok2
   refine .ac hp2 (by simp) ?_
   unfold parseD
   have low_plain : DigOk low → b2 = false ∧ restM low = low := fun h => by
    have hm : ¬ MinusB low := fun hm => by have := h.all 0 hm.1; have := hm.2; omega
    exact ⟨by rw [← Bool.not_eq_true, hb2]; exact hm, by rw [restM, if_neg (show ¬ (0 < low.size ∧ (nthB low 0).toNat = 45) from hm)]⟩
   cases ok2
   ·rw [none_of fun q h => by
     have h3 := ((fr q).1 h).2.2.1
     obtain ⟨c1, c2⟩ := low_plain h3
     have h4 := (digOk_iff.1 h3).1
     have := hok2.2 (by rw [c2, c1]; exact h4)
     cases this]
    simp +contextual (disch := first | (intro _; intros; contradiction) | omega | (simp only [lens]; omega)) only [go_sem, ↓reduceIte, reduceCtorEq, Nat.reduceEqDiff, Nat.reduceLT, Nat.reduceSub, Int.reduceLT, Nat.reduceAdd, Nat.reduceLeDiff, Int.reduceEq, Int.reduceNe, Int.reduceToNat, Tryz.f23]
    refine go_drawn mixed0 (by kernel_rfl) ?_
    simp +contextual (disch := first | (intro _; intros; contradiction) | omega | (simp only [lens]; omega)) only [go_sem, ↓reduceIte, reduceCtorEq, Nat.reduceEqDiff, Nat.reduceLT, Nat.reduceSub, Int.reduceLT, Nat.reduceAdd, Nat.reduceLeDiff, Int.reduceEq, Int.reduceNe, Int.reduceToNat, Tryz.f23]
    exact ⟨by kernel_rfl, _, Lq.two (.agg _ 4 rfl) (.refl _), rfl⟩
   ·have hp2' := hok2.1 rfl
    have hrs : (restM low).size ≤ 8000000 := by
     unfold restM; split
     ·rw [size_extr _ _ _ (Nat.le_refl _)]; omega
     ·exact hlz
    have zb1 := vt_zb hp1.2.2 b hts
    have zb2 := vt_zb hp2'.2.2 b2 hrs
    obtain ⟨z, hz⟩ : ∃ z, z = sv b (vt tt tt.size) := ⟨_, rfl⟩
    obtain ⟨z2, hz2⟩ : ∃ z, z = sv b2 (vt (restM low) (restM low).size) := ⟨_, rfl⟩
    rw [← hz] at zb1 ⊢
    rw [← hz2] at zb2 ⊢
    have cm := cmp_z (x := z2) (y := 1) (Nat.le_trans zb2 (by omega)) (by unfold Zb; exact Nat.le_trans (Wb.len (k := 1) (show (1 : Int).natAbs < _ by decide)) (by omega))
    rw [show encZ 1 = encZ ((1 : Nat) : Int) from rfl, encZ_nat] at cm
    simp only [encZ_eq, ew, words] at cm
    simp +contextual (disch := first | (intro _; intros; contradiction) | omega | (simp only [lens]; omega)) only [go_sem, ↓reduceIte, reduceCtorEq, Nat.reduceEqDiff, Nat.reduceLT, Nat.reduceSub, Int.reduceLT, Nat.reduceAdd, Nat.reduceLeDiff, Int.reduceEq, Int.reduceNe, Int.reduceToNat, Tryz.f23, encZ_eq, ew, words]
    refine go_drawn mixed0 (by kernel_rfl) ?_
    simp +contextual (disch := first | (intro _; intros; contradiction) | omega | (simp only [lens]; omega)) only [go_sem, ↓reduceIte, reduceCtorEq, Nat.reduceEqDiff, Nat.reduceLT, Nat.reduceSub, Int.reduceLT, Nat.reduceAdd, Nat.reduceLeDiff, Int.reduceEq, Int.reduceNe, Int.reduceToNat, Tryz.f23]
    refine ⟨_, one, _, cm, ?_⟩
    simp +contextual (disch := first | (intro _; intros; contradiction) | omega | (simp only [lens]; omega)) only [go_sem, ↓reduceIte, reduceCtorEq, Nat.reduceEqDiff, Nat.reduceLT, Nat.reduceSub, Int.reduceLT, Nat.reduceAdd, Nat.reduceLeDiff, Int.reduceEq, Int.reduceNe, Int.reduceToNat, Tryz.f23]
    refine ⟨by kernel_rfl, ?_⟩
    have hsg : (z2 - 1).sign ≤ 0 ↔ z2 ≤ 1 := by
     rcases Int.lt_trichotomy (z2 - 1) 0 with h | h | h
     ·rw [Int.sign_eq_neg_one_of_neg h]; omega
     ·rw [h]; simp; omega
     ·rw [Int.sign_eq_one_of_pos h]; omega
    rw [hsg]
    refine ⟨fun hc => ?_, fun hc => ?_⟩
    ·rw [none_of fun q h => by
      obtain ⟨_, _, h3, h4, _⟩ := (fr q).1 h
      obtain ⟨c1, c2⟩ := low_plain h3
      rw [c1, c2] at hz2
      unfold sv at hz2
      rw [if_neg (by simp)] at hz2
      omega]
     exact ⟨_, Lq.two (.agg _ 4 rfl) (.refl _), rfl⟩
    ·have hbf : b2 = false := by
      cases b2
      ·rfl
      ·exfalso; unfold sv at hz2; rw [if_pos rfl] at hz2; omega
     have hnm : ¬ MinusB low := by rw [← hb2, hbf]; simp
     have hrl : restM low = low := by rw [restM, if_neg (show ¬ (0 < low.size ∧ (nthB low 0).toNat = 45) from hnm)]
     rw [hrl, hbf] at hp2'
     have hza : z.natAbs = vt tt tt.size := by rw [hz, sv_abs]
     have hz2a : z2.natAbs = vt low low.size := by rw [hz2, sv_abs, hrl]
     have hz2n : decide (z2 < 0) = false := decide_eq_false (by omega)
     have e1 := ndig_p hp1
     have e2 := ndig_p hp2'
     have fr2 : ∀ q, Rd s q ↔ ((ndig z.natAbs ≤ 300 ∧ ndig z2.natAbs ≤ 300) ∧ Nat.gcd z.natAbs z2.natAbs = 1 ∧ q = mkRat z z2.natAbs) := fun q => by
      rw [fr q, digOk_iff, hza, hz2a, e1, e2, hz]
      constructor
      ·rintro ⟨_, a2, ⟨_, a3⟩, _, a5, a6⟩; exact ⟨⟨a2, a3⟩, a5, a6⟩
      ·rintro ⟨⟨a2, a3⟩, a5, a6⟩; exact ⟨hp1, a2, ⟨hp2', a3⟩, by omega, a5, a6⟩
     have sh := short_nd (z := z) (d := z2.natAbs) (Nat.le_trans zb1 (by omega)) (by unfold Zb at zb2 ⊢; rw [Int.natAbs_natCast]; exact Nat.le_trans zb2 (by omega))
     have cg := gcd_z (x := z) (y := z2) zb1 zb2
     obtain ⟨g, hg⟩ : ∃ g, g = Nat.gcd z.natAbs z2.natAbs := ⟨_, rfl⟩
     have c1 := one_z (g : Int)
     rw [← hg] at cg fr2
     simp only [encZ_nat, encZ_eq z, encZ_eq z2, hz2n, ew, words] at sh cg c1
     simp only [hz2n]
     refine go_drawn mixed0 (by kernel_rfl) ?_
     simp +contextual (disch := first | (intro _; intros; contradiction) | omega | (simp only [lens]; omega)) only [go_sem, ↓reduceIte, reduceCtorEq, Nat.reduceEqDiff, Nat.reduceLT, Nat.reduceSub, Int.reduceLT, Nat.reduceAdd, Nat.reduceLeDiff, Int.reduceEq, Int.reduceNe, Int.reduceToNat, Tryz.f23]
     by_cases hsh : ndig z.natAbs ≤ 300 ∧ ndig z2.natAbs ≤ 300
     ·rw [decide_eq_true hsh.1, decide_eq_true hsh.2] at sh
      refine ⟨_, sh, ?_⟩
      simp +contextual (disch := first | (intro _; intros; contradiction) | omega | (simp only [lens]; omega)) only [go_sem, ↓reduceIte, reduceCtorEq, Nat.reduceEqDiff, Nat.reduceLT, Nat.reduceSub, Int.reduceLT, Nat.reduceAdd, Nat.reduceLeDiff, Int.reduceEq, Int.reduceNe, Int.reduceToNat, Tryz.f23, Bool.and_true]
      refine ⟨_, cg, _, c1, ?_⟩
      simp +contextual (disch := first | (intro _; intros; contradiction) | omega | (simp only [lens]; omega)) only [go_sem, ↓reduceIte, reduceCtorEq, Nat.reduceEqDiff, Nat.reduceLT, Nat.reduceSub, Int.reduceLT, Nat.reduceAdd, Nat.reduceLeDiff, Int.reduceEq, Int.reduceNe, Int.reduceToNat, Tryz.f23]
      refine ⟨by kernel_rfl, ?_⟩
      by_cases hg1 : g = 1
      ·rw [show r = some (mkRat z z2.natAbs) from (hr _).2 ((fr2 _).2 ⟨hsh, hg1, rfl⟩)]
       refine ⟨_, .refl _, ?_⟩
       show _ = D.tup [.i (ef (mkRat z z2.natAbs)), .i (.bool true)]
       rw [hz, ef_fin (by omega) (by rw [← hza, ← hg, hg1]), ← hz, ← hza, decide_eq_true (show ((g : Nat) : Int) = 1 by omega)]
       rfl
      ·rw [none_of fun q h => hg1 ((fr2 q).1 h).2.1, decide_eq_false (show ¬ ((g : Nat) : Int) = 1 by omega)]
       exact ⟨_, Lq.two (.agg _ 4 rfl) (.refl _), rfl⟩
     ·have e3 : (decide (ndig z.natAbs ≤ 300) && decide (ndig z2.natAbs ≤ 300)) = false := by
       rw [← Bool.not_eq_true]; simpa using hsh
      rw [e3] at sh
      refine ⟨_, sh, ?_⟩
      simp +contextual (disch := first | (intro _; intros; contradiction) | omega | (simp only [lens]; omega)) only [go_sem, ↓reduceIte, reduceCtorEq, Nat.reduceEqDiff, Nat.reduceLT, Nat.reduceSub, Int.reduceLT, Nat.reduceAdd, Nat.reduceLeDiff, Int.reduceEq, Int.reduceNe, Int.reduceToNat, Tryz.f23]
      rw [none_of fun q h => hsh ((fr2 q).1 h).1]
      exact ⟨by kernel_rfl, _, Lq.two (.agg _ 4 rfl) (.refl _), rfl⟩
 ·have hke : k = s.size := by omega
  have fr := fun q => rd_whole hk hke hb q (tt := restM (s.extract 0 k)) rfl
  rw [hke, extr_all] at hp hb hok fr
  simp only [if_neg hks]
  simp +contextual (disch := first | (intro _; intros; contradiction) | omega | (simp only [lens]; omega)) only [go_sem, ↓reduceIte, reduceCtorEq, Nat.reduceEqDiff, Nat.reduceLT, Nat.reduceSub, Int.reduceLT, Nat.reduceAdd, Nat.reduceLeDiff, Int.reduceEq, Int.reduceNe, Int.reduceToNat, Tryz.f23]
  refine .ac hp (by simp) ?_
  unfold parseD
  cases ok
  ·rw [none_of fun q h => by have := hok.2 ((fr q).1 h).1; cases this]
   simp +contextual (disch := first | (intro _; intros; contradiction) | omega | (simp only [lens]; omega)) only [go_sem, ↓reduceIte, reduceCtorEq, Nat.reduceEqDiff, Nat.reduceLT, Nat.reduceSub, Int.reduceLT, Nat.reduceAdd, Nat.reduceLeDiff, Int.reduceEq, Int.reduceNe, Int.reduceToNat, Tryz.f23]
   exact ⟨_, Lq.two (.agg _ 4 rfl) (.refl _), rfl⟩
  ·have hp1 := hok.1 rfl
   obtain ⟨tt, htt⟩ : ∃ tt, tt = restM s := ⟨_, rfl⟩
   rw [← htt] at fr hp1
   rw [← htt]
   have hts : tt.size ≤ 8000000 := by
    rw [htt]; unfold restM; split
    ·rw [size_extr _ _ _ (Nat.le_refl _)]; omega
    ·exact hs
   have zb1 := vt_zb hp1.2.2 b hts
   obtain ⟨z, hz⟩ : ∃ z, z = sv b (vt tt tt.size) := ⟨_, rfl⟩
   have hza : z.natAbs = vt tt tt.size := by rw [hz, sv_abs]
   rw [← hz] at zb1 ⊢
   have dz := digits_z (z := z) (Nat.le_trans zb1 (by omega))
   simp only [encZ_eq, ew, words] at dz
   simp +contextual (disch := first | (intro _; intros; contradiction) | omega | (simp only [lens]; omega)) only [go_sem, ↓reduceIte, reduceCtorEq, Nat.reduceEqDiff, Nat.reduceLT, Nat.reduceSub, Int.reduceLT, Nat.reduceAdd, Nat.reduceLeDiff, Int.reduceEq, Int.reduceNe, Int.reduceToNat, Tryz.f23, encZ_eq, ew, words]
   refine go_drawn mixed0 (by kernel_rfl) ?_
   simp +contextual (disch := first | (intro _; intros; contradiction) | omega | (simp only [lens]; omega)) only [go_sem, ↓reduceIte, reduceCtorEq, Nat.reduceEqDiff, Nat.reduceLT, Nat.reduceSub, Int.reduceLT, Nat.reduceAdd, Nat.reduceLeDiff, Int.reduceEq, Int.reduceNe, Int.reduceToNat, Tryz.f23]
   refine ⟨_, one, ?_⟩
   simp +contextual (disch := first | (intro _; intros; contradiction) | omega | (simp only [lens]; omega)) only [go_sem, ↓reduceIte, reduceCtorEq, Nat.reduceEqDiff, Nat.reduceLT, Nat.reduceSub, Int.reduceLT, Nat.reduceAdd, Nat.reduceLeDiff, Int.reduceEq, Int.reduceNe, Int.reduceToNat, Tryz.f23]
   refine ⟨_, dz, ?_⟩
   simp +contextual (disch := first | (intro _; intros; contradiction) | omega | (simp only [lens]; omega)) only [go_sem, ↓reduceIte, reduceCtorEq, Nat.reduceEqDiff, Nat.reduceLT, Nat.reduceSub, Int.reduceLT, Nat.reduceAdd, Nat.reduceLeDiff, Int.reduceEq, Int.reduceNe, Int.reduceToNat, Tryz.f23]
   refine ⟨by kernel_rfl, ?_⟩
   by_cases h3 : ndig z.natAbs ≤ 300
   ·rw [show r = some (mkRat (sv b (vt tt tt.size)) 1) from (hr _).2 ((fr _).2 ⟨hp1, by rw [← ndig_p hp1, ← hza]; exact h3, rfl⟩)]
    refine ⟨_, .refl _, ?_⟩
    show _ = D.tup [.i (ef (mkRat (sv b (vt tt tt.size)) 1)), .i (.bool true)]
    rw [ef_fin (by omega) (Nat.gcd_one_right _), ← hz, ← hza, decide_eq_true (show ((ndig z.natAbs : Nat) : Int) ≤ 300 by omega)]
    rfl
   ·rw [none_of fun q h => h3 (by rw [hza, ndig_p hp1]; exact ((fr q).1 h).2.1), decide_eq_false (show ¬ ((ndig z.natAbs : Nat) : Int) ≤ 300 by omega)]
    exact ⟨_, Lq.two (.agg _ 4 rfl) (.refl _), rfl⟩
end Go.Lw
end
section
set_option maxRecDepth 10000
namespace Go.Lw
open Go.Proofs Go.RowKit
theorem letterP_ac (c : Int) (b : Bool) (hb : b = true ↔ Let c) : AC P0 91 [.i (.int .u8 c)] (.i (.bool b)) := by
 have bf : ∀ x : Bool, (x = true ↔ Let c) → x = b := fun x h => by rw [Bool.eq_iff_iff, h, hb]
 refine AC.of_go Tryz.func91 rfl rfl (Nat.le_of_ble_eq_true rfl) ?_
 simp +contextual (disch := first | (intro _; intros; contradiction) | omega | (simp only [lens]; omega)) only [go_sem, ↓reduceIte, reduceCtorEq, Nat.reduceEqDiff, Nat.reduceLT, Nat.reduceSub, Int.reduceLT, Nat.reduceAdd, Nat.reduceLeDiff, Int.reduceEq, Int.reduceNe, Int.reduceToNat, Tryz.f91]
 unfold Let at bf
 refine ⟨fun h => ⟨fun h2 => ?_, fun h2 => ?_⟩, fun h => ⟨fun h2 => ?_, fun h2 => ?_⟩⟩
 ·exact congrArg I.bool (bf _ (by simp only [Bool.false_eq_true, false_iff]; omega))
 ·exact congrArg I.bool (bf _ (by simp only [true_iff]; omega))
 ·exact congrArg I.bool (bf _ (by simp only [decide_eq_true_eq]; omega))
 ·exact congrArg I.bool (bf _ (by simp only [Bool.false_eq_true, false_iff]; omega))
set_option maxHeartbeats 1000000 in
theorem pname_ac (s : ByteArray) (hs : s.size ≤ top) (b : Bool) (hb : b = true ↔ NameOk s) : AC P0 51 [.i (.str s)] (.i (.bool b)) := by
 have bf : ¬ NameOk s → b = false := fun h => by rw [← Bool.not_eq_true, hb]; exact h
 unfold top at hs
 refine AC.of_go Tryz.func51 rfl rfl (Nat.le_of_ble_eq_true rfl) ?_
 simp +contextual (disch := first | (intro _; intros; contradiction) | omega | (simp only [lens]; omega)) only [go_sem, ↓reduceIte, reduceCtorEq, Nat.reduceEqDiff, Nat.reduceLT, Nat.reduceSub, Int.reduceLT, Nat.reduceAdd, Nat.reduceLeDiff, Int.reduceEq, Int.reduceNe, Int.reduceToNat, Tryz.f51]
 refine ⟨fun h1 => ⟨fun h2 => ?_, fun h2 => ?_⟩, fun h1 => ?_⟩
 rotate_left
 ·rw [bf fun h => by have := h.len; omega]
 ·rw [bf fun h => by have := h.pos; rw [h1] at this; exact absurd this (by decide)]
 have h0 : 0 < s.size := by
  rcases Nat.eq_zero_or_pos s.size with e | e
  ·exact absurd (ByteArray.ext (Array.eq_empty_of_size_eq_zero e)) h1
  ·exact e
 refine ⟨h0, ?_⟩
 obtain ⟨b0, hb0⟩ := ex_bool (Let (nthB s 0).toNat)
 refine .ac (letterP_ac _ b0 hb0) (by simp) ?_
 simp +contextual (disch := first | (intro _; intros; contradiction) | omega | (simp only [lens]; omega)) only [go_sem, ↓reduceIte, reduceCtorEq, Nat.reduceEqDiff, Nat.reduceLT, Nat.reduceSub, Int.reduceLT, Nat.reduceAdd, Nat.reduceLeDiff, Int.reduceEq, Int.reduceNe, Int.reduceToNat, Tryz.f51]
 refine ⟨fun h3 => ?_, fun h3 => ?_⟩
 ·rw [bf fun h => by rw [hb0.2 h.first] at h3; cases h3]
 have hf := hb0.1 h3
 refine go_loopI (fun i : Int => ⟨47, [(0, .i (.str s)), (3, .fn 91 []), (21, .i (.int .i64 s.size)), (22, .i (.int .i64 i))], []⟩) (fun i => 0 ≤ i ∧ i ≤ s.size ∧ ∀ k, k < i.toNat → NameC (nthB s k).toNat) (fun i => s.size - i.toNat) 0 ?_ ⟨by omega, by omega, fun k hk => absurd hk (by simp)⟩ ?_
 ·exact tu
 ·rintro K i ⟨g1, g2, g3⟩ hK
  simp +contextual (disch := first | (intro _; intros; contradiction) | omega | (simp only [lens]; omega)) only [go_sem, ↓reduceIte, reduceCtorEq, Nat.reduceEqDiff, Nat.reduceLT, Nat.reduceSub, Int.reduceLT, Nat.reduceAdd, Nat.reduceLeDiff, Int.reduceEq, Int.reduceNe, Int.reduceToNat, Tryz.f51]
  refine ⟨fun h5 => ?_, fun h5 => ?_⟩
  ·obtain ⟨n, hn⟩ : ∃ n : Nat, n = (nthB s i.toNat).toNat := ⟨_, rfl⟩
   have hn8 : n < 256 := by rw [hn]; exact (nthB s i.toNat).toNat_lt
   have next : NameC n → ∀ k, k < (i + 1).toNat → NameC (nthB s k).toNat := fun h k hk => by
    by_cases e : k = i.toNat
    ·subst e; rw [← hn]; exact h
    ·exact g3 k (by omega)
   have stop : ¬ NameC n → b = false := fun h => bf fun h' => h (by rw [hn]; exact h'.all i.toNat (by omega))
   rw [← hn]
   obtain ⟨b1, hb1⟩ := ex_bool (Let (n : Int))
   obtain ⟨b2, hb2⟩ := ex_bool (Go.Kr.Sp (n : Int))
   have cc := Go.Kr.contains_ac n hn8 b2 hb2
   have hw : IntKind.i32.wrap (n : Int) = n := by simp [IntKind.wrap, IntKind.bits, IntKind.signed]; omega
   have nok : Let (n : Int) ∨ (48 ≤ n ∧ n ≤ 57) ∨ Go.Kr.Sp (n : Int) → NameC n := fun h => by
    unfold NameC
    rcases h with h | h | h
    ·exact .inl h
    ·exact .inr (.inl (by omega))
    ·exact .inr (.inr h)
   refine .ac (letterP_ac _ b1 hb1) (by simp) ?_
   simp +contextual (disch := first | (intro _; intros; contradiction) | omega | (simp only [lens]; omega)) only [go_sem, ↓reduceIte, reduceCtorEq, Nat.reduceEqDiff, Nat.reduceLT, Nat.reduceSub, Int.reduceLT, Nat.reduceAdd, Nat.reduceLeDiff, Int.reduceEq, Int.reduceNe, Int.reduceToNat, Tryz.f51]
   refine ⟨fun h6 => ⟨fun h7 => ⟨fun h8 => ?_, fun h8 => ?_⟩, fun h7 => ?_⟩, fun h6 => ?_⟩
   case' refine_1 => have hnd : ¬ (48 ≤ (n : Int) ∧ (n : Int) ≤ 57) := by omega
   case' refine_3 => have hnd : ¬ (48 ≤ (n : Int) ∧ (n : Int) ≤ 57) := by omega
   case refine_2 => exact hK _ (i + 1) ⟨by omega, by omega, next (nok (.inr (.inl (by omega))))⟩ (by omega) tu
   case refine_4 => exact hK _ (i + 1) ⟨by omega, by omega, next (nok (.inl (hb1.1 h6)))⟩ (by omega) tu
   all_goals (
    rw [hw]
    refine .ac cc (by simp) ?_
    simp +contextual (disch := first | (intro _; intros; contradiction) | omega | (simp only [lens]; omega)) only [go_sem, ↓reduceIte, reduceCtorEq, Nat.reduceEqDiff, Nat.reduceLT, Nat.reduceSub, Int.reduceLT, Nat.reduceAdd, Nat.reduceLeDiff, Int.reduceEq, Int.reduceNe, Int.reduceToNat, Tryz.f51]
    refine ⟨fun h9 => ?_, fun h9 => ?_⟩
    ·rw [stop fun h => by
      rcases h with h | h | h
      ·rw [hb1.2 h] at h6; cases h6
      ·exact hnd h
      ·rw [hb2.2 h] at h9; cases h9]
    ·exact hK _ (i + 1) ⟨by omega, by omega, next (nok (.inr (.inr (hb2.1 h9))))⟩ (by omega) tu)
  ·rw [hb.2 ⟨by omega, by omega, hf, fun k hk => g3 k (by omega)⟩]
end Go.Lw
end
section
set_option maxRecDepth 10000
namespace Go.Lw
open Go.Proofs
def frs (c : Nat → Rat) (n : Nat) : List I := (List.range n).map fun k => ef (c k)
theorem frs_len (c : Nat → Rat) (n : Nat) : (frs c n).length = n := by simp [frs]
theorem frs_succ (c : Nat → Rat) (n : Nat) : frs c n ++ [ef (c n)] = frs c (n + 1) := by simp [frs, List.range_succ]
theorem frs_congr {c c' : Nat → Rat} {n : Nat} (h : ∀ k, k < n → c k = c' k) : frs c n = frs c' n := by
 unfold frs
 exact List.map_congr_left fun k hk => by rw [h k (List.mem_range.1 hk)]
inductive SigSpec (name : ByteArray) (l : List ByteArray) : D → Prop
 | form (h : ¬ (NameOk name ∧ ∀ s ∈ l, ∃ q, Rd s q)) : SigSpec name l (.tup [.any, .i (.int .i64 1)])
 | size (h : NameOk name ∧ ∀ s ∈ l, ∃ q, Rd s q) (h8 : 8 < l.length) : SigSpec name l (.tup [.any, .i (.int .i64 2)])
 | ok (c : Nat → Rat) (hn : NameOk name) (hc : ∀ k, k < l.length → Rd (l.getD k ⟨#[]⟩) (c k)) (h8 : l.length ≤ 8) : SigSpec name l (.tup [.i (.sl 73 (frs c l.length)), .i (.int .i64 0)])
def spSt (l : List ByteArray) (c : Nat → Rat) : Nat → St
 | 0 => ⟨36, [(4, .nils), (14, .i (strs l)), (15, .i (.int .i64 l.length)), (16, .i (.int .i64 0))], []⟩
 | n + 1 => ⟨36, [(4, .own 30 n 0 (n + 1)), (14, .i (strs l)), (15, .i (.int .i64 l.length)), (16, .i (.int .i64 ((n + 1 : Nat) : Int)))], [(30, some (.arr 73 n (frs c (n + 1))))]⟩
theorem rd_all {l : List ByteArray} {c : Nat → Rat} (h : ∀ k, k < l.length → Rd (l.getD k ⟨#[]⟩) (c k)) : ∀ s ∈ l, ∃ q, Rd s q := fun s hs => by
 obtain ⟨k, hk, rfl⟩ := List.getElem_of_mem hs
 exact ⟨_, by have := h k hk; rwa [List.getD_eq_getElem?_getD, List.getElem?_eq_getElem hk] at this⟩
set_option maxHeartbeats 1000000 in
theorem sparse_ac (name : ByteArray) (l : List ByteArray) (r : D) (hr : SigSpec name l r) (hl : l.length ≤ 1000) (hs1 : name.size ≤ top) (hs2 : ∀ s ∈ l, s.size ≤ 8000000) : AC P0 22 [.i (sigI name l)] r := by
 obtain ⟨b1, hb1⟩ := ex_bool (NameOk name)
 have a1 := pname_ac name hs1 b1 hb1
 have form : ¬ (NameOk name ∧ ∀ s ∈ l, ∃ q, Rd s q) → r = .tup [.any, .i (.int .i64 1)] := fun h => by
  cases hr with
  | form => rfl
  | size h' => exact absurd h' h
  | ok c hn hc => exact absurd ⟨hn, rd_all hc⟩ h
 refine AC.of_goL Tryz.func22 rfl rfl (Nat.le_of_ble_eq_true rfl) ?_
 simp +contextual (disch := first | (intro _; intros; contradiction) | omega | (simp only [lens]; omega)) only [go_sem, ↓reduceIte, reduceCtorEq, Nat.reduceEqDiff, Nat.reduceLT, Nat.reduceSub, Int.reduceLT, Nat.reduceAdd, Nat.reduceLeDiff, Int.reduceEq, Int.reduceNe, Int.reduceToNat, Tryz.f22, sigI, strs]
 refine .ac a1 (by simp) ?_
 simp +contextual (disch := first | (intro _; intros; contradiction) | omega | (simp only [lens]; omega)) only [go_sem, ↓reduceIte, reduceCtorEq, Nat.reduceEqDiff, Nat.reduceLT, Nat.reduceSub, Int.reduceLT, Nat.reduceAdd, Nat.reduceLeDiff, Int.reduceEq, Int.reduceNe, Int.reduceToNat, Tryz.f22]
 refine ⟨fun h1 => ?_, fun h1 => ?_⟩
 ·rw [form fun h => by rw [hb1.2 h.1] at h1; cases h1]
  exact ⟨_, Lq.two (.any _) (.refl _), rfl⟩
 have hn := hb1.1 h1
 have hex : ∀ k, ∃ x : Rat, (∃ q, Rd (l.getD k ⟨#[]⟩) q) → Rd (l.getD k ⟨#[]⟩) x := fun k => by
  by_cases h : ∃ q, Rd (l.getD k ⟨#[]⟩) q
  ·obtain ⟨q, hq⟩ := h; exact ⟨q, fun _ => hq⟩
  ·exact ⟨0, fun hh => absurd hh h⟩
 obtain ⟨c, hc⟩ := Classical.skolem.1 hex
 refine go_loopI (fun i : Nat => spSt l c i) (fun i => i ≤ l.length ∧ ∀ k, k < i → Rd (l.getD k ⟨#[]⟩) (c k)) (fun i => l.length - i) 0 ?_ ⟨by omega, fun k hk => absurd hk (by omega)⟩ ?_
 ·simp only [spSt, strs]; exact tu
 ·rintro K i ⟨g1, g2⟩ hK
  obtain ⟨rt, hrt⟩ := rd_ex (l.getD i ⟨#[]⟩)
  have hmem : i < l.length → l.getD i ⟨#[]⟩ ∈ l := fun h => getD_mem h
  have hend : ¬ i < l.length → ∀ z : D, z = .tup [.i (.sl 73 (frs c i)), .i (.int .i64 0)] → i ≤ 8 → r = z := fun h z hz h8 => by
   have e : i = l.length := by omega
   subst e
   rw [hz]
   cases hr with
   | form h' => exact absurd ⟨hn, rd_all g2⟩ h'
   | size h' h8' => omega
   | ok c' hn' hc' h8' => rw [frs_congr fun k hk => (hc' k hk).uniq (g2 k hk)]
  have hbig : ¬ i < l.length → 8 < i → r = .tup [.any, .i (.int .i64 2)] := fun h h8 => by
   have e : i = l.length := by omega
   subst e
   cases hr with
   | form h' => exact absurd ⟨hn, rd_all g2⟩ h'
   | size h' h8' => rfl
   | ok c' hn' hc' h8' => omega
  have hfp : i < l.length → AC P0 23 [.i (.str (l.getD i ⟨#[]⟩))] (fpR rt) := fun h => fparse_ac _ (hs2 _ (hmem h)) rt hrt
  have step : ∀ q, rt = some q → q = c i ∧ ∀ k, k < i + 1 → Rd (l.getD k ⟨#[]⟩) (c k) := fun q h => by
   have h1 := (hrt q).1 h
   have h2 := hc i ⟨q, h1⟩
   exact ⟨h1.uniq h2, fun k hk => by
    by_cases e : k = i
    ·subst e; exact h2
    ·exact g2 k (by omega)⟩
  have bad : i < l.length → rt = none → r = .tup [.any, .i (.int .i64 1)] := fun h h1 => form fun h2 => by
   obtain ⟨q, hq⟩ := h2.2 _ (hmem h)
   rw [(hrt q).2 hq] at h1; cases h1
  have next : i < l.length → ∀ q, rt = some q → ∀ s', s'.Tells (spSt l c (i + 1)) → K s' := fun h q hq s' hs' => hK s' (i + 1) ⟨by omega, (step q hq).2⟩ (by omega) hs'
  rcases i with _ | n
  all_goals (
   simp only [spSt, strs]
   simp +contextual (disch := first | (intro _; intros; contradiction) | omega | (simp only [lens]; omega)) only [go_sem, ↓reduceIte, reduceCtorEq, Nat.reduceEqDiff, Nat.reduceLT, Nat.reduceSub, Int.reduceLT, Nat.reduceAdd, Nat.reduceLeDiff, Int.reduceEq, Int.reduceNe, Int.reduceToNat, Tryz.f22, frs_len]
   refine ⟨fun hlt => ?_, fun hge => ?_⟩
   ·refine .ac (hfp (by omega)) (by simp) ?_
    cases rt with
    | none =>
     unfold fpR
     simp +contextual (disch := first | (intro _; intros; contradiction) | omega | (simp only [lens]; omega)) only [go_sem, ↓reduceIte, reduceCtorEq, Nat.reduceEqDiff, Nat.reduceLT, Nat.reduceSub, Int.reduceLT, Nat.reduceAdd, Nat.reduceLeDiff, Int.reduceEq, Int.reduceNe, Int.reduceToNat, Tryz.f22, frs_len]
     rw [bad (by omega) rfl]
     exact ⟨_, Lq.two (.any _) (.refl _), rfl⟩
    | some q =>
     obtain ⟨hq, hall⟩ := step q rfl
     unfold fpR
     rw [hq]
     simp +contextual (disch := first | (intro _; intros; contradiction) | omega | (simp only [lens]; omega)) only [go_sem, ↓reduceIte, reduceCtorEq, Nat.reduceEqDiff, Nat.reduceLT, Nat.reduceSub, Int.reduceLT, Nat.reduceAdd, Nat.reduceLeDiff, Int.reduceEq, Int.reduceNe, Int.reduceToNat, Tryz.f22, frs_len, ef, ew, words]
     refine next (by omega) q rfl _ ?_
     simp only [spSt, strs]
     first
      | (rw [← frs_succ c (n + 1)]; simp only [ef, ew, words]; exact tu)
      | (rw [← frs_succ c 0, show frs c 0 = [] from rfl, List.nil_append]; simp only [ef, ew, words]; exact tu)
   ·first
     | (refine ⟨fun h8 => ?_, fun h8 => ?_⟩
        ·rw [hbig (by omega) (by omega)]; exact ⟨_, Lq.two (.any _) (.refl _), rfl⟩
        ·rw [List.take_of_length_le (Nat.le_of_eq (frs_len c _)), hend (by omega) _ rfl (by omega)]; exact ⟨_, .refl _, rfl⟩)
     | (rw [hend (by omega) _ rfl (by omega), show frs c 0 = [] from rfl]; exact ⟨_, Lq.two (.i _ _ (.sl0 _ _)) (.refl _), rfl⟩))
end Go.Lw
end
section
set_option maxRecDepth 10000
namespace Go.Lw
open Go.Proofs
def fc (q : Rat) : List D := [.i (.bool (decide (q.num < 0))), .i (.sl 170 ((wd q.num.natAbs).map word)), .i (.bool false), .i (.sl 170 ((wd q.den).map word))]
theorem nth_frs (c : Nat → Rat) (n k : Nat) (h : k < n) : nth (frs c n) k = ef (c k) := by
 unfold nth frs
 rw [List.getD_eq_getElem?_getD, List.getElem?_map, List.getElem?_range h]; rfl
theorem sumQ_hd (f : Nat → Rat) (t : Rat) (n : Nat) (k : Int) (o : Int) (h0 : 0 ≤ o) (h1 : o ≤ k) (h2 : k < n) : sumQ f t k.toNat (n - k.toNat) = sumQ f t (k + 1).toNat (n - (k + 1).toNat) * t + f k.toNat := by
 rw [show n - k.toNat = (n - (k.toNat + 1)) + 1 by omega, sumQ, show (k + 1).toNat = k.toNat + 1 by omega]
set_option maxHeartbeats 1000000 in
theorem at_ac (n : Nat) (hn : n ≤ 8) (c : Nat → Rat) (hc : ∀ k, k < n → Qb 75 (c k)) (ord : Nat) (ho : ord ≤ 6) (t : Rat) (ht : Qb 75 t) :
  AC P0 24 [.i (.sl 73 (frs c n)), .i (.int .i64 ord), .i (ef t)] (.i (ef (sumQ (fun k => fallQ (c k) k ord) t ord (n - ord)))) := by
 have h0 := fof_ac (n := 0) (by omega) (by omega)
 simp only [ef, ew, words] at h0
 obtain ⟨f, hf⟩ : ∃ f : Nat → Rat, f = fun k => fallQ (c k) (k : Int) ord := ⟨_, rfl⟩
 rw [← hf]
 have fb : ∀ k, k < n → Qb 81 (f k) := fun k hk => by rw [hf]; exact (fallQ_b (hc k hk) (by omega) ord (by omega)).mono (by omega)
 refine AC.of_go Tryz.func24 rfl rfl (Nat.le_of_ble_eq_true rfl) ?_
 simp +contextual (disch := first | (intro _; intros; contradiction) | omega | (simp only [lens]; omega)) only [go_sem, ↓reduceIte, reduceCtorEq, Nat.reduceEqDiff, Nat.reduceLT, Nat.reduceSub, Int.reduceLT, Nat.reduceAdd, Nat.reduceLeDiff, Int.reduceEq, Int.reduceNe, Int.reduceToNat, Tryz.f24, ef, ew, words, frs_len]
 refine .ac h0 (by simp) ?_
 simp +contextual (disch := first | (intro _; intros; contradiction) | omega | (simp only [lens]; omega)) only [go_sem, ↓reduceIte, reduceCtorEq, Nat.reduceEqDiff, Nat.reduceLT, Nat.reduceSub, Int.reduceLT, Nat.reduceAdd, Nat.reduceLeDiff, Int.reduceEq, Int.reduceNe, Int.reduceToNat, Tryz.f24, ef, ew, words, frs_len]
 refine go_loopI (fun p : Int × Rat => ⟨41, [(0, .i (.sl 73 (frs c n))), (1, .i (.int .i64 ord)), (5, .loc 5 0), (6, .loc 6 0), (7, .loc 7 0), (8, .i (.int .i64 p.1))],
   [(5, some (.var 73 (fc t))), (6, some (.var 73 [.kb false, .nils, .kb false, .nils])), (7, some (.var 73 (fc p.2)))]⟩)
  (fun p => -1 ≤ p.1 ∧ p.1 < n ∧ ((ord : Int) ≤ p.1 + 1 ∨ p.1 = n - 1) ∧ p.2 = sumQ f t (p.1 + 1).toNat (n - (p.1 + 1).toNat) ∧ Qb (1 + 200 * (n - (p.1 + 1).toNat)) p.2) (fun p => (p.1 + 1).toNat) ((n : Int) - 1, ((0 : Int) : Rat)) ?_ ?_ ?_
 ·simp only [fc]; exact tu
 ·refine ⟨by simp only; omega, by simp only; omega, .inr rfl, ?_, ?_⟩
  ·simp only; rw [show n - ((n : Int) - 1 + 1).toNat = 0 by omega, sumQ, Rat.intCast_zero]
  ·simp only; rw [show n - ((n : Int) - 1 + 1).toNat = 0 by omega]; exact Qb.int (by omega)
 ·rintro K ⟨p, out⟩ ⟨g1, g2, g3, g4, g5⟩ hK
  simp only at g1 g2 g3 g4 g5
  by_cases hp : (ord : Int) ≤ p
  ·have hnth := nth_frs c n p.toNat (by omega)
   simp only [ef, ew, words] at hnth
   simp +contextual (disch := first | (intro _; intros; contradiction) | omega | (simp only [lens]; omega)) only [go_sem, ↓reduceIte, reduceCtorEq, Nat.reduceEqDiff, Nat.reduceLT, Nat.reduceSub, Int.reduceLT, Nat.reduceAdd, Nat.reduceLeDiff, Int.reduceEq, Int.reduceNe, Int.reduceToNat, Tryz.f24, fc, frs_len, hnth]
   have fb1 : ∀ k, k ≤ 6 → Qb 81 (fallQ (c p.toNat) p k) := fun k hk => (fallQ_b (hc p.toNat (by omega)) (by omega) k (by omega)).mono (by omega)
   refine go_loopI (fun k : Nat => ⟨41, [(0, .i (.sl 73 (frs c n))), (1, .i (.int .i64 ord)), (5, .loc 5 0), (6, .loc 6 0), (7, .loc 7 0), (8, .i (.int .i64 p)), (9, .loc 9 0), (24, .i (.int .i64 ord)), (25, .i (.int .i64 k))],
     [(5, some (.var 73 (fc t))), (6, some (.var 73 [.kb false, .nils, .kb false, .nils])), (7, some (.var 73 (fc out))), (9, some (.var 73 (fc (fallQ (c p.toNat) p k))))]⟩)
    (fun k => k ≤ ord) (fun k => ord - k) 0 ?_ (by omega) ?_
   ·rw [show fallQ (c p.toNat) p 0 = c p.toNat from rfl]; simp only [fc]; exact tu
   ·rintro K2 k g6 hK2
    have hk := fb1 k (by omega)
    have hq := fof_ac (n := p - k) (by omega) (by omega)
    have hqb : Qb 1 (((p - k : Int)) : Rat) := Qb.int (by omega)
    have htm := fmul_ac (hk.mono (by omega)) (hqb.mono (by omega : 1 ≤ 400000))
    have e1 : fallQ (c p.toNat) p k * ((p - k : Int) : Rat) = fallQ (c p.toNat) p (k + 1) := rfl
    rw [e1] at htm
    simp only [ef, ew, words] at htm hq
    simp +contextual (disch := first | (intro _; intros; contradiction) | omega | (simp only [lens]; omega)) only [go_sem, ↓reduceIte, reduceCtorEq, Nat.reduceEqDiff, Nat.reduceLT, Nat.reduceSub, Int.reduceLT, Nat.reduceAdd, Nat.reduceLeDiff, Int.reduceEq, Int.reduceNe, Int.reduceToNat, Tryz.f24, fc]
    refine ⟨fun h => ?_, fun h => ?_⟩
    ·refine go_drawn mixed0 (by kernel_rfl) ?_
     simp +contextual (disch := first | (intro _; intros; contradiction) | omega | (simp only [lens]; omega)) only [go_sem, ↓reduceIte, reduceCtorEq, Nat.reduceEqDiff, Nat.reduceLT, Nat.reduceSub, Int.reduceLT, Nat.reduceAdd, Nat.reduceLeDiff, Int.reduceEq, Int.reduceNe, Int.reduceToNat, Tryz.f24, fc]
     refine ⟨_, hq, _, htm, ?_⟩
     simp +contextual (disch := first | (intro _; intros; contradiction) | omega | (simp only [lens]; omega)) only [go_sem, ↓reduceIte, reduceCtorEq, Nat.reduceEqDiff, Nat.reduceLT, Nat.reduceSub, Int.reduceLT, Nat.reduceAdd, Nat.reduceLeDiff, Int.reduceEq, Int.reduceNe, Int.reduceToNat, Tryz.f24, fc]
     refine ⟨by kernel_rfl, ?_⟩
     refine hK2 _ (k + 1) (by omega) (by omega) ?_
     simp only [fc, show ((k + 1 : Nat) : Int) = (k : Int) + 1 by omega]; exact tu
    ·have hko : k = ord := by omega
     subst hko
     have ef0 : fallQ (c p.toNat) p k = f p.toNat := by rw [hf]; simp only; rw [show ((p.toNat : Nat) : Int) = p by omega]
     rw [ef0] at hk ⊢
     have hm := fmul_ac (g5.mono (by omega : _ ≤ 400000)) (ht.mono (by omega : 75 ≤ 400000))
     have hmb := g5.mul ht
     have hpl := fadd_ac (hmb.mono (by omega : _ ≤ 400000)) (hk.mono (by omega : 81 ≤ 400000))
     have hplb := hmb.add hk
     have hs := sumQ_hd f t n p k (by omega) hp g2
     rw [← g4] at hs
     rw [← hs] at hpl hplb
     simp only [ef, ew, words] at hm hpl
     refine go_drawn mixed0 (by kernel_rfl) ?_
     simp +contextual (disch := first | (intro _; intros; contradiction) | omega | (simp only [lens]; omega)) only [go_sem, ↓reduceIte, reduceCtorEq, Nat.reduceEqDiff, Nat.reduceLT, Nat.reduceSub, Int.reduceLT, Nat.reduceAdd, Nat.reduceLeDiff, Int.reduceEq, Int.reduceNe, Int.reduceToNat, Tryz.f24, fc]
     refine ⟨_, hm, _, hpl, ?_⟩
     simp +contextual (disch := first | (intro _; intros; contradiction) | omega | (simp only [lens]; omega)) only [go_sem, ↓reduceIte, reduceCtorEq, Nat.reduceEqDiff, Nat.reduceLT, Nat.reduceSub, Int.reduceLT, Nat.reduceAdd, Nat.reduceLeDiff, Int.reduceEq, Int.reduceNe, Int.reduceToNat, Tryz.f24, fc]
     refine ⟨by kernel_rfl, ?_⟩
     refine hK _ (p - 1, sumQ f t p.toNat (n - p.toNat)) ⟨by simp only; omega, by simp only; omega, .inl (by simp only; omega), ?_, ?_⟩ (by simp only; omega) ?_
     ·simp only; rw [show p - 1 + 1 = p by omega]
     ·simp only; rw [show p - 1 + 1 = p by omega]; exact hplb.mono (by omega)
     ·simp only [fc]; exact tu
  ·simp +contextual (disch := first | (intro _; intros; contradiction) | omega | (simp only [lens]; omega)) only [go_sem, ↓reduceIte, reduceCtorEq, Nat.reduceEqDiff, Nat.reduceLT, Nat.reduceSub, Int.reduceLT, Nat.reduceAdd, Nat.reduceLeDiff, Int.reduceEq, Int.reduceNe, Int.reduceToNat, Tryz.f24, fc, frs_len]
   have : out = sumQ f t ord (n - ord) := by
    rw [g4]
    rcases g3 with h | h
    ·rw [show (p + 1).toNat = ord by omega]
    ·rw [show n - (p + 1).toNat = 0 by omega, show n - ord = 0 by omega]; rfl
   rw [this]
end Go.Lw
end
section
set_option maxRecDepth 10000
namespace Go.Lw
open Go.Proofs
theorem strs_ex (l : List ByteArray) : ∃ c : Nat → Rat, ∀ k, (∃ q, Rd (l.getD k ⟨#[]⟩) q) → Rd (l.getD k ⟨#[]⟩) (c k) := by
 have hex : ∀ k, ∃ x : Rat, (∃ q, Rd (l.getD k ⟨#[]⟩) q) → Rd (l.getD k ⟨#[]⟩) x := fun k => by
  by_cases h : ∃ q, Rd (l.getD k ⟨#[]⟩) q
  ·obtain ⟨q, hq⟩ := h; exact ⟨q, fun _ => hq⟩
  ·exact ⟨0, fun hh => absurd hh h⟩
 exact Classical.skolem.1 hex
theorem ValSpec.form' {name : ByteArray} {l : List ByteArray} {ord : Int} {time : ByteArray} {r : D} (hr : ValSpec name l ord time r) (h : ¬ (NameOk name ∧ (∀ s ∈ l, ∃ q, Rd s q) ∧ ∃ q, Rd time q)) : r = errD 1 := by
 cases hr with
 | form => rfl
 | size h' => exact absurd h' h
 | arg h' => exact absurd h' h
 | val hn c t hc ht => exact absurd ⟨hn, rd_all hc, t, ht⟩ h
 | big hn c t hc ht => exact absurd ⟨hn, rd_all hc, t, ht⟩ h
theorem ValSpec.size' {name : ByteArray} {l : List ByteArray} {ord : Int} {time : ByteArray} {r : D} (hr : ValSpec name l ord time r) (h : NameOk name ∧ (∀ s ∈ l, ∃ q, Rd s q) ∧ ∃ q, Rd time q) (h8 : 8 < l.length) : r = errD 2 := by
 cases hr with
 | form h' => exact absurd h h'
 | size h' => rfl
 | arg h' h8' => omega
 | val hn c t hc ht h8' => omega
 | big hn c t hc ht h8' => rfl
theorem ValSpec.arg' {name : ByteArray} {l : List ByteArray} {ord : Int} {time : ByteArray} {r : D} (hr : ValSpec name l ord time r) (h : NameOk name ∧ (∀ s ∈ l, ∃ q, Rd s q) ∧ ∃ q, Rd time q) (h8 : l.length ≤ 8) (ho : ord < 0 ∨ 6 < ord) : r = errD 3 := by
 cases hr with
 | form h' => exact absurd h h'
 | size h' h8' => omega
 | arg h' h8' => rfl
 | val hn c t hc ht h8' => omega
 | big hn c t hc ht h8' => omega
theorem ValSpec.val' {name : ByteArray} {l : List ByteArray} {ord : Int} {time : ByteArray} {r : D} (hr : ValSpec name l ord time r) {c : Nat → Rat} {t : Rat} (hn : NameOk name) (hc : ∀ k, k < l.length → Rd (l.getD k ⟨#[]⟩) (c k)) (ht : Rd time t) (h8 : l.length ≤ 8) (h0 : 0 ≤ ord) (h6 : ord ≤ 6)
  {v : Rat} (hv : v = sumQ (fun k => fallQ (c k) k ord.toNat) t ord.toNat (l.length - ord.toNat)) : r = if ndig v.num.natAbs ≤ 300 ∧ ndig v.den ≤ 300 then .tup [.i (.str (wtxt v)), .i (.int .i64 0)] else errD 2 := by
 have key : ∀ (c' : Nat → Rat) (t' v' : Rat), (∀ k, k < l.length → Rd (l.getD k ⟨#[]⟩) (c' k)) → Rd time t' → v' = sumQ (fun k => fallQ (c' k) k ord.toNat) t' ord.toNat (l.length - ord.toNat) → v' = v := fun c' t' v' h1 h2 h3 => by
  rw [h3, hv, h2.uniq ht]
  have : ∀ n k, k + n ≤ l.length → sumQ (fun k => fallQ (c' k) k ord.toNat) t k n = sumQ (fun k => fallQ (c k) k ord.toNat) t k n := fun n => by
   induction n with
   | zero => intro k _; rfl
   | succ n ih => intro k hk; rw [sumQ, sumQ, ih (k + 1) (by omega), (h1 k (by omega)).uniq (hc k (by omega))]
  rcases Nat.lt_or_ge l.length ord.toNat with h | h
  ·rw [show l.length - ord.toNat = 0 by omega]; rfl
  ·exact this _ _ (by omega)
 cases hr with
 | form h' => exact absurd ⟨hn, rd_all hc, t, ht⟩ h'
 | size h' h8' => omega
 | arg h' h8' ho => omega
 | val hn c' t' hc' ht' h8' h0' h6' v' hv' hf => rw [key c' t' v' hc' ht' hv'] at hf ⊢; rw [if_pos hf]
 | big hn c' t' hc' ht' h8' h0' h6' v' hv' hf => rw [key c' t' v' hc' ht' hv'] at hf; rw [if_neg hf]
set_option maxHeartbeats 1000000 in
theorem value_ac (name : ByteArray) (l : List ByteArray) (ord : Int) (time : ByteArray) (r : D) (hr : ValSpec name l ord time r) (hl : l.length ≤ 1000) (hs1 : name.size ≤ top) (hs2 : ∀ s ∈ l, s.size ≤ 8000000) (hs3 : time.size ≤ 8000000) :
  AC P0 6 [.i (sigI name l), .i (.int .i64 ord), .i (.str time)] r := by
 obtain ⟨rt, hrt⟩ := rd_ex time
 have afp := fparse_ac time hs3 rt hrt
 obtain ⟨c, hc⟩ := strs_ex l
 refine AC.of_go Tryz.func6 rfl rfl (Nat.le_of_ble_eq_true rfl) ?_
 simp +contextual (disch := first | (intro _; intros; contradiction) | omega | (simp only [lens]; omega)) only [go_sem, ↓reduceIte, reduceCtorEq, Nat.reduceEqDiff, Nat.reduceLT, Nat.reduceSub, Int.reduceLT, Nat.reduceAdd, Nat.reduceLeDiff, Int.reduceEq, Int.reduceNe, Int.reduceToNat, Tryz.f6, sigI, strs]
 by_cases h1 : NameOk name ∧ ∀ s ∈ l, ∃ q, Rd s q
 ·have hc1 : ∀ k, k < l.length → Rd (l.getD k ⟨#[]⟩) (c k) := fun k hk => hc k (h1.2 _ (getD_mem hk))
  by_cases h8 : l.length ≤ 8
  ·have sp := sparse_ac name l _ (.ok c h1.1 hc1 h8) hl hs1 hs2
   simp only [sigI, strs] at sp
   refine .ac sp (by simp) ?_
   simp +contextual (disch := first | (intro _; intros; contradiction) | omega | (simp only [lens]; omega)) only [go_sem, ↓reduceIte, reduceCtorEq, Nat.reduceEqDiff, Nat.reduceLT, Nat.reduceSub, Int.reduceLT, Nat.reduceAdd, Nat.reduceLeDiff, Int.reduceEq, Int.reduceNe, Int.reduceToNat, Tryz.f6]
   refine .ac afp (by simp) ?_
   cases rt with
   | none =>
    rw [hr.form' fun h => by obtain ⟨q, hq⟩ := h.2.2; have := (hrt q).2 hq; cases this]
    unfold fpR
    simp +contextual (disch := first | (intro _; intros; contradiction) | omega | (simp only [lens]; omega)) only [go_sem, ↓reduceIte, reduceCtorEq, Nat.reduceEqDiff, Nat.reduceLT, Nat.reduceSub, Int.reduceLT, Nat.reduceAdd, Nat.reduceLeDiff, Int.reduceEq, Int.reduceNe, Int.reduceToNat, Tryz.f6]
    rfl
   | some t =>
    have ht := (hrt t).1 rfl
    have hok : NameOk name ∧ (∀ s ∈ l, ∃ q, Rd s q) ∧ ∃ q, Rd time q := ⟨h1.1, h1.2, t, ht⟩
    unfold fpR
    simp +contextual (disch := first | (intro _; intros; contradiction) | omega | (simp only [lens]; omega)) only [go_sem, ↓reduceIte, reduceCtorEq, Nat.reduceEqDiff, Nat.reduceLT, Nat.reduceSub, Int.reduceLT, Nat.reduceAdd, Nat.reduceLeDiff, Int.reduceEq, Int.reduceNe, Int.reduceToNat, Tryz.f6, ef, ew, words]
    refine ⟨fun h2 => ⟨fun h3 => ?_, fun h3 => ?_⟩, fun h2 => ?_⟩
    ·rw [hr.arg' hok h8 (.inr h3)]; rfl
    ·obtain ⟨v, hv⟩ : ∃ v, v = sumQ (fun k => fallQ (c k) k ord.toNat) t ord.toNat (l.length - ord.toNat) := ⟨_, rfl⟩
     have hrv := hr.val' h1.1 hc1 ht h8 (by omega) (by omega) hv
     have hat := at_ac l.length h8 c (fun k hk => (hc1 k hk).b) ord.toNat (by omega) t ht.b
     rw [show ((ord.toNat : Nat) : Int) = ord by omega, ← hv] at hat
     have hvb : Qb 100000000 v := by
      rw [hv]
      exact (sumQ_b ht.b _ _ fun j h1 h2 => (fallQ_b (hc1 j (by omega)).b (by omega) ord.toNat (by omega)).mono (by omega)).mono (by omega)
     have hsh := short_q (hvb.mono (by omega : _ ≤ 1000000000))
     have hst := fstring_q hvb
     simp only [ef, ew, words] at hat hsh hst
     refine .ac hat (by simp) ?_
     simp +contextual (disch := first | (intro _; intros; contradiction) | omega | (simp only [lens]; omega)) only [go_sem, ↓reduceIte, reduceCtorEq, Nat.reduceEqDiff, Nat.reduceLT, Nat.reduceSub, Int.reduceLT, Nat.reduceAdd, Nat.reduceLeDiff, Int.reduceEq, Int.reduceNe, Int.reduceToNat, Tryz.f6]
     rw [hrv]
     by_cases hf : ndig v.num.natAbs ≤ 300 ∧ ndig v.den ≤ 300
     ·rw [if_pos hf]
      rw [decide_eq_true hf.1, decide_eq_true hf.2] at hsh
      refine .ac hsh (by simp) ?_
      simp +contextual (disch := first | (intro _; intros; contradiction) | omega | (simp only [lens]; omega)) only [go_sem, ↓reduceIte, reduceCtorEq, Nat.reduceEqDiff, Nat.reduceLT, Nat.reduceSub, Int.reduceLT, Nat.reduceAdd, Nat.reduceLeDiff, Int.reduceEq, Int.reduceNe, Int.reduceToNat, Tryz.f6, Bool.and_true]
      refine .ac hst (by simp) ?_
      simp +contextual (disch := first | (intro _; intros; contradiction) | omega | (simp only [lens]; omega)) only [go_sem, ↓reduceIte, reduceCtorEq, Nat.reduceEqDiff, Nat.reduceLT, Nat.reduceSub, Int.reduceLT, Nat.reduceAdd, Nat.reduceLeDiff, Int.reduceEq, Int.reduceNe, Int.reduceToNat, Tryz.f6]
     ·rw [if_neg hf]
      have e3 : (decide (ndig v.num.natAbs ≤ 300) && decide (ndig v.den ≤ 300)) = false := by
       rw [← Bool.not_eq_true]; simpa using hf
      rw [e3] at hsh
      refine .ac hsh (by simp) ?_
      simp +contextual (disch := first | (intro _; intros; contradiction) | omega | (simp only [lens]; omega)) only [go_sem, ↓reduceIte, reduceCtorEq, Nat.reduceEqDiff, Nat.reduceLT, Nat.reduceSub, Int.reduceLT, Nat.reduceAdd, Nat.reduceLeDiff, Int.reduceEq, Int.reduceNe, Int.reduceToNat, Tryz.f6]
      rfl
    ·rw [hr.arg' hok h8 (.inl h2)]; rfl
  ·have sp := sparse_ac name l _ (.size h1 (by omega)) hl hs1 hs2
   simp only [sigI, strs] at sp
   refine .ac sp (by simp) ?_
   simp +contextual (disch := first | (intro _; intros; contradiction) | omega | (simp only [lens]; omega)) only [go_sem, ↓reduceIte, reduceCtorEq, Nat.reduceEqDiff, Nat.reduceLT, Nat.reduceSub, Int.reduceLT, Nat.reduceAdd, Nat.reduceLeDiff, Int.reduceEq, Int.reduceNe, Int.reduceToNat, Tryz.f6]
   refine .ac afp (by simp) ?_
   cases rt with
   | none =>
    rw [hr.form' fun h => by obtain ⟨q, hq⟩ := h.2.2; have := (hrt q).2 hq; cases this]
    unfold fpR
    simp +contextual (disch := first | (intro _; intros; contradiction) | omega | (simp only [lens]; omega)) only [go_sem, ↓reduceIte, reduceCtorEq, Nat.reduceEqDiff, Nat.reduceLT, Nat.reduceSub, Int.reduceLT, Nat.reduceAdd, Nat.reduceLeDiff, Int.reduceEq, Int.reduceNe, Int.reduceToNat, Tryz.f6]
    rfl
   | some t =>
    rw [hr.size' ⟨h1.1, h1.2, t, (hrt t).1 rfl⟩ (by omega)]
    unfold fpR
    simp +contextual (disch := first | (intro _; intros; contradiction) | omega | (simp only [lens]; omega)) only [go_sem, ↓reduceIte, reduceCtorEq, Nat.reduceEqDiff, Nat.reduceLT, Nat.reduceSub, Int.reduceLT, Nat.reduceAdd, Nat.reduceLeDiff, Int.reduceEq, Int.reduceNe, Int.reduceToNat, Tryz.f6, ef, ew, words]
    rfl
 ·have sp := sparse_ac name l _ (.form h1) hl hs1 hs2
  simp only [sigI, strs] at sp
  rw [hr.form' fun h => h1 ⟨h.1, h.2.1⟩]
  refine .ac sp (by simp) ?_
  simp +contextual (disch := first | (intro _; intros; contradiction) | omega | (simp only [lens]; omega)) only [go_sem, ↓reduceIte, reduceCtorEq, Nat.reduceEqDiff, Nat.reduceLT, Nat.reduceSub, Int.reduceLT, Nat.reduceAdd, Nat.reduceLeDiff, Int.reduceEq, Int.reduceNe, Int.reduceToNat, Tryz.f6]
  refine .ac afp (by simp) ?_
  cases rt with
  | none =>
   unfold fpR
   simp +contextual (disch := first | (intro _; intros; contradiction) | omega | (simp only [lens]; omega)) only [go_sem, ↓reduceIte, reduceCtorEq, Nat.reduceEqDiff, Nat.reduceLT, Nat.reduceSub, Int.reduceLT, Nat.reduceAdd, Nat.reduceLeDiff, Int.reduceEq, Int.reduceNe, Int.reduceToNat, Tryz.f6]
   rfl
  | some t =>
   unfold fpR
   simp +contextual (disch := first | (intro _; intros; contradiction) | omega | (simp only [lens]; omega)) only [go_sem, ↓reduceIte, reduceCtorEq, Nat.reduceEqDiff, Nat.reduceLT, Nat.reduceSub, Int.reduceLT, Nat.reduceAdd, Nat.reduceLeDiff, Int.reduceEq, Int.reduceNe, Int.reduceToNat, Tryz.f6, ef, ew, words]
   rfl
theorem ValSpec.ex (name : ByteArray) (l : List ByteArray) (ord : Int) (time : ByteArray) : ∃ r, ValSpec name l ord time r := by
 by_cases h : NameOk name ∧ (∀ s ∈ l, ∃ q, Rd s q) ∧ ∃ q, Rd time q
 ·by_cases h8 : 8 < l.length
  ·exact ⟨_, .size h h8⟩
  ·by_cases ho : ord < 0 ∨ 6 < ord
   ·exact ⟨_, .arg h (by omega) ho⟩
   ·obtain ⟨c, hc⟩ := strs_ex l
    obtain ⟨t, ht⟩ := h.2.2
    have hc1 : ∀ k, k < l.length → Rd (l.getD k ⟨#[]⟩) (c k) := fun k hk => hc k (h.2.1 _ (getD_mem hk))
    by_cases hf : ndig (sumQ (fun k => fallQ (c k) k ord.toNat) t ord.toNat (l.length - ord.toNat)).num.natAbs ≤ 300 ∧ ndig (sumQ (fun k => fallQ (c k) k ord.toNat) t ord.toNat (l.length - ord.toNat)).den ≤ 300
    ·exact ⟨_, .val h.1 c t hc1 ht (by omega) (by omega) (by omega) _ rfl hf⟩
    ·exact ⟨_, .big h.1 c t hc1 ht (by omega) (by omega) (by omega) _ rfl hf⟩
 ·exact ⟨_, .form h⟩
end Go.Lw
end
