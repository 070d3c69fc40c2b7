/-
A part of the proof that the statement InitialValues holds of the given program (second form, tied card): the library calls.
-/
import Derived.Test.YtleopflmnmfaeaaGreatDoorPF3
set_option autoImplicit false
set_option linter.unusedSimpArgs false
set_option linter.unusedVariables false
set_option linter.unnecessarySimpa false
section
set_option maxRecDepth 10000
namespace Go.Lw
open Go.Proofs Go.RowKit
theorem AC.of_calls {f : FuncId} {args : List D} {r : D} (vs0 : List Value) (ha : ∀ (g : G) (vs : List Value), Z (VD P0 g) args vs → vs = vs0)
  (h : ∀ w : World, Calls P0 f vs0.toArray w fun e w' => ∃ v, e = .returned v ∧ (∀ g : G, VD P0 g r v) ∧ Below w.heap.size w w') : AC P0 f args r := by
 intro g vs hlt hF zz
 rw [ha g vs zz]
 refine Calls.mono (h g.w) fun e w' ⟨v, he, hv, hB⟩ => ⟨v, he, hv _, hB.size, hB.os, hB.tape, hB.output, fun b hb => hB.block b hb⟩
theorem args_ss (g : G) (s t : ByteArray) (vs : List Value) (h : Z (VD P0 g) [.i (.str s), .i (.str t)] vs) : vs = [.string s, .string t] := by
 match vs, h.len with
 | [a, b], _ =>
  have h0 := h.at_ 0 _ a rfl rfl
  have h1 := h.at_ 1 _ b rfl rfl
  cases h0 with | i _ _ h0 => cases h0; cases h1 with | i _ _ h1 => cases h1; rfl
theorem dropAll (p : UInt8 → Bool) (l : List UInt8) (h : ∀ x ∈ l.dropWhile p, p x = true) : l.dropWhile p = [] := by
 induction l with
 | nil => rfl
 | cons a t ih =>
  rw [List.dropWhile_cons] at h ⊢
  by_cases ha : p a = true
  ·rw [if_pos ha] at h ⊢; exact ih h
  ·rw [if_neg ha] at h; exact absurd (h a (by simp)) ha
theorem dropNil (p : UInt8 → Bool) (l : List UInt8) : l.dropWhile p = [] ↔ ∀ x ∈ l, p x = true := by
 induction l with
 | nil => simp
 | cons a t ih =>
  rw [List.dropWhile_cons]
  by_cases ha : p a = true
  ·rw [if_pos ha, ih]; simp [ha]
  ·rw [if_neg ha]; simp [ha]
theorem trimS_nil (l cs : List UInt8) : Lib.trimS l cs = [] ↔ ∀ x ∈ l, cs.contains x = true := by
 unfold Lib.trimS Lib.trimLeftS Lib.trimRightS
 rw [dropNil]
 constructor
 ·intro h
  have := dropAll (cs.contains ·) l.reverse fun x hx => h x (by simpa using hx)
  rw [dropNil] at this
  exact fun x hx => this x (by simpa using hx)
 ·intro h
  have : l.reverse.dropWhile (cs.contains ·) = [] := (dropNil _ _).2 fun x hx => h x (by simpa using hx)
  rw [this]; simp
theorem trimS_len (l cs : List UInt8) : (Lib.trimS l cs).length ≤ l.length := by
 unfold Lib.trimS Lib.trimLeftS Lib.trimRightS
 have h1 := (List.dropWhile_sublist (cs.contains ·) (l := (l.reverse.dropWhile (cs.contains ·)).reverse)).length_le
 have h2 := (List.dropWhile_sublist (cs.contains ·) (l := l.reverse)).length_le
 simp only [List.length_reverse] at h1 h2
 omega
theorem digs10_mem (x : UInt8) : digs10.data.toList.contains x = true ↔ 48 ≤ x.toNat ∧ x.toNat ≤ 57 := by
 constructor
 ·intro h
  simp at h
  rcases h with rfl | rfl | rfl | rfl | rfl | rfl | rfl | rfl | rfl | rfl <;> decide
 ·rintro ⟨h1, h2⟩
  have : x.toNat = 48 ∨ x.toNat = 49 ∨ x.toNat = 50 ∨ x.toNat = 51 ∨ x.toNat = 52 ∨ x.toNat = 53 ∨ x.toNat = 54 ∨ x.toNat = 55 ∨ x.toNat = 56 ∨ x.toNat = 57 := by omega
  rcases this with h | h | h | h | h | h | h | h | h | h <;>
  ·rw [show x = UInt8.ofNat x.toNat by simp, h]; decide
theorem strTrim_ac (s : ByteArray) (h0 : 0 < s.size) (hs : s.size ≤ top) : ∃ t, AC P0 95 [.i (.str s), .i (.str digs10)] (.i (.str t)) ∧ (t = ⟨#[]⟩ ↔ AllD s) := by
 refine ⟨⟨(Lib.trimS s.data.toList digs10.data.toList).toArray⟩, AC.of_calls [.string s, .string digs10] (fun g vs h => args_ss g _ _ vs h) fun w => ?_, ?_⟩
 ·refine Calls.mono (trim_calls s w h0 (by unfold top at hs; omega)) fun e w' ⟨he, hB⟩ => ⟨_, he, fun g => .i _ _ (.str _ ?_), hB⟩
  have := trimS_len s.data.toList digs10.data.toList
  show (Lib.trimS s.data.toList digs10.data.toList).toArray.size ≤ top
  rw [List.size_toArray]
  exact Nat.le_trans this (by rw [Array.length_toList]; exact hs)
 ·rw [show ((⟨(Lib.trimS s.data.toList digs10.data.toList).toArray⟩ : ByteArray) = ⟨#[]⟩) ↔ Lib.trimS s.data.toList digs10.data.toList = [] by simp, trimS_nil]
  constructor
  ·intro h k hk
   have hk' : k < s.data.size := hk
   have hm : nthB s k ∈ s.data.toList := by
    unfold nthB
    rw [Array.getD_eq_getD_getElem?, Array.getElem?_eq_getElem hk', Option.getD_some]
    simp
   exact (digs10_mem _).1 (h _ hm)
  ·intro h x hx
   obtain ⟨k, hk, rfl⟩ := List.getElem_of_mem hx
   refine (digs10_mem _).2 ?_
   have hk' : k < s.data.size := by simpa using hk
   have := h k hk'
   unfold nthB at this
   rw [Array.getD_eq_getD_getElem?, Array.getElem?_eq_getElem hk', Option.getD_some] at this
   simpa using this
end Go.Lw
end
section
set_option maxRecDepth 10000
namespace Go.Lw
open Go.Proofs Go.RowKit
theorem ext1 (s : ByteArray) (c : UInt8) (h : 1 ≤ s.size) : s.extract 0 1 = ⟨#[c]⟩ ↔ nthB s 0 = c := by
 have h' : 0 < s.data.size := h
 constructor
 ·intro e
  have e2 : (s.extract 0 1).data = #[c] := by rw [e]
  rw [ByteArray.data_extract] at e2
  have e3 := congrArg (·[0]?) e2
  simp [Array.getElem?_extract, h'] at e3
  unfold nthB
  rw [Array.getD_eq_getD_getElem?, Array.getElem?_eq_getElem h', Option.getD_some]
  have e4 := e3.2
  rw [Array.getElem?_eq_getElem h'] at e4
  exact Option.some.inj e4
 ·intro e
  apply ByteArray.ext
  rw [ByteArray.data_extract]
  apply Array.ext_getElem?
  intro i
  unfold nthB at e
  rw [Array.getD_eq_getD_getElem?, Array.getElem?_eq_getElem h', Option.getD_some] at e
  have hh : 0 < s.size := h
  rcases i with _ | i
  ·simp [Array.getElem?_extract, hh]; exact ⟨by omega, by first | exact e | (rw [Array.getElem?_eq_getElem h', e])⟩
  ·simp [Array.getElem?_extract]; omega
def MinusB (s : ByteArray) : Prop := 0 < s.size ∧ (nthB s 0).toNat = 45
theorem prefix_ac (s : ByteArray) (hs : s.size ≤ top) (b : Bool) (hb : b = true ↔ MinusB s) : AC P0 180 [.i (.str s), .i (.str ⟨#[45]⟩)] (.i (.bool b)) := by
 have e1 : (⟨#[45]⟩ : ByteArray).size = 1 := rfl
 unfold top at hs
 refine AC.of_go Tryz.func180 rfl rfl (Nat.le_of_ble_eq_true rfl) ?_
 simp +contextual (disch := first | (intro _; intros; contradiction) | omega | (simp only [lens]; omega)) only [go_sem, ↓reduceIte, reduceCtorEq, Nat.reduceEqDiff, Nat.reduceLT, Nat.reduceSub, Int.reduceLT, Nat.reduceAdd, Nat.reduceLeDiff, Int.reduceEq, Int.reduceNe, Int.reduceToNat, Tryz.f180, e1]
 have key : 1 ≤ s.size → (decide (s.extract 0 1 = ⟨#[45]⟩) = b) := fun h => by
  rw [Bool.eq_iff_iff, decide_eq_true_iff, ext1 s 45 h, hb]
  exact ⟨fun e => ⟨by omega, by rw [e]; rfl⟩, fun e => UInt8.toNat_inj.1 (by rw [e.2]; rfl)⟩
 refine ⟨fun h => by rw [key (by omega)], fun h => ?_⟩
 rw [show b = false by rw [← Bool.not_eq_true, hb]; intro e; have := e.1; omega]
def restM (s : ByteArray) : ByteArray := if 0 < s.size ∧ (nthB s 0).toNat = 45 then s.extract 1 s.size else s
theorem cutp_ac (s : ByteArray) (hs : s.size ≤ top) (b : Bool) (hb : b = true ↔ MinusB s) : AC P0 136 [.i (.str s), .i (.str ⟨#[45]⟩)] (.tup [.i (.str (restM s)), .i (.bool b)]) := by
 have e1 : (⟨#[45]⟩ : ByteArray).size = 1 := rfl
 have hp := prefix_ac s hs b hb
 unfold top at hs
 refine AC.of_go Tryz.func136 rfl rfl (Nat.le_of_ble_eq_true rfl) ?_
 simp +contextual (disch := first | (intro _; intros; contradiction) | omega | (simp only [lens]; omega)) only [go_sem, ↓reduceIte, reduceCtorEq, Nat.reduceEqDiff, Nat.reduceLT, Nat.reduceSub, Int.reduceLT, Nat.reduceAdd, Nat.reduceLeDiff, Int.reduceEq, Int.reduceNe, Int.reduceToNat, Tryz.f136, e1]
 refine .ac hp (by simp) ?_
 simp +contextual (disch := first | (intro _; intros; contradiction) | omega | (simp only [lens]; omega)) only [go_sem, ↓reduceIte, reduceCtorEq, Nat.reduceEqDiff, Nat.reduceLT, Nat.reduceSub, Int.reduceLT, Nat.reduceAdd, Nat.reduceLeDiff, Int.reduceEq, Int.reduceNe, Int.reduceToNat, Tryz.f136, e1]
 refine ⟨fun h => ?_, fun h => ?_⟩
 ·rw [restM, if_neg fun e => by have := hb.2 e; rw [h] at this; cases this]
 ·have hm := hb.1 h
  refine ⟨by have := hm.1; omega, ?_⟩
  rw [restM, if_pos (show 0 < s.size ∧ (nthB s 0).toNat = 45 from hm)]
theorem cutPrefix_ac (s : ByteArray) (hs : s.size ≤ top) (b : Bool) (hb : b = true ↔ MinusB s) : AC P0 94 [.i (.str s), .i (.str ⟨#[45]⟩)] (.tup [.i (.str (restM s)), .i (.bool b)]) := by
 have hp := cutp_ac s hs b hb
 refine AC.of_go Tryz.func94 rfl rfl (Nat.le_of_ble_eq_true rfl) ?_
 simp +contextual (disch := first | (intro _; intros; contradiction) | omega | (simp only [lens]; omega)) only [go_sem, ↓reduceIte, reduceCtorEq, Nat.reduceEqDiff, Nat.reduceLT, Nat.reduceSub, Int.reduceLT, Nat.reduceAdd, Nat.reduceLeDiff, Int.reduceEq, Int.reduceNe, Int.reduceToNat, Tryz.f94]
 refine .ac hp (by simp) ?_
 simp +contextual (disch := first | (intro _; intros; contradiction) | omega | (simp only [lens]; omega)) only [go_sem, ↓reduceIte, reduceCtorEq, Nat.reduceEqDiff, Nat.reduceLT, Nat.reduceSub, Int.reduceLT, Nat.reduceAdd, Nat.reduceLeDiff, Int.reduceEq, Int.reduceNe, Int.reduceToNat, Tryz.f94]
end Go.Lw
end
section
set_option maxRecDepth 10000
namespace Go.Lw
open Go.Proofs Go.RowKit
theorem indexByte_at (c : UInt8) : ∀ l : List UInt8, ∃ k, k ≤ l.length ∧ (∀ j, j < k → l[j]? ≠ some c) ∧ (k < l.length → l[k]? = some c) ∧ Lib.indexByte l c = if k < l.length then (k : Int) else -1
 | [] => ⟨0, by simp, by simp, by simp, by simp [Lib.indexByte]⟩
 | b :: l => by
  obtain ⟨k, h1, h2, h3, h4⟩ := indexByte_at c l
  by_cases hb : b = c
  ·refine ⟨0, by simp, by simp, by simp [hb], by simp [Lib.indexByte, hb]⟩
  ·refine ⟨k + 1, by simp; omega, fun j hj => ?_, fun hk => by simpa using h3 (by simpa using hk), ?_⟩
   ·rcases j with _ | j
    ·simpa using hb
    ·simpa using h2 j (by omega)
   ·simp only [Lib.indexByte, beq_iff_eq, hb, if_false, h4, List.length_cons]
    by_cases hk : k < l.length
    ·rw [if_pos hk, if_neg (by omega), if_pos (by omega)]; omega
    ·rw [if_neg hk, if_pos rfl, if_neg (by omega)]
theorem nthB_getL (s : ByteArray) (j : Nat) (h : j < s.size) : s.data.toList[j]? = some (nthB s j) := by
 have h' : j < s.data.size := h
 unfold nthB
 rw [Array.getD_eq_getD_getElem?, Array.getElem?_eq_getElem h', Option.getD_some]
 simp [h']
theorem index_ac (s : ByteArray) : ∃ k, slash s k ∧ AC P0 135 [.i (.str s), .i (.str ⟨#[47]⟩)] (.i (.int .i64 (if k < s.size then (k : Int) else -1))) := by
 obtain ⟨k, h1, h2, h3, h4⟩ := indexByte_at 47 s.data.toList
 have hl : s.data.toList.length = s.size := by rw [Array.length_toList]; rfl
 rw [hl] at h1 h3 h4
 refine ⟨k, ⟨fun j hj e => h2 j hj ?_, fun hk => ?_, h1⟩, AC.of_calls [.string s, .string ⟨#[47]⟩] (fun g vs h => args_ss g _ _ vs h) fun w => ?_⟩
 ·rw [nthB_getL s j (by omega), show nthB s j = 47 from UInt8.toNat_inj.1 e]
 ·have := h3 hk
  rw [nthB_getL s k hk] at this
  rw [Option.some.inj this]; rfl
 ·refine Calls.mono (Any.stringslite_Index_one Tryz.layIndex s 47 w) fun e w' ⟨he, hw⟩ => ⟨_, he, fun g => ?_, by subst hw; exact Below.refl _ _⟩
  rw [h4]; exact .i _ _ (.int _ _)
theorem cut0_ac (s : ByteArray) (hs : s.size ≤ top) : ∃ k, slash s k ∧
  AC P0 93 [.i (.str s), .i (.str ⟨#[47]⟩)] (if k < s.size then .tup [.i (.str (s.extract 0 k)), .i (.str (s.extract (k + 1) s.size)), .i (.bool true)] else .tup [.i (.str s), .i (.str ⟨#[]⟩), .i (.bool false)]) := by
 obtain ⟨k, hk, hi⟩ := index_ac s
 refine ⟨k, hk, ?_⟩
 have e1 : (⟨#[47]⟩ : ByteArray).size = 1 := rfl
 unfold top at hs
 refine AC.of_go Tryz.func93 rfl rfl (Nat.le_of_ble_eq_true rfl) ?_
 simp +contextual (disch := first | (intro _; intros; contradiction) | omega | (simp only [lens]; omega)) only [go_sem, ↓reduceIte, reduceCtorEq, Nat.reduceEqDiff, Nat.reduceLT, Nat.reduceSub, Int.reduceLT, Nat.reduceAdd, Nat.reduceLeDiff, Int.reduceEq, Int.reduceNe, Int.reduceToNat, Tryz.f93, e1]
 by_cases h : k < s.size
 ·rw [if_pos h] at hi ⊢
  refine .ac hi (by simp) ?_
  simp +contextual (disch := first | (intro _; intros; contradiction) | omega | (simp only [lens]; omega)) only [go_sem, ↓reduceIte, reduceCtorEq, Nat.reduceEqDiff, Nat.reduceLT, Nat.reduceSub, Int.reduceLT, Nat.reduceAdd, Nat.reduceLeDiff, Int.reduceEq, Int.reduceNe, Int.reduceToNat, Tryz.f93, e1]
  refine go_drawn mixed0 (by kernel_rfl) ?_
  simp +contextual (disch := first | (intro _; intros; contradiction) | omega | (simp only [lens]; omega)) only [go_sem, ↓reduceIte, reduceCtorEq, Nat.reduceEqDiff, Nat.reduceLT, Nat.reduceSub, Int.reduceLT, Nat.reduceAdd, Nat.reduceLeDiff, Int.reduceEq, Int.reduceNe, Int.reduceToNat, Tryz.f93, e1]
  kernel_rfl
 ·rw [if_neg h] at hi ⊢
  refine .ac hi (by simp) ?_
  simp +contextual (disch := first | (intro _; intros; contradiction) | omega | (simp only [lens]; omega)) only [go_sem, ↓reduceIte, reduceCtorEq, Nat.reduceEqDiff, Nat.reduceLT, Nat.reduceSub, Int.reduceLT, Nat.reduceAdd, Nat.reduceLeDiff, Int.reduceEq, Int.reduceNe, Int.reduceToNat, Tryz.f93, e1]
def cutD (s : ByteArray) (k : Nat) : D := if k < s.size then .tup [.i (.str (s.extract 0 k)), .i (.str (s.extract (k + 1) s.size)), .i (.bool true)] else .tup [.i (.str s), .i (.str ⟨#[]⟩), .i (.bool false)]
theorem cut_ac (s : ByteArray) (hs : s.size ≤ top) : ∃ k, slash s k ∧ AC P0 52 [.i (.str s), .i (.str ⟨#[47]⟩)] (cutD s k) := by
 obtain ⟨k, hk, hi⟩ := cut0_ac s hs
 refine ⟨k, hk, ?_⟩
 refine AC.of_go Tryz.func52 rfl rfl (Nat.le_of_ble_eq_true rfl) ?_
 simp +contextual (disch := first | (intro _; intros; contradiction) | omega | (simp only [lens]; omega)) only [go_sem, ↓reduceIte, reduceCtorEq, Nat.reduceEqDiff, Nat.reduceLT, Nat.reduceSub, Int.reduceLT, Nat.reduceAdd, Nat.reduceLeDiff, Int.reduceEq, Int.reduceNe, Int.reduceToNat, Tryz.f52]
 refine .ac hi (by simp) ?_
 unfold cutD
 by_cases h : k < s.size
 ·simp only [if_pos h]
  simp +contextual (disch := first | (intro _; intros; contradiction) | omega | (simp only [lens]; omega)) only [go_sem, ↓reduceIte, reduceCtorEq, Nat.reduceEqDiff, Nat.reduceLT, Nat.reduceSub, Int.reduceLT, Nat.reduceAdd, Nat.reduceLeDiff, Int.reduceEq, Int.reduceNe, Int.reduceToNat, Tryz.f52]
 ·simp only [if_neg h]
  simp +contextual (disch := first | (intro _; intros; contradiction) | omega | (simp only [lens]; omega)) only [go_sem, ↓reduceIte, reduceCtorEq, Nat.reduceEqDiff, Nat.reduceLT, Nat.reduceSub, Int.reduceLT, Nat.reduceAdd, Nat.reduceLeDiff, Int.reduceEq, Int.reduceNe, Int.reduceToNat, Tryz.f52]
end Go.Lw
end
