/-
A part of the proof that the statement InitialValues holds of the given program (second form, tied card): division and fractions.
-/
import Derived.Test.YtleopflmnmfaeaaGreatDoorPD
import Derived.Test.YtleopflmnmfaeaaGreatDoorPH
import Derived.Shelf.SlicesE.Reverse
set_option autoImplicit false
set_option linter.unusedSimpArgs false
set_option linter.unusedVariables false
set_option linter.unnecessarySimpa false
section
set_option maxRecDepth 10000
namespace Go.Lw
open Go.Proofs
theorem nth_w (l : List Nat) (k : Nat) (h : k < l.length) : nth (l.map word) k = .int .u32 (l.getD k 0 : Nat) := nth_mapD word l k 0 h
theorem get_w (l : List Nat) (k : Nat) (h : k < l.length) : (l.map word)[k]? = some (.int .u32 (l.getD k 0 : Nat)) := by
 rw [List.getElem?_map, List.getD_eq_getElem?_getD, List.getElem?_eq_getElem h]; rfl
theorem set_w (l : List Nat) (k : Nat) (z : Int) (h : 0 ≤ z) : (l.map word).set k (.int .u32 z) = (l.set k z.toNat).map word := by
 rw [List.map_set]; congr 1; unfold word; congr 1; omega
theorem app_w (l : List Nat) (z : Int) (h : 0 ≤ z) : l.map word ++ [.int .u32 z] = (l ++ [z.toNat]).map word := by
 rw [List.map_append]; congr 1; simp only [List.map_cons, List.map_nil, word]; congr 2; omega
theorem take_w (l : List Nat) (n : Nat) : (l.map word).take n = (l.take n).map word := List.map_take.symm
theorem drop_w (l : List Nat) (n : Nat) : (l.map word).drop n = (l.drop n).map word := List.map_drop.symm
theorem appm_w (l m : List Nat) : l.map word ++ m.map word = (l ++ m).map word := List.map_append.symm
attribute [go_sem] nth_w get_w set_w app_w take_w drop_w appm_w
def ew (n : Nat) : I := words (wd n)
theorem encZ_eq (z : Int) : encZ z = .agg [.bool (decide (z < 0)), ew z.natAbs] := rfl
theorem encZ_nat (n : Nat) : encZ (n : Int) = .agg [.bool false, ew n] := by
 rw [encZ_eq, Int.natAbs_natCast, decide_eq_false (by omega)]
def Wb (k n : Nat) : Prop := n < 1000000000 ^ k
theorem Wb.len {k n : Nat} (h : Wb k n) : (wd n).length ≤ k := dg_len_le (by omega) h
theorem Wb.mono {k m n : Nat} (h : Wb k n) (hk : k ≤ m) : Wb m n := Nat.lt_of_lt_of_le h (Nat.pow_le_pow_right (by omega) hk)
theorem Wb.le {k m n : Nat} (h : Wb k n) (hk : m ≤ n) : Wb k m := Nat.lt_of_le_of_lt hk h
theorem Wb.mul {j k m n : Nat} (h : Wb j m) (h2 : Wb k n) : Wb (j + k) (m * n) := by
 unfold Wb at *
 rw [Nat.pow_add]
 exact Nat.mul_lt_mul'' h h2
theorem Wb.of_len {k n : Nat} (h : (wd n).length ≤ k) : Wb k n := Nat.lt_of_lt_of_le (dg_lt_pow (by omega) n) (Nat.pow_le_pow_right (by omega) h)
theorem wd_lenpos {n : Nat} : 0 < (wd n).length ↔ n ≠ 0 := wd_len
theorem plain_w {l : List Nat} (h : Dig l) (hl : l.length ≤ top) : AC P0 144 [.i (words l)] (.i (ew (dv 1000000000 l))) := by
 have := plain_ac l hl
 rwa [plain_wd h] at this
theorem times_w (a d : Nat) (ha : (wd a).length ≤ 10000000) (hd : d < 1000000000) : AC P0 184 [.i (ew a), .i (.int .u32 d)] (.i (ew (a * d))) := by
 have hm := mul_z (x := (a : Int)) (y := (d : Int)) (by unfold Zb; rw [Int.natAbs_natCast]; omega) (by unfold Zb; rw [Int.natAbs_natCast]; exact Wb.len (k := 100000000) ((show Wb 1 d by unfold Wb; omega).mono (by omega)))
 rw [← Int.natCast_mul, encZ_nat, encZ_nat, encZ_nat] at hm
 have hp := plain_w (l := [d]) (fun x hx => by simp at hx; omega) (by unfold top; simp)
 have e1 : dv 1000000000 [d] = d := by simp [dv]
 rw [e1] at hp
 have e2 : words [d] = .sl 170 [.int .u32 (d : Int)] := rfl
 rw [e2] at hp
 refine AC.of_go Tryz.func184 rfl rfl (Nat.le_of_ble_eq_true rfl) ?_
 simp +contextual (disch := first | (intro _; intros; contradiction) | omega | (simp only [lens]; omega)) only [go_sem, ↓reduceIte, reduceCtorEq, Nat.reduceEqDiff, Nat.reduceLT, Nat.reduceSub, Int.reduceLT, Nat.reduceAdd, Nat.reduceLeDiff, Int.reduceEq, Int.reduceNe, Int.reduceToNat, Tryz.f184, ew, words]
 refine .frz [8] ?_
 simp only [go_sem, ↓reduceIte, reduceCtorEq, Nat.reduceEqDiff, Nat.reduceLT, Nat.reduceSub, Int.reduceLT, Nat.reduceAdd, Nat.reduceLeDiff, Int.reduceEq, Int.reduceNe, Int.reduceToNat, Tryz.f184, St.frz, frzP, frzD, frzO, frzC, frzOr, frozen, left, D.ok, D.ok1, D.ok0, List.contains_cons, List.contains_nil, Nat.reduceBEq, Option.isSome_none, Bool.not_true, Bool.not_false, Bool.and_false, Bool.and_true]
 refine .ac hp (by simp) ?_
 have hm2 := hm
 simp only [ew, words] at hm2
 simp +contextual (disch := first | (intro _; intros; contradiction) | omega | (simp only [lens]; omega)) only [go_sem, ↓reduceIte, reduceCtorEq, Nat.reduceEqDiff, Nat.reduceLT, Nat.reduceSub, Int.reduceLT, Nat.reduceAdd, Nat.reduceLeDiff, Int.reduceEq, Int.reduceNe, Int.reduceToNat, Tryz.f184, ew, words]
 refine .ac hm2 (by simp) ?_
 simp +contextual (disch := first | (intro _; intros; contradiction) | omega | (simp only [lens]; omega)) only [go_sem, ↓reduceIte, reduceCtorEq, Nat.reduceEqDiff, Nat.reduceLT, Nat.reduceSub, Int.reduceLT, Nat.reduceAdd, Nat.reduceLeDiff, Int.reduceEq, Int.reduceNe, Int.reduceToNat, Tryz.f184, ew, words]
attribute [go_sem] retL_ret
theorem clone0_ac : AC P0 185 [.i (words [])] (.i (words [])) := by
 refine AC.of_goL Tryz.func185 rfl rfl (Nat.le_of_ble_eq_true rfl) ?_
 simp (disch := first | (intro _; intros; contradiction) | omega | (simp only [lens]; omega)) only [go_sem, ↓reduceIte, reduceCtorEq, Nat.reduceEqDiff, Nat.reduceLT, Nat.reduceSub, Int.reduceLT, Nat.reduceAdd, Nat.reduceLeDiff, Int.reduceEq, Int.reduceNe, Int.reduceToNat, Tryz.f185, words]
 intro b hb
 cases b
 ·simp (disch := first | (intro _; intros; contradiction) | omega | (simp only [lens]; omega)) only [go_sem, ↓reduceIte, reduceCtorEq, Nat.reduceEqDiff, Nat.reduceLT, Nat.reduceSub, Int.reduceLT, Nat.reduceAdd, Nat.reduceLeDiff, Int.reduceEq, Int.reduceNe, Int.reduceToNat, Tryz.f185, words]
  exact ⟨_, .i _ _ (.sl0 _ _), rfl⟩
 ·simp (disch := first | (intro _; intros; contradiction) | omega | (simp only [lens]; omega)) only [go_sem, ↓reduceIte, reduceCtorEq, Nat.reduceEqDiff, Nat.reduceLT, Nat.reduceSub, Int.reduceLT, Nat.reduceAdd, Nat.reduceLeDiff, Int.reduceEq, Int.reduceNe, Int.reduceToNat, Tryz.f185, words]
  exact ⟨_, .i _ _ (.sl0 _ _), rfl⟩
theorem less0_ac (B : List Nat) : AC P0 149 [.i (words []), .i (words B)] (.i (words [])) := by
 refine AC.of_go Tryz.func149 rfl rfl (Nat.le_of_ble_eq_true rfl) ?_
 simp (disch := first | (intro _; intros; contradiction) | omega | (simp only [lens]; omega)) only [go_sem, ↓reduceIte, reduceCtorEq, Nat.reduceEqDiff, Nat.reduceLT, Nat.reduceSub, Int.reduceLT, Nat.reduceAdd, Nat.reduceLeDiff, Int.reduceEq, Int.reduceNe, Int.reduceToNat, Tryz.f149, words]
 refine .ac clone0_ac (by simp) ?_
 simp (disch := first | (intro _; intros; contradiction) | omega | (simp only [lens]; omega)) only [go_sem, ↓reduceIte, reduceCtorEq, Nat.reduceEqDiff, Nat.reduceLT, Nat.reduceSub, Int.reduceLT, Nat.reduceAdd, Nat.reduceLeDiff, Int.reduceEq, Int.reduceNe, Int.reduceToNat, Tryz.f149, words]
 refine go_loopI (fun _ : Unit => ⟨45, [(5, .i (words [])), (12, .i (.int .i64 0)), (13, .i (.int .i64 0))], []⟩) (fun _ => True) (fun _ => 0) () ?_ trivial ?_
 ·simp only [words]; exact tl
 ·rintro K _ _ hK
  simp +contextual (disch := first | (intro _; intros; contradiction) | omega | (simp only [lens]; omega)) only [go_sem, ↓reduceIte, reduceCtorEq, Nat.reduceEqDiff, Nat.reduceLT, Nat.reduceSub, Int.reduceLT, Nat.reduceAdd, Nat.reduceLeDiff, Int.reduceEq, Int.reduceNe, Int.reduceToNat, Tryz.f149, words]
theorem less_w (a b : Nat) (hab : b ≤ a) (ha : (wd a).length ≤ 1000000000) : ∃ l, AC P0 149 [.i (ew a), .i (ew b)] (.i (words l)) ∧ Dig l ∧ dv 1000000000 l = a - b ∧ l.length = (wd a).length := by
 have hb := wd_len_le hab
 rcases Nat.eq_zero_or_pos a with h0 | h0
 ·subst h0
  have : b = 0 := by omega
  subst this
  refine ⟨[], ?_, fun x hx => by simp at hx, rfl, by rw [wd_zero]⟩
  have := less0_ac []
  rwa [show words [] = ew 0 by unfold ew; rw [wd_zero]] at this ⊢
 ·have hne : wd a ≠ [] := fun e => by rw [wd_nil] at e; omega
  obtain ⟨e1, e2⟩ := lessL_dv (wd_dig a) (wd_dig b) hb (by rw [wd_dv, wd_dv]; exact hab)
  exact ⟨lessL (wd a) (wd b), less_ac (wd a) (wd b) hne ha (by omega) (wd_dig a) (wd_dig b), e2, by rw [e1, wd_dv, wd_dv], lessL_len _ _⟩
end Go.Lw
end
section
set_option maxRecDepth 10000
namespace Go.Proofs
open Go.Shelf
end Go.Proofs
namespace Go.Lw
open Go.Proofs Go.Sort
def encU (n : Nat) : Value := .int .u32 (n : Int)
theorem cells_170 : P0.cellsOf 170 = 1 := by kernel_rfl
theorem rev_row {w : World} {b : Nat} {cur : Array Value} {E : TypeId} (n : Nat) (hb : w.heap[b]? = some (.cells cur E (0, 0))) (d : Array Nat) :
  ∀ w', w' = putRow encU (Sort.ahead w n) b 0 d → w'.heap.size = w.heap.size ∧ (∀ x, x ≠ b → w'.heap[x]? = w.heap[x]?) ∧ w'.heap[b]? = some (.cells (putCells encU 0 d cur) E (0, 0)) ∧ w'.os = w.os ∧ w'.tape = w.tape ∧ w'.output = w.output := by
 rintro w' rfl
 refine ⟨?_, fun x hx => ?_, ?_, rfl, rfl, rfl⟩
 ·simp [putRow, mapBlock, Sort.ahead]
 ·simp only [putRow, mapBlock, Sort.ahead, Array.getElem?_modify]
  rw [if_neg (Ne.symm hx)]
 ·simp only [putRow, mapBlock, Sort.ahead, Array.getElem?_modify, if_true, hb, Option.map_some, onCells]
theorem putCells_at (d : Array Nat) (cur : Array Value) (j : Nat) (h : j < d.size) (h2 : d.size ≤ cur.size) : (putCells encU 0 d cur)[j]? = some (encU d[j]!) := by
 have h3 : j < cur.size := by omega
 simp [putCells, Array.getElem?_mapIdx, h, h3]
theorem CallOk.rev {dst : Option Nat} {s : St} {K : St → Prop} {id ver n : Nat} {l : List Nat} (ho : s.obj id = some (.arr 170 ver (l.map word))) (hn : n = l.length) (hl : l.length ≤ 1000000000) (hd : ∀ t, dst = some t → t < s.n)
  (hk : K (s.app dst .any [(id, .arr 170 ver (l.reverse.map word))] none)) : CallOk P0 187 [.own id ver 0 n] dst s K := by
 intro c a w β vs h zz
 have hm := h.mem
 subst hn
 have hlen : vs.length = 1 := zz.len
 obtain ⟨v, rfl⟩ : ∃ v, vs = [v] := by
  match vs, hlen with
  | [v], _ => exact ⟨v, rfl⟩
 have hv := zz.at_ 0 _ v rfl rfl
 have hor := hm.obs id _ ho
 cases hv with
 | ownd _ _ _ _ cap E2 xs2 ho2 => have h3 : s.obj id = some (.arrd E2 ver xs2) := ho2; rw [ho] at h3; cases h3
 | ownStale _ _ ver' _ _ E2 xs2 v ho2 hlt => have h3 : s.obj id = some (.arr E2 ver' xs2) := ho2; rw [ho] at h3; cases h3; omega
 | own _ _ _ _ cap E2 xs2 cur ho2 hl2 hc hb hcap hmx =>
  have : E2 = 170 ∧ xs2 = l.map word := by have h3 : s.obj id = some (.arr E2 ver xs2) := ho2; rw [ho] at h3; cases h3; exact ⟨rfl, rfl⟩
  obtain ⟨rfl, rfl⟩ := this
  have hb' : w.heap[β id]? = some (.cells cur 170 (0, 0)) := hb
  cases hor with
  | arr _ _ _ cur2 us hb2 hl3 ht hh hsz hmm =>
   have hcur : cur2 = cur := by
    have e1 : w.heap[β id]? = some (.cells cur2 170 (0, 0)) := hb2
    rw [e1] at hb'
    cases hb'; rfl
   subst hcur
   have hat : ∀ (j x : Nat), l[j]? = some x → cur2[j]? = some (encU x) := fun j x hx => by
    have hjx : (l.map word)[j]? = some (word x) := by simp [hx]
    obtain ⟨u, hu⟩ := get_of_len hl3.symm hjx
    have hV := hh j _ u hjx hu
    have hue : u = encU x := by cases hV; rfl
    subst hue
    have := hmm j _ 0 (encU x) hu (by simp [encU, Value.cells])
    simpa [cells_170] using this
   have hge : l.length ≤ cur2.size := by
    simp only [cells_170, Nat.mul_one, Nat.zero_add] at hcap
    omega
   have hH : Holds encU w (β id) 0 l.toArray := fun j hj => by
    have hj' : j < l.length := by simpa using hj
    refine ⟨?_, ?_⟩
    ·have := hat j l[j] (by simp [hj'])
     simp only [Nat.zero_add, World.cell?, hb', Option.bind_some]
     simp [hj', this]
    ·simp [World.frozen?, hb']
   have hcall := AnyE.slices_Reverse (α := Nat) Tryz.revLay encU (fun _ => rfl) (β id) 0 cap l w hH (by omega)
   have h0 : (0 * P0.cellsOf 170) = 0 := by simp
   rw [h0]
   have hbb : (c.g w β s.obj).β id = β id := rfl
   rw [hbb]
   refine Calls.mono (P := P0) (f := 187) hcall fun e w' he => ?_
   obtain ⟨rfl, m, hw⟩ := he
   obtain ⟨r1, r2, r3, r4, r5, r6⟩ := rev_row m hb' _ w' hw
   have hcells : ∀ cur1 E1, w.heap[β id]? = some (.cells cur1 E1 (0, 0)) → ∃ cur', w'.heap[β id]? = some (.cells cur' E1 (0, 0)) ∧ cur'.size = cur1.size := fun cur1 E1 h1 => by
    rw [hb'] at h1
    cases h1
    exact ⟨_, r3, by simp [putCells]⟩
   have hle : Ob.le (.arr 170 ver (l.map word)) (.arr 170 ver (l.reverse.map word)) true := .arr _ _ _ _ (by simp)
   have hob : (s.app dst .any [(id, .arr 170 ver (l.reverse.map word))] none).obj = upd s.obj id (some (.arr 170 ver (l.reverse.map word))) := by
    funext i
    cases dst <;> simp [St.app, St.obj, putOb, lookO, upd]
   have hkk := Keeps.set hm ho hle r1 r2 hcells
   have hmm' := hm.set ho hle r1 r2 hcells r4 r5 r6 (by
    refine .arr 170 ver _ (putCells encU 0 l.reverse.toArray cur2) (l.reverse.map encU) (by simpa [Ctx.g] using r3) (by simp) (by simpa using ht) (fun j x u hx hu => ?_) (fun j u hu => ?_) (fun j u k q hu hq => ?_)
    ·simp only [List.getElem?_map, Option.map_eq_some_iff] at hx hu
     obtain ⟨y, hy, rfl⟩ := hx
     obtain ⟨z, hz, rfl⟩ := hu
     rw [hy] at hz; cases hz
     exact .int _ _
    ·simp only [List.getElem?_map, Option.map_eq_some_iff] at hu
     obtain ⟨z, hz, rfl⟩ := hu
     simp [encU, Value.cells, cells_170]
    ·simp only [List.getElem?_map, Option.map_eq_some_iff] at hu
     obtain ⟨z, hz, rfl⟩ := hu
     have hj := (List.getElem?_eq_some_iff.1 hz).1
     have hj2 : j < l.reverse.toArray.size := by simpa using hj
     simp only [encU, Value.cells] at hq
     have hk0 : k = 0 := by
      have := (Array.getElem?_eq_some_iff.1 hq).1
      simp at this; omega
     subst hk0
     simp at hq
     subst hq
     simp only [cells_170, Nat.mul_one, Nat.add_zero]
     rw [putCells_at _ _ _ hj2 (by simpa using hge)]
     simp [List.getElem?_eq_some_iff.1 hz |>.2, encU, hj2]
     obtain ⟨h1, h2⟩ := List.getElem?_eq_some_iff.1 hz
     simp at h1
     simp [h1, ← h2])
   refine ⟨.tuple #[], _, β, rfl, h.put hd (by rw [hob]; exact hmm') (by rw [hob]; exact hkk) (.any _), hk⟩
end Go.Lw
end
section
set_option maxRecDepth 10000
namespace Go.Lw
open Go.Proofs
theorem wd_last {n : Nat} (h : n ≠ 0) : (wd n).getD ((wd n).length - 1) 0 ≠ 0 := by
 rcases list_snoc (wd n) with e | ⟨m, d, e⟩
 ·rw [wd_nil] at e; exact absurd e h
 ·rw [e]
  have := (wd_cn n).last m d e
  simpa [List.getD] using this
theorem wd_top {n k : Nat} (hk : (wd n).length = k + 1) : (wd n).getD k 0 = n / 1000000000 ^ k := by
 rw [show (wd n).getD k 0 = n / 1000000000 ^ k % 1000000000 from getD_eq_of_dg (by omega) n k, Nat.mod_eq_of_lt]
 have h := dg_lt_pow (b := 1000000000) (by omega) n
 rw [show (dg 1000000000 n).length = k + 1 from hk, Nat.pow_succ] at h
 rw [Nat.div_lt_iff_lt_mul (Nat.pow_pos (by omega)), Nat.mul_comm]
 exact h
theorem guess_ge {p Y : Nat} (hY : Y ≠ 0) (hp : p < 1000000000 * Y) : p / Y ≤ guessL (wd p) (wd Y) ∧ guessL (wd p) (wd Y) < 1000000000 := by
 have hl := wd_lenpos.2 hY
 obtain ⟨m, hm⟩ : ∃ m, (wd Y).length = m + 1 := ⟨(wd Y).length - 1, by omega⟩
 have ht := wd_top hm
 have ht0 := wd_last hY
 rw [hm, show m + 1 - 1 = m by omega] at ht0
 have hq : p / Y < 1000000000 := by rw [Nat.div_lt_iff_lt_mul (by omega)]; exact hp
 unfold guessL
 split
 ·rename_i h
  have hlt : p < Y := by
   have l1 := dg_lt_pow (b := 1000000000) (by omega) p
   have l2 := dg_pow_le (b := 1000000000) (by omega) hY
   have l3 : 1000000000 ^ (dg 1000000000 p).length ≤ 1000000000 ^ ((dg 1000000000 Y).length - 1) := Nat.pow_le_pow_right (by omega) (by have : (wd p).length < (wd Y).length := h; unfold wd at this; omega)
   omega
  rw [Nat.div_eq_of_lt hlt]; omega
 ·rename_i h
  have hlp : (wd p).length ≤ m + 2 := Wb.len (k := m + 2) (by
   have l1 := dg_lt_pow (b := 1000000000) (by omega) Y
   rw [show (dg 1000000000 Y).length = m + 1 from hm] at l1
   unfold Wb; rw [Nat.pow_succ, Nat.mul_comm]; omega)
  have hh : guessHigh (wd p) (m + 1) = p / 1000000000 ^ m := by
   rw [← dv_drop_dg (b := 1000000000) (by omega) p m, dv_drop, dv_drop, List.drop_of_length_le (show (dg 1000000000 p).length ≤ m + 1 + 1 from hlp)]
   unfold guessHigh
   simp only [dv, Nat.mul_zero, Nat.add_zero, show m + 1 - 1 = m by omega]
   show _ = (wd p).getD m 0 + 1000000000 * (wd p).getD (m + 1) 0
   split
   ·omega
   ·rw [getD_ge (show (wd p).length ≤ m + 1 by omega)]; omega
  rw [hm, show m + 1 - 1 = m by omega, hh, ht]
  rw [ht] at ht0
  have key : p / Y ≤ p / 1000000000 ^ m / (Y / 1000000000 ^ m) := by
   rw [Nat.le_div_iff_mul_le (by omega), Nat.le_div_iff_mul_le (Nat.pow_pos (by omega)), Nat.mul_assoc]
   exact Nat.le_trans (Nat.mul_le_mul_left _ (Nat.div_mul_le_self Y _)) (Nat.div_mul_le_self p Y)
  exact ⟨by omega, by omega⟩
theorem smallGo_dig (a : List Nat) (d : Nat) (h0 : 0 < d) (da : Dig a) : ∀ (m r : Nat), r < d → Dig (smallGo a d m r).1 ∧ (smallGo a d m r).1.length = m
 | 0, r, _ => ⟨fun x hx => by simp [smallGo] at hx, rfl⟩
 | m + 1, r, hr => by
  obtain ⟨h1, h2⟩ := smallGo_dig a d h0 da m ((r * 1000000000 + a.getD m 0) % d) (Nat.mod_lt _ h0)
  refine ⟨fun x hx => ?_, by simp only [smallGo, List.length_append, h2, List.length_singleton]⟩
  simp only [smallGo, List.mem_append, List.mem_singleton] at hx
  rcases hx with hx | hx
  ·exact h1 x hx
  ·subst hx
   have := da.get m
   rw [Nat.div_lt_iff_lt_mul h0, Nat.mul_comm]
   have : (r + 1) * 1000000000 ≤ d * 1000000000 := Nat.mul_le_mul_right _ (by omega)
   omega
def nilW : List Nat → I
 | [] => .sl 0 []
 | l => words l
def dvSt (f Y n : Nat) (at_ : Int) (R : List Nat) : List Nat → St
 | [] => ⟨92, [(6, .i (.int .u32 f)), (7, .i (.sl 170 (R.map word))), (8, .i (.sl 170 ((wd Y).map word))), (9, .i (.int .i64 n)), (10, .nils), (11, .i (.int .i64 at_))], []⟩
 | x :: q => ⟨92, [(6, .i (.int .u32 f)), (7, .i (.sl 170 (R.map word))), (8, .i (.sl 170 ((wd Y).map word))), (9, .i (.int .i64 n)), (10, .own 78 q.length 0 (q.length + 1)), (11, .i (.int .i64 at_))], [(78, some (.arr 170 q.length ((x :: q).map word)))]⟩
def dvSt2 (f Y n : Nat) (at_ : Int) (R : List Nat) (p : Nat) (q : Int) (pr : Nat) : List Nat → St
 | [] => ⟨92, [(6, .i (.int .u32 f)), (7, .i (.sl 170 (R.map word))), (8, .i (.sl 170 ((wd Y).map word))), (9, .i (.int .i64 n)), (10, .nils), (11, .i (.int .i64 at_)), (12, .i (ew p)), (13, .i (.int .u32 q)), (14, .i (ew pr))], []⟩
 | x :: Q => ⟨92, [(6, .i (.int .u32 f)), (7, .i (.sl 170 (R.map word))), (8, .i (.sl 170 ((wd Y).map word))), (9, .i (.int .i64 n)), (10, .own 78 Q.length 0 (Q.length + 1)), (11, .i (.int .i64 at_)), (12, .i (ew p)), (13, .i (.int .u32 q)), (14, .i (ew pr))], [(78, some (.arr 170 Q.length ((x :: Q).map word)))]⟩
theorem divide_w (a b : Nat) (hb : 1000000000 ≤ b) (hab : b ≤ a) (ha : (wd a).length ≤ 1000000) : AC P0 147 [.i (ew a), .i (ew b)] (.tup [.i (ew (a / b)), .i (ew (a % b))]) := by
 have lb := wd_len_le hab
 have lb1 : 2 ≤ (wd b).length := by
  rcases Nat.lt_or_ge (wd b).length 2 with h | h
  ·have := Wb.of_len (k := 1) (n := b) (by omega); unfold Wb at this; omega
  ·exact h
 obtain ⟨bt, hbt⟩ : ∃ bt, bt = (wd b).getD ((wd b).length - 1) 0 := ⟨_, rfl⟩
 have hbt1 : bt < 1000000000 := by rw [hbt]; exact (wd_dig b).get _
 obtain ⟨f, hf⟩ : ∃ f, f = 1000000000 / (bt + 1) := ⟨_, rfl⟩
 have hf0 : 0 < f := by rw [hf]; exact Nat.div_pos (by omega) (by omega)
 have hf1 : f ≤ 1000000000 := by rw [hf]; exact Nat.div_le_self _ _
 have hbt0 : bt ≠ 0 := by rw [hbt]; exact wd_last (by omega)
 have hf2 : f < 1000000000 := by
  rw [hf, Nat.div_lt_iff_lt_mul (by omega)]; omega
 obtain ⟨X, hX⟩ : ∃ X, X = a * f := ⟨_, rfl⟩
 obtain ⟨Y, hY⟩ : ∃ Y, Y = b * f := ⟨_, rfl⟩
 have tX := times_w a f (by omega) hf2
 have tY := times_w b f (by omega) hf2
 rw [← hX] at tX
 rw [← hY] at tY
 have hXY : Y ≤ X := by rw [hX, hY]; exact Nat.mul_le_mul_right _ hab
 have hY0 : 0 < Y := by rw [hY]; exact Nat.mul_pos (by omega) hf0
 have lXY := wd_len_le hXY
 have lY1 : 2 ≤ (wd Y).length := Nat.le_trans lb1 (wd_len_le (by rw [hY]; exact Nat.le_mul_of_pos_right b hf0))
 have lX : (wd X).length ≤ 1000001 := by
  rw [hX]
  have h1 : Wb ((wd a).length + 1) (a * f) := (Wb.of_len (Nat.le_refl _)).mul (by unfold Wb; omega)
  exact Nat.le_trans h1.len (by omega)
 obtain ⟨n, hn⟩ : ∃ n, n = (wd Y).length := ⟨_, rfl⟩
 have clX := clone32_aco (wd X) (fun e => by rw [wd_nil] at e; omega) (by omega)
 refine AC.of_goL Tryz.func147 rfl rfl (Nat.le_of_ble_eq_true rfl) ?_
 have eA : ew a = .sl 170 ((wd a).map word) := rfl
 have eB : ew b = .sl 170 ((wd b).map word) := rfl
 rw [eA] at tX
 rw [eB] at tY
 rw [eA, eB]
 have hfi : (1000000000 : Int) / ((bt : Int) + 1) = (f : Int) := by rw [hf]; simp
 have hbz : ¬ ((bt : Int) + 1 = 0) := by omega
 simp +contextual (disch := first | (intro _; intros; contradiction) | omega | (simp only [lens]; omega)) only [go_sem, ↓reduceIte, reduceCtorEq, Nat.reduceEqDiff, Nat.reduceLT, Nat.reduceSub, Int.reduceLT, Nat.reduceAdd, Nat.reduceLeDiff, Int.reduceEq, Int.reduceNe, Int.reduceToNat, Tryz.f147, ← hbt, hfi, hbz]
 refine .ac tX (by simp) ?_
 simp +contextual (disch := first | (intro _; intros; contradiction) | omega | (simp only [lens]; omega)) only [go_sem, ↓reduceIte, reduceCtorEq, Nat.reduceEqDiff, Nat.reduceLT, Nat.reduceSub, Int.reduceLT, Nat.reduceAdd, Nat.reduceLeDiff, Int.reduceEq, Int.reduceNe, Int.reduceToNat, Tryz.f147]
 refine .ac tY (by simp) ?_
 have eX : ew X = .sl 170 ((wd X).map word) := rfl
 have eY : ew Y = .sl 170 ((wd Y).map word) := rfl
 simp +contextual (disch := first | (intro _; intros; contradiction) | omega | (simp only [lens]; omega)) only [go_sem, ↓reduceIte, reduceCtorEq, Nat.reduceEqDiff, Nat.reduceLT, Nat.reduceSub, Int.reduceLT, Nat.reduceAdd, Nat.reduceLeDiff, Int.reduceEq, Int.reduceNe, Int.reduceToNat, Tryz.f147, eX, eY, ← hn]
 refine .aco clX (by simp) rfl ?_
 simp +contextual (disch := first | (intro _; intros; contradiction) | omega | (simp only [lens]; omega)) only [go_sem, ↓reduceIte, reduceCtorEq, Nat.reduceEqDiff, Nat.reduceLT, Nat.reduceSub, Int.reduceLT, Nat.reduceAdd, Nat.reduceLeDiff, Int.reduceEq, Int.reduceNe, Int.reduceToNat, Tryz.f147]
 clear hfi hbz hbt0 hbt1 tX tY clX eA eB
 obtain ⟨L, hL⟩ : ∃ L, L = (wd X).length := ⟨_, rfl⟩
 have hdiv : X / Y = a / b ∧ X % Y = f * (a % b) := by
  rw [hX, hY, Nat.mul_div_mul_right _ _ hf0, Nat.mul_mod_mul_right, Nat.mul_comm]; exact ⟨rfl, rfl⟩
 clear hf hbt hX hY
 have hXL : X < 1000000000 ^ L := by rw [hL]; exact dg_lt_pow (by omega) X
 have hYL : 1000000000 ^ (n - 1) ≤ Y := by rw [hn]; exact dg_pow_le (by omega) (by omega)
 have hsmall : X / 1000000000 ^ (L + 1 - n + 1) < Y := by
  rw [Nat.div_lt_iff_lt_mul (Nat.pow_pos (by omega))]
  refine Nat.lt_of_lt_of_le hXL ?_
  refine Nat.le_trans ?_ (Nat.mul_le_mul_right _ hYL)
  rw [← Nat.pow_add]
  exact Nat.pow_le_pow_right (by omega) (by omega)
 rw [← hL] at lX lXY ⊢
 rw [← hn] at lY1 lXY
 refine go_loopF (fun p : Int × List Nat × List Nat => dvSt f Y n p.1 p.2.1 p.2.2)
  (fun p => -1 ≤ p.1 ∧ p.1 ≤ (L : Int) + 1 - n ∧ Dig p.2.1 ∧ Dig p.2.2 ∧ p.2.1.length ≤ 3000000 ∧ p.2.2.length + p.1 = (L : Int) + 1 - n ∧ p.2.1.take (p.1 + 1).toNat = (wd X ++ [0]).take (p.1 + 1).toNat ∧
   dv 1000000000 (p.2.1.drop (p.1 + 1).toNat) = X / 1000000000 ^ (p.1 + 1).toNat % Y ∧ dv 1000000000 p.2.2.reverse = X / 1000000000 ^ (p.1 + 1).toNat / Y) (fun p => (p.1 + 1).toNat)
  ((L : Int) + 1 - n, wd X ++ [0], []) ?_ ⟨by simp only; omega, by simp, ?_, fun x hx => by simp at hx, by simp; omega, by simp, rfl, ?_, ?_⟩ ?_
 ·refine Wk.frz [36] ?_
  have et : (wd X ++ [0]).take (L + 1) = wd X ++ [0] := List.take_of_length_le (by simp; omega)
  simp only [dvSt, go_sem, ↓reduceIte, reduceCtorEq, Nat.reduceEqDiff, Nat.reduceLT, Nat.reduceSub, Int.reduceLT, Nat.reduceAdd, Nat.reduceLeDiff, Int.reduceEq, Int.reduceNe, Int.reduceToNat, Tryz.f147, St.frz, frzP, frzD, frzO, frzC, frzOr, frozen, left, D.ok, D.ok1, D.ok0, List.contains_cons, List.contains_nil, Nat.reduceBEq, Option.isSome_none, Bool.not_true, Bool.not_false, Bool.and_false, Bool.and_true, ← hL, et]
  exact tl
 ·intro x hx
  rcases List.mem_append.1 hx with h | h
  ·exact wd_dig X x h
  ·simp at h; omega
 ·simp only
  rw [show ((L : Int) + 1 - n + 1).toNat = L + 1 - n + 1 by omega, Nat.mod_eq_of_lt hsmall, List.drop_append_of_le_length (by omega), dv_append]
  rw [show dv 1000000000 [0] = 0 from rfl, Nat.mul_zero, Nat.add_zero]
  exact dv_drop_dg (by omega) X _
 ·simp only
  rw [show ((L : Int) + 1 - n + 1).toNat = L + 1 - n + 1 by omega, Nat.div_eq_of_lt hsmall]; rfl
 ·rintro K ⟨at_, R, Q⟩ ⟨g1, g2, g3, g4, g5, g6, g7, g8, g9⟩ hK
  simp only at g1 g2 g3 g4 g5 g6 g7 g8 g9
  rcases Int.lt_or_le at_ 0 with hneg | hpos
  ·have hat : at_ = -1 := by omega
   subst hat
   have e0 : ((-1 : Int) + 1).toNat = 0 := rfl
   rw [e0] at g8 g9
   rw [List.drop_zero, Nat.pow_zero, Nat.div_one] at g8
   rw [Nat.pow_zero, Nat.div_one] at g9
   rcases hQ : Q with _ | ⟨x, Q'⟩
   ·rw [hQ] at g6; simp at g6; omega
   ·simp only [dvSt]
    simp +contextual (disch := first | (intro _; intros; contradiction) | omega | (simp only [lens]; omega)) only [go_sem, ↓reduceIte, reduceCtorEq, Nat.reduceEqDiff, Nat.reduceLT, Nat.reduceSub, Int.reduceLT, Nat.reduceAdd, Nat.reduceLeDiff, Int.reduceEq, Int.reduceNe, Int.reduceToNat, Tryz.f147]
    have hl : Q.length ≤ 2000000 := by omega
    refine .rev (l := x :: Q') (ver := Q'.length) (by simp [St.obj, lookO]) (by simp) (by rw [← hQ]; omega) (by simp) ?_
    have hplR := plain_w g3 (by unfold top; omega)
    rw [g8] at hplR
    have lYb : (wd Y).length ≤ 1000002 := by omega
    have hXY2 : (wd (X % Y)).length ≤ 1000002 := Nat.le_trans (wd_len_le (Nat.le_of_lt (Nat.mod_lt X hY0))) lYb
    have hsm := small_ac (wd (X % Y)) f (by omega) (wd_dig _) hf0 hf2
    obtain ⟨sd, sl⟩ := smallGo_dig (wd (X % Y)) f hf0 (wd_dig _) (wd (X % Y)).length 0 hf0
    obtain ⟨SL, hSL⟩ : ∃ SL, SL = (smallL (wd (X % Y)) f).1 := ⟨_, rfl⟩
    have sv : dv 1000000000 SL = a % b := by rw [hSL, (smallL_dv hf0).1, wd_dv, hdiv.2, Nat.mul_div_cancel_left _ hf0]
    rw [← hSL] at hsm
    have sd2 : Dig SL := by rw [hSL]; exact sd
    have sl2 : SL.length ≤ 1000002 := by rw [hSL]; unfold smallL; rw [sl]; exact hXY2
    have hplS := plain_w sd2 (by unfold top; omega)
    rw [sv] at hplS
    simp +contextual (disch := first | (intro _; intros; contradiction) | omega | (simp only [lens]; omega)) only [go_sem, ↓reduceIte, reduceCtorEq, Nat.reduceEqDiff, Nat.reduceLT, Nat.reduceSub, Int.reduceLT, Nat.reduceAdd, Nat.reduceLeDiff, Int.reduceEq, Int.reduceNe, Int.reduceToNat, Tryz.f147]
    refine .ac hplR (by simp) ?_
    simp +contextual (disch := first | (intro _; intros; contradiction) | omega | (simp only [lens]; omega)) only [go_sem, ↓reduceIte, reduceCtorEq, Nat.reduceEqDiff, Nat.reduceLT, Nat.reduceSub, Int.reduceLT, Nat.reduceAdd, Nat.reduceLeDiff, Int.reduceEq, Int.reduceNe, Int.reduceToNat, Tryz.f147]
    simp only [word] at hsm
    refine .ac hsm (by simp) ?_
    simp +contextual (disch := first | (intro _; intros; contradiction) | omega | (simp only [lens]; omega)) only [go_sem, ↓reduceIte, reduceCtorEq, Nat.reduceEqDiff, Nat.reduceLT, Nat.reduceSub, Int.reduceLT, Nat.reduceAdd, Nat.reduceLeDiff, Int.reduceEq, Int.reduceNe, Int.reduceToNat, Tryz.f147]
    refine .frz [78] ?_
    simp only [go_sem, ↓reduceIte, reduceCtorEq, Nat.reduceEqDiff, Nat.reduceLT, Nat.reduceSub, Int.reduceLT, Nat.reduceAdd, Nat.reduceLeDiff, Int.reduceEq, Int.reduceNe, Int.reduceToNat, Tryz.f147, St.frz, frzP, frzD, frzO, frzC, frzOr, frozen, left, D.ok, D.ok1, D.ok0, List.contains_cons, List.contains_nil, Nat.reduceBEq, Option.isSome_none, Bool.not_true, Bool.not_false, Bool.and_false, Bool.and_true]
    rw [show List.take (Q'.length + 1) (x :: Q').reverse = Q.reverse by rw [hQ]; exact List.take_of_length_le (by simp)]
    have hplQ := plain_w (l := Q.reverse) (fun y hy => g4 y (by simpa using hy)) (by simp; unfold top; omega)
    rw [g9, hdiv.1] at hplQ
    refine .ac hplQ (by simp) ?_
    simp +contextual (disch := first | (intro _; intros; contradiction) | omega | (simp only [lens]; omega)) only [go_sem, ↓reduceIte, reduceCtorEq, Nat.reduceEqDiff, Nat.reduceLT, Nat.reduceSub, Int.reduceLT, Nat.reduceAdd, Nat.reduceLeDiff, Int.reduceEq, Int.reduceNe, Int.reduceToNat, Tryz.f147]
    refine .ac hplS (by simp) ?_
    simp +contextual (disch := first | (intro _; intros; contradiction) | omega | (simp only [lens]; omega)) only [go_sem, ↓reduceIte, reduceCtorEq, Nat.reduceEqDiff, Nat.reduceLT, Nat.reduceSub, Int.reduceLT, Nat.reduceAdd, Nat.reduceLeDiff, Int.reduceEq, Int.reduceNe, Int.reduceToNat, Tryz.f147]
    exact ⟨_, .refl _, rfl⟩
  ·obtain ⟨k, hk⟩ : ∃ k : Nat, at_ = k := ⟨at_.toNat, by omega⟩
   subst hk
   rw [show ((k : Int) + 1).toNat = k + 1 by omega] at g7 g8 g9
   have hRl : k + 1 ≤ R.length := by
    have := congrArg List.length g7
    simp at this
    omega
   obtain ⟨p, hp⟩ : ∃ p, p = dv 1000000000 (R.drop k) := ⟨_, rfl⟩
   have hRk : R.getD k 0 = X / 1000000000 ^ k % 1000000000 := by
    have e1 : R.getD k 0 = (R.take (k + 1)).getD k 0 := by simp [List.getD]
    have e2 : ((wd X ++ [0]).take (k + 1)).getD k 0 = (wd X ++ [0]).getD k 0 := by simp [List.getD]
    rw [e1, g7, e2, ← getD_eq_of_dg (by omega) X k]
    show _ = (wd X).getD k 0
    rcases Nat.lt_or_ge k (wd X).length with h | h
    ·simp [List.getD, List.getElem?_append_left h]
    ·rw [getD_ge h]
     rcases Nat.eq_or_lt_of_le h with h2 | h2
     ·simp [List.getD, ← h2]
     ·exact getD_ge (by simp; omega)
   obtain ⟨xh, hxh⟩ : ∃ xh, xh = X / 1000000000 ^ (k + 1) := ⟨_, rfl⟩
   have hpv : p = X / 1000000000 ^ k % 1000000000 + 1000000000 * (xh % Y) := by rw [hp, dv_drop, hRk, g8, hxh]
   have hxk : X / 1000000000 ^ k = Y * (1000000000 * (xh / Y)) + p := by
    have d1 := Nat.div_add_mod (X / 1000000000 ^ k) 1000000000
    rw [Nat.div_div_eq_div_mul, ← Nat.pow_succ, Nat.succ_eq_add_one, ← hxh] at d1
    have d2 := Nat.div_add_mod xh Y
    rw [hpv]
    rw [← d2, Nat.mul_add] at d1
    rw [Nat.mul_left_comm Y]
    omega
   have hpY : p < 1000000000 * Y := by
    have := Nat.mod_lt xh hY0
    have := Nat.mod_lt (X / 1000000000 ^ k) (show 0 < 1000000000 by omega)
    omega
   rw [← hxh] at g8 g9
   have eq1 : X / 1000000000 ^ k / Y = 1000000000 * (xh / Y) + p / Y := by rw [hxk, Nat.mul_add_div hY0]
   have eq2 : X / 1000000000 ^ k % Y = p % Y := by rw [hxk, Nat.mul_add_mod]
   clear hxk hpv hRk hsmall hXL hYL hxh
   obtain ⟨xk, hxk⟩ : ∃ xk, xk = X / 1000000000 ^ k := ⟨_, rfl⟩
   rw [← hxk] at eq1 eq2
   have hplp := plain_w (l := R.drop k) (fun y hy => g3 y (List.mem_of_mem_drop hy)) (by simp; unfold top; omega)
   rw [← hp] at hplp
   obtain ⟨gg1, gg2⟩ := guess_ge (by omega) hpY
   have hlp : (wd p).length ≤ n + 1 := by
    have h1 : Wb (n + 1) p := by
     have l1 := dg_lt_pow (b := 1000000000) (by omega) Y
     rw [show (dg 1000000000 Y).length = n from hn.symm] at l1
     unfold Wb; rw [Nat.pow_succ, Nat.mul_comm]; omega
    exact h1.len
   have hgu := guess_ac (wd p) (wd Y) (by omega) (by omega) (wd_dig p) (wd_dig Y) (by omega) (wd_last (by omega))
   obtain ⟨g0, hg0⟩ : ∃ g0, g0 = guessL (wd p) (wd Y) := ⟨_, rfl⟩
   rw [← hg0] at hgu gg1 gg2
   have htm := times_w Y g0 (by omega) gg2
   simp only [word] at hgu
   have eY2 : ew Y = .sl 170 ((wd Y).map word) := rfl
   have eP : ew p = words (wd p) := rfl
   rcases hQ : Q with _ | ⟨x, Q'⟩
   all_goals (
    simp only [dvSt]
    simp +contextual (disch := first | (intro _; intros; contradiction) | omega | (simp only [lens]; omega)) only [go_sem, ↓reduceIte, reduceCtorEq, Nat.reduceEqDiff, Nat.reduceLT, Nat.reduceSub, Int.reduceLT, Nat.reduceAdd, Nat.reduceLeDiff, Int.reduceEq, Int.reduceNe, Int.reduceToNat, Tryz.f147]
    refine .ac hplp (by simp) ?_
    simp +contextual (disch := first | (intro _; intros; contradiction) | omega | (simp only [lens]; omega)) only [go_sem, ↓reduceIte, reduceCtorEq, Nat.reduceEqDiff, Nat.reduceLT, Nat.reduceSub, Int.reduceLT, Nat.reduceAdd, Nat.reduceLeDiff, Int.reduceEq, Int.reduceNe, Int.reduceToNat, Tryz.f147, eP]
    refine .ac hgu (by simp) ?_
    simp +contextual (disch := first | (intro _; intros; contradiction) | omega | (simp only [lens]; omega)) only [go_sem, ↓reduceIte, reduceCtorEq, Nat.reduceEqDiff, Nat.reduceLT, Nat.reduceSub, Int.reduceLT, Nat.reduceAdd, Nat.reduceLeDiff, Int.reduceEq, Int.reduceNe, Int.reduceToNat, Tryz.f147]
    rw [eY2] at htm
    refine .ac htm (by simp) ?_
    simp +contextual (disch := first | (intro _; intros; contradiction) | omega | (simp only [lens]; omega)) only [go_sem, ↓reduceIte, reduceCtorEq, Nat.reduceEqDiff, Nat.reduceLT, Nat.reduceSub, Int.reduceLT, Nat.reduceAdd, Nat.reduceLeDiff, Int.reduceEq, Int.reduceNe, Int.reduceToNat, Tryz.f147]
    refine go_loopI (fun q : Nat => dvSt2 f Y n k R p q (Y * q) Q) (fun q => p / Y ≤ q ∧ q < 1000000000) (fun q => q) g0 ?_ ⟨gg1, gg2⟩ ?_
    ·simp only [hQ, dvSt2, eP]; exact tl
    ·rintro K2 q ⟨f1, f2⟩ hK2
     have lYq : (wd (Y * q)).length ≤ n + 1 := by
      have h1 : Wb (n + 1) (Y * q) := (Wb.of_len (Nat.le_of_eq hn.symm)).mul (by unfold Wb; omega)
      exact h1.len
     have hcm := compare_z (Y * q) p (by unfold top; omega) (by unfold top; omega)
     have hcw := compare_wd (Y * q) p
     obtain ⟨c, hc⟩ : ∃ c, c = compareL (wd (Y * q)) (wd p) := ⟨_, rfl⟩
     rw [← hc] at hcm hcw
     simp only [hQ, dvSt2]
     simp +contextual (disch := first | (intro _; intros; contradiction) | omega | (simp only [lens]; omega)) only [go_sem, ↓reduceIte, reduceCtorEq, Nat.reduceEqDiff, Nat.reduceLT, Nat.reduceSub, Int.reduceLT, Nat.reduceAdd, Nat.reduceLeDiff, Int.reduceEq, Int.reduceNe, Int.reduceToNat, Tryz.f147]
     refine .ac hcm (by simp) ?_
     simp +contextual (disch := first | (intro _; intros; contradiction) | omega | (simp only [lens]; omega)) only [go_sem, ↓reduceIte, reduceCtorEq, Nat.reduceEqDiff, Nat.reduceLT, Nat.reduceSub, Int.reduceLT, Nat.reduceAdd, Nat.reduceLeDiff, Int.reduceEq, Int.reduceNe, Int.reduceToNat, Tryz.f147]
     refine ⟨fun h => ?_, fun h => ?_⟩
     ·have hlt : p < Y * q := hcw.1.1 h
      have hq0 : p / Y < q := by rw [Nat.div_lt_iff_lt_mul hY0, Nat.mul_comm]; exact hlt
      have hqp : 0 < q := Nat.lt_of_le_of_lt (Nat.zero_le _) hq0
      have hq2 : p / Y ≤ q - 1 := Nat.le_sub_one_of_lt hq0
      obtain ⟨l, hl1, hl2, hl3, hl4⟩ := less_w (Y * q) Y (Nat.le_mul_of_pos_right Y hqp) (by omega)
      have hpl := plain_w hl2 (by unfold top; omega)
      rw [hl3, show Y * q - Y = Y * (q - 1) by rw [Nat.mul_sub, Nat.mul_one]] at hpl
      rw [eY2] at hl1
      have hq1 : (q : Int) - 1 = ((q - 1 : Nat) : Int) := by omega
      simp +contextual (disch := first | (intro _; intros; contradiction) | omega | (simp only [lens]; omega)) only [go_sem, ↓reduceIte, reduceCtorEq, Nat.reduceEqDiff, Nat.reduceLT, Nat.reduceSub, Int.reduceLT, Nat.reduceAdd, Nat.reduceLeDiff, Int.reduceEq, Int.reduceNe, Int.reduceToNat, Tryz.f147, hq1]
      refine .ac hl1 (by simp) ?_
      simp +contextual (disch := first | (intro _; intros; contradiction) | omega | (simp only [lens]; omega)) only [go_sem, ↓reduceIte, reduceCtorEq, Nat.reduceEqDiff, Nat.reduceLT, Nat.reduceSub, Int.reduceLT, Nat.reduceAdd, Nat.reduceLeDiff, Int.reduceEq, Int.reduceNe, Int.reduceToNat, Tryz.f147]
      refine .ac hpl (by simp) ?_
      simp +contextual (disch := first | (intro _; intros; contradiction) | omega | (simp only [lens]; omega)) only [go_sem, ↓reduceIte, reduceCtorEq, Nat.reduceEqDiff, Nat.reduceLT, Nat.reduceSub, Int.reduceLT, Nat.reduceAdd, Nat.reduceLeDiff, Int.reduceEq, Int.reduceNe, Int.reduceToNat, Tryz.f147]
      refine hK2 _ (q - 1) ⟨hq2, by omega⟩ (by omega) ?_
      simp only [hQ, dvSt2]; exact tl
     ·have hle : Y * q ≤ p := by
       rcases Nat.lt_or_ge p (Y * q) with h2 | h2
       ·exact absurd (hcw.1.2 h2) h
       ·exact h2
      have hqe : q = p / Y := by
       have : q ≤ p / Y := by rw [Nat.le_div_iff_mul_le hY0, Nat.mul_comm]; exact hle
       omega
      have hpm : p - Y * q = p % Y := by rw [hqe]; have := Nat.div_add_mod p Y; omega
      obtain ⟨l, hl1, hl2, hl3, hl4⟩ := less_w p (Y * q) hle (by omega)
      refine go_drawn mixed0 (by kernel_rfl) ?_
      simp +contextual (disch := first | (intro _; intros; contradiction) | omega | (simp only [lens]; omega)) only [go_sem, ↓reduceIte, reduceCtorEq, Nat.reduceEqDiff, Nat.reduceLT, Nat.reduceSub, Int.reduceLT, Nat.reduceAdd, Nat.reduceLeDiff, Int.reduceEq, Int.reduceNe, Int.reduceToNat, Tryz.f147]
      refine ⟨_, hl1, ?_⟩
      simp +contextual (disch := first | (intro _; intros; contradiction) | omega | (simp only [lens]; omega)) only [go_sem, ↓reduceIte, reduceCtorEq, Nat.reduceEqDiff, Nat.reduceLT, Nat.reduceSub, Int.reduceLT, Nat.reduceAdd, Nat.reduceLeDiff, Int.reduceEq, Int.reduceNe, Int.reduceToNat, Tryz.f147, words]
      refine ⟨by kernel_rfl, ?_⟩
      have hll := congrArg List.length hQ
      simp only [List.length_cons, List.length_nil] at hll
      have hRt : (R.take k).length = k := by simp; omega
      have hbnd : (Q ++ [q]).length = Q.length + 1 := by simp
      have fin : 0 ≤ 0 ∧ -1 ≤ (k : Int) - 1 ∧ (k : Int) - 1 ≤ (L : Int) + 1 - n ∧ Dig (R.take k ++ l) ∧ Dig (Q ++ [q]) ∧ (R.take k ++ l).length ≤ 3000000 ∧ (Q ++ [q]).length + ((k : Int) - 1) = (L : Int) + 1 - n ∧ (R.take k ++ l).take ((k : Int) - 1 + 1).toNat = (wd X ++ [0]).take ((k : Int) - 1 + 1).toNat ∧
        dv 1000000000 ((R.take k ++ l).drop ((k : Int) - 1 + 1).toNat) = X / 1000000000 ^ ((k : Int) - 1 + 1).toNat % Y ∧ dv 1000000000 (Q ++ [q]).reverse = X / 1000000000 ^ ((k : Int) - 1 + 1).toNat / Y := by
       rw [show ((k : Int) - 1 + 1).toNat = k by omega]
       refine ⟨Nat.le_refl _, by omega, by omega, ?_, ?_, ?_, by rw [hbnd]; omega, ?_, ?_, ?_⟩
       ·intro y hy
        rcases List.mem_append.1 hy with h2 | h2
        ·exact g3 y (List.mem_of_mem_take h2)
        ·exact hl2 y h2
       ·intro y hy
        rcases List.mem_append.1 hy with h2 | h2
        ·exact g4 y h2
        ·simp at h2; omega
       ·rw [List.length_append, hRt]; omega
       ·have h3 := congrArg (List.take k) g7
        rw [List.take_take, List.take_take, Nat.min_eq_left (by omega)] at h3
        rw [List.take_append_of_le_length (by omega), List.take_take, Nat.min_self, h3]
       ·rw [List.drop_append_of_le_length (by omega), List.drop_of_length_le (by omega), List.nil_append, hl3, hpm, ← hxk, eq2]
       ·rw [List.reverse_append, List.reverse_singleton, List.singleton_append, dv, g9, ← hxk, eq1, hqe]; omega
      first
       | (refine hK _ ((k : Int) - 1, R.take k ++ l, Q ++ [q]) fin.2 (by simp only; omega) (.tells ?_)
          simp only [hQ, dvSt, List.nil_append, List.length_nil, List.map_cons, List.map_nil]
          exact tl)
       | (refine ⟨⟨by omega, by omega⟩, ?_⟩
          refine hK _ ((k : Int) - 1, R.take k ++ l, Q ++ [q]) fin.2 (by simp only; omega) (.tells ?_)
          simp only [hQ, dvSt, List.cons_append, List.length_append, List.length_singleton]
          exact tl))
end Go.Lw
end
section
set_option maxRecDepth 10000
namespace Go.Lw
open Go.Proofs
theorem go_drawnF {P : Program} {Q : Exit → St → Prop} {k : List Kt} {A : Array Oper} {id : Nat} {s : St} (S : List Nat) (hm : P.follows .mixedOrders = true) (hst : statOk A (ancs A.toList []) = true)
  (h : goD P Q k A (ancs A.toList []) A.toList [] (s.frz S)) : go P Q (.code (.region id A true) :: k) s := by
 have h2 := go_drawn (id := id) hm hst h
 rw [go] at h2 ⊢
 exact Aw.frz S h2
theorem edm_unique {x y q r : Int} (hy : y ≠ 0) (h : r + y * q = x) (h0 : 0 ≤ r) (h1 : r < y.natAbs) : x / y = q ∧ x % y = r := by
 rcases Int.lt_or_gt_of_ne hy with hn | hp
 ·obtain ⟨z, rfl⟩ : ∃ z, y = -z := ⟨-y, by omega⟩
  rw [Int.ediv_neg, Int.emod_neg]
  have := (Int.ediv_emod_unique (a := x) (b := z) (r := r) (q := -q) (by omega)).2 ⟨by rw [← h, Int.neg_mul, Int.mul_neg], h0, by omega⟩
  omega
 ·exact (Int.ediv_emod_unique hp).2 ⟨h, h0, by omega⟩
theorem divfix {x y : Int} {a b : Nat} (ha : a = x.natAbs) (hb : b = y.natAbs) (hy : y ≠ 0) {Q R : Int} (hQ : Q = sv (!(decide (x < 0) == decide (y < 0))) (a / b)) (hR : R = sv (decide (x < 0)) (a % b)) :
  (R < 0 → x / y = Q - y.sign ∧ x % y = R + (y.natAbs : Int)) ∧ (¬ R < 0 → x / y = Q ∧ x % y = R) := by
 have hd : ((b : Int) * ((a / b : Nat) : Int) + ((a % b : Nat) : Int)) = (a : Int) := by
  have := Nat.div_add_mod a b
  rw [← Int.natCast_mul, ← Int.natCast_add, this]
 have hlt : a % b < b := Nat.mod_lt _ (by omega)
 generalize a / b = d at *
 generalize a % b = m at *
 have hxy : R + y * Q = x := by
  rw [hQ, hR]
  by_cases hx : x < 0 <;> by_cases hyn : y < 0 <;> simp only [sv, hx, hyn, decide_true, decide_false, beq_self_eq_true, Bool.not_true, Bool.true_beq, Bool.false_beq, Bool.not_false, Bool.false_eq_true, if_true, if_false]
  ·rw [show y = -(b : Int) by omega, Int.neg_mul]; omega
  ·rw [show y = (b : Int) by omega, Int.mul_neg]; omega
  ·rw [show y = -(b : Int) by omega, Int.neg_mul, Int.mul_neg]; omega
  ·rw [show y = (b : Int) by omega]; omega
 refine ⟨fun h => edm_unique hy ?_ ?_ ?_, fun h => edm_unique hy hxy (by omega) ?_⟩
 ·rw [Int.mul_sub, Int.mul_sign_self]; omega
 ·rw [hR] at h ⊢; unfold sv at h ⊢; split at h <;> split <;> omega
 ·omega
 ·rw [hR] at h ⊢; unfold sv at h ⊢; split at h <;> split <;> omega
attribute [go_sem] boolI
set_option maxHeartbeats 1000000 in
theorem div_z {x y : Int} (hx : Zb 1000000 x) (hy : Zb 1000000 y) (hy0 : y ≠ 0) : AC P0 101 [.i (encZ x), .i (encZ y)] (.tup [.i (encZ (x / y)), .i (encZ (x % y))]) := by
 obtain ⟨a, ha⟩ : ∃ a, a = x.natAbs := ⟨_, rfl⟩
 obtain ⟨b, hb⟩ : ∃ b, b = y.natAbs := ⟨_, rfl⟩
 have la : (wd a).length ≤ 1000000 := ha ▸ hx
 have lb : (wd b).length ≤ 1000000 := hb ▸ hy
 have hb0 : b ≠ 0 := by omega
 have hcmp := compare_z a b (by unfold top; omega) (by unfold top; omega)
 obtain ⟨_, c2⟩ := compare_wd a b
 obtain ⟨cv, hcv⟩ : ∃ cv, cv = compareL (wd a) (wd b) := ⟨_, rfl⟩
 rw [← hcv] at hcmp c2
 simp only [words] at hcmp
 obtain ⟨m6, hm6⟩ : ∃ m6 : Bool, m6 = !(decide (x < 0) == decide (y < 0)) := ⟨_, rfl⟩
 obtain ⟨Q, hQ⟩ : ∃ Q, Q = sv m6 (a / b) := ⟨_, rfl⟩
 obtain ⟨R, hR⟩ : ∃ R, R = sv (decide (x < 0)) (a % b) := ⟨_, rfl⟩
 obtain ⟨f1, f2⟩ := divfix (Q := Q) (R := R) ha hb hy0 (by rw [hQ, hm6]) hR
 have lQ : Zb 1000000 Q := by rw [hQ]; unfold Zb; rw [sv_abs]; exact Nat.le_trans (wd_len_le (Nat.div_le_self a b)) la
 have lR : Zb 1000000 R := by rw [hR]; unfold Zb; rw [sv_abs]; exact Nat.le_trans (wd_len_le (Nat.mod_le a b)) la
 have cabs := abs_z y
 have csig := sign_z y
 have hsg : y.sign = 1 ∨ y.sign = -1 := by rcases Int.lt_or_gt_of_ne hy0 with h | h; · right; exact Int.sign_eq_neg_one_of_neg h
                                           ·left; exact Int.sign_eq_one_of_pos h
 have cof := of_z y.sign (by omega) (by omega)
 have cadd := add_z (x := R) (y := (y.natAbs : Int)) (Nat.le_trans lR (by omega)) (by unfold Zb at hy ⊢; rw [Int.natAbs_natCast]; omega)
 have csub := sub_z (x := Q) (y := y.sign) (Nat.le_trans lQ (by omega)) (by
  unfold Zb; refine Nat.le_trans (Wb.len (k := 1) (by unfold Wb; omega)) (by omega))
 simp only [encZ_eq, ew, words, ← hb, Int.natAbs_natCast] at cabs csig cof cadd csub
 refine AC.of_go Tryz.func101 rfl rfl (Nat.le_of_ble_eq_true rfl) ?_
 simp +contextual (disch := first | (intro _; intros; contradiction) | omega | (simp only [lens]; omega)) only [go_sem, ↓reduceIte, reduceCtorEq, Nat.reduceEqDiff, Nat.reduceLT, Nat.reduceSub, Int.reduceLT, Nat.reduceAdd, Nat.reduceLeDiff, Int.reduceEq, Int.reduceNe, Int.reduceToNat, Tryz.f101, encZ_eq, ew, words, ← ha, ← hb]
 refine .ac hcmp (by simp) ?_
 simp +contextual (disch := first | (intro _; intros; contradiction) | omega | (simp only [lens]; omega)) only [go_sem, ↓reduceIte, reduceCtorEq, Nat.reduceEqDiff, Nat.reduceLT, Nat.reduceSub, Int.reduceLT, Nat.reduceAdd, Nat.reduceLeDiff, Int.reduceEq, Int.reduceNe, Int.reduceToNat, Tryz.f101]
 refine ⟨fun h1 => ?_, fun h1 => ⟨fun h2 => ?_, fun h2 => ?_⟩⟩
 case' refine_1 =>
  have hab : a < b := c2.1 h1
  have s6 := (signed_z (l := []) (fun z hz => by simp at hz) (by simp) m6).args (args := [.nils, .i (.bool m6)]) (.cons (.nils _) (.cons (.refl _) .nil))
  have s7 := signed_z (l := wd a) (wd_dig a) (by unfold top; omega) (decide (x < 0))
  rw [wd_dv] at s7
  rw [show dv 1000000000 [] = a / b by rw [Nat.div_eq_of_lt hab]; rfl] at s6
  rw [show a = a % b by rw [Nat.mod_eq_of_lt hab]] at s7
  rw [show wd (a % b) = wd a by rw [Nat.mod_eq_of_lt hab]] at s7
 case' refine_2 =>
  have hwb : (wd b).getD 0 0 = b := by
   have := wd_dv b
   rcases hw : wd b with _ | ⟨c, _ | ⟨d, r⟩⟩
   ·rw [hw] at h2; simp at h2
   ·rw [hw] at this; simpa [dv] using this
   ·rw [hw] at h2; simp at h2; omega
  have hb9 : b < 1000000000 := by
   have := wd_dig b b (by
    have hm : (wd b)[0]? = some ((wd b).getD 0 0) := by rw [List.getD_eq_getElem?_getD, List.getElem?_eq_getElem (by omega)]; rfl
    rw [hwb] at hm
    exact List.mem_of_getElem? hm)
   exact this
  have hsm := small_ac (wd a) b (by omega) (wd_dig a) (by omega) hb9
  obtain ⟨e1, e2⟩ := smallL_dv (a := wd a) (d := b) (by omega)
  rw [wd_dv] at e1 e2
  obtain ⟨sd, sl⟩ := smallGo_dig (wd a) b (by omega) (wd_dig a) (wd a).length 0 (by omega)
  rw [e2] at hsm
  obtain ⟨SL, hSL⟩ : ∃ SL, SL = (smallL (wd a) b).1 := ⟨_, rfl⟩
  rw [← hSL] at hsm e1
  have sd2 : Dig SL := by rw [hSL]; exact sd
  have sl2 : SL.length ≤ 1000000 := by rw [hSL]; unfold smallL; rw [sl]; exact la
  have hmod : a % b < b := Nat.mod_lt _ (by omega)
  have s6 := signed_z sd2 (by unfold top; omega) m6
  have s7 := signed_z (l := [a % b]) (fun z hz => by simp at hz; omega) (by unfold top; simp) (decide (x < 0))
  rw [e1] at s6
  rw [show dv 1000000000 [a % b] = a % b by simp [dv]] at s7
  simp only [word, words] at hsm
  refine go_drawn mixed0 (by kernel_rfl) ?_
  simp +contextual (disch := first | (intro _; intros; contradiction) | omega | (simp only [lens]; omega)) only [go_sem, ↓reduceIte, reduceCtorEq, Nat.reduceEqDiff, Nat.reduceLT, Nat.reduceSub, Int.reduceLT, Nat.reduceAdd, Nat.reduceLeDiff, Int.reduceEq, Int.reduceNe, Int.reduceToNat, Tryz.f101, hwb]
  refine ⟨_, hsm, ?_⟩
  simp +contextual (disch := first | (intro _; intros; contradiction) | omega | (simp only [lens]; omega)) only [go_sem, ↓reduceIte, reduceCtorEq, Nat.reduceEqDiff, Nat.reduceLT, Nat.reduceSub, Int.reduceLT, Nat.reduceAdd, Nat.reduceLeDiff, Int.reduceEq, Int.reduceNe, Int.reduceToNat, Tryz.f101]
  refine ⟨by kernel_rfl, ?_⟩
  refine go_drawnF [44] mixed0 (by kernel_rfl) ?_
  simp only [go_sem, ↓reduceIte, reduceCtorEq, Nat.reduceEqDiff, Nat.reduceLT, Nat.reduceSub, Int.reduceLT, Nat.reduceAdd, Nat.reduceLeDiff, Int.reduceEq, Int.reduceNe, Int.reduceToNat, Tryz.f101, St.frz, frzP, frzD, frzO, frzC, frzOr, frozen, left, D.ok, D.ok1, D.ok0, List.contains_cons, List.contains_nil, Nat.reduceBEq, Option.isSome_none, Bool.not_true, Bool.not_false, Bool.and_false, Bool.and_true]
 case' refine_3 =>
  have hb9 : 1000000000 ≤ b := by
   rcases Nat.lt_or_ge b 1000000000 with h | h
   ·have := Wb.len (k := 1) (n := b) (by unfold Wb; omega)
    have := wd_lenpos.2 hb0
    omega
   ·exact h
  have hdv := divide_w a b hb9 (by rcases Nat.lt_or_ge a b with h | h; · exact absurd (c2.2 h) h1
                                   ·exact h) la
  have s6 := signed_z (wd_dig (a / b)) (by have := wd_len_le (Nat.div_le_self a b); unfold top; omega) m6
  have s7 := signed_z (wd_dig (a % b)) (by have := wd_len_le (Nat.mod_le a b); unfold top; omega) (decide (x < 0))
  rw [wd_dv] at s6 s7
  simp only [ew, words] at hdv
  refine .ac hdv (by simp) ?_
  simp +contextual (disch := first | (intro _; intros; contradiction) | omega | (simp only [lens]; omega)) only [go_sem, ↓reduceIte, reduceCtorEq, Nat.reduceEqDiff, Nat.reduceLT, Nat.reduceSub, Int.reduceLT, Nat.reduceAdd, Nat.reduceLeDiff, Int.reduceEq, Int.reduceNe, Int.reduceToNat, Tryz.f101]
 case' refine_1 => refine go_drawn mixed0 (by kernel_rfl) ?_
 case' refine_3 => refine go_drawn mixed0 (by kernel_rfl) ?_
 all_goals (
  rw [← hQ] at s6
  rw [← hR] at s7
  simp only [words, encZ_eq, ew] at s6 s7
  simp +contextual (disch := first | (intro _; intros; contradiction) | omega | (simp only [lens]; omega)) only [go_sem, ↓reduceIte, reduceCtorEq, Nat.reduceEqDiff, Nat.reduceLT, Nat.reduceSub, Int.reduceLT, Nat.reduceAdd, Nat.reduceLeDiff, Int.reduceEq, Int.reduceNe, Int.reduceToNat, Tryz.f101, ← hm6]
  refine ⟨_, s6, ?_⟩
  simp +contextual (disch := first | (intro _; intros; contradiction) | omega | (simp only [lens]; omega)) only [go_sem, ↓reduceIte, reduceCtorEq, Nat.reduceEqDiff, Nat.reduceLT, Nat.reduceSub, Int.reduceLT, Nat.reduceAdd, Nat.reduceLeDiff, Int.reduceEq, Int.reduceNe, Int.reduceToNat, Tryz.f101]
  refine ⟨_, s7, ?_⟩
  simp +contextual (disch := first | (intro _; intros; contradiction) | omega | (simp only [lens]; omega)) only [go_sem, ↓reduceIte, reduceCtorEq, Nat.reduceEqDiff, Nat.reduceLT, Nat.reduceSub, Int.reduceLT, Nat.reduceAdd, Nat.reduceLeDiff, Int.reduceEq, Int.reduceNe, Int.reduceToNat, Tryz.f101]
  refine ⟨by kernel_rfl, fun hr => ?_, fun hr => ?_⟩
  rotate_left
  ·obtain ⟨q1, q2⟩ := f2 hr
   refine go_drawn mixed0 (by kernel_rfl) ?_
   simp +contextual (disch := first | (intro _; intros; contradiction) | omega | (simp only [lens]; omega)) only [go_sem, ↓reduceIte, reduceCtorEq, Nat.reduceEqDiff, Nat.reduceLT, Nat.reduceSub, Int.reduceLT, Nat.reduceAdd, Nat.reduceLeDiff, Int.reduceEq, Int.reduceNe, Int.reduceToNat, Tryz.f101, q1, q2]
   kernel_rfl
  ·obtain ⟨q1, q2⟩ := f1 hr
   rw [decide_eq_true hr] at cadd
   refine go_drawn mixed0 (by kernel_rfl) ?_
   simp +contextual (disch := first | (intro _; intros; contradiction) | omega | (simp only [lens]; omega)) only [go_sem, ↓reduceIte, reduceCtorEq, Nat.reduceEqDiff, Nat.reduceLT, Nat.reduceSub, Int.reduceLT, Nat.reduceAdd, Nat.reduceLeDiff, Int.reduceEq, Int.reduceNe, Int.reduceToNat, Tryz.f101]
   refine ⟨_, cabs, ?_⟩
   simp +contextual (disch := first | (intro _; intros; contradiction) | omega | (simp only [lens]; omega)) only [go_sem, ↓reduceIte, reduceCtorEq, Nat.reduceEqDiff, Nat.reduceLT, Nat.reduceSub, Int.reduceLT, Nat.reduceAdd, Nat.reduceLeDiff, Int.reduceEq, Int.reduceNe, Int.reduceToNat, Tryz.f101]
   refine ⟨_, cadd, ?_⟩
   simp +contextual (disch := first | (intro _; intros; contradiction) | omega | (simp only [lens]; omega)) only [go_sem, ↓reduceIte, reduceCtorEq, Nat.reduceEqDiff, Nat.reduceLT, Nat.reduceSub, Int.reduceLT, Nat.reduceAdd, Nat.reduceLeDiff, Int.reduceEq, Int.reduceNe, Int.reduceToNat, Tryz.f101]
   refine ⟨by kernel_rfl, ?_⟩
   refine go_drawn mixed0 (by kernel_rfl) ?_
   simp +contextual (disch := first | (intro _; intros; contradiction) | omega | (simp only [lens]; omega)) only [go_sem, ↓reduceIte, reduceCtorEq, Nat.reduceEqDiff, Nat.reduceLT, Nat.reduceSub, Int.reduceLT, Nat.reduceAdd, Nat.reduceLeDiff, Int.reduceEq, Int.reduceNe, Int.reduceToNat, Tryz.f101]
   refine ⟨_, csig, _, cof, _, csub, ?_⟩
   simp +contextual (disch := first | (intro _; intros; contradiction) | omega | (simp only [lens]; omega)) only [go_sem, ↓reduceIte, reduceCtorEq, Nat.reduceEqDiff, Nat.reduceLT, Nat.reduceSub, Int.reduceLT, Nat.reduceAdd, Nat.reduceLeDiff, Int.reduceEq, Int.reduceNe, Int.reduceToNat, Tryz.f101]
   refine ⟨by kernel_rfl, ?_⟩
   refine go_drawn mixed0 (by kernel_rfl) ?_
   simp +contextual (disch := first | (intro _; intros; contradiction) | omega | (simp only [lens]; omega)) only [go_sem, ↓reduceIte, reduceCtorEq, Nat.reduceEqDiff, Nat.reduceLT, Nat.reduceSub, Int.reduceLT, Nat.reduceAdd, Nat.reduceLeDiff, Int.reduceEq, Int.reduceNe, Int.reduceToNat, Tryz.f101, q1, q2]
   exact ⟨by kernel_rfl, by rw [hb]⟩)
end Go.Lw
end
section
set_option maxRecDepth 10000
namespace Go.Lw
open Go.Proofs
attribute [go_sem] unI
set_option maxHeartbeats 1000000 in
theorem gcd_z {x y : Int} (hx : Zb 1000000 x) (hy : Zb 1000000 y) : AC P0 57 [.i (encZ x), .i (encZ y)] (.i (encZ (Nat.gcd x.natAbs y.natAbs : Nat))) := by
 obtain ⟨g, hg⟩ : ∃ g, g = Nat.gcd x.natAbs y.natAbs := ⟨_, rfl⟩
 have cx := abs_z x
 have cy := abs_z y
 simp only [encZ_eq, ew, words, Int.natAbs_natCast, decide_eq_false (show ¬ ((x.natAbs : Int) < 0) by omega), decide_eq_false (show ¬ ((y.natAbs : Int) < 0) by omega)] at cx cy
 refine AC.of_go Tryz.func57 rfl rfl (Nat.le_of_ble_eq_true rfl) ?_
 simp +contextual (disch := first | (intro _; intros; contradiction) | omega | (simp only [lens]; omega)) only [go_sem, ↓reduceIte, reduceCtorEq, Nat.reduceEqDiff, Nat.reduceLT, Nat.reduceSub, Int.reduceLT, Nat.reduceAdd, Nat.reduceLeDiff, Int.reduceEq, Int.reduceNe, Int.reduceToNat, Tryz.f57, encZ_nat, encZ_eq, ew, words, ← hg]
 refine go_drawn mixed0 (by kernel_rfl) ?_
 simp +contextual (disch := first | (intro _; intros; contradiction) | omega | (simp only [lens]; omega)) only [go_sem, ↓reduceIte, reduceCtorEq, Nat.reduceEqDiff, Nat.reduceLT, Nat.reduceSub, Int.reduceLT, Nat.reduceAdd, Nat.reduceLeDiff, Int.reduceEq, Int.reduceNe, Int.reduceToNat, Tryz.f57]
 refine ⟨_, cx, _, cy, ?_⟩
 simp +contextual (disch := first | (intro _; intros; contradiction) | omega | (simp only [lens]; omega)) only [go_sem, ↓reduceIte, reduceCtorEq, Nat.reduceEqDiff, Nat.reduceLT, Nat.reduceSub, Int.reduceLT, Nat.reduceAdd, Nat.reduceLeDiff, Int.reduceEq, Int.reduceNe, Int.reduceToNat, Tryz.f57]
 refine ⟨by kernel_rfl, ?_⟩
 refine go_loopI (fun p : Nat × Nat => ⟨23, [(2, .loc 2 0), (3, .loc 3 0), (4, .loc 4 0)], [(4, some (.var 71 [.kb false, .nils])), (3, some (.var 71 [.i (.bool false), .i (.sl 170 ((wd p.2).map word))])), (2, some (.var 71 [.i (.bool false), .i (.sl 170 ((wd p.1).map word))]))]⟩)
  (fun p => Nat.gcd p.1 p.2 = g ∧ (wd p.1).length ≤ 1000000 ∧ (wd p.2).length ≤ 1000000) (fun p => p.2) (x.natAbs, y.natAbs) ?_ ⟨hg.symm, hx, hy⟩ ?_
 ·exact tu
 ·rintro K ⟨a, b⟩ ⟨g1, g2, g3⟩ hK
  simp only at g1 g2 g3
  have cz := zero_z (b : Int)
  simp only [encZ_nat, ew, words] at cz
  simp +contextual (disch := first | (intro _; intros; contradiction) | omega | (simp only [lens]; omega)) only [go_sem, ↓reduceIte, reduceCtorEq, Nat.reduceEqDiff, Nat.reduceLT, Nat.reduceSub, Int.reduceLT, Nat.reduceAdd, Nat.reduceLeDiff, Int.reduceEq, Int.reduceNe, Int.reduceToNat, Tryz.f57]
  refine .ac cz (by simp) ?_
  simp +contextual (disch := first | (intro _; intros; contradiction) | omega | (simp only [lens]; omega)) only [go_sem, ↓reduceIte, reduceCtorEq, Nat.reduceEqDiff, Nat.reduceLT, Nat.reduceSub, Int.reduceLT, Nat.reduceAdd, Nat.reduceLeDiff, Int.reduceEq, Int.reduceNe, Int.reduceToNat, Tryz.f57]
  have hgz : (wd ((g : Int).natAbs)) = wd g := by rw [Int.natAbs_natCast]
  refine ⟨fun h0 => ?_, fun h0 => ?_⟩
  ·have h0' : (b : Int) ≠ 0 := by omega
   have cd := div_z (x := (a : Int)) (y := (b : Int)) (by unfold Zb; rw [Int.natAbs_natCast]; exact g2) (by unfold Zb; rw [Int.natAbs_natCast]; exact g3) h0'
   rw [← Int.natCast_ediv, ← Int.natCast_emod] at cd
   simp only [encZ_nat, ew, words] at cd
   refine .ac cd (by simp) ?_
   simp +contextual (disch := first | (intro _; intros; contradiction) | omega | (simp only [lens]; omega)) only [go_sem, ↓reduceIte, reduceCtorEq, Nat.reduceEqDiff, Nat.reduceLT, Nat.reduceSub, Int.reduceLT, Nat.reduceAdd, Nat.reduceLeDiff, Int.reduceEq, Int.reduceNe, Int.reduceToNat, Tryz.f57]
   refine go_drawn mixed0 (by kernel_rfl) ?_
   simp +contextual (disch := first | (intro _; intros; contradiction) | omega | (simp only [lens]; omega)) only [go_sem, ↓reduceIte, reduceCtorEq, Nat.reduceEqDiff, Nat.reduceLT, Nat.reduceSub, Int.reduceLT, Nat.reduceAdd, Nat.reduceLeDiff, Int.reduceEq, Int.reduceNe, Int.reduceToNat, Tryz.f57]
   refine ⟨by kernel_rfl, ?_⟩
   refine hK _ (b, a % b) ⟨by rw [Nat.gcd_comm, ← Nat.gcd_rec, Nat.gcd_comm]; exact g1, g3, Nat.le_trans (wd_len_le (Nat.mod_le _ _)) g2⟩ (Nat.mod_lt _ (by omega)) ?_
   simp only
   exact tu
  ·have hb : b = 0 := by omega
   subst hb
   rw [Nat.gcd_zero_right] at g1
   rw [g1, hgz]
end Go.Lw
end
section
set_option maxRecDepth 10000
namespace Go.Lw
open Go.Proofs
def ef (q : Rat) : I := .agg [.bool (decide (q.num < 0)), ew q.num.natAbs, .bool false, ew q.den]
theorem Lb.w {k n : Nat} (h : Lb k n) : (wd n).length ≤ k := Wb.len (Nat.lt_of_lt_of_le h (Nat.pow_le_pow_left (by omega) k))
theorem Lb.wk {k n m : Nat} (h : Lb k n) (hk : k ≤ m) : (wd n).length ≤ m := Nat.le_trans h.w hk
theorem mkRat_nd {n : Int} {d : Nat} (hd : d ≠ 0) : (mkRat n d).num = n / (Nat.gcd n.natAbs d : Nat) ∧ (mkRat n d).den = d / Nat.gcd n.natAbs d := by
 rw [← Rat.normalize_eq_mkRat hd, Rat.normalize_eq]
 exact ⟨rfl, rfl⟩
set_option maxHeartbeats 1000000 in
theorem fnew_ac {n : Int} {d : Nat} (hd : d ≠ 0) (hn : Zb 1000000 n) (hdl : (wd d).length ≤ 1000000) : AC P0 103 [.i (encZ n), .i (encZ d)] (.i (ef (mkRat n d))) := by
 obtain ⟨m1, m2⟩ := mkRat_nd (n := n) hd
 unfold ef
 rw [m1, m2]
 have cg := gcd_z (x := n) (y := (d : Int)) hn (by unfold Zb; rw [Int.natAbs_natCast]; exact hdl)
 rw [Int.natAbs_natCast] at cg
 have hg0 : Nat.gcd n.natAbs d ≠ 0 := fun h => hd (Nat.gcd_eq_zero_iff.1 h).2
 have hgl : (wd (Nat.gcd n.natAbs d)).length ≤ 1000000 := Nat.le_trans (wd_len_le (Nat.gcd_le_right _ (by omega))) hdl
 obtain ⟨g, hg⟩ : ∃ g, g = Nat.gcd n.natAbs d := ⟨_, rfl⟩
 rw [← hg] at cg hg0 hgl ⊢
 have hgz : Zb 1000000 (g : Int) := by unfold Zb; rw [Int.natAbs_natCast]; exact hgl
 have cs := sign_z (d : Int)
 rw [Int.sign_natCast_of_ne_zero hd] at cs
 have c1 := one_z (g : Int)
 have cn := div_z (x := n) (y := (g : Int)) hn hgz (by omega)
 have cd := div_z (x := (d : Int)) (y := (g : Int)) (by unfold Zb; rw [Int.natAbs_natCast]; exact hdl) hgz (by omega)
 rw [← Int.natCast_ediv, ← Int.natCast_emod] at cd
 simp only [encZ_nat, encZ_eq n, encZ_eq (n / _), encZ_eq (n % _), ew, words] at cg cs c1 cn cd
 refine AC.of_go Tryz.func103 rfl rfl (Nat.le_of_ble_eq_true rfl) ?_
 rw [encZ_nat]
 simp +contextual (disch := first | (intro _; intros; contradiction) | omega | (simp only [lens]; omega)) only [go_sem, ↓reduceIte, reduceCtorEq, Nat.reduceEqDiff, Nat.reduceLT, Nat.reduceSub, Int.reduceLT, Nat.reduceAdd, Nat.reduceLeDiff, Int.reduceEq, Int.reduceNe, Int.reduceToNat, Tryz.f103, encZ_eq, ew, words]
 refine .ac cs (by simp) ?_
 simp +contextual (disch := first | (intro _; intros; contradiction) | omega | (simp only [lens]; omega)) only [go_sem, ↓reduceIte, reduceCtorEq, Nat.reduceEqDiff, Nat.reduceLT, Nat.reduceSub, Int.reduceLT, Nat.reduceAdd, Nat.reduceLeDiff, Int.reduceEq, Int.reduceNe, Int.reduceToNat, Tryz.f103]
 refine .ac cg (by simp) ?_
 simp +contextual (disch := first | (intro _; intros; contradiction) | omega | (simp only [lens]; omega)) only [go_sem, ↓reduceIte, reduceCtorEq, Nat.reduceEqDiff, Nat.reduceLT, Nat.reduceSub, Int.reduceLT, Nat.reduceAdd, Nat.reduceLeDiff, Int.reduceEq, Int.reduceNe, Int.reduceToNat, Tryz.f103]
 refine .ac c1 (by simp) ?_
 simp +contextual (disch := first | (intro _; intros; contradiction) | omega | (simp only [lens]; omega)) only [go_sem, ↓reduceIte, reduceCtorEq, Nat.reduceEqDiff, Nat.reduceLT, Nat.reduceSub, Int.reduceLT, Nat.reduceAdd, Nat.reduceLeDiff, Int.reduceEq, Int.reduceNe, Int.reduceToNat, Tryz.f103]
 refine ⟨fun h => ?_, fun h => ?_⟩
 ·refine .ac cn (by simp) ?_
  simp +contextual (disch := first | (intro _; intros; contradiction) | omega | (simp only [lens]; omega)) only [go_sem, ↓reduceIte, reduceCtorEq, Nat.reduceEqDiff, Nat.reduceLT, Nat.reduceSub, Int.reduceLT, Nat.reduceAdd, Nat.reduceLeDiff, Int.reduceEq, Int.reduceNe, Int.reduceToNat, Tryz.f103]
  refine .ac cd (by simp) ?_
  simp +contextual (disch := first | (intro _; intros; contradiction) | omega | (simp only [lens]; omega)) only [go_sem, ↓reduceIte, reduceCtorEq, Nat.reduceEqDiff, Nat.reduceLT, Nat.reduceSub, Int.reduceLT, Nat.reduceAdd, Nat.reduceLeDiff, Int.reduceEq, Int.reduceNe, Int.reduceToNat, Tryz.f103]
 ·have hg1 : g = 1 := by omega
  rw [hg1, Int.ediv_one, Nat.div_one]
theorem fof_ac {n : Int} (h0 : -9223372036854775808 ≤ n) (h1 : n < 9223372036854775808) : AC P0 59 [.i (.int .i64 n)] (.i (ef (n : Rat))) := by
 have c1 := of_z n h0 h1
 have c2 := of_z 1 (by omega) (by omega)
 unfold ef
 rw [Rat.num_intCast, Rat.den_intCast]
 rw [show encZ 1 = encZ ((1 : Nat) : Int) from rfl, encZ_nat] at c2
 simp only [encZ_eq, ew, words] at c1 c2
 refine AC.of_go Tryz.func59 rfl rfl (Nat.le_of_ble_eq_true rfl) ?_
 simp +contextual (disch := first | (intro _; intros; contradiction) | omega | (simp only [lens]; omega)) only [go_sem, ↓reduceIte, reduceCtorEq, Nat.reduceEqDiff, Nat.reduceLT, Nat.reduceSub, Int.reduceLT, Nat.reduceAdd, Nat.reduceLeDiff, Int.reduceEq, Int.reduceNe, Int.reduceToNat, Tryz.f59, ew, words]
 refine .ac c1 (by simp) ?_
 simp +contextual (disch := first | (intro _; intros; contradiction) | omega | (simp only [lens]; omega)) only [go_sem, ↓reduceIte, reduceCtorEq, Nat.reduceEqDiff, Nat.reduceLT, Nat.reduceSub, Int.reduceLT, Nat.reduceAdd, Nat.reduceLeDiff, Int.reduceEq, Int.reduceNe, Int.reduceToNat, Tryz.f59]
 refine .ac c2 (by simp) ?_
 simp +contextual (disch := first | (intro _; intros; contradiction) | omega | (simp only [lens]; omega)) only [go_sem, ↓reduceIte, reduceCtorEq, Nat.reduceEqDiff, Nat.reduceLT, Nat.reduceSub, Int.reduceLT, Nat.reduceAdd, Nat.reduceLeDiff, Int.reduceEq, Int.reduceNe, Int.reduceToNat, Tryz.f59]
theorem Qb.zn {k : Nat} {q : Rat} (h : Qb k q) {m : Nat} (hk : k ≤ m) : Zb m q.num := h.1.wk hk
theorem zb_mul {j k m : Nat} {x y : Int} (hx : Lb j x.natAbs) (hy : Lb k y.natAbs) (h : j + k ≤ m) : Zb m (x * y) := by
 unfold Zb; rw [Int.natAbs_mul]; exact (hx.mul hy).wk h
set_option maxHeartbeats 1000000 in
theorem fmul_ac {a b : Rat} (ha : Qb 400000 a) (hb : Qb 400000 b) : AC P0 60 [.i (ef a), .i (ef b)] (.i (ef (a * b))) := by
 have o1 := one_z (a.den : Int)
 have o2 := one_z (b.den : Int)
 have mn := mul_z (x := a.num) (y := b.num) (ha.1.wk (by omega)) (hb.1.wk (by omega))
 have md := mul_z (x := (a.den : Int)) (y := (b.den : Int)) (by unfold Zb; rw [Int.natAbs_natCast]; exact ha.2.wk (by omega)) (by unfold Zb; rw [Int.natAbs_natCast]; exact hb.2.wk (by omega))
 rw [← Int.natCast_mul] at md
 have hnew := fnew_ac (n := a.num * b.num) (d := a.den * b.den) (Nat.mul_ne_zero a.den_nz b.den_nz) (zb_mul ha.1 hb.1 (by omega)) ((ha.2.mul hb.2).wk (by omega))
 rw [← mul_mk] at hnew
 have short : a.den = 1 → b.den = 1 → (a * b).num = a.num * b.num ∧ (a * b).den = 1 := fun h1 h2 => by
  obtain ⟨e1, e2⟩ := mkRat_nd (n := a.num * b.num) (d := a.den * b.den) (Nat.mul_ne_zero a.den_nz b.den_nz)
  rw [← mul_mk] at e1 e2
  rw [h1, h2] at e1 e2
  rw [e1, e2]; simp
 simp only [ef, encZ_nat, encZ_eq a.num, encZ_eq b.num, encZ_eq (_ * _), ew, words] at o1 o2 mn md hnew
 refine AC.of_go Tryz.func60 rfl rfl (Nat.le_of_ble_eq_true rfl) ?_
 simp +contextual (disch := first | (intro _; intros; contradiction) | omega | (simp only [lens]; omega)) only [go_sem, ↓reduceIte, reduceCtorEq, Nat.reduceEqDiff, Nat.reduceLT, Nat.reduceSub, Int.reduceLT, Nat.reduceAdd, Nat.reduceLeDiff, Int.reduceEq, Int.reduceNe, Int.reduceToNat, Tryz.f60, ef, ew, words]
 refine .ac o1 (by simp) ?_
 simp +contextual (disch := first | (intro _; intros; contradiction) | omega | (simp only [lens]; omega)) only [go_sem, ↓reduceIte, reduceCtorEq, Nat.reduceEqDiff, Nat.reduceLT, Nat.reduceSub, Int.reduceLT, Nat.reduceAdd, Nat.reduceLeDiff, Int.reduceEq, Int.reduceNe, Int.reduceToNat, Tryz.f60]
 refine ⟨fun h1 => .ac o2 (by simp) ?_, fun h1 => ?_⟩
 case' refine_1 =>
  simp +contextual (disch := first | (intro _; intros; contradiction) | omega | (simp only [lens]; omega)) only [go_sem, ↓reduceIte, reduceCtorEq, Nat.reduceEqDiff, Nat.reduceLT, Nat.reduceSub, Int.reduceLT, Nat.reduceAdd, Nat.reduceLeDiff, Int.reduceEq, Int.reduceNe, Int.reduceToNat, Tryz.f60]
  refine ⟨fun h2 => ?_, fun h2 => ?_⟩
 case' refine_1.refine_1 =>
  obtain ⟨q1, q2⟩ := short (by omega) (by omega)
  have q3 : a.den = 1 := by omega
  rw [q1, q2]
  refine go_drawn mixed0 (by kernel_rfl) ?_
  simp +contextual (disch := first | (intro _; intros; contradiction) | omega | (simp only [lens]; omega)) only [go_sem, ↓reduceIte, reduceCtorEq, Nat.reduceEqDiff, Nat.reduceLT, Nat.reduceSub, Int.reduceLT, Nat.reduceAdd, Nat.reduceLeDiff, Int.reduceEq, Int.reduceNe, Int.reduceToNat, Tryz.f60]
  refine ⟨_, mn, ?_⟩
  simp +contextual (disch := first | (intro _; intros; contradiction) | omega | (simp only [lens]; omega)) only [go_sem, ↓reduceIte, reduceCtorEq, Nat.reduceEqDiff, Nat.reduceLT, Nat.reduceSub, Int.reduceLT, Nat.reduceAdd, Nat.reduceLeDiff, Int.reduceEq, Int.reduceNe, Int.reduceToNat, Tryz.f60, q3]
  kernel_rfl
 all_goals (
  refine go_drawn mixed0 (by kernel_rfl) ?_
  simp +contextual (disch := first | (intro _; intros; contradiction) | omega | (simp only [lens]; omega)) only [go_sem, ↓reduceIte, reduceCtorEq, Nat.reduceEqDiff, Nat.reduceLT, Nat.reduceSub, Int.reduceLT, Nat.reduceAdd, Nat.reduceLeDiff, Int.reduceEq, Int.reduceNe, Int.reduceToNat, Tryz.f60]
  refine ⟨_, mn, _, md, _, hnew, ?_⟩
  simp +contextual (disch := first | (intro _; intros; contradiction) | omega | (simp only [lens]; omega)) only [go_sem, ↓reduceIte, reduceCtorEq, Nat.reduceEqDiff, Nat.reduceLT, Nat.reduceSub, Int.reduceLT, Nat.reduceAdd, Nat.reduceLeDiff, Int.reduceEq, Int.reduceNe, Int.reduceToNat, Tryz.f60]
  kernel_rfl)
set_option maxHeartbeats 1000000 in
theorem fadd_ac {a b : Rat} (ha : Qb 400000 a) (hb : Qb 400000 b) : AC P0 61 [.i (ef a), .i (ef b)] (.i (ef (a + b))) := by
 have o1 := one_z (a.den : Int)
 have o2 := one_z (b.den : Int)
 have hdz : ∀ {m : Nat} {n : Nat}, Lb m n → m ≤ 100000000 → Zb 100000000 (n : Int) := fun h1 h2 => by unfold Zb; rw [Int.natAbs_natCast]; exact h1.wk h2
 have m1 := mul_z (x := a.num) (y := (b.den : Int)) (ha.1.wk (by omega)) (hdz hb.2 (by omega))
 have m2 := mul_z (x := b.num) (y := (a.den : Int)) (hb.1.wk (by omega)) (hdz ha.2 (by omega))
 have md := mul_z (x := (a.den : Int)) (y := (b.den : Int)) (hdz ha.2 (by omega)) (hdz hb.2 (by omega))
 rw [← Int.natCast_mul] at md
 have b1 : Lb 800000 (a.num * (b.den : Int)).natAbs := by rw [Int.natAbs_mul, Int.natAbs_natCast]; exact (ha.1.mul hb.2).mono (by omega)
 have b2 : Lb 800000 (b.num * (a.den : Int)).natAbs := by rw [Int.natAbs_mul, Int.natAbs_natCast]; exact (hb.1.mul ha.2).mono (by omega)
 have asm := add_z (x := a.num) (y := b.num) (ha.1.wk (by omega)) (hb.1.wk (by omega))
 have al := add_z (x := a.num * (b.den : Int)) (y := b.num * (a.den : Int)) (b1.wk (by omega)) (b2.wk (by omega))
 have hnew := fnew_ac (n := a.num * b.den + b.num * a.den) (d := a.den * b.den) (Nat.mul_ne_zero a.den_nz b.den_nz) (((b1.add b2).le (Int.natAbs_add_le _ _)).wk (by omega)) ((ha.2.mul hb.2).wk (by omega))
 rw [← add_mk] at hnew
 have short : a.den = 1 → b.den = 1 → (a + b).num = a.num + b.num ∧ (a + b).den = 1 := fun h1 h2 => by
  obtain ⟨e1, e2⟩ := mkRat_nd (n := a.num * b.den + b.num * a.den) (d := a.den * b.den) (Nat.mul_ne_zero a.den_nz b.den_nz)
  rw [← add_mk] at e1 e2
  rw [h1, h2] at e1 e2
  rw [e1, e2]; simp
 simp only [ef, encZ_nat, encZ_eq a.num, encZ_eq b.num, encZ_eq (_ * _), encZ_eq (_ + _), ew, words] at o1 o2 m1 m2 md asm al hnew
 refine AC.of_go Tryz.func61 rfl rfl (Nat.le_of_ble_eq_true rfl) ?_
 simp +contextual (disch := first | (intro _; intros; contradiction) | omega | (simp only [lens]; omega)) only [go_sem, ↓reduceIte, reduceCtorEq, Nat.reduceEqDiff, Nat.reduceLT, Nat.reduceSub, Int.reduceLT, Nat.reduceAdd, Nat.reduceLeDiff, Int.reduceEq, Int.reduceNe, Int.reduceToNat, Tryz.f61, ef, ew, words]
 refine .ac o1 (by simp) ?_
 simp +contextual (disch := first | (intro _; intros; contradiction) | omega | (simp only [lens]; omega)) only [go_sem, ↓reduceIte, reduceCtorEq, Nat.reduceEqDiff, Nat.reduceLT, Nat.reduceSub, Int.reduceLT, Nat.reduceAdd, Nat.reduceLeDiff, Int.reduceEq, Int.reduceNe, Int.reduceToNat, Tryz.f61]
 refine ⟨fun h1 => .ac o2 (by simp) ?_, fun h1 => ?_⟩
 case' refine_1 =>
  simp +contextual (disch := first | (intro _; intros; contradiction) | omega | (simp only [lens]; omega)) only [go_sem, ↓reduceIte, reduceCtorEq, Nat.reduceEqDiff, Nat.reduceLT, Nat.reduceSub, Int.reduceLT, Nat.reduceAdd, Nat.reduceLeDiff, Int.reduceEq, Int.reduceNe, Int.reduceToNat, Tryz.f61]
  refine ⟨fun h2 => ?_, fun h2 => ?_⟩
 case' refine_1.refine_1 =>
  obtain ⟨q1, q2⟩ := short (by omega) (by omega)
  have q3 : a.den = 1 := by omega
  rw [q1, q2]
  refine go_drawn mixed0 (by kernel_rfl) ?_
  simp +contextual (disch := first | (intro _; intros; contradiction) | omega | (simp only [lens]; omega)) only [go_sem, ↓reduceIte, reduceCtorEq, Nat.reduceEqDiff, Nat.reduceLT, Nat.reduceSub, Int.reduceLT, Nat.reduceAdd, Nat.reduceLeDiff, Int.reduceEq, Int.reduceNe, Int.reduceToNat, Tryz.f61]
  refine ⟨_, asm, ?_⟩
  simp +contextual (disch := first | (intro _; intros; contradiction) | omega | (simp only [lens]; omega)) only [go_sem, ↓reduceIte, reduceCtorEq, Nat.reduceEqDiff, Nat.reduceLT, Nat.reduceSub, Int.reduceLT, Nat.reduceAdd, Nat.reduceLeDiff, Int.reduceEq, Int.reduceNe, Int.reduceToNat, Tryz.f61, q3]
  kernel_rfl
 all_goals (
  refine go_drawn mixed0 (by kernel_rfl) ?_
  simp +contextual (disch := first | (intro _; intros; contradiction) | omega | (simp only [lens]; omega)) only [go_sem, ↓reduceIte, reduceCtorEq, Nat.reduceEqDiff, Nat.reduceLT, Nat.reduceSub, Int.reduceLT, Nat.reduceAdd, Nat.reduceLeDiff, Int.reduceEq, Int.reduceNe, Int.reduceToNat, Tryz.f61]
  refine ⟨_, m1, _, m2, _, al, _, md, _, hnew, ?_⟩
  simp +contextual (disch := first | (intro _; intros; contradiction) | omega | (simp only [lens]; omega)) only [go_sem, ↓reduceIte, reduceCtorEq, Nat.reduceEqDiff, Nat.reduceLT, Nat.reduceSub, Int.reduceLT, Nat.reduceAdd, Nat.reduceLeDiff, Int.reduceEq, Int.reduceNe, Int.reduceToNat, Tryz.f61]
  kernel_rfl)
end Go.Lw
end
