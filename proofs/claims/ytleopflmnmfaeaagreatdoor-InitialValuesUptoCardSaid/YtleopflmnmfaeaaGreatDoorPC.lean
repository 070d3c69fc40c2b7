/-
A part of the proof that the statement InitialValues holds of the given program (second form, tied card): the contracts of the whole numbers.
-/
import Derived.Test.YtleopflmnmfaeaaGreatDoorPA
import Derived.Test.YtleopflmnmfaeaaGreatDoorPM
import Derived.Test.YtleopflmnmfaeaaGreatDoorProg
set_option autoImplicit false
set_option linter.unusedSimpArgs false
set_option linter.unusedVariables false
set_option linter.unnecessarySimpa false
section
namespace Go.Lw
def dv (b : Nat) : List Nat → Nat
 | [] => 0
 | d :: l => d + b * dv b l
def dg (b u : Nat) : List Nat := if _h : u = 0 ∨ b < 2 then [] else (u % b) :: dg b (u / b)
termination_by u
decreasing_by exact Nat.div_lt_self (by omega) (by omega)
theorem dg_zero (b : Nat) : dg b 0 = [] := by rw [dg]; simp
theorem dg_pos {b u : Nat} (hb : 2 ≤ b) (h : u ≠ 0) : dg b u = (u % b) :: dg b (u / b) := by rw [dg, dif_neg (by omega)]
theorem dv_dg {b : Nat} (hb : 2 ≤ b) (u : Nat) : dv b (dg b u) = u := by
 induction u using Nat.strongRecOn with
 | _ u ih =>
  by_cases h : u = 0
  ·subst h; rw [dg_zero]; rfl
  ·rw [dg_pos hb h, dv, ih _ (Nat.div_lt_self (by omega) (by omega))]
   exact Nat.mod_add_div u b
def Dl (b : Nat) (l : List Nat) : Prop := ∀ d ∈ l, d < b
theorem Dl.nil (b : Nat) : Dl b [] := fun _ h => by simp at h
theorem Dl.cons {b d : Nat} {l : List Nat} (h : d < b) (hl : Dl b l) : Dl b (d :: l) := fun x hx => by
 rcases List.mem_cons.1 hx with rfl | h
 ·assumption
 ·exact hl _ h
theorem Dl.head {b d : Nat} {l : List Nat} (h : Dl b (d :: l)) : d < b := h d (by simp)
theorem Dl.tail {b d : Nat} {l : List Nat} (h : Dl b (d :: l)) : Dl b l := fun x hx => h x (by simp [hx])
theorem Dl.append {b : Nat} {l m : List Nat} (h : Dl b l) (h2 : Dl b m) : Dl b (l ++ m) := fun x hx => by
 rcases List.mem_append.1 hx with h' | h'
 ·exact h _ h'
 ·exact h2 _ h'
theorem Dl.left {b : Nat} {l m : List Nat} (h : Dl b (l ++ m)) : Dl b l := fun x hx => h x (by simp [hx])
theorem Dl.right {b : Nat} {l m : List Nat} (h : Dl b (l ++ m)) : Dl b m := fun x hx => h x (by simp [hx])
theorem Dl.take {b : Nat} {l : List Nat} (n : Nat) (h : Dl b l) : Dl b (l.take n) := fun x hx => h x (List.mem_of_mem_take hx)
theorem Dl.drop {b : Nat} {l : List Nat} (n : Nat) (h : Dl b l) : Dl b (l.drop n) := fun x hx => h x (List.mem_of_mem_drop hx)
theorem Dl.getD {b : Nat} (hb : 0 < b) {l : List Nat} (h : Dl b l) (i : Nat) : l.getD i 0 < b := by
 rw [List.getD_eq_getElem?_getD]
 by_cases hi : i < l.length
 ·rw [List.getElem?_eq_getElem hi]; exact h _ (List.getElem_mem hi)
 ·rw [List.getElem?_eq_none (by omega)]; exact hb
theorem dg_dl {b : Nat} (hb : 2 ≤ b) (u : Nat) : Dl b (dg b u) := by
 induction u using Nat.strongRecOn with
 | _ u ih =>
  by_cases h : u = 0
  ·subst h; rw [dg_zero]; exact .nil b
  ·rw [dg_pos hb h]; exact .cons (Nat.mod_lt _ (by omega)) (ih _ (Nat.div_lt_self (by omega) (by omega)))
theorem dv_append (b : Nat) (l m : List Nat) : dv b (l ++ m) = dv b l + b ^ l.length * dv b m := by
 induction l with
 | nil => simp [dv]
 | cons d l ih =>
  simp only [List.cons_append, dv, ih, List.length_cons, Nat.pow_succ]
  rw [Nat.mul_add, ← Nat.add_assoc, ← Nat.mul_assoc, Nat.mul_comm b (b ^ l.length)]
theorem dv_replicate (b n : Nat) : dv b (List.replicate n 0) = 0 := by
 induction n with
 | zero => rfl
 | succ n ih => rw [List.replicate_succ, dv, ih]; simp
theorem dv_zeros (b n : Nat) (l : List Nat) : dv b (l ++ List.replicate n 0) = dv b l := by rw [dv_append, dv_replicate]; simp
theorem dv_lt {b : Nat} {l : List Nat} (h : Dl b l) : dv b l < b ^ l.length := by
 induction l with
 | nil => simp [dv]
 | cons d l ih =>
  have h1 := h.head
  have h2 := ih h.tail
  simp only [dv, List.length_cons, Nat.pow_succ]
  have : b * (dv b l + 1) ≤ b * b ^ l.length := Nat.mul_le_mul_left _ h2
  rw [Nat.mul_add] at this
  rw [Nat.mul_comm (b ^ l.length)]
  omega
structure Cn (b : Nat) (l : List Nat) : Prop where
 dl : Dl b l
 last : ∀ m d, l = m ++ [d] → d ≠ 0
theorem Cn.nil (b : Nat) : Cn b [] := ⟨.nil b, fun m d h => by simp at h⟩
theorem Cn.tail {b d : Nat} {l : List Nat} (h : Cn b (d :: l)) : Cn b l := ⟨h.dl.tail, fun m e he => h.last (d :: m) e (by rw [he]; rfl)⟩
theorem dg_cn {b : Nat} (hb : 2 ≤ b) (u : Nat) : Cn b (dg b u) := by
 refine ⟨dg_dl hb u, ?_⟩
 induction u using Nat.strongRecOn with
 | _ u ih =>
  by_cases h : u = 0
  ·subst h; rw [dg_zero]; intro m d h; simp at h
  ·rw [dg_pos hb h]
   intro m d hm
   cases m with
   | nil =>
    simp only [List.nil_append, List.cons.injEq] at hm
    obtain ⟨h1, h2⟩ := hm
    have : u / b = 0 := by have := dv_dg hb (u / b); rw [h2] at this; exact this.symm
    have := Nat.mod_add_div u b
    rw [‹u / b = 0›] at this
    omega
   | cons x m =>
    simp only [List.cons_append, List.cons.injEq] at hm
    exact ih _ (Nat.div_lt_self (by omega) (by omega)) m d hm.2
theorem Cn.pos {b d : Nat} {l : List Nat} (hb : 2 ≤ b) (h : Cn b (d :: l)) : 0 < dv b (d :: l) := by
 induction l generalizing d with
 | nil => have := h.last [] d rfl; simp [dv]; omega
 | cons e l ih => have := ih h.tail; rw [dv]; have : b * 1 ≤ b * dv b (e :: l) := Nat.mul_le_mul_left _ this; omega
theorem dg_dv {b : Nat} (hb : 2 ≤ b) {l : List Nat} (h : Cn b l) : dg b (dv b l) = l := by
 induction l with
 | nil => exact dg_zero b
 | cons d l ih =>
  have hp := h.pos hb
  rw [dg_pos hb (by omega)]
  have hd := h.dl.head
  have e1 : dv b (d :: l) % b = d := by rw [dv, Nat.add_mul_mod_self_left, Nat.mod_eq_of_lt hd]
  have e2 : dv b (d :: l) / b = dv b l := by rw [dv, Nat.add_mul_div_left _ _ (by omega), Nat.div_eq_of_lt hd]; simp
  rw [e1, e2, ih h.tail]
theorem Cn.inj {b : Nat} (hb : 2 ≤ b) {l m : List Nat} (h : Cn b l) (h2 : Cn b m) (e : dv b l = dv b m) : l = m := by
 rw [← dg_dv hb h, ← dg_dv hb h2, e]
def trimZ (l : List Nat) : List Nat := (l.reverse.dropWhile (· == 0)).reverse
theorem trimZ_nil : trimZ [] = [] := rfl
theorem trimZ_snoc (l : List Nat) (d : Nat) : trimZ (l ++ [d]) = if d = 0 then trimZ l else l ++ [d] := by
 unfold trimZ
 simp only [List.reverse_append, List.reverse_cons, List.reverse_nil, List.nil_append, List.singleton_append, List.dropWhile_cons]
 by_cases h : d = 0
 ·subst h; simp
 ·simp [h]
theorem list_snoc {α : Type} (l : List α) : l = [] ∨ ∃ m d, l = m ++ [d] := by
 rcases List.eq_nil_or_concat l with h | ⟨m, d, h⟩
 ·exact .inl h
 ·exact .inr ⟨m, d, by rw [h, List.concat_eq_append]⟩
theorem trimZ_spec (b : Nat) (l : List Nat) (h : Dl b l) : Cn b (trimZ l) ∧ dv b (trimZ l) = dv b l ∧ (trimZ l).length ≤ l.length := by
 generalize hn : l.length = n
 induction n generalizing l with
 | zero =>
  have : l = [] := List.length_eq_zero_iff.1 hn
  subst this
  exact ⟨.nil b, rfl, Nat.le_refl _⟩
 | succ n ih =>
  rcases list_snoc l with rfl | ⟨m, d, rfl⟩
  ·simp at hn
  ·rw [trimZ_snoc]
   have hm : m.length = n := by simpa using hn
   split
   ·rename_i hd
    subst hd
    obtain ⟨h1, h2, h3⟩ := ih m h.left hm
    exact ⟨h1, by rw [h2, dv_append]; simp [dv], by omega⟩
   ·rename_i hd
    refine ⟨⟨h, fun k e he => ?_⟩, rfl, by simp; omega⟩
    have := List.append_inj_right' he rfl
    simp at this
    omega
theorem trimZ_dg {b : Nat} (hb : 2 ≤ b) {l : List Nat} (h : Dl b l) : trimZ l = dg b (dv b l) := by
 obtain ⟨h1, h2, _⟩ := trimZ_spec b l h
 rw [← h2, dg_dv hb h1]
theorem dg_len_le {b : Nat} (hb : 2 ≤ b) {u n : Nat} (h : u < b ^ n) : (dg b u).length ≤ n := by
 induction n generalizing u with
 | zero => have : u = 0 := by simp at h; omega
           subst this; simp [dg_zero]
 | succ n ih =>
  by_cases h0 : u = 0
  ·subst h0; simp [dg_zero]
  ·rw [dg_pos hb h0, List.length_cons]
   have : u / b < b ^ n := by
    rw [Nat.div_lt_iff_lt_mul (by omega), ← Nat.pow_succ]; exact h
   have := ih this
   omega
theorem dg_lt_pow {b : Nat} (hb : 2 ≤ b) (u : Nat) : u < b ^ (dg b u).length := by
 have := dv_lt (dg_dl hb u)
 rwa [dv_dg hb] at this
theorem dg_pow_le {b : Nat} (hb : 2 ≤ b) {u : Nat} (h : u ≠ 0) : b ^ ((dg b u).length - 1) ≤ u := by
 induction u using Nat.strongRecOn with
 | _ u ih =>
  rw [dg_pos hb h, List.length_cons, Nat.add_sub_cancel]
  by_cases h1 : u / b = 0
  ·rw [h1, dg_zero]; simp; omega
  ·have := ih (u / b) (Nat.div_lt_self (by omega) (by omega)) h1
   have h2 : (dg b (u / b)).length ≠ 0 := by
    rw [dg_pos hb h1]; simp
   obtain ⟨k, hk⟩ : ∃ k, (dg b (u / b)).length = k + 1 := ⟨_, (Nat.succ_pred_eq_of_ne_zero h2).symm⟩
   rw [hk, Nat.add_sub_cancel] at this
   rw [hk, Nat.pow_succ]
   calc b ^ k * b ≤ u / b * b := Nat.mul_le_mul_right _ this
    _ ≤ u := Nat.div_mul_le_self u b
theorem dg_len_eq {b : Nat} (hb : 2 ≤ b) {u n : Nat} (h1 : b ^ n ≤ u) (h2 : u < b ^ (n + 1)) : (dg b u).length = n + 1 := by
 have a := dg_len_le hb h2
 have c := dg_lt_pow hb u
 rcases Nat.lt_or_ge (dg b u).length (n + 1) with h | h
 ·have : b ^ (dg b u).length ≤ b ^ n := Nat.pow_le_pow_right (by omega) (by omega)
  omega
 ·omega
theorem dg_nil_iff {b : Nat} (hb : 2 ≤ b) (u : Nat) : dg b u = [] ↔ u = 0 := by
 constructor
 ·intro h; have := dv_dg hb u; rw [h] at this; exact this.symm
 ·rintro rfl; exact dg_zero b
theorem dv_lt_of_last {b : Nat} {l m : List Nat} {x y : Nat} (hl : l.length = m.length) (h : Dl b l) (hxy : x < y) : dv b (l ++ [x]) < dv b (m ++ [y]) := by
 rw [dv_append, dv_append, hl]
 have h1 := dv_lt h
 rw [hl] at h1
 simp only [dv, Nat.mul_zero, Nat.add_zero]
 have : b ^ m.length * (x + 1) ≤ b ^ m.length * y := Nat.mul_le_mul_left _ hxy
 rw [Nat.mul_add] at this
 omega
theorem dv_lt_of_len {b : Nat} (hb : 2 ≤ b) {l m : List Nat} (h : Dl b l) (hm : Cn b m) (hl : l.length < m.length) : dv b l < dv b m := by
 have h1 := dv_lt h
 have h2 : dv b m ≠ 0 := by
  cases m with
  | nil => simp at hl
  | cons d m => have := hm.pos hb; omega
 have h3 := dg_pow_le hb h2
 rw [dg_dv hb hm] at h3
 have : b ^ l.length ≤ b ^ (m.length - 1) := Nat.pow_le_pow_right (by omega) (by omega)
 omega
theorem getD_eq_of_dg {b : Nat} (hb : 2 ≤ b) (u i : Nat) : (dg b u).getD i 0 = u / b ^ i % b := by
 induction i generalizing u with
 | zero =>
  by_cases h : u = 0
  ·subst h; simp [dg_zero]
  ·rw [dg_pos hb h]; simp
 | succ i ih =>
  by_cases h : u = 0
  ·subst h; simp [dg_zero]
  ·rw [dg_pos hb h]
   have := ih (u / b)
   rw [List.getD_cons_succ, this, Nat.div_div_eq_div_mul, Nat.pow_succ, Nat.mul_comm b]
end Go.Lw
end
section
namespace Go.Lw
open Go.Proofs
noncomputable abbrev P0 := Tryz.prog
theorem mixed0 : P0.follows .mixedOrders = true := by kernel_rfl
theorem ty_kind_0 : kindT P0 0 = some false := by kernel_rfl
theorem ty_cells_0 : P0.cellsOf 0 = 1 := by kernel_rfl
theorem ty_bytes_0 : P0.bytesOf 0 = 0 := by kernel_rfl
theorem ty_zok_0 : zeroOk P0 0 = true := by kernel_rfl
theorem ty_zleaf_0 : zeroLeaf P0 0 = true := by kernel_rfl
theorem ty_int_2 : kindI P0 2 = some .i64 := by kernel_rfl
theorem ty_und_2 : (P0.underlying 2).isSome = true := by kernel_rfl
theorem ty_kind_2 : kindT P0 2 = some false := by kernel_rfl
theorem ty_cells_2 : P0.cellsOf 2 = 1 := by kernel_rfl
theorem ty_bytes_2 : P0.bytesOf 2 = 8 := by kernel_rfl
theorem ty_zok_2 : zeroOk P0 2 = true := by kernel_rfl
theorem ty_zleaf_2 : zeroLeaf P0 2 = true := by kernel_rfl
theorem ty_zD_2 : zeroD P0 2 = some [.i (.int .i64 0)] := by kernel_rfl
theorem ty_zI_2 : zeroI P0 2 = some (.int .i64 0) := by kernel_rfl
theorem ty_int_3 : kindI P0 3 = some .i64 := by kernel_rfl
theorem ty_und_3 : (P0.underlying 3).isSome = true := by kernel_rfl
theorem ty_kind_3 : kindT P0 3 = some false := by kernel_rfl
theorem ty_cells_3 : P0.cellsOf 3 = 1 := by kernel_rfl
theorem ty_bytes_3 : P0.bytesOf 3 = 8 := by kernel_rfl
theorem ty_zok_3 : zeroOk P0 3 = true := by kernel_rfl
theorem ty_zleaf_3 : zeroLeaf P0 3 = true := by kernel_rfl
theorem ty_zD_3 : zeroD P0 3 = some [.i (.int .i64 0)] := by kernel_rfl
theorem ty_zI_3 : zeroI P0 3 = some (.int .i64 0) := by kernel_rfl
theorem ty_bool_4 : P0.underlying 4 = some .bool := by kernel_rfl
theorem ty_kind_4 : kindT P0 4 = some false := by kernel_rfl
theorem ty_cells_4 : P0.cellsOf 4 = 1 := by kernel_rfl
theorem ty_bytes_4 : P0.bytesOf 4 = 1 := by kernel_rfl
theorem ty_zok_4 : zeroOk P0 4 = true := by kernel_rfl
theorem ty_zleaf_4 : zeroLeaf P0 4 = true := by kernel_rfl
theorem ty_zD_4 : zeroD P0 4 = some [.kb false] := by kernel_rfl
theorem ty_zI_4 : zeroI P0 4 = some (.bool false) := by kernel_rfl
theorem ty_int_5 : kindI P0 5 = some .u8 := by kernel_rfl
theorem ty_und_5 : (P0.underlying 5).isSome = true := by kernel_rfl
theorem ty_kind_5 : kindT P0 5 = some false := by kernel_rfl
theorem ty_cells_5 : P0.cellsOf 5 = 1 := by kernel_rfl
theorem ty_bytes_5 : P0.bytesOf 5 = 1 := by kernel_rfl
theorem ty_zok_5 : zeroOk P0 5 = true := by kernel_rfl
theorem ty_zleaf_5 : zeroLeaf P0 5 = true := by kernel_rfl
theorem ty_zD_5 : zeroD P0 5 = some [.i (.int .u8 0)] := by kernel_rfl
theorem ty_zI_5 : zeroI P0 5 = some (.int .u8 0) := by kernel_rfl
theorem ty_str_9 : P0.underlying 9 = some .string := by kernel_rfl
theorem ty_kind_9 : kindT P0 9 = some false := by kernel_rfl
theorem ty_cells_9 : P0.cellsOf 9 = 1 := by kernel_rfl
theorem ty_bytes_9 : P0.bytesOf 9 = 16 := by kernel_rfl
theorem ty_zok_9 : zeroOk P0 9 = true := by kernel_rfl
theorem ty_zleaf_9 : zeroLeaf P0 9 = true := by kernel_rfl
theorem ty_zD_9 : zeroD P0 9 = some [.i (.str ⟨#[]⟩)] := by kernel_rfl
theorem ty_zI_9 : zeroI P0 9 = some (.str ⟨#[]⟩) := by kernel_rfl
theorem ty_int_21 : kindI P0 21 = some .i32 := by kernel_rfl
theorem ty_und_21 : (P0.underlying 21).isSome = true := by kernel_rfl
theorem ty_kind_21 : kindT P0 21 = some false := by kernel_rfl
theorem ty_cells_21 : P0.cellsOf 21 = 1 := by kernel_rfl
theorem ty_bytes_21 : P0.bytesOf 21 = 4 := by kernel_rfl
theorem ty_zok_21 : zeroOk P0 21 = true := by kernel_rfl
theorem ty_zleaf_21 : zeroLeaf P0 21 = true := by kernel_rfl
theorem ty_zD_21 : zeroD P0 21 = some [.i (.int .i32 0)] := by kernel_rfl
theorem ty_zI_21 : zeroI P0 21 = some (.int .i32 0) := by kernel_rfl
theorem ty_slE_22 : slE P0 22 = some 9 := by kernel_rfl
theorem ty_kind_22 : kindT P0 22 = some false := by kernel_rfl
theorem ty_cells_22 : P0.cellsOf 22 = 1 := by kernel_rfl
theorem ty_bytes_22 : P0.bytesOf 22 = 24 := by kernel_rfl
theorem ty_zok_22 : zeroOk P0 22 = true := by kernel_rfl
theorem ty_zleaf_22 : zeroLeaf P0 22 = true := by kernel_rfl
theorem ty_zD_22 : zeroD P0 22 = some [.nils] := by kernel_rfl
theorem ty_zI_22 : zeroI P0 22 = some (.sl 0 []) := by kernel_rfl
theorem ty_fld_24_0 : fldT P0 24 0 = some (0, 9) := by kernel_rfl
theorem ty_fld_24_1 : fldT P0 24 1 = some (1, 22) := by kernel_rfl
theorem ty_places_24 : places P0 24 = some [(0, 1), (1, 1)] := by kernel_rfl
theorem ty_kind_24 : kindT P0 24 = some true := by kernel_rfl
theorem ty_cells_24 : P0.cellsOf 24 = 2 := by kernel_rfl
theorem ty_bytes_24 : P0.bytesOf 24 = 40 := by kernel_rfl
theorem ty_zok_24 : zeroOk P0 24 = true := by kernel_rfl
theorem ty_zleaf_24 : zeroLeaf P0 24 = true := by kernel_rfl
theorem ty_zD_24 : zeroD P0 24 = some [.i (.str ⟨#[]⟩), .nils] := by kernel_rfl
theorem ty_zI_24 : zeroI P0 24 = some (.agg [(.str ⟨#[]⟩), (.sl 0 [])]) := by kernel_rfl
theorem ty_int_26 : kindI P0 26 = some .i64 := by kernel_rfl
theorem ty_und_26 : (P0.underlying 26).isSome = true := by kernel_rfl
theorem ty_kind_26 : kindT P0 26 = some false := by kernel_rfl
theorem ty_cells_26 : P0.cellsOf 26 = 1 := by kernel_rfl
theorem ty_bytes_26 : P0.bytesOf 26 = 8 := by kernel_rfl
theorem ty_zok_26 : zeroOk P0 26 = true := by kernel_rfl
theorem ty_zleaf_26 : zeroLeaf P0 26 = true := by kernel_rfl
theorem ty_zD_26 : zeroD P0 26 = some [.i (.int .i64 0)] := by kernel_rfl
theorem ty_zI_26 : zeroI P0 26 = some (.int .i64 0) := by kernel_rfl
theorem ty_kind_27 : kindT P0 27 = some false := by kernel_rfl
theorem ty_cells_27 : P0.cellsOf 27 = 1 := by kernel_rfl
theorem ty_bytes_27 : P0.bytesOf 27 = 0 := by kernel_rfl
theorem ty_zok_27 : zeroOk P0 27 = true := by kernel_rfl
theorem ty_zleaf_27 : zeroLeaf P0 27 = true := by kernel_rfl
theorem ty_slE_31 : slE P0 31 = some 3 := by kernel_rfl
theorem ty_kind_31 : kindT P0 31 = some false := by kernel_rfl
theorem ty_cells_31 : P0.cellsOf 31 = 1 := by kernel_rfl
theorem ty_bytes_31 : P0.bytesOf 31 = 24 := by kernel_rfl
theorem ty_zok_31 : zeroOk P0 31 = true := by kernel_rfl
theorem ty_zleaf_31 : zeroLeaf P0 31 = true := by kernel_rfl
theorem ty_zD_31 : zeroD P0 31 = some [.nils] := by kernel_rfl
theorem ty_zI_31 : zeroI P0 31 = some (.sl 0 []) := by kernel_rfl
theorem ty_fld_33_0 : fldT P0 33 0 = some (0, 4) := by kernel_rfl
theorem ty_fld_33_1 : fldT P0 33 1 = some (1, 31) := by kernel_rfl
theorem ty_fld_33_2 : fldT P0 33 2 = some (2, 31) := by kernel_rfl
theorem ty_places_33 : places P0 33 = some [(0, 1), (1, 1), (2, 1)] := by kernel_rfl
theorem ty_kind_33 : kindT P0 33 = some true := by kernel_rfl
theorem ty_cells_33 : P0.cellsOf 33 = 3 := by kernel_rfl
theorem ty_bytes_33 : P0.bytesOf 33 = 56 := by kernel_rfl
theorem ty_zok_33 : zeroOk P0 33 = true := by kernel_rfl
theorem ty_zleaf_33 : zeroLeaf P0 33 = true := by kernel_rfl
theorem ty_zD_33 : zeroD P0 33 = some [.kb false, .nils, .nils] := by kernel_rfl
theorem ty_zI_33 : zeroI P0 33 = some (.agg [(.bool false), (.sl 0 []), (.sl 0 [])]) := by kernel_rfl
theorem ty_slE_66 : slE P0 66 = some 73 := by kernel_rfl
theorem ty_kind_66 : kindT P0 66 = some false := by kernel_rfl
theorem ty_cells_66 : P0.cellsOf 66 = 1 := by kernel_rfl
theorem ty_bytes_66 : P0.bytesOf 66 = 24 := by kernel_rfl
theorem ty_zok_66 : zeroOk P0 66 = true := by kernel_rfl
theorem ty_zleaf_66 : zeroLeaf P0 66 = true := by kernel_rfl
theorem ty_zD_66 : zeroD P0 66 = some [.nils] := by kernel_rfl
theorem ty_zI_66 : zeroI P0 66 = some (.sl 0 []) := by kernel_rfl
theorem ty_kind_67 : kindT P0 67 = some false := by kernel_rfl
theorem ty_cells_67 : P0.cellsOf 67 = 1 := by kernel_rfl
theorem ty_bytes_67 : P0.bytesOf 67 = 0 := by kernel_rfl
theorem ty_zok_67 : zeroOk P0 67 = true := by kernel_rfl
theorem ty_zleaf_67 : zeroLeaf P0 67 = true := by kernel_rfl
theorem ty_slE_69 : slE P0 69 = some 170 := by kernel_rfl
theorem ty_kind_69 : kindT P0 69 = some false := by kernel_rfl
theorem ty_cells_69 : P0.cellsOf 69 = 1 := by kernel_rfl
theorem ty_bytes_69 : P0.bytesOf 69 = 24 := by kernel_rfl
theorem ty_zok_69 : zeroOk P0 69 = true := by kernel_rfl
theorem ty_zleaf_69 : zeroLeaf P0 69 = true := by kernel_rfl
theorem ty_zD_69 : zeroD P0 69 = some [.nils] := by kernel_rfl
theorem ty_zI_69 : zeroI P0 69 = some (.sl 0 []) := by kernel_rfl
theorem ty_fld_71_0 : fldT P0 71 0 = some (0, 4) := by kernel_rfl
theorem ty_fld_71_1 : fldT P0 71 1 = some (1, 69) := by kernel_rfl
theorem ty_places_71 : places P0 71 = some [(0, 1), (1, 1)] := by kernel_rfl
theorem ty_kind_71 : kindT P0 71 = some true := by kernel_rfl
theorem ty_cells_71 : P0.cellsOf 71 = 2 := by kernel_rfl
theorem ty_bytes_71 : P0.bytesOf 71 = 32 := by kernel_rfl
theorem ty_zok_71 : zeroOk P0 71 = true := by kernel_rfl
theorem ty_zleaf_71 : zeroLeaf P0 71 = true := by kernel_rfl
theorem ty_zD_71 : zeroD P0 71 = some [.kb false, .nils] := by kernel_rfl
theorem ty_zI_71 : zeroI P0 71 = some (.agg [(.bool false), (.sl 0 [])]) := by kernel_rfl
theorem ty_fld_73_0 : fldT P0 73 0 = some (0, 71) := by kernel_rfl
theorem ty_fld_73_1 : fldT P0 73 1 = some (2, 71) := by kernel_rfl
theorem ty_places_73 : places P0 73 = some [(0, 2), (2, 2)] := by kernel_rfl
theorem ty_kind_73 : kindT P0 73 = some true := by kernel_rfl
theorem ty_cells_73 : P0.cellsOf 73 = 4 := by kernel_rfl
theorem ty_bytes_73 : P0.bytesOf 73 = 64 := by kernel_rfl
theorem ty_zok_73 : zeroOk P0 73 = true := by kernel_rfl
theorem ty_zleaf_73 : zeroLeaf P0 73 = true := by kernel_rfl
theorem ty_zD_73 : zeroD P0 73 = some [.kb false, .nils, .kb false, .nils] := by kernel_rfl
theorem ty_zI_73 : zeroI P0 73 = some (.agg [(.bool false), (.sl 0 []), (.bool false), (.sl 0 [])]) := by kernel_rfl
theorem ty_kind_74 : kindT P0 74 = some false := by kernel_rfl
theorem ty_cells_74 : P0.cellsOf 74 = 1 := by kernel_rfl
theorem ty_bytes_74 : P0.bytesOf 74 = 0 := by kernel_rfl
theorem ty_zok_74 : zeroOk P0 74 = true := by kernel_rfl
theorem ty_zleaf_74 : zeroLeaf P0 74 = true := by kernel_rfl
theorem ty_kind_79 : kindT P0 79 = some false := by kernel_rfl
theorem ty_cells_79 : P0.cellsOf 79 = 1 := by kernel_rfl
theorem ty_bytes_79 : P0.bytesOf 79 = 0 := by kernel_rfl
theorem ty_zok_79 : zeroOk P0 79 = true := by kernel_rfl
theorem ty_zleaf_79 : zeroLeaf P0 79 = true := by kernel_rfl
theorem ty_int_86 : kindI P0 86 = some .u64 := by kernel_rfl
theorem ty_und_86 : (P0.underlying 86).isSome = true := by kernel_rfl
theorem ty_kind_86 : kindT P0 86 = some false := by kernel_rfl
theorem ty_cells_86 : P0.cellsOf 86 = 1 := by kernel_rfl
theorem ty_bytes_86 : P0.bytesOf 86 = 8 := by kernel_rfl
theorem ty_zok_86 : zeroOk P0 86 = true := by kernel_rfl
theorem ty_zleaf_86 : zeroLeaf P0 86 = true := by kernel_rfl
theorem ty_zD_86 : zeroD P0 86 = some [.i (.int .u64 0)] := by kernel_rfl
theorem ty_zI_86 : zeroI P0 86 = some (.int .u64 0) := by kernel_rfl
theorem ty_kind_123 : kindT P0 123 = some false := by kernel_rfl
theorem ty_cells_123 : P0.cellsOf 123 = 1 := by kernel_rfl
theorem ty_bytes_123 : P0.bytesOf 123 = 0 := by kernel_rfl
theorem ty_zok_123 : zeroOk P0 123 = true := by kernel_rfl
theorem ty_zleaf_123 : zeroLeaf P0 123 = true := by kernel_rfl
theorem ty_kind_125 : kindT P0 125 = some false := by kernel_rfl
theorem ty_cells_125 : P0.cellsOf 125 = 1 := by kernel_rfl
theorem ty_bytes_125 : P0.bytesOf 125 = 0 := by kernel_rfl
theorem ty_zok_125 : zeroOk P0 125 = true := by kernel_rfl
theorem ty_zleaf_125 : zeroLeaf P0 125 = true := by kernel_rfl
theorem ty_kind_132 : kindT P0 132 = some false := by kernel_rfl
theorem ty_cells_132 : P0.cellsOf 132 = 1 := by kernel_rfl
theorem ty_bytes_132 : P0.bytesOf 132 = 8 := by kernel_rfl
theorem ty_zok_132 : zeroOk P0 132 = true := by kernel_rfl
theorem ty_zleaf_132 : zeroLeaf P0 132 = true := by kernel_rfl
theorem ty_zD_132 : zeroD P0 132 = some [.i .nilf] := by kernel_rfl
theorem ty_zI_132 : zeroI P0 132 = some .nilf := by kernel_rfl
theorem ty_kind_134 : kindT P0 134 = some false := by kernel_rfl
theorem ty_cells_134 : P0.cellsOf 134 = 1 := by kernel_rfl
theorem ty_bytes_134 : P0.bytesOf 134 = 0 := by kernel_rfl
theorem ty_zok_134 : zeroOk P0 134 = true := by kernel_rfl
theorem ty_zleaf_134 : zeroLeaf P0 134 = true := by kernel_rfl
theorem ty_kind_167 : kindT P0 167 = some false := by kernel_rfl
theorem ty_cells_167 : P0.cellsOf 167 = 1 := by kernel_rfl
theorem ty_bytes_167 : P0.bytesOf 167 = 0 := by kernel_rfl
theorem ty_zok_167 : zeroOk P0 167 = true := by kernel_rfl
theorem ty_zleaf_167 : zeroLeaf P0 167 = true := by kernel_rfl
theorem ty_int_170 : kindI P0 170 = some .u32 := by kernel_rfl
theorem ty_und_170 : (P0.underlying 170).isSome = true := by kernel_rfl
theorem ty_kind_170 : kindT P0 170 = some false := by kernel_rfl
theorem ty_cells_170 : P0.cellsOf 170 = 1 := by kernel_rfl
theorem ty_bytes_170 : P0.bytesOf 170 = 4 := by kernel_rfl
theorem ty_zok_170 : zeroOk P0 170 = true := by kernel_rfl
theorem ty_zleaf_170 : zeroLeaf P0 170 = true := by kernel_rfl
theorem ty_zD_170 : zeroD P0 170 = some [.i (.int .u32 0)] := by kernel_rfl
theorem ty_zI_170 : zeroI P0 170 = some (.int .u32 0) := by kernel_rfl
theorem ty_int_172 : kindI P0 172 = some .u64 := by kernel_rfl
theorem ty_und_172 : (P0.underlying 172).isSome = true := by kernel_rfl
theorem ty_kind_172 : kindT P0 172 = some false := by kernel_rfl
theorem ty_cells_172 : P0.cellsOf 172 = 1 := by kernel_rfl
theorem ty_bytes_172 : P0.bytesOf 172 = 8 := by kernel_rfl
theorem ty_zok_172 : zeroOk P0 172 = true := by kernel_rfl
theorem ty_zleaf_172 : zeroLeaf P0 172 = true := by kernel_rfl
theorem ty_zD_172 : zeroD P0 172 = some [.i (.int .u64 0)] := by kernel_rfl
theorem ty_zI_172 : zeroI P0 172 = some (.int .u64 0) := by kernel_rfl
theorem ty_kind_175 : kindT P0 175 = some false := by kernel_rfl
theorem ty_cells_175 : P0.cellsOf 175 = 1 := by kernel_rfl
theorem ty_bytes_175 : P0.bytesOf 175 = 0 := by kernel_rfl
theorem ty_zok_175 : zeroOk P0 175 = true := by kernel_rfl
theorem ty_zleaf_175 : zeroLeaf P0 175 = true := by kernel_rfl
theorem ty_slE_178 : slE P0 178 = some 5 := by kernel_rfl
theorem ty_kind_178 : kindT P0 178 = some false := by kernel_rfl
theorem ty_cells_178 : P0.cellsOf 178 = 1 := by kernel_rfl
theorem ty_bytes_178 : P0.bytesOf 178 = 24 := by kernel_rfl
theorem ty_zok_178 : zeroOk P0 178 = true := by kernel_rfl
theorem ty_zleaf_178 : zeroLeaf P0 178 = true := by kernel_rfl
theorem ty_zD_178 : zeroD P0 178 = some [.nils] := by kernel_rfl
theorem ty_zI_178 : zeroI P0 178 = some (.sl 0 []) := by kernel_rfl
theorem ty_kind_179 : kindT P0 179 = some false := by kernel_rfl
theorem ty_cells_179 : P0.cellsOf 179 = 1 := by kernel_rfl
theorem ty_bytes_179 : P0.bytesOf 179 = 8 := by kernel_rfl
theorem ty_zok_179 : zeroOk P0 179 = true := by kernel_rfl
theorem ty_zleaf_179 : zeroLeaf P0 179 = true := by kernel_rfl
theorem ty_zD_179 : zeroD P0 179 = some [.i .nilf] := by kernel_rfl
theorem ty_zI_179 : zeroI P0 179 = some .nilf := by kernel_rfl
theorem ty_kind_180 : kindT P0 180 = some false := by kernel_rfl
theorem ty_cells_180 : P0.cellsOf 180 = 1 := by kernel_rfl
theorem ty_bytes_180 : P0.bytesOf 180 = 8 := by kernel_rfl
theorem ty_zok_180 : zeroOk P0 180 = true := by kernel_rfl
theorem ty_zleaf_180 : zeroLeaf P0 180 = true := by kernel_rfl
theorem ty_zD_180 : zeroD P0 180 = some [.i .nilf] := by kernel_rfl
theorem ty_zI_180 : zeroI P0 180 = some .nilf := by kernel_rfl
theorem ty_kind_182 : kindT P0 182 = some true := by kernel_rfl
theorem ty_cells_182 : P0.cellsOf 182 = 9 := by kernel_rfl
theorem ty_bytes_182 : P0.bytesOf 182 = 9 := by kernel_rfl
theorem ty_zok_182 : zeroOk P0 182 = true := by kernel_rfl
theorem ty_zleaf_182 : zeroLeaf P0 182 = true := by kernel_rfl
theorem ty_zD_182 : zeroD P0 182 = some [.i (.int .u8 0), .i (.int .u8 0), .i (.int .u8 0), .i (.int .u8 0), .i (.int .u8 0), .i (.int .u8 0), .i (.int .u8 0), .i (.int .u8 0), .i (.int .u8 0)] := by kernel_rfl
theorem ty_zI_182 : zeroI P0 182 = some (.agg [(.int .u8 0), (.int .u8 0), (.int .u8 0), (.int .u8 0), (.int .u8 0), (.int .u8 0), (.int .u8 0), (.int .u8 0), (.int .u8 0)]) := by kernel_rfl
theorem ty_kind_224 : kindT P0 224 = some true := by kernel_rfl
theorem ty_kind_225 : kindT P0 225 = some false := by kernel_rfl
theorem ty_cells_225 : P0.cellsOf 225 = 1 := by kernel_rfl
theorem ty_bytes_225 : P0.bytesOf 225 = 0 := by kernel_rfl
theorem ty_zok_225 : zeroOk P0 225 = true := by kernel_rfl
theorem ty_zleaf_225 : zeroLeaf P0 225 = true := by kernel_rfl
theorem ty_kind_228 : kindT P0 228 = some false := by kernel_rfl
theorem ty_cells_228 : P0.cellsOf 228 = 1 := by kernel_rfl
theorem ty_bytes_228 : P0.bytesOf 228 = 8 := by kernel_rfl
theorem ty_zok_228 : zeroOk P0 228 = true := by kernel_rfl
theorem ty_zleaf_228 : zeroLeaf P0 228 = true := by kernel_rfl
theorem ty_zD_228 : zeroD P0 228 = some [.i .nilp] := by kernel_rfl
theorem ty_zI_228 : zeroI P0 228 = some .nilp := by kernel_rfl
theorem ty_kind_231 : kindT P0 231 = some false := by kernel_rfl
theorem ty_cells_231 : P0.cellsOf 231 = 1 := by kernel_rfl
theorem ty_bytes_231 : P0.bytesOf 231 = 0 := by kernel_rfl
theorem ty_zok_231 : zeroOk P0 231 = true := by kernel_rfl
theorem ty_zleaf_231 : zeroLeaf P0 231 = true := by kernel_rfl
theorem ty_kind_233 : kindT P0 233 = some false := by kernel_rfl
theorem ty_cells_233 : P0.cellsOf 233 = 1 := by kernel_rfl
theorem ty_bytes_233 : P0.bytesOf 233 = 0 := by kernel_rfl
theorem ty_zok_233 : zeroOk P0 233 = true := by kernel_rfl
theorem ty_zleaf_233 : zeroLeaf P0 233 = true := by kernel_rfl
theorem ty_kind_236 : kindT P0 236 = some false := by kernel_rfl
theorem ty_cells_236 : P0.cellsOf 236 = 1 := by kernel_rfl
theorem ty_bytes_236 : P0.bytesOf 236 = 8 := by kernel_rfl
theorem ty_zok_236 : zeroOk P0 236 = true := by kernel_rfl
theorem ty_zleaf_236 : zeroLeaf P0 236 = true := by kernel_rfl
theorem ty_zD_236 : zeroD P0 236 = some [.i .nilf] := by kernel_rfl
theorem ty_zI_236 : zeroI P0 236 = some .nilf := by kernel_rfl
theorem ty_kind_266 : kindT P0 266 = some false := by kernel_rfl
theorem ty_cells_266 : P0.cellsOf 266 = 1 := by kernel_rfl
theorem ty_bytes_266 : P0.bytesOf 266 = 0 := by kernel_rfl
theorem ty_zok_266 : zeroOk P0 266 = true := by kernel_rfl
theorem ty_zleaf_266 : zeroLeaf P0 266 = true := by kernel_rfl
theorem ty_kind_313 : kindT P0 313 = some false := by kernel_rfl
theorem ty_cells_313 : P0.cellsOf 313 = 1 := by kernel_rfl
theorem ty_bytes_313 : P0.bytesOf 313 = 0 := by kernel_rfl
theorem ty_zok_313 : zeroOk P0 313 = true := by kernel_rfl
theorem ty_zleaf_313 : zeroLeaf P0 313 = true := by kernel_rfl
theorem ty_kind_347 : kindT P0 347 = some true := by kernel_rfl
theorem ty_fld_349_0 : fldT P0 349 0 = some (0, 5) := by kernel_rfl
theorem ty_fld_349_1 : fldT P0 349 1 = some (1, 5) := by kernel_rfl
theorem ty_places_349 : places P0 349 = some [(0, 1), (1, 1)] := by kernel_rfl
theorem ty_kind_349 : kindT P0 349 = some true := by kernel_rfl
theorem ty_cells_349 : P0.cellsOf 349 = 2 := by kernel_rfl
theorem ty_bytes_349 : P0.bytesOf 349 = 2 := by kernel_rfl
theorem ty_zok_349 : zeroOk P0 349 = true := by kernel_rfl
theorem ty_zleaf_349 : zeroLeaf P0 349 = true := by kernel_rfl
theorem ty_zD_349 : zeroD P0 349 = some [.i (.int .u8 0), .i (.int .u8 0)] := by kernel_rfl
theorem ty_zI_349 : zeroI P0 349 = some (.agg [(.int .u8 0), (.int .u8 0)]) := by kernel_rfl
theorem ty_kind_350 : kindT P0 350 = some true := by kernel_rfl
theorem ty_cells_350 : P0.cellsOf 350 = 32 := by kernel_rfl
theorem ty_bytes_350 : P0.bytesOf 350 = 32 := by kernel_rfl
theorem ty_zok_350 : zeroOk P0 350 = true := by kernel_rfl
theorem ty_zleaf_350 : zeroLeaf P0 350 = true := by kernel_rfl
theorem ty_zD_350 : zeroD P0 350 = some [.i (.int .u8 0), .i (.int .u8 0), .i (.int .u8 0), .i (.int .u8 0), .i (.int .u8 0), .i (.int .u8 0), .i (.int .u8 0), .i (.int .u8 0), .i (.int .u8 0), .i (.int .u8 0), .i (.int .u8 0), .i (.int .u8 0), .i (.int .u8 0), .i (.int .u8 0), .i (.int .u8 0), .i (.int .u8 0), .i (.int .u8 0), .i (.int .u8 0), .i (.int .u8 0), .i (.int .u8 0), .i (.int .u8 0), .i (.int .u8 0), .i (.int .u8 0), .i (.int .u8 0), .i (.int .u8 0), .i (.int .u8 0), .i (.int .u8 0), .i (.int .u8 0), .i (.int .u8 0), .i (.int .u8 0), .i (.int .u8 0), .i (.int .u8 0)] := by kernel_rfl
theorem ty_zI_350 : zeroI P0 350 = some (.agg [(.int .u8 0), (.int .u8 0), (.int .u8 0), (.int .u8 0), (.int .u8 0), (.int .u8 0), (.int .u8 0), (.int .u8 0), (.int .u8 0), (.int .u8 0), (.int .u8 0), (.int .u8 0), (.int .u8 0), (.int .u8 0), (.int .u8 0), (.int .u8 0), (.int .u8 0), (.int .u8 0), (.int .u8 0), (.int .u8 0), (.int .u8 0), (.int .u8 0), (.int .u8 0), (.int .u8 0), (.int .u8 0), (.int .u8 0), (.int .u8 0), (.int .u8 0), (.int .u8 0), (.int .u8 0), (.int .u8 0), (.int .u8 0)]) := by kernel_rfl
end Go.Lw
end
section
namespace Go.Lw
open Go.Proofs
theorem hb_3 : hasBody P0 3 = true := by kernel_rfl
theorem hb_4 : hasBody P0 4 = true := by kernel_rfl
theorem hb_6 : hasBody P0 6 = true := by kernel_rfl
theorem hb_7 : hasBody P0 7 = true := by kernel_rfl
theorem hb_8 : hasBody P0 8 = true := by kernel_rfl
theorem hb_9 : hasBody P0 9 = true := by kernel_rfl
theorem hb_10 : hasBody P0 10 = true := by kernel_rfl
theorem hb_11 : hasBody P0 11 = true := by kernel_rfl
theorem hb_12 : hasBody P0 12 = true := by kernel_rfl
theorem hb_13 : hasBody P0 13 = true := by kernel_rfl
theorem hb_14 : hasBody P0 14 = true := by kernel_rfl
theorem hb_15 : hasBody P0 15 = true := by kernel_rfl
theorem hb_22 : hasBody P0 22 = true := by kernel_rfl
theorem hb_23 : hasBody P0 23 = true := by kernel_rfl
theorem hb_24 : hasBody P0 24 = true := by kernel_rfl
theorem hb_25 : hasBody P0 25 = true := by kernel_rfl
theorem hb_26 : hasBody P0 26 = true := by kernel_rfl
theorem hb_27 : hasBody P0 27 = true := by kernel_rfl
theorem hb_28 : hasBody P0 28 = true := by kernel_rfl
theorem hb_29 : hasBody P0 29 = true := by kernel_rfl
theorem hb_30 : hasBody P0 30 = true := by kernel_rfl
theorem hb_31 : hasBody P0 31 = true := by kernel_rfl
theorem hb_32 : hasBody P0 32 = true := by kernel_rfl
theorem hb_33 : hasBody P0 33 = true := by kernel_rfl
theorem hb_34 : hasBody P0 34 = true := by kernel_rfl
theorem hb_35 : hasBody P0 35 = true := by kernel_rfl
theorem hb_36 : hasBody P0 36 = true := by kernel_rfl
theorem hb_37 : hasBody P0 37 = true := by kernel_rfl
theorem hb_38 : hasBody P0 38 = true := by kernel_rfl
theorem hb_39 : hasBody P0 39 = true := by kernel_rfl
theorem hb_51 : hasBody P0 51 = true := by kernel_rfl
theorem hb_52 : hasBody P0 52 = true := by kernel_rfl
theorem hb_53 : hasBody P0 53 = true := by kernel_rfl
theorem hb_54 : hasBody P0 54 = true := by kernel_rfl
theorem hb_55 : hasBody P0 55 = true := by kernel_rfl
theorem hb_56 : hasBody P0 56 = true := by kernel_rfl
theorem hb_57 : hasBody P0 57 = true := by kernel_rfl
theorem hb_58 : hasBody P0 58 = true := by kernel_rfl
theorem hb_59 : hasBody P0 59 = true := by kernel_rfl
theorem hb_60 : hasBody P0 60 = true := by kernel_rfl
theorem hb_61 : hasBody P0 61 = true := by kernel_rfl
theorem hb_62 : hasBody P0 62 = true := by kernel_rfl
theorem hb_63 : hasBody P0 63 = true := by kernel_rfl
theorem hb_64 : hasBody P0 64 = true := by kernel_rfl
theorem hb_65 : hasBody P0 65 = true := by kernel_rfl
theorem hb_66 : hasBody P0 66 = true := by kernel_rfl
theorem hb_67 : hasBody P0 67 = true := by kernel_rfl
theorem hb_68 : hasBody P0 68 = true := by kernel_rfl
theorem hb_69 : hasBody P0 69 = true := by kernel_rfl
theorem hb_70 : hasBody P0 70 = true := by kernel_rfl
theorem hb_71 : hasBody P0 71 = true := by kernel_rfl
theorem hb_91 : hasBody P0 91 = true := by kernel_rfl
theorem hb_92 : hasBody P0 92 = true := by kernel_rfl
theorem hb_93 : hasBody P0 93 = true := by kernel_rfl
theorem hb_94 : hasBody P0 94 = true := by kernel_rfl
theorem hb_95 : hasBody P0 95 = true := by kernel_rfl
theorem hb_96 : hasBody P0 96 = true := by kernel_rfl
theorem hb_97 : hasBody P0 97 = true := by kernel_rfl
theorem hb_98 : hasBody P0 98 = true := by kernel_rfl
theorem hb_99 : hasBody P0 99 = true := by kernel_rfl
theorem hb_100 : hasBody P0 100 = true := by kernel_rfl
theorem hb_101 : hasBody P0 101 = true := by kernel_rfl
theorem hb_102 : hasBody P0 102 = true := by kernel_rfl
theorem hb_103 : hasBody P0 103 = true := by kernel_rfl
theorem hb_104 : hasBody P0 104 = true := by kernel_rfl
theorem hb_105 : hasBody P0 105 = true := by kernel_rfl
theorem hb_106 : hasBody P0 106 = true := by kernel_rfl
theorem hb_107 : hasBody P0 107 = true := by kernel_rfl
theorem hb_108 : hasBody P0 108 = true := by kernel_rfl
theorem hb_109 : hasBody P0 109 = true := by kernel_rfl
theorem hb_110 : hasBody P0 110 = true := by kernel_rfl
theorem hb_111 : hasBody P0 111 = true := by kernel_rfl
theorem hb_133 : hasBody P0 133 = true := by kernel_rfl
theorem hb_134 : hasBody P0 134 = true := by kernel_rfl
theorem hb_135 : hasBody P0 135 = true := by kernel_rfl
theorem hb_136 : hasBody P0 136 = true := by kernel_rfl
theorem hb_137 : hasBody P0 137 = true := by kernel_rfl
theorem hb_138 : hasBody P0 138 = true := by kernel_rfl
theorem hb_139 : hasBody P0 139 = true := by kernel_rfl
theorem hb_140 : hasBody P0 140 = true := by kernel_rfl
theorem hb_141 : hasBody P0 141 = true := by kernel_rfl
theorem hb_142 : hasBody P0 142 = true := by kernel_rfl
theorem hb_143 : hasBody P0 143 = true := by kernel_rfl
theorem hb_144 : hasBody P0 144 = true := by kernel_rfl
theorem hb_145 : hasBody P0 145 = true := by kernel_rfl
theorem hb_146 : hasBody P0 146 = true := by kernel_rfl
theorem hb_147 : hasBody P0 147 = true := by kernel_rfl
theorem hb_148 : hasBody P0 148 = true := by kernel_rfl
theorem hb_149 : hasBody P0 149 = true := by kernel_rfl
theorem hb_150 : hasBody P0 150 = true := by kernel_rfl
theorem hb_174 : hasBody P0 174 = true := by kernel_rfl
theorem hb_175 : hasBody P0 175 = true := by kernel_rfl
theorem hb_176 : hasBody P0 176 = true := by kernel_rfl
theorem hb_178 : hasBody P0 178 = true := by kernel_rfl
theorem hb_179 : hasBody P0 179 = true := by kernel_rfl
theorem hb_180 : hasBody P0 180 = true := by kernel_rfl
theorem hb_181 : hasBody P0 181 = true := by kernel_rfl
theorem hb_182 : hasBody P0 182 = true := by kernel_rfl
theorem hb_183 : hasBody P0 183 = true := by kernel_rfl
theorem hb_184 : hasBody P0 184 = true := by kernel_rfl
theorem hb_185 : hasBody P0 185 = true := by kernel_rfl
theorem hb_186 : hasBody P0 186 = true := by kernel_rfl
theorem hb_187 : hasBody P0 187 = true := by kernel_rfl
theorem hb_224 : hasBody P0 224 = true := by kernel_rfl
theorem hb_225 : hasBody P0 225 = true := by kernel_rfl
theorem hb_226 : hasBody P0 226 = true := by kernel_rfl
end Go.Lw
end
section
namespace Go.Lw
theorem lens : (∀ (α : Type) (n : Nat) (a : α), (List.replicate n a).length = n) ∧ (∀ (α : Type) (l : List α) (i : Nat) (a : α), (l.set i a).length = l.length) ∧ (∀ (α : Type) (l m : List α), (l ++ m).length = l.length + m.length) ∧
  (∀ (α : Type) (i : Nat) (l : List α), (l.take i).length = min i l.length) ∧ (∀ (α : Type) (i : Nat) (l : List α), (l.drop i).length = l.length - i) ∧ (∀ (α β : Type) (f : α → β) (l : List α), (l.map f).length = l.length) ∧
  (∀ (α : Type) (a : α) (l : List α), (a :: l).length = l.length + 1) ∧ ∀ α : Type, ([] : List α).length = 0 := by simp
attribute [go_sem] go_opF go_opgF go_condF aft.eq_1 aft.eq_2 aft.eq_3 aft.eq_4 gkb.eq_1 gkb.eq_2 gbool.eq_1 gval2.eq_1 gval2.eq_2 gval2.eq_3 gtup.eq_1 ggrd.eq_1 ggrd.eq_2 ckb.eq_1 ckb.eq_2 cbool.eq_1 cval.eq_1 cval.eq_2 goD_opF goD_opgF goD_nil aftD.eq_1 aftD.eq_2 aftD.eq_3 aftD.eq_4 skipD runD kbD.eq_1 kbD.eq_2 boolD.eq_1 valD.eq_1 valD.eq_2 grdD.eq_1 grdD.eq_2 go_nil go_stop go_blk go_done go_skip go_label go_seq go_block go_exit go_ret go_region popTo stepF.eq_1 stepF.eq_2 stepF.eq_3 stepF.eq_8 stepF.eq_11 stepF.eq_12 stepF.eq_13 stepF.eq_14 stepF.eq_15 stepF.eq_16 stepF.eq_19 stepF.eq_20 stepF.eq_21 stepF.eq_22 stepF.eq_23 stepF.eq_24 stepF.eq_25 stepF.eq_26 stepF.eq_27 stepF.eq_28 stepF.eq_29 lenF.eq_1 lenF.eq_2 lenF.eq_4 lenF.eq_5 appendF.eq_1 callF.eq_1 callF.eq_2 callF.eq_3 callF.eq_6 stepF_alloc stepF_box stepF_bslice stepF_make callF_append laid_none putOb_0 putOb_1 allocG.eq_1 boxG.eq_1 bsliceG.eq_1 makeG.eq_1 makeG1.eq_1 makeG2.eq_1 makeG3.eq_1 appendG.eq_1 storeF.eq_1 storeF.eq_2 sliceF.eq_1 sliceI.eq_1 sliceI.eq_2 cutF cutO.eq_1 bndI indexF.eq_1 rangeF.eq_1 rangeG.eq_1 nextG.eq_1 nextO.eq_1 bytesF.eq_1 bytesG.eq_1 slice3F.eq_1 convF.eq_1 convF.eq_2 convF.eq_3 nilOp nilV nilF sliceTold binF.eq_1 binG.eq_1 binG.eq_2 i64o i64op i64v decide_eq_true_eq decide_eq_false_iff_not I.cells List.map_cons List.head?_cons decide_true decide_false buildSliceF.eq_1 argSl inBlockS St.ev.eq_1 St.ev.eq_2 St.ev.eq_3 St.ev.eq_4 St.get St.obj look lookO St.app putSl.eq_1 putSl.eq_2 putOb.eq_1 constD laid.eq_1 dstIn.eq_1 dstIn.eq_2 St.over D.norm gslot isOwnSrc intD binI bnd true_and and_true Option.isSome_some Option.map_some Option.map_none Option.some.injEq Bool.not_true Bool.not_false List.map_nil List.nil_append BEq.rfl Bool.true_beq Bool.false_beq Option.bind_some Option.bind_none loadD cellsAt List.getElem?_toArray List.getElem?_cons_succ List.getElem?_cons_zero implies_true false_implies List.all_cons List.all_nil D.leafB I.leafB Bool.and_true Bool.and_self Bool.true_and Nat.zero_add List.cons_append List.append_nil D.box D.toI D.leafI allI allToI mkAgg fillD splice spliceI D.aggC List.take_zero List.drop_zero List.take_succ_cons List.drop_succ_cons List.take_nil List.drop_nil List.length_cons List.length_nil Nat.le_refl List.forall_mem_cons List.not_mem_nil Nat.lt_irrefl Nat.zero_lt_one Nat.zero_lt_succ Nat.succ_pos List.length_map srcOf_sl srcOf_nils srcOf_own List.range_zero Nat.zero_mul Nat.zero_le and_self ne_eq not_false_eq_true not_true_eq_false Int.toNat_natCast Int.toNat_zero List.replicate_zero List.headD_cons hasNils isNils List.any_cons List.any_nil Bool.or_false Bool.false_or Bool.or_self Bool.or_true Bool.true_or retQ_ret retO_ret retQ_normal D.shift fresh retD allM resD settle D.i.injEq Nat.lt_add_one Nat.one_pos
attribute [go_sem] ty_kind_0 ty_cells_0 ty_bytes_0 ty_zok_0 ty_zleaf_0 ty_int_2 ty_und_2 ty_kind_2 ty_cells_2 ty_bytes_2 ty_zok_2 ty_zleaf_2 ty_zD_2 ty_zI_2 ty_int_3 ty_und_3 ty_kind_3 ty_cells_3 ty_bytes_3 ty_zok_3 ty_zleaf_3 ty_zD_3 ty_zI_3 ty_bool_4 ty_kind_4 ty_cells_4 ty_bytes_4 ty_zok_4 ty_zleaf_4 ty_zD_4 ty_zI_4 ty_int_5 ty_und_5 ty_kind_5 ty_cells_5 ty_bytes_5 ty_zok_5 ty_zleaf_5 ty_zD_5 ty_zI_5 ty_str_9 ty_kind_9 ty_cells_9 ty_bytes_9 ty_zok_9 ty_zleaf_9 ty_zD_9 ty_zI_9 ty_int_21 ty_und_21 ty_kind_21 ty_cells_21 ty_bytes_21 ty_zok_21 ty_zleaf_21 ty_zD_21 ty_zI_21 ty_slE_22 ty_kind_22 ty_cells_22 ty_bytes_22 ty_zok_22 ty_zleaf_22 ty_zD_22 ty_zI_22 ty_fld_24_0 ty_fld_24_1 ty_places_24 ty_kind_24 ty_cells_24 ty_bytes_24 ty_zok_24 ty_zleaf_24 ty_zD_24 ty_zI_24 ty_int_26 ty_und_26 ty_kind_26 ty_cells_26 ty_bytes_26 ty_zok_26 ty_zleaf_26 ty_zD_26 ty_zI_26 ty_kind_27 ty_cells_27 ty_bytes_27 ty_zok_27 ty_zleaf_27 ty_slE_31 ty_kind_31 ty_cells_31 ty_bytes_31 ty_zok_31 ty_zleaf_31 ty_zD_31 ty_zI_31 ty_fld_33_0 ty_fld_33_1 ty_fld_33_2 ty_places_33 ty_kind_33 ty_cells_33 ty_bytes_33 ty_zok_33 ty_zleaf_33 ty_zD_33 ty_zI_33 ty_slE_66 ty_kind_66 ty_cells_66 ty_bytes_66 ty_zok_66 ty_zleaf_66 ty_zD_66 ty_zI_66 ty_kind_67 ty_cells_67 ty_bytes_67 ty_zok_67 ty_zleaf_67 ty_slE_69 ty_kind_69 ty_cells_69 ty_bytes_69 ty_zok_69 ty_zleaf_69 ty_zD_69 ty_zI_69 ty_fld_71_0 ty_fld_71_1 ty_places_71 ty_kind_71 ty_cells_71 ty_bytes_71 ty_zok_71 ty_zleaf_71 ty_zD_71 ty_zI_71 ty_fld_73_0 ty_fld_73_1 ty_places_73 ty_kind_73 ty_cells_73 ty_bytes_73 ty_zok_73 ty_zleaf_73 ty_zD_73 ty_zI_73 ty_kind_74 ty_cells_74 ty_bytes_74 ty_zok_74 ty_zleaf_74 ty_kind_79 ty_cells_79 ty_bytes_79 ty_zok_79 ty_zleaf_79 ty_int_86 ty_und_86 ty_kind_86 ty_cells_86 ty_bytes_86 ty_zok_86 ty_zleaf_86 ty_zD_86 ty_zI_86 ty_kind_123 ty_cells_123 ty_bytes_123 ty_zok_123 ty_zleaf_123 ty_kind_125 ty_cells_125 ty_bytes_125 ty_zok_125 ty_zleaf_125 ty_kind_132 ty_cells_132 ty_bytes_132 ty_zok_132 ty_zleaf_132 ty_zD_132 ty_zI_132 ty_kind_134 ty_cells_134 ty_bytes_134 ty_zok_134 ty_zleaf_134 ty_kind_167 ty_cells_167 ty_bytes_167 ty_zok_167 ty_zleaf_167 ty_int_170 ty_und_170 ty_kind_170 ty_cells_170 ty_bytes_170 ty_zok_170 ty_zleaf_170 ty_zD_170 ty_zI_170 ty_int_172 ty_und_172 ty_kind_172 ty_cells_172 ty_bytes_172 ty_zok_172 ty_zleaf_172 ty_zD_172 ty_zI_172 ty_kind_175 ty_cells_175 ty_bytes_175 ty_zok_175 ty_zleaf_175 ty_slE_178 ty_kind_178 ty_cells_178 ty_bytes_178 ty_zok_178 ty_zleaf_178 ty_zD_178 ty_zI_178 ty_kind_179 ty_cells_179 ty_bytes_179 ty_zok_179 ty_zleaf_179 ty_zD_179 ty_zI_179 ty_kind_180 ty_cells_180 ty_bytes_180 ty_zok_180 ty_zleaf_180 ty_zD_180 ty_zI_180 ty_kind_182 ty_cells_182 ty_bytes_182 ty_zok_182 ty_zleaf_182 ty_zD_182 ty_zI_182 ty_kind_224 ty_kind_225 ty_cells_225 ty_bytes_225 ty_zok_225 ty_zleaf_225 ty_kind_228 ty_cells_228 ty_bytes_228 ty_zok_228 ty_zleaf_228 ty_zD_228 ty_zI_228 ty_kind_231 ty_cells_231 ty_bytes_231 ty_zok_231 ty_zleaf_231 ty_kind_233 ty_cells_233 ty_bytes_233 ty_zok_233 ty_zleaf_233 ty_kind_236 ty_cells_236 ty_bytes_236 ty_zok_236 ty_zleaf_236 ty_zD_236 ty_zI_236 ty_kind_266 ty_cells_266 ty_bytes_266 ty_zok_266 ty_zleaf_266 ty_kind_313 ty_cells_313 ty_bytes_313 ty_zok_313 ty_zleaf_313 ty_kind_347 ty_fld_349_0 ty_fld_349_1 ty_places_349 ty_kind_349 ty_cells_349 ty_bytes_349 ty_zok_349 ty_zleaf_349 ty_zD_349 ty_zI_349 ty_kind_350 ty_cells_350 ty_bytes_350 ty_zok_350 ty_zleaf_350 ty_zD_350 ty_zI_350
attribute [go_sem] hb_3 hb_4 hb_6 hb_7 hb_8 hb_9 hb_10 hb_11 hb_12 hb_13 hb_14 hb_15 hb_22 hb_23 hb_24 hb_25 hb_26 hb_27 hb_28 hb_29 hb_30 hb_31 hb_32 hb_33 hb_34 hb_35 hb_36 hb_37 hb_38 hb_39 hb_51 hb_52 hb_53 hb_54 hb_55 hb_56 hb_57 hb_58 hb_59 hb_60 hb_61 hb_62 hb_63 hb_64 hb_65 hb_66 hb_67 hb_68 hb_69 hb_70 hb_71 hb_91 hb_92 hb_93 hb_94 hb_95 hb_96 hb_97 hb_98 hb_99 hb_100 hb_101 hb_102 hb_103 hb_104 hb_105 hb_106 hb_107 hb_108 hb_109 hb_110 hb_111 hb_133 hb_134 hb_135 hb_136 hb_137 hb_138 hb_139 hb_140 hb_141 hb_142 hb_143 hb_144 hb_145 hb_146 hb_147 hb_148 hb_149 hb_150 hb_174 hb_175 hb_176 hb_178 hb_179 hb_180 hb_181 hb_182 hb_183 hb_184 hb_185 hb_186 hb_187 hb_224 hb_225 hb_226
end Go.Lw
end
section
set_option maxRecDepth 10000
namespace Go.Lw
open Go.Proofs
def word (n : Nat) : I := .int .u32 (n : Int)
def words (l : List Nat) : I := .sl 170 (l.map word)
theorem tl {s s0 : St} (h1 : s.n = s0.n := by rfl) (h2 : ∀ p ∈ s0.sl, (s.get p.1).norm = p.2.norm := by simp [St.get, look, D.norm, word]) (h3 : ∀ p ∈ s0.ob, s.obj p.1 = p.2 := by simp [St.obj, lookO, word])
  (h4 : ∀ p ∈ s0.sl, p.2.ok (fun id => (s0.obj id).isSome) = true := by simp [D.ok, D.ok1, D.ok0, St.obj, lookO]) (h5 : ∀ p ∈ s0.ob, ∀ o, p.2 = some o → o.ok (fun id => (s0.obj id).isSome) = true := by simp [Ob.ok, D.ok1, D.ok0, St.obj, lookO]) : s.Tells s0 := ⟨h1, h2, h3, h4, h5⟩
def plainL : List Nat → List Nat := fun l => (l.reverse.dropWhile (· == 0)).reverse
structure Wh where
 minus : Bool
 mag : List Nat
def encWh (w : Wh) : I := .agg [.bool w.minus, words w.mag]
theorem plainL_drop {m : List Nat} (h0 : 0 < m.length) (h : m.getD (m.length - 1) 0 = 0) : plainL (m.take (m.length - 1)) = plainL m := by
 obtain ⟨x, n, rfl⟩ : ∃ x n, m = n ++ [x] := by
  refine ⟨m.getLast (by intro e; subst e; simp at h0), m.dropLast, (List.dropLast_concat_getLast _).symm⟩
 simp at h
 subst h
 simp [plainL]
theorem plainL_keep {m : List Nat} (h0 : 0 < m.length) (h : m.getD (m.length - 1) 0 ≠ 0) : plainL m = m := by
 obtain ⟨x, n, rfl⟩ : ∃ x n, m = n ++ [x] := by
  refine ⟨m.getLast (by intro e; subst e; simp at h0), m.dropLast, (List.dropLast_concat_getLast _).symm⟩
 simp at h
 simp [plainL, h]
theorem plain_ac (l : List Nat) (hl : l.length ≤ top) : AC P0 144 [.i (words l)] (.i (words (plainL l))) := by
 refine AC.of_go Tryz.func144 rfl rfl (Nat.le_of_ble_eq_true rfl) ?_
 simp only [go_sem, ↓reduceIte, reduceCtorEq, Nat.reduceEqDiff, Nat.reduceLT, Nat.reduceSub, Int.reduceLT, Nat.reduceAdd, Nat.reduceLeDiff, Int.reduceEq, Int.reduceNe, Int.reduceToNat, Tryz.f144]
 refine go_loopI (fun m : List Nat => ⟨21, [(0, .i (words m)), (2, .nils)], []⟩) (fun m => plainL m = plainL l ∧ m.length ≤ top) List.length l ?_ ⟨rfl, hl⟩ ?_
 ·exact tl
 ·rintro K m ⟨hm1, hm2⟩ hK
  simp only [go_sem, ↓reduceIte, reduceCtorEq, Nat.reduceEqDiff, Nat.reduceLT, Nat.reduceSub, Int.reduceLT, Nat.reduceAdd, Nat.reduceLeDiff, Int.reduceEq, Int.reduceNe, Int.reduceToNat, Tryz.f144, words, List.length_map]
  refine ⟨fun h => ?_, fun h => ?_⟩
  ·have e : nth (List.map word m) (((m.length : Int) - 1).toNat) = word (m.getD (m.length - 1) 0) := by
    rw [show ((m.length : Int) - 1).toNat = m.length - 1 by omega]
    exact nth_mapD word m _ 0 (by omega)
   have hm3 := hm2
   unfold top at hm3
   refine ⟨⟨by omega, by omega⟩, ⟨by omega, by omega⟩, ?_⟩
   simp only [go_sem, ↓reduceIte, reduceCtorEq, Nat.reduceEqDiff, Nat.reduceLT, Nat.reduceSub, Int.reduceLT, Nat.reduceAdd, Nat.reduceLeDiff, Int.reduceEq, Int.reduceNe, Int.reduceToNat, Tryz.f144, e, word, List.length_map]
   refine ⟨fun hz => ?_, fun hz => ?_⟩
   ·refine ⟨by omega, ⟨by omega, by omega, by omega⟩, ?_⟩
    have e2 : ((m.length : Int) - 1).toNat = m.length - 1 := by omega
    refine hK _ (m.take (m.length - 1)) ⟨by rw [plainL_drop (by omega) (by omega), hm1], by simp; omega⟩ (by simp; omega) ?_
    simp only [e2, Int.toNat_zero, List.drop_zero, ← List.map_take, words]
    exact tl
   ·rw [← hm1, plainL_keep (by omega) (by omega)]
  ·have : m = [] := by cases m with
    | nil => rfl
    | cons x m => simp at h
   subst this
   rw [← hm1]
   rfl
def signedL (l : List Nat) (m : Bool) : Wh := ⟨m && decide (0 < (plainL l).length), plainL l⟩
theorem signed_ac (l : List Nat) (m : Bool) (hl : l.length ≤ top) : AC P0 96 [.i (words l), .i (.bool m)] (.i (encWh (signedL l m))) := by
 refine AC.of_go Tryz.func96 rfl rfl (Nat.le_of_ble_eq_true rfl) ?_
 simp only [go_sem, ↓reduceIte, reduceCtorEq, Nat.reduceEqDiff, Nat.reduceLT, Nat.reduceSub, Int.reduceLT, Nat.reduceAdd, Nat.reduceLeDiff, Int.reduceEq, Int.reduceNe, Int.reduceToNat, Tryz.f96]
 refine .ac (plain_ac l hl) (by simp) ?_
 simp only [go_sem, ↓reduceIte, reduceCtorEq, Nat.reduceEqDiff, Nat.reduceLT, Nat.reduceSub, Int.reduceLT, Nat.reduceAdd, Nat.reduceLeDiff, Int.reduceEq, Int.reduceNe, Int.reduceToNat, Tryz.f96, words]
 simp only [signedL, encWh, words]
 refine ⟨fun h => ?_, fun h => ?_⟩ <;> subst h <;> simp
theorem abs_ac (w : Wh) : AC P0 97 [.i (encWh w)] (.i (encWh ⟨false, w.mag⟩)) := by
 refine AC.of_go Tryz.func97 rfl rfl (Nat.le_of_ble_eq_true rfl) ?_
 simp only [go_sem, ↓reduceIte, reduceCtorEq, Nat.reduceEqDiff, Nat.reduceLT, Nat.reduceSub, Int.reduceLT, Nat.reduceAdd, Nat.reduceLeDiff, Int.reduceEq, Int.reduceNe, Int.reduceToNat, Tryz.f97, encWh, words]
theorem zero_ac (w : Wh) : AC P0 100 [.i (encWh w)] (.i (.bool (decide (w.mag.length = 0)))) := by
 refine AC.of_go Tryz.func100 rfl rfl (Nat.le_of_ble_eq_true rfl) ?_
 simp only [go_sem, ↓reduceIte, reduceCtorEq, Nat.reduceEqDiff, Nat.reduceLT, Nat.reduceSub, Int.reduceLT, Nat.reduceAdd, Nat.reduceLeDiff, Int.reduceEq, Int.reduceNe, Int.reduceToNat, Tryz.f100, encWh, words]
 simp
def signL (w : Wh) : Int := if w.mag.length = 0 then 0 else if w.minus then -1 else 1
theorem sign_ac (w : Wh) : AC P0 99 [.i (encWh w)] (.i (.int .i64 (signL w))) := by
 refine AC.of_go Tryz.func99 rfl rfl (Nat.le_of_ble_eq_true rfl) ?_
 simp only [go_sem, ↓reduceIte, reduceCtorEq, Nat.reduceEqDiff, Nat.reduceLT, Nat.reduceSub, Int.reduceLT, Nat.reduceAdd, Nat.reduceLeDiff, Int.reduceEq, Int.reduceNe, Int.reduceToNat, Tryz.f99, encWh, words]
 refine .ac (zero_ac w) (by simp) ?_
 simp only [go_sem, ↓reduceIte, reduceCtorEq, Nat.reduceEqDiff, Nat.reduceLT, Nat.reduceSub, Int.reduceLT, Nat.reduceAdd, Nat.reduceLeDiff, Int.reduceEq, Int.reduceNe, Int.reduceToNat, Tryz.f99, encWh, words, signL]
 refine ⟨fun h => by rw [if_pos h], fun h => ⟨fun h2 => by rw [if_neg h, if_pos h2], fun h2 => by rw [if_neg h, h2]; rfl⟩⟩
end Go.Lw
end
section
set_option maxRecDepth 10000
namespace Go.Lw
open Go.Proofs
def Dig (l : List Nat) : Prop := ∀ x ∈ l, x < 1000000000
theorem Dig.get {l : List Nat} (h : Dig l) (i : Nat) : l.getD i 0 < 1000000000 := by
 rcases Nat.lt_or_ge i l.length with hi | hi
 ·have : l.getD i 0 = l[i] := by simp [List.getD, hi]
  rw [this]; exact h _ (List.getElem_mem hi)
 ·simp [List.getD, List.getElem?_eq_none hi]
def cmpL (a b : List Nat) : Nat → Int
 | 0 => 0
 | m + 1 => if a.getD m 0 = b.getD m 0 then cmpL a b m else (a.getD m 0 : Int) - b.getD m 0
def compareL (a b : List Nat) : Int := if a.length = b.length then cmpL a b a.length else (a.length : Int) - b.length
theorem compare_ac (a b : List Nat) (ha : a.length ≤ top) (hb : b.length ≤ top) (da : Dig a) (db : Dig b) : AC P0 145 [.i (words a), .i (words b)] (.i (.int .i64 (compareL a b))) := by
 refine AC.of_go Tryz.func145 rfl rfl (Nat.le_of_ble_eq_true rfl) ?_
 simp only [go_sem, ↓reduceIte, reduceCtorEq, Nat.reduceEqDiff, Nat.reduceLT, Nat.reduceSub, Int.reduceLT, Nat.reduceAdd, Nat.reduceLeDiff, Int.reduceEq, Int.reduceNe, Int.reduceToNat, Tryz.f145, words]
 have ha' := ha
 have hb' := hb
 unfold top at ha' hb'
 refine ⟨fun h => ?_, fun h => ?_⟩
 ·refine ⟨by omega, ?_⟩
  simp only [compareL]
  rw [if_neg (by simp at h; omega)]
 ·have hl : a.length = b.length := by simp at h; omega
  refine ⟨by omega, ?_⟩
  refine go_loopI (fun m : Nat => ⟨43, [(0, .i (words a)), (1, .i (words b)), (5, .i (.int .i64 ((m : Int) - 1)))], []⟩) (fun m => m ≤ a.length ∧ compareL a b = cmpL a b m) id a.length ?_ ⟨Nat.le_refl _, by simp [compareL, hl]⟩ ?_
  ·simp only [words]
   exact tl
  ·rintro K m ⟨hm1, hm2⟩ hK
   simp only [go_sem, ↓reduceIte, reduceCtorEq, Nat.reduceEqDiff, Nat.reduceLT, Nat.reduceSub, Int.reduceLT, Nat.reduceAdd, Nat.reduceLeDiff, Int.reduceEq, Int.reduceNe, Int.reduceToNat, Tryz.f145, words]
   refine ⟨fun h => ?_, fun h => ?_⟩
   ·have e0 : ((m : Int) - 1).toNat = m - 1 := by omega
    have e1 : nth (a.map word) (m - 1) = word (a.getD (m - 1) 0) := nth_mapD word a _ 0 (by omega)
    have e2 : nth (b.map word) (m - 1) = word (b.getD (m - 1) 0) := nth_mapD word b _ 0 (by omega)
    refine go_drawn mixed0 (by kernel_rfl) ?_
    simp only [go_sem, ↓reduceIte, reduceCtorEq, Nat.reduceEqDiff, Nat.reduceLT, Nat.reduceSub, Int.reduceLT, Nat.reduceAdd, Nat.reduceLeDiff, Int.reduceEq, Int.reduceNe, Int.reduceToNat, Tryz.f145, words, e0, e1, e2, word]
    refine ⟨⟨by omega, by omega⟩, ⟨by omega, by omega⟩, by kernel_rfl, ?_⟩
    have c1 := da.get (m - 1)
    have c2 := db.get (m - 1)
    have hm3 : m = (m - 1) + 1 := by omega
    refine ⟨fun hne => ?_, fun heq => ?_⟩
    ·refine go_drawn mixed0 (by kernel_rfl) ?_
     simp only [go_sem, ↓reduceIte, reduceCtorEq, Nat.reduceEqDiff, Nat.reduceLT, Nat.reduceSub, Int.reduceLT, Nat.reduceAdd, Nat.reduceLeDiff, Int.reduceEq, Int.reduceNe, Int.reduceToNat, Tryz.f145, words, e0, e1, e2, word]
     refine ⟨⟨by omega, by omega⟩, ⟨by omega, by omega⟩, ⟨by omega, by omega⟩, ⟨by omega, by omega⟩, ⟨by omega, by omega⟩, by kernel_rfl, ?_⟩
     have hne' : ¬ a.getD (m - 1) 0 = b.getD (m - 1) 0 := by simp only [Bool.not_eq_true', decide_eq_false_iff_not] at hne; omega
     rw [hm2]
     conv => rhs; rw [hm3]
     simp only [cmpL]
     rw [if_neg hne']
    ·have heq' : a.getD (m - 1) 0 = b.getD (m - 1) 0 := by simp only [Bool.not_eq_false', decide_eq_true_eq] at heq; omega
     refine ⟨by omega, ?_⟩
     have e3 : ((m - 1 : Nat) : Int) = (m : Int) - 1 := by omega
     refine hK _ (m - 1) ⟨by omega, ?_⟩ (by simp only [id]; omega) ?_
     ·rw [hm2]
      conv => lhs; rw [hm3]
      simp only [cmpL]
      rw [if_pos heq']
     ·simp only [words, e3]
      exact tl
   ·have : m = 0 := by omega
    subst this
    rw [hm2]; rfl
def negL (w : Wh) : Wh := signedL w.mag (!w.minus)
theorem neg_ac (w : Wh) (h : w.mag.length ≤ top) : AC P0 133 [.i (encWh w)] (.i (encWh (negL w))) := by
 refine AC.of_go Tryz.func133 rfl rfl (Nat.le_of_ble_eq_true rfl) ?_
 simp only [go_sem, ↓reduceIte, reduceCtorEq, Nat.reduceEqDiff, Nat.reduceLT, Nat.reduceSub, Int.reduceLT, Nat.reduceAdd, Nat.reduceLeDiff, Int.reduceEq, Int.reduceNe, Int.reduceToNat, Tryz.f133, encWh, words, unI]
 refine .ac (signed_ac w.mag _ h) (by simp) ?_
 simp only [go_sem, ↓reduceIte, reduceCtorEq, Nat.reduceEqDiff, Nat.reduceLT, Nat.reduceSub, Int.reduceLT, Nat.reduceAdd, Nat.reduceLeDiff, Int.reduceEq, Int.reduceNe, Int.reduceToNat, Tryz.f133, encWh, words, unI, negL]
theorem clone32_aco (l : List Nat) (h0 : l ≠ []) (h : l.length ≤ 1000000000) : ACo P0 185 [.i (words l)] 170 (l.map word) := by
 refine ACo.of_go Tryz.func185 rfl rfl (Nat.le_of_ble_eq_true rfl) ?_
 simp only [go_sem, ↓reduceIte, reduceCtorEq, Nat.reduceEqDiff, Nat.reduceLT, Nat.reduceSub, Int.reduceLT, Nat.reduceAdd, Nat.reduceLeDiff, Int.reduceEq, Int.reduceNe, Int.reduceToNat, Tryz.f185, words]
 intro b hb
 have : b = false := hb (by cases l with
  | nil => exact absurd rfl h0
  | cons x l => rfl)
 subst this
 simp only [go_sem, ↓reduceIte, reduceCtorEq, Nat.reduceEqDiff, Nat.reduceLT, Nat.reduceSub, Int.reduceLT, Nat.reduceAdd, Nat.reduceLeDiff, Int.reduceEq, Int.reduceNe, Int.reduceToNat, Tryz.f185, words]
 unfold top
 exact ⟨⟨by omega, by omega⟩, _, _, _, rfl, rfl, rfl⟩
end Go.Lw
end
section
set_option maxRecDepth 10000
namespace Go.Lw
open Go.Proofs
def moreGo (b : List Nat) : List Nat → Nat → Nat → List Nat
 | [], _, c => [c]
 | x :: a, i, c => ((x + c + b.getD i 0) % 1000000000) :: moreGo b a (i + 1) ((x + c + b.getD i 0) / 1000000000)
def moreL (a b : List Nat) : List Nat := if a.length < b.length then moreGo a b 0 0 else moreGo b a 0 0
theorem wrap_u32 (n : Int) (h0 : 0 ≤ n) (h1 : n < 4294967296) : IntKind.u32.wrap n = n := by simp [IntKind.wrap, IntKind.bits, IntKind.signed]; omega
theorem tmodB (n : Nat) : ((n : Nat) : Int).tmod 1000000000 = ((n % 1000000000 : Nat) : Int) := by rw [Int.tmod_eq_emod_of_nonneg (by omega)]; omega
theorem tdivB (n : Nat) : ((n : Nat) : Int).tdiv 1000000000 = ((n / 1000000000 : Nat) : Int) := by rw [Int.tdiv_eq_ediv_of_nonneg (by omega)]; omega
theorem more_ac (a b : List Nat) (ha : a.length ≤ 1000000000) (hb : b.length ≤ 1000000000) (da : Dig a) (db : Dig b) : AC P0 148 [.i (words a), .i (words b)] (.i (words (moreL a b))) := by
 refine AC.of_go Tryz.func148 rfl rfl (Nat.le_of_ble_eq_true rfl) ?_
 simp only [go_sem, ↓reduceIte, reduceCtorEq, Nat.reduceEqDiff, Nat.reduceLT, Nat.reduceSub, Int.reduceLT, Nat.reduceAdd, Nat.reduceLeDiff, Int.reduceEq, Int.reduceNe, Int.reduceToNat, Tryz.f148, words]
 refine ⟨fun h => ?_, fun h => ?_⟩
 ·rw [show moreL a b = moreGo a b 0 0 by unfold moreL; rw [if_pos (by omega)]]
  have hlt : a.length ≤ b.length := by omega
  clear h
  revert a b
  intro B A hB hA dB dA hlt
  refine ⟨by omega, ⟨by omega, by omega, by unfold top; omega, by unfold top; omega⟩, ?_⟩
  refine go_loopI (fun p : Nat × List Nat × Nat => ⟨53, [(0, .i (.sl 170 (A.map word))), (1, .i (.sl 170 (B.map word))), (5, .own 20 p.1 0 p.1), (6, .i (.int .u32 p.2.2)), (21, .i (.sl 170 (A.map word))), (22, .i (.int .i64 A.length)), (23, .i (.int .i64 p.1))], [(20, some (.arr 170 p.1 (p.2.1.map word)))]⟩)
   (fun p => p.1 ≤ A.length ∧ p.2.1.length = p.1 ∧ p.2.2 ≤ 2 ∧ p.2.1 ++ moreGo B (A.drop p.1) p.1 p.2.2 = moreGo B A 0 0) (fun p => A.length - p.1) (0, [], 0) ?_ ⟨Nat.zero_le _, rfl, Nat.zero_le _, by simp⟩ ?_
  ·simp only [Int.toNat_zero, List.replicate_zero, List.map_nil]
   exact tl
  ·rintro K ⟨i, o, c⟩ ⟨h1, h2, h3, h4⟩ hK
   simp only at h1 h2 h3 h4
   have hB' : (B.map word).length = B.length := List.length_map ..
   simp only [go_sem, ↓reduceIte, reduceCtorEq, Nat.reduceEqDiff, Nat.reduceLT, Nat.reduceSub, Int.reduceLT, Nat.reduceAdd, Nat.reduceLeDiff, Int.reduceEq, Int.reduceNe, Int.reduceToNat, Tryz.f148, words]
   refine ⟨fun h => ?_, fun h => ?_⟩
   ·have hx : A.drop i = A.getD i 0 :: A.drop (i + 1) := by
     rw [List.drop_eq_getElem_cons (by omega)]
     simp [List.getD, show i < A.length by omega]
    have e1 : nth (A.map word) i = word (A.getD i 0) := nth_mapD word A _ 0 (by omega)
    have hxx := dA.get i
    have hyy := dB.get i
    refine ⟨⟨by omega, by omega⟩, ?_⟩
    simp only [go_sem, ↓reduceIte, reduceCtorEq, Nat.reduceEqDiff, Nat.reduceLT, Nat.reduceSub, Int.reduceLT, Nat.reduceAdd, Nat.reduceLeDiff, Int.reduceEq, Int.reduceNe, Int.reduceToNat, Tryz.f148, words, Int.toNat_natCast, e1, word]
    have w1 : IntKind.u32.wrap ((A.getD i 0 : Int) + c) = ((A.getD i 0 + c : Nat) : Int) := by rw [wrap_u32 _ (by omega) (by omega)]; omega
    have w2 : IntKind.u32.wrap (((A.getD i 0 + c : Nat) : Int) + B.getD i 0) = ((A.getD i 0 + c + B.getD i 0 : Nat) : Int) := by rw [wrap_u32 _ (by omega) (by omega)]; omega
    have w3 : ∀ n : Nat, n < 4294967296 → IntKind.u32.wrap (n : Int) = n := fun n hn => wrap_u32 _ (by omega) (by omega)
    have fin : moreGo B (A.drop i) i c = ((A.getD i 0 + c + B.getD i 0) % 1000000000) :: moreGo B (A.drop (i + 1)) (i + 1) ((A.getD i 0 + c + B.getD i 0) / 1000000000) := by rw [hx]; rfl
    simp only [w1]
    refine ⟨fun hb => ?_, fun hb => ?_⟩
    ·have e2 : nth (B.map word) i = word (B.getD i 0) := nth_mapD word B _ 0 (by omega)
     refine ⟨⟨by omega, by omega⟩, ?_⟩
     simp only [go_sem, ↓reduceIte, reduceCtorEq, Nat.reduceEqDiff, Nat.reduceLT, Nat.reduceSub, Int.reduceLT, Nat.reduceAdd, Nat.reduceLeDiff, Int.reduceEq, Int.reduceNe, Int.reduceToNat, Tryz.f148, words, e2, word, w2, tmodB, tdivB, w3 _ (show (A.getD i 0 + c + B.getD i 0) / 1000000000 < 4294967296 by omega)]
     refine ⟨by omega, ⟨by omega, by unfold top; omega, by unfold top; omega⟩, ⟨by omega, by omega⟩, ?_⟩
     refine hK _ (i + 1, o ++ [(A.getD i 0 + c + B.getD i 0) % 1000000000], (A.getD i 0 + c + B.getD i 0) / 1000000000) ⟨by simp only; omega, by simp [h2], by simp only; omega, by simp only; rw [← h4, fin]; simp⟩ (by simp only; omega) ?_
     simp only [h2]
     exact tl
    ·have hy0 : B.getD i 0 = 0 := by simp [List.getD, List.getElem?_eq_none (show B.length ≤ i by omega)]
     simp only [go_sem, ↓reduceIte, reduceCtorEq, Nat.reduceEqDiff, Nat.reduceLT, Nat.reduceSub, Int.reduceLT, Nat.reduceAdd, Nat.reduceLeDiff, Int.reduceEq, Int.reduceNe, Int.reduceToNat, Tryz.f148, words, w2, tmodB, tdivB, w3 _ (show (A.getD i 0 + c) / 1000000000 < 4294967296 by omega)]
     rw [hy0, Nat.add_zero] at fin
     refine ⟨by omega, ⟨by omega, by unfold top; omega, by unfold top; omega⟩, ⟨by omega, by omega⟩, ?_⟩
     refine hK _ (i + 1, o ++ [(A.getD i 0 + c) % 1000000000], (A.getD i 0 + c) / 1000000000) ⟨by simp only; omega, by simp [h2], by simp only; omega, by simp only; rw [← h4, fin]; simp⟩ (by simp only; omega) ?_
     simp only [h2]
     exact tl
   ·have hi : i = A.length := by omega
    refine ⟨by omega, ⟨by omega, by unfold top; omega, by unfold top; omega⟩, ?_⟩
    have e : A.drop i = [] := List.drop_eq_nil_of_le (by omega)
    rw [e] at h4
    rw [← h4]
    simp [moreGo, word]
    exact List.take_of_length_le (by simp)
 ·rw [show moreL a b = moreGo b a 0 0 by unfold moreL; rw [if_neg (by omega)]]
  have hlt : b.length ≤ a.length := by omega
  clear h
  revert a b
  intro A B hA hB dA dB hlt
  refine ⟨by omega, ⟨by omega, by omega, by unfold top; omega, by unfold top; omega⟩, ?_⟩
  refine go_loopI (fun p : Nat × List Nat × Nat => ⟨53, [(0, .i (.sl 170 (A.map word))), (1, .i (.sl 170 (B.map word))), (5, .own 20 p.1 0 p.1), (6, .i (.int .u32 p.2.2)), (21, .i (.sl 170 (A.map word))), (22, .i (.int .i64 A.length)), (23, .i (.int .i64 p.1))], [(20, some (.arr 170 p.1 (p.2.1.map word)))]⟩)
   (fun p => p.1 ≤ A.length ∧ p.2.1.length = p.1 ∧ p.2.2 ≤ 2 ∧ p.2.1 ++ moreGo B (A.drop p.1) p.1 p.2.2 = moreGo B A 0 0) (fun p => A.length - p.1) (0, [], 0) ?_ ⟨Nat.zero_le _, rfl, Nat.zero_le _, by simp⟩ ?_
  ·simp only [Int.toNat_zero, List.replicate_zero, List.map_nil]
   exact tl
  ·rintro K ⟨i, o, c⟩ ⟨h1, h2, h3, h4⟩ hK
   simp only at h1 h2 h3 h4
   have hB' : (B.map word).length = B.length := List.length_map ..
   simp only [go_sem, ↓reduceIte, reduceCtorEq, Nat.reduceEqDiff, Nat.reduceLT, Nat.reduceSub, Int.reduceLT, Nat.reduceAdd, Nat.reduceLeDiff, Int.reduceEq, Int.reduceNe, Int.reduceToNat, Tryz.f148, words]
   refine ⟨fun h => ?_, fun h => ?_⟩
   ·have hx : A.drop i = A.getD i 0 :: A.drop (i + 1) := by
     rw [List.drop_eq_getElem_cons (by omega)]
     simp [List.getD, show i < A.length by omega]
    have e1 : nth (A.map word) i = word (A.getD i 0) := nth_mapD word A _ 0 (by omega)
    have hxx := dA.get i
    have hyy := dB.get i
    refine ⟨⟨by omega, by omega⟩, ?_⟩
    simp only [go_sem, ↓reduceIte, reduceCtorEq, Nat.reduceEqDiff, Nat.reduceLT, Nat.reduceSub, Int.reduceLT, Nat.reduceAdd, Nat.reduceLeDiff, Int.reduceEq, Int.reduceNe, Int.reduceToNat, Tryz.f148, words, Int.toNat_natCast, e1, word]
    have w1 : IntKind.u32.wrap ((A.getD i 0 : Int) + c) = ((A.getD i 0 + c : Nat) : Int) := by rw [wrap_u32 _ (by omega) (by omega)]; omega
    have w2 : IntKind.u32.wrap (((A.getD i 0 + c : Nat) : Int) + B.getD i 0) = ((A.getD i 0 + c + B.getD i 0 : Nat) : Int) := by rw [wrap_u32 _ (by omega) (by omega)]; omega
    have w3 : ∀ n : Nat, n < 4294967296 → IntKind.u32.wrap (n : Int) = n := fun n hn => wrap_u32 _ (by omega) (by omega)
    have fin : moreGo B (A.drop i) i c = ((A.getD i 0 + c + B.getD i 0) % 1000000000) :: moreGo B (A.drop (i + 1)) (i + 1) ((A.getD i 0 + c + B.getD i 0) / 1000000000) := by rw [hx]; rfl
    simp only [w1]
    refine ⟨fun hb => ?_, fun hb => ?_⟩
    ·have e2 : nth (B.map word) i = word (B.getD i 0) := nth_mapD word B _ 0 (by omega)
     refine ⟨⟨by omega, by omega⟩, ?_⟩
     simp only [go_sem, ↓reduceIte, reduceCtorEq, Nat.reduceEqDiff, Nat.reduceLT, Nat.reduceSub, Int.reduceLT, Nat.reduceAdd, Nat.reduceLeDiff, Int.reduceEq, Int.reduceNe, Int.reduceToNat, Tryz.f148, words, e2, word, w2, tmodB, tdivB, w3 _ (show (A.getD i 0 + c + B.getD i 0) / 1000000000 < 4294967296 by omega)]
     refine ⟨by omega, ⟨by omega, by unfold top; omega, by unfold top; omega⟩, ⟨by omega, by omega⟩, ?_⟩
     refine hK _ (i + 1, o ++ [(A.getD i 0 + c + B.getD i 0) % 1000000000], (A.getD i 0 + c + B.getD i 0) / 1000000000) ⟨by simp only; omega, by simp [h2], by simp only; omega, by simp only; rw [← h4, fin]; simp⟩ (by simp only; omega) ?_
     simp only [h2]
     exact tl
    ·have hy0 : B.getD i 0 = 0 := by simp [List.getD, List.getElem?_eq_none (show B.length ≤ i by omega)]
     simp only [go_sem, ↓reduceIte, reduceCtorEq, Nat.reduceEqDiff, Nat.reduceLT, Nat.reduceSub, Int.reduceLT, Nat.reduceAdd, Nat.reduceLeDiff, Int.reduceEq, Int.reduceNe, Int.reduceToNat, Tryz.f148, words, w2, tmodB, tdivB, w3 _ (show (A.getD i 0 + c) / 1000000000 < 4294967296 by omega)]
     rw [hy0, Nat.add_zero] at fin
     refine ⟨by omega, ⟨by omega, by unfold top; omega, by unfold top; omega⟩, ⟨by omega, by omega⟩, ?_⟩
     refine hK _ (i + 1, o ++ [(A.getD i 0 + c) % 1000000000], (A.getD i 0 + c) / 1000000000) ⟨by simp only; omega, by simp [h2], by simp only; omega, by simp only; rw [← h4, fin]; simp⟩ (by simp only; omega) ?_
     simp only [h2]
     exact tl
   ·have hi : i = A.length := by omega
    refine ⟨by omega, ⟨by omega, by unfold top; omega, by unfold top; omega⟩, ?_⟩
    have e : A.drop i = [] := List.drop_eq_nil_of_le (by omega)
    rw [e] at h4
    rw [← h4]
    simp [moreGo, word]
    exact List.take_of_length_le (by simp)
end Go.Lw
end
section
set_option maxRecDepth 10000
namespace Go.Lw
open Go.Proofs
def lessGo (b : List Nat) : List Nat → Nat → Nat → List Nat
 | [], _, _ => []
 | x :: a, i, c => if x < c + b.getD i 0 then (x + 1000000000 - c - b.getD i 0) :: lessGo b a (i + 1) 1 else (x - c - b.getD i 0) :: lessGo b a (i + 1) 0
def lessL (a b : List Nat) : List Nat := lessGo b a 0 0
theorem less_ac (A B : List Nat) (h0 : A ≠ []) (hA : A.length ≤ 1000000000) (hB : B.length ≤ 1000000000) (dA : Dig A) (dB : Dig B) : AC P0 149 [.i (words A), .i (words B)] (.i (words (lessL A B))) := by
 refine AC.of_go Tryz.func149 rfl rfl (Nat.le_of_ble_eq_true rfl) ?_
 simp only [go_sem, ↓reduceIte, reduceCtorEq, Nat.reduceEqDiff, Nat.reduceLT, Nat.reduceSub, Int.reduceLT, Nat.reduceAdd, Nat.reduceLeDiff, Int.reduceEq, Int.reduceNe, Int.reduceToNat, Tryz.f149, words]
 refine .aco (clone32_aco A h0 hA) (by simp) rfl ?_
 simp only [go_sem, ↓reduceIte, reduceCtorEq, Nat.reduceEqDiff, Nat.reduceLT, Nat.reduceSub, Int.reduceLT, Nat.reduceAdd, Nat.reduceLeDiff, Int.reduceEq, Int.reduceNe, Int.reduceToNat, Tryz.f149, words]
 refine go_loopI (fun p : Nat × List Nat × Nat => ⟨45, [(0, .i (.sl 170 (A.map word))), (1, .i (.sl 170 (B.map word))), (5, .own 10 0 0 A.length), (6, .i (.int .i64 p.2.2)), (12, .i (.int .i64 A.length)), (13, .i (.int .i64 p.1))], [(10, some (.arr 170 0 ((p.2.1 ++ A.drop p.1).map word)))]⟩)
   (fun p => p.1 ≤ A.length ∧ p.2.1.length = p.1 ∧ p.2.2 ≤ 1 ∧ p.2.1 ++ lessGo B (A.drop p.1) p.1 p.2.2 = lessGo B A 0 0) (fun p => A.length - p.1) (0, [], 0) ?_ ⟨Nat.zero_le _, rfl, Nat.zero_le _, by simp⟩ ?_
 ·exact tl
 ·rintro K ⟨i, o, c⟩ ⟨h1, h2, h3, h4⟩ hK
  simp only at h1 h2 h3 h4
  simp only [go_sem, ↓reduceIte, reduceCtorEq, Nat.reduceEqDiff, Nat.reduceLT, Nat.reduceSub, Int.reduceLT, Nat.reduceAdd, Nat.reduceLeDiff, Int.reduceEq, Int.reduceNe, Int.reduceToNat, Tryz.f149, words]
  refine ⟨fun h => ?_, fun h => ?_⟩
  ·have hx : A.drop i = A.getD i 0 :: A.drop (i + 1) := by
    rw [List.drop_eq_getElem_cons (by omega)]
    simp [List.getD, show i < A.length by omega]
   have hxx := dA.get i
   have hyy := dB.get i
   have e1 : (List.map word (o ++ A.drop i))[i]? = some (word (A.getD i 0)) := by
    rw [hx, List.getElem?_map, List.getElem?_append_right (by omega), h2]
    simp
   have e1' : nth (List.map word (o ++ A.drop i)) i = word (A.getD i 0) := by
    unfold nth; rw [List.getD_eq_getElem?_getD, e1]; rfl
   have hset : ∀ v : Nat, (List.map word ((o ++ [v]) ++ A.drop (i + 1))) = (List.map word (o ++ A.drop i)).set i (.int .u32 (v : Int)) := by
    intro v
    rw [hx, ← h2]
    simp [word]
   simp only [go_sem, ↓reduceIte, reduceCtorEq, Nat.reduceEqDiff, Nat.reduceLT, Nat.reduceSub, Int.reduceLT, Nat.reduceAdd, Nat.reduceLeDiff, Int.reduceEq, Int.reduceNe, Int.reduceToNat, Tryz.f149, words, e1, word]
   refine ⟨⟨by omega, by omega⟩, ⟨by omega, by omega⟩, ⟨by omega, by omega⟩, ?_⟩
   refine ⟨fun hb => ?_, fun hb => ?_⟩
   ·have e2 : nth (B.map word) i = word (B.getD i 0) := nth_mapD word B _ 0 (by omega)
    refine ⟨⟨by omega, by omega⟩, ?_⟩
    simp only [go_sem, ↓reduceIte, reduceCtorEq, Nat.reduceEqDiff, Nat.reduceLT, Nat.reduceSub, Int.reduceLT, Nat.reduceAdd, Nat.reduceLeDiff, Int.reduceEq, Int.reduceNe, Int.reduceToNat, Tryz.f149, words, e2, word]
    refine ⟨⟨by omega, by omega⟩, ⟨by omega, by omega⟩, ?_⟩
    refine ⟨fun hn => ?_, fun hn => ?_⟩
    ·have eV : (A.getD i 0 : Int) - c - B.getD i 0 + 1000000000 = ((A.getD i 0 + 1000000000 - c - B.getD i 0 : Nat) : Int) := by omega
     refine ⟨⟨by omega, by omega⟩, ⟨by omega, by omega⟩, ?_⟩
     simp only [go_sem, ↓reduceIte, reduceCtorEq, Nat.reduceEqDiff, Nat.reduceLT, Nat.reduceSub, Int.reduceLT, Nat.reduceAdd, Nat.reduceLeDiff, Int.reduceEq, Int.reduceNe, Int.reduceToNat, Tryz.f149, words, e1', word]
     refine ⟨⟨by omega, by omega⟩, by simp; omega, ⟨by omega, by omega⟩, ?_⟩
     refine hK _ (i + 1, o ++ [A.getD i 0 + 1000000000 - c - B.getD i 0], 1) ⟨by simp only; omega, by simp [h2], by simp only; omega, by simp only; rw [← h4, hx]; simp only [lessGo]; rw [if_pos (by omega)]; simp⟩ (by simp only; omega) ?_
     simp only [eV, ← hset]
     exact tl
    ·have eV : (A.getD i 0 : Int) - c - B.getD i 0 = ((A.getD i 0 - c - B.getD i 0 : Nat) : Int) := by omega
     refine ⟨⟨by omega, by omega⟩, ⟨by omega, by omega⟩, ?_⟩
     simp only [go_sem, ↓reduceIte, reduceCtorEq, Nat.reduceEqDiff, Nat.reduceLT, Nat.reduceSub, Int.reduceLT, Nat.reduceAdd, Nat.reduceLeDiff, Int.reduceEq, Int.reduceNe, Int.reduceToNat, Tryz.f149, words, e1', word]
     refine ⟨by simp; omega, ⟨by omega, by omega⟩, ?_⟩
     refine hK _ (i + 1, o ++ [A.getD i 0 - c - B.getD i 0], 0) ⟨by simp only; omega, by simp [h2], by simp only; omega, by simp only; rw [← h4, hx]; simp only [lessGo]; rw [if_neg (by omega)]; simp⟩ (by simp only; omega) ?_
     simp only [eV, ← hset]
     exact tl
   ·have hy0 : B.getD i 0 = 0 := by simp [List.getD, List.getElem?_eq_none (show B.length ≤ i by omega)]
    refine ⟨fun hn => ?_, fun hn => ?_⟩
    ·have eV : (A.getD i 0 : Int) - c + 1000000000 = ((A.getD i 0 + 1000000000 - c - B.getD i 0 : Nat) : Int) := by omega
     refine ⟨⟨by omega, by omega⟩, ⟨by omega, by omega⟩, ⟨by omega, by omega⟩, ?_⟩
     simp only [go_sem, ↓reduceIte, reduceCtorEq, Nat.reduceEqDiff, Nat.reduceLT, Nat.reduceSub, Int.reduceLT, Nat.reduceAdd, Nat.reduceLeDiff, Int.reduceEq, Int.reduceNe, Int.reduceToNat, Tryz.f149, words, e1', word]
     refine ⟨by simp; omega, ⟨by omega, by omega⟩, ?_⟩
     refine hK _ (i + 1, o ++ [A.getD i 0 + 1000000000 - c - B.getD i 0], 1) ⟨by simp only; omega, by simp [h2], by simp only; omega, by simp only; rw [← h4, hx]; simp only [lessGo]; rw [if_pos (by omega)]; simp⟩ (by simp only; omega) ?_
     simp only [eV, ← hset]
     exact tl
    ·have eV : (A.getD i 0 : Int) - c = ((A.getD i 0 - c - B.getD i 0 : Nat) : Int) := by omega
     refine ⟨⟨by omega, by omega⟩, ⟨by omega, by omega⟩, ?_⟩
     simp only [go_sem, ↓reduceIte, reduceCtorEq, Nat.reduceEqDiff, Nat.reduceLT, Nat.reduceSub, Int.reduceLT, Nat.reduceAdd, Nat.reduceLeDiff, Int.reduceEq, Int.reduceNe, Int.reduceToNat, Tryz.f149, words, e1', word]
     refine ⟨by simp; omega, ⟨by omega, by omega⟩, ?_⟩
     refine hK _ (i + 1, o ++ [A.getD i 0 - c - B.getD i 0], 0) ⟨by simp only; omega, by simp [h2], by simp only; omega, by simp only; rw [← h4, hx]; simp only [lessGo]; rw [if_neg (by omega)]; simp⟩ (by simp only; omega) ?_
     simp only [eV, ← hset]
     exact tl
  ·have e : A.drop i = [] := List.drop_eq_nil_of_le (by omega)
   rw [e] at h4 ⊢
   unfold lessL
   rw [← h4]
   simp [lessGo, word]
   exact List.take_of_length_le (by simp; omega)
end Go.Lw
end
section
set_option maxRecDepth 10000
namespace Go.Lw
open Go.Proofs
theorem moreGo_len (b : List Nat) : ∀ (a : List Nat) (i c : Nat), (moreGo b a i c).length = a.length + 1
 | [], _, _ => rfl
 | x :: a, i, c => by simp [moreGo, moreGo_len b a]
theorem moreL_len (a b : List Nat) : (moreL a b).length = max a.length b.length + 1 := by
 unfold moreL; split <;> rw [moreGo_len] <;> omega
theorem lessGo_len (b : List Nat) : ∀ (a : List Nat) (i c : Nat), (lessGo b a i c).length = a.length
 | [], _, _ => rfl
 | x :: a, i, c => by unfold lessGo; split <;> simp [lessGo_len b a]
theorem lessL_len (a b : List Nat) : (lessL a b).length = a.length := lessGo_len ..
structure WOk (n : Nat) (w : Wh) : Prop where
 len : w.mag.length ≤ n
 dig : Dig w.mag
 sign : w.minus = true → w.mag ≠ []
def addL (x y : Wh) : Wh := if x.minus = y.minus then signedL (moreL x.mag y.mag) x.minus else
 if 0 ≤ compareL x.mag y.mag then signedL (lessL x.mag y.mag) x.minus else signedL (lessL y.mag x.mag) y.minus
theorem add_ac (x y : Wh) (hx : WOk 1000000000 x) (hy : WOk 1000000000 y) : AC P0 104 [.i (encWh x), .i (encWh y)] (.i (encWh (addL x y))) := by
 refine AC.of_go Tryz.func104 rfl rfl (Nat.le_of_ble_eq_true rfl) ?_
 have t1 : (1000000000 : Nat) ≤ top := by unfold top; omega
 simp only [go_sem, ↓reduceIte, reduceCtorEq, Nat.reduceEqDiff, Nat.reduceLT, Nat.reduceSub, Int.reduceLT, Nat.reduceAdd, Nat.reduceLeDiff, Int.reduceEq, Int.reduceNe, Int.reduceToNat, Tryz.f104, encWh, words, boolI]
 refine ⟨fun h => ?_, fun h => ?_⟩
 ·refine go_drawn mixed0 (by kernel_rfl) ?_
  simp only [go_sem, ↓reduceIte, reduceCtorEq, Nat.reduceEqDiff, Nat.reduceLT, Nat.reduceSub, Int.reduceLT, Nat.reduceAdd, Nat.reduceLeDiff, Int.reduceEq, Int.reduceNe, Int.reduceToNat, Tryz.f104, encWh, words, boolI]
  refine ⟨_, more_ac x.mag y.mag hx.len hy.len hx.dig hy.dig, ?_⟩
  simp only [go_sem, ↓reduceIte, reduceCtorEq, Nat.reduceEqDiff, Nat.reduceLT, Nat.reduceSub, Int.reduceLT, Nat.reduceAdd, Nat.reduceLeDiff, Int.reduceEq, Int.reduceNe, Int.reduceToNat, Tryz.f104, encWh, words, boolI]
  refine ⟨_, signed_ac (moreL x.mag y.mag) x.minus (by have := hx.len; have := hy.len; rw [moreL_len]; unfold top; omega), ?_⟩
  simp only [go_sem, ↓reduceIte, reduceCtorEq, Nat.reduceEqDiff, Nat.reduceLT, Nat.reduceSub, Int.reduceLT, Nat.reduceAdd, Nat.reduceLeDiff, Int.reduceEq, Int.reduceNe, Int.reduceToNat, Tryz.f104, encWh, words, boolI]
  refine ⟨by kernel_rfl, ?_⟩
  simp only [addL]
  rw [if_pos (by simpa using h)]
 ·have hne : ¬ x.minus = y.minus := by simpa using h
  refine .ac (compare_ac x.mag y.mag (Nat.le_trans hx.len t1) (Nat.le_trans hy.len t1) hx.dig hy.dig) (by simp) ?_
  simp only [go_sem, ↓reduceIte, reduceCtorEq, Nat.reduceEqDiff, Nat.reduceLT, Nat.reduceSub, Int.reduceLT, Nat.reduceAdd, Nat.reduceLeDiff, Int.reduceEq, Int.reduceNe, Int.reduceToNat, Tryz.f104, encWh, words, boolI]
  have hxm := hx.sign
  have hym := hy.sign
  refine ⟨fun h2 => ?_, fun h2 => ?_⟩
  ·have hx0 : x.mag ≠ [] := by
    intro e
    have h3 : y.mag = [] := by
     cases hy1 : y.mag with
     | nil => rfl
     | cons u v =>
      exfalso
      rw [e, hy1] at h2
      simp [compareL] at h2
      omega
    cases hmx : x.minus with
    | true => exact hxm hmx e
    | false =>
     cases hmy : y.minus with
     | true => exact hym hmy h3
     | false => exact hne (by rw [hmx, hmy])
   refine go_drawn mixed0 (by kernel_rfl) ?_
   simp only [go_sem, ↓reduceIte, reduceCtorEq, Nat.reduceEqDiff, Nat.reduceLT, Nat.reduceSub, Int.reduceLT, Nat.reduceAdd, Nat.reduceLeDiff, Int.reduceEq, Int.reduceNe, Int.reduceToNat, Tryz.f104, encWh, words, boolI]
   refine ⟨_, less_ac x.mag y.mag hx0 hx.len hy.len hx.dig hy.dig, ?_⟩
   simp only [go_sem, ↓reduceIte, reduceCtorEq, Nat.reduceEqDiff, Nat.reduceLT, Nat.reduceSub, Int.reduceLT, Nat.reduceAdd, Nat.reduceLeDiff, Int.reduceEq, Int.reduceNe, Int.reduceToNat, Tryz.f104, encWh, words, boolI]
   refine ⟨_, signed_ac (lessL x.mag y.mag) x.minus (by rw [lessL_len]; exact Nat.le_trans hx.len t1), ?_⟩
   simp only [go_sem, ↓reduceIte, reduceCtorEq, Nat.reduceEqDiff, Nat.reduceLT, Nat.reduceSub, Int.reduceLT, Nat.reduceAdd, Nat.reduceLeDiff, Int.reduceEq, Int.reduceNe, Int.reduceToNat, Tryz.f104, encWh, words, boolI]
   refine ⟨by kernel_rfl, ?_⟩
   simp only [addL]
   rw [if_neg hne, if_pos h2]
  ·have hy0 : y.mag ≠ [] := by
    intro e
    rw [e] at h2
    by_cases e2 : x.mag.length = 0
    ·simp [compareL, e2, cmpL] at h2
    ·simp [compareL] at h2
     rw [if_neg (by intro e3; exact e2 (by rw [e3]; rfl))] at h2
     omega
   refine go_drawn mixed0 (by kernel_rfl) ?_
   simp only [go_sem, ↓reduceIte, reduceCtorEq, Nat.reduceEqDiff, Nat.reduceLT, Nat.reduceSub, Int.reduceLT, Nat.reduceAdd, Nat.reduceLeDiff, Int.reduceEq, Int.reduceNe, Int.reduceToNat, Tryz.f104, encWh, words, boolI]
   refine ⟨_, less_ac y.mag x.mag hy0 hy.len hx.len hy.dig hx.dig, ?_⟩
   simp only [go_sem, ↓reduceIte, reduceCtorEq, Nat.reduceEqDiff, Nat.reduceLT, Nat.reduceSub, Int.reduceLT, Nat.reduceAdd, Nat.reduceLeDiff, Int.reduceEq, Int.reduceNe, Int.reduceToNat, Tryz.f104, encWh, words, boolI]
   refine ⟨_, signed_ac (lessL y.mag x.mag) y.minus (by rw [lessL_len]; exact Nat.le_trans hy.len t1), ?_⟩
   simp only [go_sem, ↓reduceIte, reduceCtorEq, Nat.reduceEqDiff, Nat.reduceLT, Nat.reduceSub, Int.reduceLT, Nat.reduceAdd, Nat.reduceLeDiff, Int.reduceEq, Int.reduceNe, Int.reduceToNat, Tryz.f104, encWh, words, boolI]
   refine ⟨by kernel_rfl, ?_⟩
   simp only [addL]
   rw [if_neg hne, if_neg h2]
end Go.Lw
end
section
set_option maxRecDepth 10000
namespace Go.Lw
open Go.Proofs
theorem plainL_len (l : List Nat) : (plainL l).length ≤ l.length := by
 have := (List.dropWhile_sublist (fun x : Nat => x == 0) (l := l.reverse)).length_le
 simpa [plainL] using this
theorem plainL_dig {l : List Nat} (h : Dig l) : Dig (plainL l) := fun x hx => by
 simp only [plainL, List.mem_reverse] at hx
 exact h x (by simpa using (List.dropWhile_sublist _).subset hx)
theorem signedL_ok {n : Nat} {l : List Nat} {m : Bool} (h : l.length ≤ n) (d : Dig l) : WOk n (signedL l m) :=
 ⟨Nat.le_trans (plainL_len l) h, plainL_dig d, fun h e => by simp [signedL] at h e; rw [e] at h; simp at h⟩
theorem moreGo_dig (b : List Nat) (db : Dig b) : ∀ (a : List Nat) (i c : Nat), Dig a → c ≤ 2 → Dig (moreGo b a i c)
 | [], _, c, _, hc => fun x hx => by simp [moreGo] at hx; omega
 | x :: a, i, c, h, hc => fun y hy => by
  have h1 := h x (by simp)
  have h2 := db.get i
  simp only [moreGo, List.mem_cons] at hy
  rcases hy with rfl | hy
  ·omega
  ·exact moreGo_dig b db a _ _ (fun z hz => h z (by simp [hz])) (by omega) y hy
theorem moreL_dig {a b : List Nat} (ha : Dig a) (hb : Dig b) : Dig (moreL a b) := by
 unfold moreL; split
 ·exact moreGo_dig a ha b 0 0 hb (by omega)
 ·exact moreGo_dig b hb a 0 0 ha (by omega)
theorem lessGo_dig (b : List Nat) : ∀ (a : List Nat) (i c : Nat), Dig a → c ≤ 1 → Dig (lessGo b a i c)
 | [], _, c, _, hc => fun x hx => by simp [lessGo] at hx
 | x :: a, i, c, h, hc => fun y hy => by
  have h1 := h x (by simp)
  unfold lessGo at hy
  split at hy
  ·simp only [List.mem_cons] at hy
   rcases hy with rfl | hy
   ·omega
   ·exact lessGo_dig b a _ _ (fun z hz => h z (by simp [hz])) (by omega) y hy
  ·simp only [List.mem_cons] at hy
   rcases hy with rfl | hy
   ·omega
   ·exact lessGo_dig b a _ _ (fun z hz => h z (by simp [hz])) (by omega) y hy
theorem lessL_dig {a b : List Nat} (ha : Dig a) : Dig (lessL a b) := lessGo_dig b a 0 0 ha (by omega)
theorem negL_ok {n : Nat} {w : Wh} (h : WOk n w) : WOk n (negL w) := signedL_ok h.len h.dig
theorem addL_ok {n : Nat} {x y : Wh} (hx : WOk n x) (hy : WOk n y) : WOk (n + 1) (addL x y) := by
 have := hx.len
 have := hy.len
 unfold addL
 split
 ·exact signedL_ok (by rw [moreL_len]; omega) (moreL_dig hx.dig hy.dig)
 ·split
  ·exact signedL_ok (by rw [lessL_len]; omega) (lessL_dig hx.dig)
  ·exact signedL_ok (by rw [lessL_len]; omega) (lessL_dig hy.dig)
theorem WOk.mono {n m : Nat} {w : Wh} (h : WOk n w) (hm : n ≤ m) : WOk m w := ⟨Nat.le_trans h.len hm, h.dig, h.sign⟩
def subL (x y : Wh) : Wh := addL x (negL y)
theorem sub_ac (x y : Wh) (hx : WOk 1000000000 x) (hy : WOk 1000000000 y) : AC P0 98 [.i (encWh x), .i (encWh y)] (.i (encWh (subL x y))) := by
 refine AC.of_go Tryz.func98 rfl rfl (Nat.le_of_ble_eq_true rfl) ?_
 have t1 : (1000000000 : Nat) ≤ top := by unfold top; omega
 simp only [go_sem, ↓reduceIte, reduceCtorEq, Nat.reduceEqDiff, Nat.reduceLT, Nat.reduceSub, Int.reduceLT, Nat.reduceAdd, Nat.reduceLeDiff, Int.reduceEq, Int.reduceNe, Int.reduceToNat, Tryz.f98, encWh, words]
 refine go_drawn mixed0 (by kernel_rfl) ?_
 simp only [go_sem, ↓reduceIte, reduceCtorEq, Nat.reduceEqDiff, Nat.reduceLT, Nat.reduceSub, Int.reduceLT, Nat.reduceAdd, Nat.reduceLeDiff, Int.reduceEq, Int.reduceNe, Int.reduceToNat, Tryz.f98, encWh, words]
 refine ⟨_, neg_ac y (Nat.le_trans hy.len t1), ?_⟩
 simp only [go_sem, ↓reduceIte, reduceCtorEq, Nat.reduceEqDiff, Nat.reduceLT, Nat.reduceSub, Int.reduceLT, Nat.reduceAdd, Nat.reduceLeDiff, Int.reduceEq, Int.reduceNe, Int.reduceToNat, Tryz.f98, encWh, words]
 refine ⟨_, add_ac x (negL y) hx (negL_ok hy), ?_⟩
 simp only [go_sem, ↓reduceIte, reduceCtorEq, Nat.reduceEqDiff, Nat.reduceLT, Nat.reduceSub, Int.reduceLT, Nat.reduceAdd, Nat.reduceLeDiff, Int.reduceEq, Int.reduceNe, Int.reduceToNat, Tryz.f98, encWh, words]
 exact ⟨by kernel_rfl, rfl⟩
theorem subL_ok {n : Nat} {x y : Wh} (hx : WOk n x) (hy : WOk n y) : WOk (n + 1) (subL x y) := addL_ok hx (negL_ok hy)
def cmpW (x y : Wh) : Int := signL (subL x y)
theorem cmp_ac (x y : Wh) (hx : WOk 1000000000 x) (hy : WOk 1000000000 y) : AC P0 56 [.i (encWh x), .i (encWh y)] (.i (.int .i64 (cmpW x y))) := by
 refine AC.of_go Tryz.func56 rfl rfl (Nat.le_of_ble_eq_true rfl) ?_
 simp only [go_sem, ↓reduceIte, reduceCtorEq, Nat.reduceEqDiff, Nat.reduceLT, Nat.reduceSub, Int.reduceLT, Nat.reduceAdd, Nat.reduceLeDiff, Int.reduceEq, Int.reduceNe, Int.reduceToNat, Tryz.f56, encWh, words]
 refine .ac (sub_ac x y hx hy) (by simp) ?_
 simp only [go_sem, ↓reduceIte, reduceCtorEq, Nat.reduceEqDiff, Nat.reduceLT, Nat.reduceSub, Int.reduceLT, Nat.reduceAdd, Nat.reduceLeDiff, Int.reduceEq, Int.reduceNe, Int.reduceToNat, Tryz.f56, encWh, words]
 refine .ac (sign_ac (subL x y)) (by simp) ?_
 simp only [go_sem, ↓reduceIte, reduceCtorEq, Nat.reduceEqDiff, Nat.reduceLT, Nat.reduceSub, Int.reduceLT, Nat.reduceAdd, Nat.reduceLeDiff, Int.reduceEq, Int.reduceNe, Int.reduceToNat, Tryz.f56, encWh, words, cmpW]
def oneL (w : Wh) : Bool := !w.minus && (decide (w.mag.length = 1) && decide (w.mag.getD 0 0 = 1))
theorem one_ac (w : Wh) : AC P0 58 [.i (encWh w)] (.i (.bool (oneL w))) := by
 refine AC.of_go Tryz.func58 rfl rfl (Nat.le_of_ble_eq_true rfl) ?_
 simp only [go_sem, ↓reduceIte, reduceCtorEq, Nat.reduceEqDiff, Nat.reduceLT, Nat.reduceSub, Int.reduceLT, Nat.reduceAdd, Nat.reduceLeDiff, Int.reduceEq, Int.reduceNe, Int.reduceToNat, Tryz.f58, encWh, words, unI]
 refine ⟨fun h => ⟨fun h1 => ⟨⟨by omega, by omega⟩, ?_⟩, fun h1 => ?_⟩, fun h => ?_⟩
 ·have e : nth (w.mag.map word) 0 = word (w.mag.getD 0 0) := nth_mapD word _ _ 0 (by omega)
  simp only [go_sem, ↓reduceIte, reduceCtorEq, Nat.reduceEqDiff, Nat.reduceLT, Nat.reduceSub, Int.reduceLT, Nat.reduceAdd, Nat.reduceLeDiff, Int.reduceEq, Int.reduceNe, Int.reduceToNat, Tryz.f58, encWh, words, unI, e, word]
  have h1' : w.mag.length = 1 := by omega
  simp only [oneL, h, h1', decide_true, Bool.true_and]
  congr 1
  have : ((w.mag.getD 0 0 : Nat) : Int) = 1 ↔ w.mag.getD 0 0 = 1 := by omega
  simp only [this]
 ·have h1' : ¬ w.mag.length = 1 := by omega
  simp [oneL, h1']
 ·simp [oneL, h]
end Go.Lw
end
section
set_option maxRecDepth 10000
namespace Go.Lw
open Go.Proofs
theorem wu64 (n : Int) (h0 : 0 ≤ n) (h1 : n < 18446744073709551616) : IntKind.u64.wrap n = n := by simp [IntKind.wrap, IntKind.bits, IntKind.signed]; omega
theorem tmodN (n d : Nat) : ((n : Nat) : Int).tmod (d : Int) = ((n % d : Nat) : Int) := by rw [Int.tmod_eq_emod_of_nonneg (by omega)]; simp
theorem tdivN (n d : Nat) : ((n : Nat) : Int).tdiv (d : Int) = ((n / d : Nat) : Int) := by rw [Int.tdiv_eq_ediv_of_nonneg (by omega)]; simp
def smallGo (a : List Nat) (d : Nat) : Nat → Nat → List Nat × Nat
 | 0, r => ([], r)
 | m + 1, r => ((smallGo a d m ((r * 1000000000 + a.getD m 0) % d)).1 ++ [(r * 1000000000 + a.getD m 0) / d], (smallGo a d m ((r * 1000000000 + a.getD m 0) % d)).2)
def smallL (a : List Nat) (d : Nat) : List Nat × Nat := smallGo a d a.length 0
theorem small_ac (a : List Nat) (d : Nat) (ha : a.length ≤ 1000000000) (da : Dig a) (h0 : 0 < d) (hd : d < 1000000000) :
  AC P0 146 [.i (words a), .i (word d)] (.tup [.i (words (smallL a d).1), .i (word (smallL a d).2)]) := by
 refine AC.of_go Tryz.func146 rfl rfl (Nat.le_of_ble_eq_true rfl) ?_
 simp only [go_sem, ↓reduceIte, reduceCtorEq, Nat.reduceEqDiff, Nat.reduceLT, Nat.reduceSub, Int.reduceLT, Nat.reduceAdd, Nat.reduceLeDiff, Int.reduceEq, Int.reduceNe, Int.reduceToNat, Tryz.f146, words, word]
 refine ⟨⟨by omega, by omega, by unfold top; omega, by unfold top; omega⟩, ⟨by omega, by omega⟩, ?_⟩
 refine go_loopI (fun p : Nat × Nat × List Nat => ⟨43, [(0, .i (.sl 170 (a.map word))), (1, .i (.int .u32 d)), (6, .own 12 0 0 a.length), (7, .i (.int .u64 p.2.1)), (8, .i (.int .i64 ((p.1 : Int) - 1)))], [(12, some (.arr 170 0 ((List.replicate p.1 0 ++ p.2.2).map word)))]⟩)
  (fun p => p.1 ≤ a.length ∧ p.1 + p.2.2.length = a.length ∧ p.2.1 < d ∧ (smallGo a d p.1 p.2.1).1 ++ p.2.2 = (smallL a d).1 ∧ (smallGo a d p.1 p.2.1).2 = (smallL a d).2) (fun p => p.1) (a.length, 0, []) ?_ ⟨Nat.le_refl _, rfl, h0, by simp [smallL], rfl⟩ ?_
 ·exact tl
 ·rintro K ⟨m, r, o⟩ ⟨h1, h2, h3, h4, h5⟩ hK
  simp only at h1 h2 h3 h4 h5
  simp only [go_sem, ↓reduceIte, reduceCtorEq, Nat.reduceEqDiff, Nat.reduceLT, Nat.reduceSub, Int.reduceLT, Nat.reduceAdd, Nat.reduceLeDiff, Int.reduceEq, Int.reduceNe, Int.reduceToNat, Tryz.f146, words]
  refine ⟨fun h => ?_, fun h => ?_⟩
  ·have e0 : ((m : Int) - 1).toNat = m - 1 := by omega
   have e1 : nth (a.map word) (m - 1) = word (a.getD (m - 1) 0) := nth_mapD word a _ 0 (by omega)
   have hx := da.get (m - 1)
   have hr : r * 1000000000 < d * 1000000000 := by omega
   have v1 : IntKind.u64.wrap ((r : Int) * 1000000000) = ((r * 1000000000 : Nat) : Int) := by rw [wu64 _ (by omega) (by omega)]; omega
   have v2 : IntKind.u64.wrap ((a.getD (m - 1) 0 : Nat) : Int) = ((a.getD (m - 1) 0 : Nat) : Int) := wu64 _ (by omega) (by omega)
   have v3 : IntKind.u64.wrap (((r * 1000000000 : Nat) : Int) + (a.getD (m - 1) 0 : Nat)) = ((r * 1000000000 + a.getD (m - 1) 0 : Nat) : Int) := by rw [wu64 _ (by omega) (by omega)]; omega
   have v4 : IntKind.u64.wrap (d : Int) = d := wu64 _ (by omega) (by omega)
   have hq : (r * 1000000000 + a.getD (m - 1) 0) / d < 1000000000 := by
    rw [Nat.div_lt_iff_lt_mul h0, Nat.mul_comm]
    have : (r + 1) * 1000000000 ≤ d * 1000000000 := Nat.mul_le_mul_right _ (by omega)
    omega
   have v5 : IntKind.u64.wrap (((r * 1000000000 + a.getD (m - 1) 0) / d : Nat) : Int) = (((r * 1000000000 + a.getD (m - 1) 0) / d : Nat) : Int) := wu64 _ (Int.natCast_nonneg _) (Int.lt_trans (Int.ofNat_lt.2 hq) (by decide))
   have hdz : ¬ (d : Int) = 0 := by omega
   simp only [go_sem, ↓reduceIte, reduceCtorEq, Nat.reduceEqDiff, Nat.reduceLT, Nat.reduceSub, Int.reduceLT, Nat.reduceAdd, Nat.reduceLeDiff, Int.reduceEq, Int.reduceNe, Int.reduceToNat, Tryz.f146, words, hdz, e0, e1, word, v1, v2, v3, v4, tmodN, tdivN, v5]
   generalize hn : r * 1000000000 + a.getD (m - 1) 0 = n at *
   refine ⟨⟨by omega, by omega⟩, ⟨Int.natCast_nonneg _, Int.lt_trans (Int.ofNat_lt.2 hq) (by decide)⟩, ⟨by omega, by omega⟩, ?_⟩
   have e3 : nth (List.map word (List.replicate m 0 ++ o)) (m - 1) = word 0 := by
    have e4 : (List.replicate m 0 ++ o).getD (m - 1) 0 = 0 := by
     rw [List.getD_eq_getElem?_getD, List.getElem?_append_left (by simp; omega), List.getElem?_replicate]
     split <;> rfl
    rw [nth_mapD word _ _ 0 (by simp; omega), e4]
   have hset : ∀ v : Nat, List.map word (List.replicate (m - 1) 0 ++ v :: o) = (List.map word (List.replicate m 0 ++ o)).set (m - 1) (.int .u32 (v : Int)) := by
    intro v
    obtain ⟨k, rfl⟩ : ∃ k, m = k + 1 := ⟨m - 1, by omega⟩
    simp only [Nat.add_sub_cancel, List.replicate_succ', List.append_assoc, List.map_append, List.map_replicate]
    rw [List.set_append_right _ _ (by simp)]
    simp [word]
   simp only [go_sem, ↓reduceIte, reduceCtorEq, Nat.reduceEqDiff, Nat.reduceLT, Nat.reduceSub, Int.reduceLT, Nat.reduceAdd, Nat.reduceLeDiff, Int.reduceEq, Int.reduceNe, Int.reduceToNat, Tryz.f146, words, hdz, e0, e3, word, v4, tmodN, wu64 _ (Int.natCast_nonneg (n % d)) (Int.lt_trans (Int.ofNat_lt.2 (Nat.mod_lt n h0)) (by omega))]
   have hm : m = (m - 1) + 1 := by omega
   have hs : smallGo a d m r = ((smallGo a d (m - 1) (n % d)).1 ++ [n / d], (smallGo a d (m - 1) (n % d)).2) := by
    conv => lhs; rw [hm]
    simp only [smallGo, hn]
   have e9 : ((m - 1 : Nat) : Int) = (m : Int) - 1 := by omega
   refine ⟨by simp; omega, ⟨by omega, by omega⟩, ?_⟩
   refine hK _ (m - 1, n % d, n / d :: o) ⟨by simp only; omega, by simp; omega, Nat.mod_lt _ h0, by rw [← h4, hs]; simp, by rw [← h5, hs]⟩ (by simp only; omega) ?_
   simp only [hset, e9]
   exact tl
  ·have : m = 0 := by omega
   subst this
   refine ⟨⟨by omega, by omega⟩, ?_⟩
   simp only [smallGo, List.nil_append] at h4 h5
   rw [← h4, ← h5]
   simp at h2
   simp
   exact List.take_of_length_le (by simp; omega)
end Go.Lw
end
section
set_option maxRecDepth 10000
namespace Go.Lw
open Go.Proofs
def digs (u : Nat) : List Nat := if h : u = 0 then [] else (u % 1000000000) :: digs (u / 1000000000)
termination_by u
decreasing_by exact Nat.div_lt_self (by omega) (by omega)
theorem digs_zero : digs 0 = [] := by rw [digs]; simp
theorem digs_pos {u : Nat} (h : u ≠ 0) : digs u = (u % 1000000000) :: digs (u / 1000000000) := by rw [digs]; simp [h]
def magI : List Nat → I
 | [] => .sl 0 []
 | l => words l
theorem magI_eqv (l : List Nat) : Eqv (magI l) (words l) := by
 cases l with
 | nil => exact .sl0 0 170
 | cons x l => exact .refl _
def ofState (neg : Bool) (u : Nat) : List Nat → St
 | [] => ⟨27, [(3, .loc 3 0), (4, .i (.int .u64 u)), (2, .loc 2 0)], [(3, some (.var 71 [.i (.bool neg), .nils])), (2, some (.var 71 [.kb false, .nils]))]⟩
 | x :: o => ⟨27, [(3, .loc 3 0), (4, .i (.int .u64 u)), (2, .loc 2 0)], [(3, some (.var 71 [.i (.bool neg), .own 24 o.length 0 (o.length + 1)])), (24, some (.arr 170 o.length ((x :: o).map word))), (2, some (.var 71 [.kb false, .nils]))]⟩
def ofL (n : Int) : Wh := ⟨decide (n < 0), digs n.natAbs⟩
theorem of_len {u k m : Nat} (hu : 0 < u) (h : u * 1000000000 ^ k ≤ m) (hm : m < 18446744073709551616) : k ≤ 2 := by
 rcases Nat.lt_or_ge 2 k with hk | hk
 ·have h1 : 1000000000 ^ 3 ≤ 1000000000 ^ k := Nat.pow_le_pow_right (by omega) hk
  have h2 : 1 * 1000000000 ^ k ≤ u * 1000000000 ^ k := Nat.mul_le_mul_right _ hu
  omega
 ·exact hk
theorem of_step {u k m : Nat} (h : u * 1000000000 ^ k ≤ m) : u / 1000000000 * 1000000000 ^ (k + 1) ≤ m := by
 rw [Nat.pow_succ, Nat.mul_comm (1000000000 ^ k), ← Nat.mul_assoc]
 exact Nat.le_trans (Nat.mul_le_mul_right _ (Nat.div_mul_le_self u _)) h
theorem of_ac (n : Int) (h0 : -9223372036854775808 ≤ n) (h1 : n < 9223372036854775808) : AC P0 54 [.i (.int .i64 n)] (.i (encWh (ofL n))) := by
 refine AC.eqv (x := .agg [.bool (decide (n < 0)), magI (digs n.natAbs)]) ?_ (.pair (.refl _) (magI_eqv _))
 refine AC.of_go Tryz.func54 rfl rfl (Nat.le_of_ble_eq_true rfl) ?_
 simp only [go_sem, ↓reduceIte, reduceCtorEq, Nat.reduceEqDiff, Nat.reduceLT, Nat.reduceSub, Int.reduceLT, Nat.reduceAdd, Nat.reduceLeDiff, Int.reduceEq, Int.reduceNe, Int.reduceToNat, Tryz.f54, words, unI]
 have w1 : n < 0 → IntKind.u64.wrap (-IntKind.u64.wrap n) = n.natAbs := fun h => by simp [IntKind.wrap, IntKind.bits, IntKind.signed]; omega
 have w2 : ¬ n < 0 → IntKind.u64.wrap n = n.natAbs := fun h => by simp [IntKind.wrap, IntKind.bits, IntKind.signed]; omega
 have hn : n.natAbs < 18446744073709551616 := by omega
 have tdv : ∀ u : Nat, u < 18446744073709551616 → IntKind.u64.wrap (((u : Nat) : Int).tdiv 1000000000) = ((u / 1000000000 : Nat) : Int) := fun u hu => by rw [tdivB]; exact wu64 _ (by omega) (by omega)
 refine ⟨fun h => ?_, fun h => ?_⟩
 ·rw [w1 h]
  refine go_loopI (fun p : Nat × List Nat => ofState (decide (n < 0)) p.1 p.2) (fun p => p.1 * 1000000000 ^ p.2.length ≤ n.natAbs ∧ p.2 ++ digs p.1 = digs n.natAbs) (fun p => p.1) (n.natAbs, []) ?_ ⟨by simp, by simp⟩ ?_
  ·simp only [ofState]
   exact tl
  ·rintro K ⟨u, o⟩ ⟨h3, h4⟩ hK
   simp only at h3 h4
   have hub : u < 18446744073709551616 := by
    have : u * 1 ≤ u * 1000000000 ^ o.length := Nat.mul_le_mul_left _ (Nat.one_le_pow _ _ (by omega))
    omega
   cases o with
   | nil =>
    simp only [ofState]
    simp only [go_sem, ↓reduceIte, reduceCtorEq, Nat.reduceEqDiff, Nat.reduceLT, Nat.reduceSub, Int.reduceLT, Nat.reduceAdd, Nat.reduceLeDiff, Int.reduceEq, Int.reduceNe, Int.reduceToNat, Tryz.f54, words, unI, tdv u hub, tmodB]
    refine ⟨fun hu => ⟨⟨by omega, by omega⟩, by omega, by unfold top; omega, ?_⟩, fun hu => ?_⟩
    ·refine hK _ (u / 1000000000, [u % 1000000000]) ⟨of_step h3, by rw [← h4, digs_pos (u := u) (by omega)]; simp⟩ (Nat.div_lt_self (by omega) (by omega)) ?_
     simp only [ofState]
     exact tl
    ·have : u = 0 := by omega
     subst this
     rw [← h4, digs_zero]
     rfl
   | cons x o =>
    simp only [ofState]
    simp only [go_sem, ↓reduceIte, reduceCtorEq, Nat.reduceEqDiff, Nat.reduceLT, Nat.reduceSub, Int.reduceLT, Nat.reduceAdd, Nat.reduceLeDiff, Int.reduceEq, Int.reduceNe, Int.reduceToNat, Tryz.f54, words, unI, tdv u hub, tmodB]
    refine ⟨fun hu => ?_, fun hu => ?_⟩
    ·have hk := of_len (by omega) h3 hn
     simp only [List.length_cons] at hk
     refine ⟨⟨by omega, by omega⟩, by omega, ⟨by unfold top; omega, by unfold top; omega⟩, ?_⟩
     refine hK _ (u / 1000000000, x :: (o ++ [u % 1000000000])) ⟨by simp only [List.length_cons, List.length_append, List.length_nil]; exact of_step h3, by rw [← h4, digs_pos (u := u) (by omega)]; simp⟩ (Nat.div_lt_self (by omega) (by omega)) ?_
     simp only [ofState]
     exact tl
    ·have : u = 0 := by omega
     subst this
     rw [← h4, digs_zero]
     simp [magI, words]
     exact List.take_of_length_le (by simp)
 ·rw [w2 h]
  refine go_loopI (fun p : Nat × List Nat => ofState (decide (n < 0)) p.1 p.2) (fun p => p.1 * 1000000000 ^ p.2.length ≤ n.natAbs ∧ p.2 ++ digs p.1 = digs n.natAbs) (fun p => p.1) (n.natAbs, []) ?_ ⟨by simp, by simp⟩ ?_
  ·simp only [ofState]
   exact tl
  ·rintro K ⟨u, o⟩ ⟨h3, h4⟩ hK
   simp only at h3 h4
   have hub : u < 18446744073709551616 := by
    have : u * 1 ≤ u * 1000000000 ^ o.length := Nat.mul_le_mul_left _ (Nat.one_le_pow _ _ (by omega))
    omega
   cases o with
   | nil =>
    simp only [ofState]
    simp only [go_sem, ↓reduceIte, reduceCtorEq, Nat.reduceEqDiff, Nat.reduceLT, Nat.reduceSub, Int.reduceLT, Nat.reduceAdd, Nat.reduceLeDiff, Int.reduceEq, Int.reduceNe, Int.reduceToNat, Tryz.f54, words, unI, tdv u hub, tmodB]
    refine ⟨fun hu => ⟨⟨by omega, by omega⟩, by omega, by unfold top; omega, ?_⟩, fun hu => ?_⟩
    ·refine hK _ (u / 1000000000, [u % 1000000000]) ⟨of_step h3, by rw [← h4, digs_pos (u := u) (by omega)]; simp⟩ (Nat.div_lt_self (by omega) (by omega)) ?_
     simp only [ofState]
     exact tl
    ·have : u = 0 := by omega
     subst this
     rw [← h4, digs_zero]
     rfl
   | cons x o =>
    simp only [ofState]
    simp only [go_sem, ↓reduceIte, reduceCtorEq, Nat.reduceEqDiff, Nat.reduceLT, Nat.reduceSub, Int.reduceLT, Nat.reduceAdd, Nat.reduceLeDiff, Int.reduceEq, Int.reduceNe, Int.reduceToNat, Tryz.f54, words, unI, tdv u hub, tmodB]
    refine ⟨fun hu => ?_, fun hu => ?_⟩
    ·have hk := of_len (by omega) h3 hn
     simp only [List.length_cons] at hk
     refine ⟨⟨by omega, by omega⟩, by omega, ⟨by unfold top; omega, by unfold top; omega⟩, ?_⟩
     refine hK _ (u / 1000000000, x :: (o ++ [u % 1000000000])) ⟨by simp only [List.length_cons, List.length_append, List.length_nil]; exact of_step h3, by rw [← h4, digs_pos (u := u) (by omega)]; simp⟩ (Nat.div_lt_self (by omega) (by omega)) ?_
     simp only [ofState]
     exact tl
    ·have : u = 0 := by omega
     subst this
     rw [← h4, digs_zero]
     simp [magI, words]
     exact List.take_of_length_le (by simp)
end Go.Lw
end
section
set_option maxRecDepth 10000
namespace Go.Lw
open Go.Proofs
def guessHigh (a : List Nat) (n : Nat) : Nat := if n < a.length then a.getD (n - 1) 0 + a.getD n 0 * 1000000000 else a.getD (n - 1) 0
def guessL (a b : List Nat) : Nat := if a.length < b.length then 0 else min (guessHigh a b.length / b.getD (b.length - 1) 0) 999999999
theorem guess_ac (a b : List Nat) (ha : a.length ≤ 1000000000) (hb : b.length ≤ 1000000000) (da : Dig a) (db : Dig b) (h0 : 0 < b.length) (ht : b.getD (b.length - 1) 0 ≠ 0) : AC P0 186 [.i (words a), .i (words b)] (.i (word (guessL a b))) := by
 refine AC.of_go Tryz.func186 rfl rfl (Nat.le_of_ble_eq_true rfl) ?_
 simp only [go_sem, ↓reduceIte, reduceCtorEq, Nat.reduceEqDiff, Nat.reduceLT, Nat.reduceSub, Int.reduceLT, Nat.reduceAdd, Nat.reduceLeDiff, Int.reduceEq, Int.reduceNe, Int.reduceToNat, Tryz.f186, words]
 refine ⟨fun h => ?_, fun h => ?_⟩
 ·simp only [guessL, word]
  rw [if_pos (by omega)]; rfl
 ·have e0 : ((b.length : Int) - 1).toNat = b.length - 1 := by omega
  have e1 : nth (a.map word) (b.length - 1) = word (a.getD (b.length - 1) 0) := nth_mapD word a _ 0 (by omega)
  have e2 : nth (b.map word) (b.length - 1) = word (b.getD (b.length - 1) 0) := nth_mapD word b _ 0 (by omega)
  have hx := da.get (b.length - 1)
  have hy := db.get (b.length - 1)
  have hz := da.get b.length
  have v1 : IntKind.u64.wrap ((a.getD (b.length - 1) 0 : Nat) : Int) = ((a.getD (b.length - 1) 0 : Nat) : Int) := wu64 _ (by omega) (by omega)
  have v2 : IntKind.u64.wrap ((b.getD (b.length - 1) 0 : Nat) : Int) = ((b.getD (b.length - 1) 0 : Nat) : Int) := wu64 _ (by omega) (by omega)
  have v3 : IntKind.u64.wrap ((a.getD b.length 0 : Nat) : Int) = ((a.getD b.length 0 : Nat) : Int) := wu64 _ (by omega) (by omega)
  have v4 : IntKind.u64.wrap (((a.getD b.length 0 : Nat) : Int) * 1000000000) = ((a.getD b.length 0 * 1000000000 : Nat) : Int) := by rw [wu64 _ (by omega) (by omega)]; omega
  have v5 : IntKind.u64.wrap (((a.getD (b.length - 1) 0 : Nat) : Int) + ((a.getD b.length 0 * 1000000000 : Nat) : Int)) = ((a.getD (b.length - 1) 0 + a.getD b.length 0 * 1000000000 : Nat) : Int) := by rw [wu64 _ (by omega) (by omega)]; omega
  have hdz : ¬ ((b.getD (b.length - 1) 0 : Nat) : Int) = 0 := by omega
  refine ⟨by omega, ⟨by omega, by omega⟩, ?_⟩
  simp only [go_sem, ↓reduceIte, reduceCtorEq, Nat.reduceEqDiff, Nat.reduceLT, Nat.reduceSub, Int.reduceLT, Nat.reduceAdd, Nat.reduceLeDiff, Int.reduceEq, Int.reduceNe, Int.reduceToNat, Tryz.f186, words, e0, e1, e2, v1, v2, v3, v4, v5, word, hdz]
  have w6 : ∀ q : Nat, q < 18446744073709551616 → IntKind.u64.wrap ((q : Nat) : Int) = ((q : Nat) : Int) := fun q hq => wu64 _ (by omega) (by omega)
  have q1 : (a.getD (b.length - 1) 0 + a.getD b.length 0 * 1000000000) / b.getD (b.length - 1) 0 < 18446744073709551616 := Nat.lt_of_le_of_lt (Nat.div_le_self _ _) (by omega)
  have q2 : (a.getD (b.length - 1) 0) / b.getD (b.length - 1) 0 < 18446744073709551616 := Nat.lt_of_le_of_lt (Nat.div_le_self _ _) (by omega)
  have m1 : ∀ n : Nat, min ((n : Nat) : Int) 999999999 = ((min n 999999999 : Nat) : Int) := fun n => by omega
  refine ⟨fun h2 => ⟨⟨by omega, by omega⟩, ?_⟩, fun h2 => ?_⟩
  ·have e3 : nth (a.map word) b.length = word (a.getD b.length 0) := nth_mapD word a _ 0 (by omega)
   simp only [go_sem, ↓reduceIte, reduceCtorEq, Nat.reduceEqDiff, Nat.reduceLT, Nat.reduceSub, Int.reduceLT, Nat.reduceAdd, Nat.reduceLeDiff, Int.reduceEq, Int.reduceNe, Int.reduceToNat, Tryz.f186, words, e0, e1, e2, e3, v1, v2, v3, v4, v5, word, hdz, tdivN, w6 _ q1, m1]
   have hg : guessL a b = min ((a.getD (b.length - 1) 0 + a.getD b.length 0 * 1000000000) / b.getD (b.length - 1) 0) 999999999 := by
    unfold guessL guessHigh; rw [if_neg (by omega), if_pos (by omega)]
   rw [hg]
   have hle : min ((a.getD (b.length - 1) 0 + a.getD b.length 0 * 1000000000) / b.getD (b.length - 1) 0) 999999999 ≤ 999999999 := Nat.min_le_right _ _
   generalize min ((a.getD (b.length - 1) 0 + a.getD b.length 0 * 1000000000) / b.getD (b.length - 1) 0) 999999999 = g at hle
   clear hg q1 q2
   exact ⟨⟨by omega, by omega⟩, ⟨by omega, by omega⟩, ⟨by omega, by omega⟩, rfl⟩
  ·simp only [go_sem, ↓reduceIte, reduceCtorEq, Nat.reduceEqDiff, Nat.reduceLT, Nat.reduceSub, Int.reduceLT, Nat.reduceAdd, Nat.reduceLeDiff, Int.reduceEq, Int.reduceNe, Int.reduceToNat, Tryz.f186, words, e0, e1, e2, v1, v2, v3, v4, v5, word, hdz, tdivN, w6 _ q2, m1]
   have hg : guessL a b = min (a.getD (b.length - 1) 0 / b.getD (b.length - 1) 0) 999999999 := by
    unfold guessL guessHigh; rw [if_neg (by omega), if_neg (by omega)]
   rw [hg]
   have hle : min (a.getD (b.length - 1) 0 / b.getD (b.length - 1) 0) 999999999 ≤ 999999999 := Nat.min_le_right _ _
   generalize min (a.getD (b.length - 1) 0 / b.getD (b.length - 1) 0) 999999999 = g at hle
   clear hg q1 q2
   exact ⟨⟨by omega, by omega⟩, ⟨by omega, by omega⟩, ⟨by omega, by omega⟩, rfl⟩
end Go.Lw
end
section
set_option maxRecDepth 10000
namespace Go.Lw
open Go.Proofs
def mulIn (a : Nat) : List Nat → List Nat → Nat → Nat → List Nat × Nat
 | [], out, _, c => (out, c)
 | b :: y, out, k, c => mulIn a y (out.set k ((a * b + out.getD k 0 + c) % 1000000000)) (k + 1) ((a * b + out.getD k 0 + c) / 1000000000)
def mulOut (y : List Nat) : List Nat → List Nat → Nat → List Nat
 | [], out, _ => out
 | a :: x, out, i => mulOut y x (if (mulIn a y out i 0).2 = 0 then (mulIn a y out i 0).1 else (mulIn a y out i 0).1.set (i + y.length) (mulIn a y out i 0).2) (i + 1)
def mulL (x y : Wh) : Wh := signedL (mulOut y.mag x.mag (List.replicate (x.mag.length + y.mag.length + 1) 0) 0) (x.minus != y.minus)
theorem mul_carry {a b o c : Nat} (ha : a < 1000000000) (hb : b < 1000000000) (ho : o < 1000000000) (hc : c < 1000000000) : (a * b + o + c) / 1000000000 < 1000000000 := by
 have h : a * b ≤ 999999999 * 999999999 := Nat.mul_le_mul (by omega) (by omega)
 omega
theorem getD_set {l : List Nat} {k i v : Nat} : (l.set k v).getD i 0 = if i = k ∧ k < l.length then v else l.getD i 0 := by
 simp only [List.getD_eq_getElem?_getD, List.getElem?_set]
 by_cases h : k = i
 ·subst h
  by_cases h2 : k < l.length
  ·simp [h2]
  ·simp [h2, List.getElem?_eq_none (show l.length ≤ k by omega)]
 ·simp [h, Ne.symm h]
theorem mulIn_ok {a : Nat} (ha : a < 1000000000) : ∀ (y out : List Nat) (k c : Nat), Dig y → Dig out → c < 1000000000 → k + y.length ≤ out.length →
  (mulIn a y out k c).1.length = out.length ∧ Dig (mulIn a y out k c).1 ∧ (mulIn a y out k c).2 < 1000000000 ∧ ∀ i, k + y.length ≤ i → (mulIn a y out k c).1.getD i 0 = out.getD i 0
 | [], out, k, c, _, ho, hc, _ => ⟨rfl, ho, hc, fun _ _ => rfl⟩
 | b :: y, out, k, c, hy, ho, hc, hk => by
  have hb := hy b (by simp)
  have hcar := mul_carry ha hb (ho.get k) hc
  simp only [List.length_cons] at hk
  have hd : Dig (out.set k ((a * b + out.getD k 0 + c) % 1000000000)) := fun x hx => by
   rcases List.mem_or_eq_of_mem_set hx with h | h
   ·exact ho x h
   ·subst h; exact Nat.mod_lt _ (by omega)
  obtain ⟨h1, h2, h3, h4⟩ := mulIn_ok ha y _ (k + 1) _ (fun x hx => hy x (by simp [hx])) hd hcar (by simp; omega)
  refine ⟨by rw [mulIn, h1]; simp, by rw [mulIn]; exact h2, by rw [mulIn]; exact h3, fun i hi => ?_⟩
  simp only [List.length_cons] at hi
  rw [mulIn, h4 i (by omega), getD_set, if_neg (by omega)]
end Go.Lw
end
section
set_option maxRecDepth 10000
namespace Go.Lw
open Go.Proofs
theorem mul_ac (x y : Wh) (hx : WOk 100000000 x) (hy : WOk 100000000 y) : AC P0 102 [.i (encWh x), .i (encWh y)] (.i (encWh (mulL x y))) := by
 refine AC.of_go Tryz.func102 rfl rfl (Nat.le_of_ble_eq_true rfl) ?_
 obtain ⟨mx, X⟩ := x
 obtain ⟨my, Y⟩ := y
 have lx := hx.len
 have ly := hy.len
 have dX := hx.dig
 have dY := hy.dig
 simp only at lx ly dX dY
 simp only [go_sem, ↓reduceIte, reduceCtorEq, Nat.reduceEqDiff, Nat.reduceLT, Nat.reduceSub, Int.reduceLT, Nat.reduceAdd, Nat.reduceLeDiff, Int.reduceEq, Int.reduceNe, Int.reduceToNat, Tryz.f102, encWh, words]
 simp only [mulL]
 refine ⟨⟨by omega, by omega⟩, ⟨by omega, by omega⟩, ⟨by omega, by omega, by unfold top; omega, by unfold top; omega⟩, ?_⟩
 have eL : ((X.length : Int) + Y.length + 1).toNat = X.length + Y.length + 1 := by omega
 simp only [eL]
 refine go_loopI (fun p : Nat × List Nat => ⟨97, [(2, .loc 2 0), (3, .loc 3 0), (4, .loc 4 0), (5, .own 22 0 0 (X.length + Y.length + 1)), (24, .i (.sl 170 (X.map word))), (25, .i (.int .i64 X.length)), (26, .i (.int .i64 p.1))],
   [(2, some (.var 71 [.i (.bool mx), .i (.sl 170 (X.map word))])), (3, some (.var 71 [.i (.bool my), .i (.sl 170 (Y.map word))])), (4, some (.var 71 [.kb false, .nils])), (22, some (.arr 170 0 (p.2.map word)))]⟩)
  (fun p => p.1 ≤ X.length ∧ p.2.length = X.length + Y.length + 1 ∧ Dig p.2 ∧ (∀ k, p.1 + Y.length ≤ k → p.2.getD k 0 = 0) ∧ mulOut Y (X.drop p.1) p.2 p.1 = mulOut Y X (List.replicate (X.length + Y.length + 1) 0) 0) (fun p => X.length - p.1) (0, List.replicate (X.length + Y.length + 1) 0) ?_
  ⟨Nat.zero_le _, by simp, fun z hz => by simp at hz; omega, fun k hk => by simp [List.getD_eq_getElem?_getD, List.getElem?_replicate]; split <;> rfl, rfl⟩ ?_
 ·exact tl
 ·rintro K ⟨i, out⟩ ⟨h1, h2, h3, h4, h5⟩ hK
  simp only at h1 h2 h3 h4 h5
  simp only [go_sem, ↓reduceIte, reduceCtorEq, Nat.reduceEqDiff, Nat.reduceLT, Nat.reduceSub, Int.reduceLT, Nat.reduceAdd, Nat.reduceLeDiff, Int.reduceEq, Int.reduceNe, Int.reduceToNat, Tryz.f102, encWh, words]
  refine ⟨fun hi => ?_, fun hi => ?_⟩
  ·have e1 : nth (X.map word) i = word (X.getD i 0) := nth_mapD word X _ 0 (by omega)
   have hx1 := dX.get i
   have hdrop : X.drop i = X.getD i 0 :: X.drop (i + 1) := by
    rw [List.drop_eq_getElem_cons (by omega)]
    simp [List.getD, show i < X.length by omega]
   refine ⟨⟨by omega, by omega⟩, ?_⟩
   simp only [go_sem, ↓reduceIte, reduceCtorEq, Nat.reduceEqDiff, Nat.reduceLT, Nat.reduceSub, Int.reduceLT, Nat.reduceAdd, Nat.reduceLeDiff, Int.reduceEq, Int.reduceNe, Int.reduceToNat, Tryz.f102, encWh, words, e1, word]
   refine go_loopI (fun q : Nat × List Nat × Nat => ⟨97, [(2, .loc 2 0), (3, .loc 3 0), (4, .loc 4 0), (5, .own 22 0 0 (X.length + Y.length + 1)), (24, .i (.sl 170 (X.map word))), (25, .i (.int .i64 X.length)), (26, .i (.int .i64 i)),
     (6, .i (.int .i64 i)), (7, .i (.int .u32 (X.getD i 0 : Nat))), (8, .i (.int .u64 q.2.2)), (32, .i (.sl 170 (Y.map word))), (33, .i (.int .i64 Y.length)), (34, .i (.int .i64 q.1))],
     [(2, some (.var 71 [.i (.bool mx), .i (.sl 170 (X.map word))])), (3, some (.var 71 [.i (.bool my), .i (.sl 170 (Y.map word))])), (4, some (.var 71 [.kb false, .nils])), (22, some (.arr 170 0 (q.2.1.map word)))]⟩)
    (fun q => q.1 ≤ Y.length ∧ q.2.1.length = X.length + Y.length + 1 ∧ Dig q.2.1 ∧ q.2.2 < 1000000000 ∧ (∀ k, i + Y.length ≤ k → q.2.1.getD k 0 = 0) ∧ mulIn (X.getD i 0) (Y.drop q.1) q.2.1 (i + q.1) q.2.2 = mulIn (X.getD i 0) Y out i 0) (fun q => Y.length - q.1) (0, out, 0) ?_
    ⟨Nat.zero_le _, h2, h3, Nat.zero_lt_succ _, h4, rfl⟩ ?_
   ·exact tl
   ·rintro K2 ⟨j, o, c⟩ ⟨g1, g2, g3, g4, g5, g6⟩ hK2
    simp only at g1 g2 g3 g4 g5 g6
    simp only [go_sem, ↓reduceIte, reduceCtorEq, Nat.reduceEqDiff, Nat.reduceLT, Nat.reduceSub, Int.reduceLT, Nat.reduceAdd, Nat.reduceLeDiff, Int.reduceEq, Int.reduceNe, Int.reduceToNat, Tryz.f102, encWh, words]
    refine ⟨fun hj => ?_, fun hj => ?_⟩
    ·have e2 : nth (Y.map word) j = word (Y.getD j 0) := nth_mapD word Y _ 0 (by omega)
     have hy1 := dY.get j
     have ho1 := g3.get (i + j)
     have hydrop : Y.drop j = Y.getD j 0 :: Y.drop (j + 1) := by
      rw [List.drop_eq_getElem_cons (by omega)]
      simp [List.getD, show j < Y.length by omega]
     have e3 : (List.map word o)[i + j]? = some (word (o.getD (i + j) 0)) := by
      rw [List.getElem?_map, List.getD_eq_getElem?_getD, List.getElem?_eq_getElem (by omega)]; rfl
     have e4 : nth (List.map word o) (i + j) = word (o.getD (i + j) 0) := nth_mapD word o _ 0 (by omega)
     have eij : ((i : Int) + (j : Int)).toNat = i + j := by omega
     have hp : X.getD i 0 * Y.getD j 0 ≤ 999999999 * 999999999 := Nat.mul_le_mul (by omega) (by omega)
     have v1 : IntKind.u64.wrap ((X.getD i 0 : Nat) : Int) = ((X.getD i 0 : Nat) : Int) := wu64 _ (by omega) (by omega)
     have v2 : IntKind.u64.wrap ((Y.getD j 0 : Nat) : Int) = ((Y.getD j 0 : Nat) : Int) := wu64 _ (by omega) (by omega)
     have v3 : IntKind.u64.wrap ((o.getD (i + j) 0 : Nat) : Int) = ((o.getD (i + j) 0 : Nat) : Int) := wu64 _ (by omega) (by omega)
     have v4 : IntKind.u64.wrap (((X.getD i 0 : Nat) : Int) * ((Y.getD j 0 : Nat) : Int)) = ((X.getD i 0 * Y.getD j 0 : Nat) : Int) := by
      rw [← Int.natCast_mul]; exact wu64 _ (by omega) (by omega)
     have hcar := mul_carry hx1 hy1 ho1 g4
     have hin : mulIn (X.getD i 0) (Y.drop j) o (i + j) c = mulIn (X.getD i 0) (Y.drop (j + 1)) (o.set (i + j) ((X.getD i 0 * Y.getD j 0 + o.getD (i + j) 0 + c) % 1000000000)) (i + j + 1) ((X.getD i 0 * Y.getD j 0 + o.getD (i + j) 0 + c) / 1000000000) := by
      rw [hydrop, mulIn]
     generalize X.getD i 0 * Y.getD j 0 = p at *
     have v5 : IntKind.u64.wrap ((p : Int) + ((o.getD (i + j) 0 : Nat) : Int)) = ((p + o.getD (i + j) 0 : Nat) : Int) := by rw [wu64 _ (by omega) (by omega)]; omega
     have v6 : IntKind.u64.wrap (((p + o.getD (i + j) 0 : Nat) : Int) + (c : Int)) = ((p + o.getD (i + j) 0 + c : Nat) : Int) := by rw [wu64 _ (by omega) (by omega)]; omega
     refine ⟨⟨by omega, by omega⟩, ?_⟩
     have v7 : IntKind.u64.wrap (((p + o.getD (i + j) 0 + c) / 1000000000 : Nat) : Int) = (((p + o.getD (i + j) 0 + c) / 1000000000 : Nat) : Int) := wu64 _ (by omega) (by omega)
     simp only [go_sem, ↓reduceIte, reduceCtorEq, Nat.reduceEqDiff, Nat.reduceLT, Nat.reduceSub, Int.reduceLT, Nat.reduceAdd, Nat.reduceLeDiff, Int.reduceEq, Int.reduceNe, Int.reduceToNat, Tryz.f102, encWh, words, e2, e3, e4, eij, word, v1, v2, v3, v4, v5, v6, tmodB, tdivB, v7]
     refine ⟨⟨by omega, by omega⟩, ⟨by omega, by omega⟩, ⟨by omega, by omega⟩, ⟨by omega, by omega⟩, ⟨by omega, by omega⟩, by omega, ⟨by omega, by omega⟩, ?_⟩
     have hset : (List.map word o).set (i + j) (.int .u32 (((p + o.getD (i + j) 0 + c) % 1000000000 : Nat) : Int)) = List.map word (o.set (i + j) ((p + o.getD (i + j) 0 + c) % 1000000000)) := by
      rw [List.map_set]; rfl
     refine hK2 _ (j + 1, o.set (i + j) ((p + o.getD (i + j) 0 + c) % 1000000000), (p + o.getD (i + j) 0 + c) / 1000000000) ⟨by simp only; omega, by simp [g2], fun z hz => ?_, hcar, fun k hk => ?_, ?_⟩ (by simp only; omega) ?_
     ·rcases List.mem_or_eq_of_mem_set hz with h | h
      ·exact g3 z h
      ·subst h; exact Nat.mod_lt _ (by omega)
     ·simp only
      rw [getD_set, if_neg (by omega)]
      exact g5 k hk
     ·simp only
      rw [← g6, hin, show i + (j + 1) = i + j + 1 by omega]
     ·simp only [hset]
      exact tl
    ·have hj2 : j = Y.length := by omega
     have hfin : mulIn (X.getD i 0) Y out i 0 = (o, c) := by
      rw [← g6, hj2, List.drop_eq_nil_of_le (Nat.le_refl _)]; rfl
     clear hK2 g6 K2 hj
     refine ⟨⟨by omega, by omega⟩, ?_⟩
     obtain ⟨FIN, hFIN⟩ : ∃ F, F = (if c = 0 then o else o.set (i + Y.length) c) := ⟨_, rfl⟩
     refine go_loopI (fun q : Nat × List Nat × Nat => ⟨97, [(2, .loc 2 0), (3, .loc 3 0), (4, .loc 4 0), (5, .own 22 0 0 (X.length + Y.length + 1)), (24, .i (.sl 170 (X.map word))), (25, .i (.int .i64 X.length)), (26, .i (.int .i64 i)),
       (8, .i (.int .u64 q.2.2)), (12, .i (.int .i64 q.1))],
       [(2, some (.var 71 [.i (.bool mx), .i (.sl 170 (X.map word))])), (3, some (.var 71 [.i (.bool my), .i (.sl 170 (Y.map word))])), (4, some (.var 71 [.kb false, .nils])), (22, some (.arr 170 0 (q.2.1.map word)))]⟩)
      (fun q => (q.2.2 = 0 ∧ q.2.1 = FIN) ∨ (q.1 = i + Y.length ∧ q.2.1 = o ∧ q.2.2 = c)) (fun q => q.2.2) (i + Y.length, o, c) ?_ (.inr ⟨rfl, rfl, rfl⟩) ?_
     ·exact tl
     ·rintro K3 ⟨k, o', c'⟩ hq hK3
      simp only at hq
      simp only [go_sem, ↓reduceIte, reduceCtorEq, Nat.reduceEqDiff, Nat.reduceLT, Nat.reduceSub, Int.reduceLT, Nat.reduceAdd, Nat.reduceLeDiff, Int.reduceEq, Int.reduceNe, Int.reduceToNat, Tryz.f102, encWh, words]
      refine ⟨fun hc => ?_, fun hc => ?_⟩
      ·have hq2 : k = i + Y.length ∧ o' = o ∧ c' = c := by
        rcases hq with ⟨h, _⟩ | h
        ·omega
        ·exact h
       obtain ⟨rfl, rfl, rfl⟩ := hq2
       have z0 : o'.getD (i + Y.length) 0 = 0 := g5 _ (Nat.le_refl _)
       have e5 : (List.map word o')[i + Y.length]? = some (word 0) := by
        rw [List.getElem?_map, ← z0, List.getD_eq_getElem?_getD, List.getElem?_eq_getElem (by omega)]; rfl
       have e6 : nth (List.map word o') (i + Y.length) = word 0 := by
        unfold nth; rw [List.getD_eq_getElem?_getD, e5]; rfl
       have u1 : IntKind.u64.wrap ((0 : Nat) : Int) = ((0 : Nat) : Int) := wu64 _ (by omega) (by omega)
       have u2 : IntKind.u64.wrap (((0 : Nat) : Int) + (c' : Int)) = ((c' : Nat) : Int) := by rw [wu64 _ (by omega) (by omega)]; omega
       have u3 : c' % 1000000000 = c' := Nat.mod_eq_of_lt g4
       have u4 : c' / 1000000000 = 0 := Nat.div_eq_of_lt g4
       have hset : (List.map word o').set (i + Y.length) (.int .u32 ((c' : Nat) : Int)) = List.map word (o'.set (i + Y.length) c') := by
        rw [List.map_set]; rfl
       refine ⟨⟨by omega, by omega⟩, ?_⟩
       simp only [go_sem, ↓reduceIte, reduceCtorEq, Nat.reduceEqDiff, Nat.reduceLT, Nat.reduceSub, Int.reduceLT, Nat.reduceAdd, Nat.reduceLeDiff, Int.reduceEq, Int.reduceNe, Int.reduceToNat, Tryz.f102, encWh, words, e5, e6, word, u1, u2, tmodB, tdivB, u3, u4]
       refine ⟨⟨by omega, by omega⟩, ⟨by omega, by omega⟩, by omega, ⟨by omega, by omega⟩, ?_⟩
       refine hK3 _ (i + Y.length + 1, o'.set (i + Y.length) c', 0) (.inl ⟨rfl, by simp only; rw [hFIN, if_neg (by omega)]⟩) (by simp only; omega) ?_
       simp only [hset]
       exact tl
      ·have hq2 : c' = 0 ∧ o' = FIN := by
        rcases hq with h | ⟨_, h2, h3⟩
        ·exact h
        ·have : c' = 0 := by omega
         refine ⟨this, ?_⟩
         rw [hFIN, if_pos (by omega), h2]
       obtain ⟨rfl, rfl⟩ := hq2
       refine ⟨⟨by omega, by omega⟩, ?_⟩
       refine hK _ (i + 1, o') ⟨by simp only; omega, ?_, ?_, ?_, ?_⟩ (by simp only; omega) ?_
       ·simp only; rw [hFIN]; split <;> simp [g2]
       ·simp only
        rw [hFIN]
        split
        ·exact g3
        ·intro z hz
         rcases List.mem_or_eq_of_mem_set hz with h | h
         ·exact g3 z h
         ·subst h; exact g4
       ·intro k hk
        simp only at hk ⊢
        rw [hFIN]
        split
        ·exact g5 k (by omega)
        ·rw [getD_set, if_neg (by omega)]; exact g5 k (by omega)
       ·simp only
        rw [← h5, hdrop, mulOut, hfin, hFIN]
       ·simp only
        exact tl
  ·have hi2 : i = X.length := by omega
   rw [hi2, List.drop_eq_nil_of_le (Nat.le_refl _), mulOut] at h5
   simp only [go_sem, ↓reduceIte, reduceCtorEq, Nat.reduceEqDiff, Nat.reduceLT, Nat.reduceSub, Int.reduceLT, Nat.reduceAdd, Nat.reduceLeDiff, Int.reduceEq, Int.reduceNe, Int.reduceToNat, Tryz.f102, encWh, words, boolI]
   refine .frz [22] ?_
   simp only [go_sem, ↓reduceIte, reduceCtorEq, Nat.reduceEqDiff, Nat.reduceLT, Nat.reduceSub, Int.reduceLT, Nat.reduceAdd, Nat.reduceLeDiff, Int.reduceEq, Int.reduceNe, Int.reduceToNat, Tryz.f102, encWh, words, boolI, St.frz, frzP, frzD, frzO, frzC, frzOr, frozen, left, D.ok, D.ok1, D.ok0, List.contains_cons, List.contains_nil, Nat.reduceBEq, Option.isSome_none, Bool.not_true, Bool.not_false, Bool.and_false, Bool.and_true]
   have etake : List.take (X.length + Y.length + 1) (List.map word out) = List.map word out := List.take_of_length_le (by simp; omega)
   simp only [etake]
   refine .ac (signed_ac out (!(mx == my)) (by unfold top; omega)) (by simp) ?_
   simp only [go_sem, ↓reduceIte, reduceCtorEq, Nat.reduceEqDiff, Nat.reduceLT, Nat.reduceSub, Int.reduceLT, Nat.reduceAdd, Nat.reduceLeDiff, Int.reduceEq, Int.reduceNe, Int.reduceToNat, Tryz.f102, encWh, words, boolI]
   rw [← h5]
   rfl
theorem mulOut_ok (y : List Nat) (dy : Dig y) : ∀ (x out : List Nat) (i : Nat), Dig x → Dig out → i + x.length + y.length ≤ out.length → (mulOut y x out i).length = out.length ∧ Dig (mulOut y x out i)
 | [], out, i, _, ho, _ => ⟨rfl, ho⟩
 | a :: x, out, i, hx, ho, hl => by
  simp only [List.length_cons] at hl
  obtain ⟨h1, h2, h3, _⟩ := mulIn_ok (hx a (by simp)) y out i 0 dy ho (by omega) (by omega)
  have hd : Dig (if (mulIn a y out i 0).2 = 0 then (mulIn a y out i 0).1 else (mulIn a y out i 0).1.set (i + y.length) (mulIn a y out i 0).2) := by
   split
   ·exact h2
   ·intro z hz
    rcases List.mem_or_eq_of_mem_set hz with h | h
    ·exact h2 z h
    ·subst h; exact h3
  have hlen : (if (mulIn a y out i 0).2 = 0 then (mulIn a y out i 0).1 else (mulIn a y out i 0).1.set (i + y.length) (mulIn a y out i 0).2).length = out.length := by
   split <;> simp [h1]
  obtain ⟨r1, r2⟩ := mulOut_ok y dy x _ (i + 1) (fun z hz => hx z (by simp [hz])) hd (by rw [hlen]; omega)
  exact ⟨by rw [mulOut, r1, hlen], by rw [mulOut]; exact r2⟩
theorem mulL_ok {n m : Nat} {x y : Wh} (hx : WOk n x) (hy : WOk m y) : WOk (n + m + 1) (mulL x y) := by
 have h1 := hx.len
 have h2 := hy.len
 obtain ⟨a, b⟩ := mulOut_ok y.mag hy.dig x.mag (List.replicate (x.mag.length + y.mag.length + 1) 0) 0 hx.dig (fun z hz => by simp at hz; omega) (by simp)
 exact signedL_ok (by rw [a]; simp; omega) b
end Go.Lw
end
section
namespace Go.Lw
theorem dig_dl {l : List Nat} (h : Dig l) : Dl 1000000000 l := h
theorem plainL_eq (l : List Nat) : plainL l = trimZ l := rfl
theorem dv_drop (b : Nat) (l : List Nat) (i : Nat) : dv b (l.drop i) = l.getD i 0 + b * dv b (l.drop (i + 1)) := by
 rcases Nat.lt_or_ge i l.length with h | h
 ·rw [List.drop_eq_getElem_cons h, dv]
  simp [List.getD, h]
 ·rw [List.drop_eq_nil_of_le h, List.drop_eq_nil_of_le (by omega)]
  simp [List.getD, List.getElem?_eq_none h, dv]
theorem moreGo_dv (b : List Nat) : ∀ (a : List Nat) (i c : Nat), b.length ≤ i + a.length → dv 1000000000 (moreGo b a i c) = dv 1000000000 a + c + dv 1000000000 (b.drop i)
 | [], i, c, h => by rw [List.drop_eq_nil_of_le (by simpa using h)]; simp [moreGo, dv]
 | x :: a, i, c, h => by
  rw [moreGo, dv, moreGo_dv b a (i + 1) _ (by simp at h; omega), dv_drop 1000000000 b i, dv]
  have := Nat.mod_add_div (x + c + b.getD i 0) 1000000000
  rw [Nat.mul_add, Nat.mul_add]
  omega
theorem moreL_dv (a b : List Nat) : dv 1000000000 (moreL a b) = dv 1000000000 a + dv 1000000000 b := by
 unfold moreL
 split
 ·rw [moreGo_dv a b 0 0 (by omega)]; simp; omega
 ·rw [moreGo_dv b a 0 0 (by omega)]; simp
theorem lessGo_dv (b : List Nat) (hb : Dig b) : ∀ (a : List Nat) (i c : Nat), Dig a → c ≤ 1 → b.length ≤ i + a.length → Dig (lessGo b a i c) ∧ ∃ β, dv 1000000000 (lessGo b a i c) + c + dv 1000000000 (b.drop i) = dv 1000000000 a + 1000000000 ^ a.length * β
 | [], i, c, _, _, h => by
  refine ⟨fun x hx => by simp [lessGo] at hx, c, ?_⟩
  rw [List.drop_eq_nil_of_le (by simpa using h)]
  simp [lessGo, dv]
 | x :: a, i, c, ha, hc, h => by
  have hx : x < 1000000000 := ha x (by simp)
  have hbi := hb.get i
  have ha' : Dig a := fun z hz => ha z (by simp [hz])
  unfold lessGo
  split
  ·rename_i hlt
   obtain ⟨d, β, e⟩ := lessGo_dv b hb a (i + 1) 1 ha' (Nat.le_refl _) (by simp at h; omega)
   refine ⟨fun z hz => ?_, β, ?_⟩
   ·rcases List.mem_cons.1 hz with rfl | hz
    ·omega
    ·exact d z hz
   ·rw [dv, dv_drop 1000000000 b i, dv, List.length_cons, Nat.pow_succ]
    have e2 : 1000000000 * (dv 1000000000 (lessGo b a (i + 1) 1) + 1 + dv 1000000000 (b.drop (i + 1))) = 1000000000 * (dv 1000000000 a + 1000000000 ^ a.length * β) := by rw [e]
    rw [Nat.mul_add, Nat.mul_add, Nat.mul_add] at e2
    have e3 : 1000000000 ^ a.length * 1000000000 * β = 1000000000 * (1000000000 ^ a.length * β) := by rw [Nat.mul_comm (1000000000 ^ a.length) 1000000000, Nat.mul_assoc]
    rw [e3]
    generalize 1000000000 * (1000000000 ^ a.length * β) = Z at *
    omega
  ·rename_i hge
   obtain ⟨d, β, e⟩ := lessGo_dv b hb a (i + 1) 0 ha' (Nat.zero_le _) (by simp at h; omega)
   refine ⟨fun z hz => ?_, β, ?_⟩
   ·rcases List.mem_cons.1 hz with rfl | hz
    ·omega
    ·exact d z hz
   ·rw [dv, dv_drop 1000000000 b i, dv, List.length_cons, Nat.pow_succ]
    have e2 : 1000000000 * (dv 1000000000 (lessGo b a (i + 1) 0) + 0 + dv 1000000000 (b.drop (i + 1))) = 1000000000 * (dv 1000000000 a + 1000000000 ^ a.length * β) := by rw [e]
    rw [Nat.mul_add, Nat.mul_add, Nat.mul_add] at e2
    have e3 : 1000000000 ^ a.length * 1000000000 * β = 1000000000 * (1000000000 ^ a.length * β) := by rw [Nat.mul_comm (1000000000 ^ a.length) 1000000000, Nat.mul_assoc]
    rw [e3]
    generalize 1000000000 * (1000000000 ^ a.length * β) = Z at *
    omega
theorem lessL_dv {a b : List Nat} (ha : Dig a) (hb : Dig b) (hl : b.length ≤ a.length) (hle : dv 1000000000 b ≤ dv 1000000000 a) : dv 1000000000 (lessL a b) = dv 1000000000 a - dv 1000000000 b ∧ Dig (lessL a b) := by
 obtain ⟨d, β, e⟩ := lessGo_dv b hb a 0 0 ha (Nat.zero_le _) (by simpa using hl)
 have h1 := dv_lt (b := 1000000000) (l := lessGo b a 0 0) d
 rw [lessGo_len] at h1
 simp only [List.drop_zero, Nat.add_zero] at e
 refine ⟨?_, d⟩
 unfold lessL
 cases β with
 | zero => simp at e; omega
 | succ β =>
  exfalso
  rw [Nat.mul_succ] at e
  omega
theorem cmpL_dv (a b : List Nat) : ∀ m, m ≤ a.length → m ≤ b.length → Dig a → Dig b → (0 < cmpL a b m ↔ dv 1000000000 (b.take m) < dv 1000000000 (a.take m)) ∧ (cmpL a b m < 0 ↔ dv 1000000000 (a.take m) < dv 1000000000 (b.take m)) := by
 intro m
 induction m with
 | zero => intro _ _ _ _; simp [cmpL]
 | succ m ih =>
  intro h1 h2 ha hb
  have i1 := ih (by omega) (by omega) ha hb
  have ta : a.take (m + 1) = a.take m ++ [a.getD m 0] := by rw [List.take_add_one]; simp [List.getD, List.getElem?_eq_getElem (show m < a.length by omega)]
  have tb : b.take (m + 1) = b.take m ++ [b.getD m 0] := by rw [List.take_add_one]; simp [List.getD, List.getElem?_eq_getElem (show m < b.length by omega)]
  have la : (a.take m).length = (b.take m).length := by simp; omega
  have da : Dl 1000000000 (a.take m) := (dig_dl ha).take m
  have db : Dl 1000000000 (b.take m) := (dig_dl hb).take m
  rw [cmpL, ta, tb]
  split
  ·rename_i e
   rw [e, dv_append, dv_append, la]
   constructor
   ·rw [i1.1]; omega
   ·rw [i1.2]; omega
  ·rename_i e
   rcases Nat.lt_or_ge (a.getD m 0) (b.getD m 0) with hlt | hge
   ·have := dv_lt_of_last (b := 1000000000) la da hlt
    constructor
    ·constructor
     ·intro h; omega
     ·intro h; omega
    ·constructor
     ·intro _; exact this
     ·intro _; omega
   ·have := dv_lt_of_last (b := 1000000000) la.symm db (show b.getD m 0 < a.getD m 0 by omega)
    constructor
    ·constructor
     ·intro _; exact this
     ·intro _; omega
    ·constructor
     ·intro h; omega
     ·intro h; omega
theorem compareL_dv {a b : List Nat} (ha : Cn 1000000000 a) (hb : Cn 1000000000 b) : (0 < compareL a b ↔ dv 1000000000 b < dv 1000000000 a) ∧ (compareL a b < 0 ↔ dv 1000000000 a < dv 1000000000 b) := by
 unfold compareL
 split
 ·rename_i e
  have := cmpL_dv a b a.length (Nat.le_refl _) (by omega) ha.dl hb.dl
  rw [List.take_length] at this
  rw [show b.take a.length = b by rw [e, List.take_length]] at this
  exact this
 ·rename_i e
  rcases Nat.lt_or_ge a.length b.length with h | h
  ·have := dv_lt_of_len (by omega) ha.dl hb h
   constructor
   ·constructor <;> intro h2 <;> omega
   ·constructor <;> intro h2 <;> omega
  ·have := dv_lt_of_len (by omega) hb.dl ha (show b.length < a.length by omega)
   constructor
   ·constructor <;> intro h2 <;> omega
   ·constructor <;> intro h2 <;> omega
theorem digs_eq (u : Nat) : digs u = dg 1000000000 u := by
 induction u using Nat.strongRecOn with
 | _ u ih =>
  rw [digs, dg]
  by_cases h : u = 0
  ·simp [h]
  ·rw [dif_neg h, dif_neg (by omega), ih _ (Nat.div_lt_self (by omega) (by omega))]
end Go.Lw
namespace Go.Lw
theorem dv_set (b : Nat) : ∀ (l : List Nat) (k v : Nat), k < l.length → dv b (l.set k v) + b ^ k * l.getD k 0 = dv b l + b ^ k * v
 | [], k, v, h => by simp at h
 | x :: l, 0, v, h => by simp [dv]; omega
 | x :: l, k + 1, v, h => by
  have ih := dv_set b l k v (by simpa using h)
  simp only [List.set_cons_succ, dv, List.getD_cons_succ, Nat.pow_succ]
  have e : b * (dv b (l.set k v) + b ^ k * l.getD k 0) = b * (dv b l + b ^ k * v) := by rw [ih]
  rw [Nat.mul_add, Nat.mul_add] at e
  have e1 : b ^ k * b * l.getD k 0 = b * (b ^ k * l.getD k 0) := by rw [Nat.mul_comm (b ^ k) b, Nat.mul_assoc]
  have e2 : b ^ k * b * v = b * (b ^ k * v) := by rw [Nat.mul_comm (b ^ k) b, Nat.mul_assoc]
  rw [e1, e2]
  omega
theorem mulIn_dv (a : Nat) : ∀ (y out : List Nat) (k c : Nat), k + y.length ≤ out.length →
  dv 1000000000 (mulIn a y out k c).1 + 1000000000 ^ (k + y.length) * (mulIn a y out k c).2 = dv 1000000000 out + 1000000000 ^ k * (a * dv 1000000000 y + c)
 | [], out, k, c, _ => by simp [mulIn, dv]
 | b :: y, out, k, c, h => by
  simp only [List.length_cons] at h
  have hk : k < out.length := by omega
  have ih := mulIn_dv a y (out.set k ((a * b + out.getD k 0 + c) % 1000000000)) (k + 1) ((a * b + out.getD k 0 + c) / 1000000000) (by simp; omega)
  rw [mulIn]
  rw [show k + (b :: y).length = k + 1 + y.length by simp; omega]
  rw [ih]
  have hs := dv_set 1000000000 out k ((a * b + out.getD k 0 + c) % 1000000000) hk
  generalize out.getD k 0 = o at *
  generalize dv 1000000000 (out.set k ((a * b + o + c) % 1000000000)) = D at *
  have hm := Nat.mod_add_div (a * b + o + c) 1000000000
  generalize (a * b + o + c) % 1000000000 = r at *
  generalize (a * b + o + c) / 1000000000 = q at *
  rw [dv, Nat.pow_succ]
  generalize 1000000000 ^ k = p at *
  generalize dv 1000000000 y = Y at *
  have e1 : p * 1000000000 * (a * Y + q) = p * (1000000000 * q) + p * (a * (1000000000 * Y)) := by
   rw [Nat.mul_assoc, ← Nat.mul_add]
   congr 1
   rw [Nat.mul_add, Nat.add_comm, Nat.mul_left_comm]
  have e2 : p * (a * (b + 1000000000 * Y) + c) = p * (a * b) + p * c + p * (a * (1000000000 * Y)) := by
   rw [Nat.mul_add a, Nat.mul_add, Nat.mul_add]; omega
  have e3 : p * (r + 1000000000 * q) = p * (a * b + o + c) := by rw [hm]
  rw [Nat.mul_add, Nat.mul_add, Nat.mul_add] at e3
  rw [e1, e2]
  omega
theorem mulOut_dv (y : List Nat) (dy : Dig y) : ∀ (x out : List Nat) (i : Nat), Dig x → Dig out → i + x.length + y.length ≤ out.length → (∀ j, i + y.length ≤ j → out.getD j 0 = 0) →
  dv 1000000000 (mulOut y x out i) = dv 1000000000 out + 1000000000 ^ i * (dv 1000000000 x * dv 1000000000 y)
 | [], out, i, _, _, _, _ => by simp [mulOut, dv]
 | a :: x, out, i, hx, ho, hl, hz => by
  simp only [List.length_cons] at hl
  obtain ⟨h1, h2, h3, h4⟩ := mulIn_ok (hx a (by simp)) y out i 0 dy ho (by omega) (by omega)
  have hm := mulIn_dv a y out i 0 (by omega)
  rw [mulOut]
  generalize hM : mulIn a y out i 0 = M at *
  have hset : dv 1000000000 (if M.2 = 0 then M.1 else M.1.set (i + y.length) M.2) = dv 1000000000 M.1 + 1000000000 ^ (i + y.length) * M.2 := by
   split
   ·rename_i e; rw [e]; simp
   ·have := dv_set 1000000000 M.1 (i + y.length) M.2 (by rw [h1]; omega)
    rw [h4 _ (Nat.le_refl _), hz _ (Nat.le_refl _)] at this
    simpa using this
  have hd : Dig (if M.2 = 0 then M.1 else M.1.set (i + y.length) M.2) := by
   split
   ·exact h2
   ·intro z hz2
    rcases List.mem_or_eq_of_mem_set hz2 with h | h
    ·exact h2 z h
    ·subst h; exact h3
  have hlen : (if M.2 = 0 then M.1 else M.1.set (i + y.length) M.2).length = out.length := by split <;> simp [h1]
  rw [mulOut_dv y dy x _ (i + 1) (fun z hz2 => hx z (by simp [hz2])) hd (by rw [hlen]; omega) fun j hj => ?_, hset, hm, dv, Nat.pow_succ]
  ·have e1 : 1000000000 ^ i * 1000000000 * (dv 1000000000 x * dv 1000000000 y) = 1000000000 ^ i * (1000000000 * dv 1000000000 x * dv 1000000000 y) := by rw [Nat.mul_assoc, ← Nat.mul_assoc 1000000000]
   rw [e1, Nat.add_mul, Nat.mul_add (1000000000 ^ i) (a * dv 1000000000 y) 0, Nat.mul_add (1000000000 ^ i) (a * dv 1000000000 y)]
   generalize 1000000000 ^ i * (a * dv 1000000000 y) = U
   generalize 1000000000 ^ i * (1000000000 * dv 1000000000 x * dv 1000000000 y) = W
   simp only [Nat.mul_zero, Nat.add_zero]
   exact Nat.add_assoc _ _ _
  ·split
   ·rw [h4 j (by omega)]; exact hz j (by omega)
   ·rw [getD_set, if_neg (by omega), h4 j (by omega)]; exact hz j (by omega)
def smallB (B : Nat) (a : List Nat) (d : Nat) : Nat → Nat → List Nat × Nat
 | 0, r => ([], r)
 | m + 1, r => ((smallB B a d m ((r * B + a.getD m 0) % d)).1 ++ [(r * B + a.getD m 0) / d], (smallB B a d m ((r * B + a.getD m 0) % d)).2)
theorem smallB_dv (B : Nat) (a : List Nat) (d : Nat) (h0 : 0 < d) : ∀ (m r : Nat), m ≤ a.length → r < d →
  dv B (smallB B a d m r).1 * d + (smallB B a d m r).2 = dv B (a.take m) + B ^ m * r ∧ (smallB B a d m r).2 < d ∧ (smallB B a d m r).1.length = m
 | 0, r, _, hr => by simp [smallB, dv, hr]
 | m + 1, r, hm, hr => by
  obtain ⟨i1, i2, i3⟩ := smallB_dv B a d h0 m ((r * B + a.getD m 0) % d) (by omega) (Nat.mod_lt _ h0)
  simp only [smallB]
  refine ⟨?_, i2, by rw [List.length_append, i3, List.length_singleton]⟩
  have ta : a.take (m + 1) = a.take m ++ [a.getD m 0] := by rw [List.take_add_one]; simp [List.getD, List.getElem?_eq_getElem (show m < a.length by omega)]
  have tl : (a.take m).length = m := by simp; omega
  rw [dv_append, i3, ta, dv_append, tl, Nat.pow_succ]
  have hdm := Nat.mod_add_div (r * B + a.getD m 0) d
  generalize a.getD m 0 = o at *
  generalize hq : (r * B + o) / d = q at *
  generalize hw : (r * B + o) % d = w at *
  generalize dv B (smallB B a d m w).1 = S at *
  generalize (smallB B a d m w).2 = s at *
  generalize dv B (a.take m) = T at *
  generalize B ^ m = p at *
  simp only [dv, Nat.mul_zero, Nat.add_zero]
  have e1 : (S + p * q) * d = S * d + p * (d * q) := by rw [Nat.add_mul, Nat.mul_assoc, Nat.mul_comm q d]
  have e2 : p * (w + d * q) = p * (r * B + o) := by rw [hdm]
  rw [Nat.mul_add, Nat.mul_add] at e2
  have e3 : p * B * r = p * (r * B) := by rw [Nat.mul_assoc, Nat.mul_comm B r]
  rw [e1, e3]
  omega
theorem smallGo_B (a : List Nat) (d : Nat) : ∀ (m r : Nat), smallGo a d m r = smallB 1000000000 a d m r
 | 0, r => rfl
 | m + 1, r => by rw [smallGo, smallB, smallGo_B a d m]
theorem smallL_dv {a : List Nat} {d : Nat} (h0 : 0 < d) : dv 1000000000 (smallL a d).1 = dv 1000000000 a / d ∧ (smallL a d).2 = dv 1000000000 a % d := by
 obtain ⟨h1, h2, _⟩ := smallB_dv 1000000000 a d h0 a.length 0 (Nat.le_refl _) h0
 rw [← smallGo_B] at h1 h2
 rw [List.take_length] at h1
 unfold smallL
 generalize smallGo a d a.length 0 = R at *
 generalize dv 1000000000 R.1 = S at *
 generalize dv 1000000000 a = T at *
 rw [Nat.mul_zero, Nat.add_zero] at h1
 constructor
 ·rw [← h1, Nat.add_comm, Nat.add_mul_div_right _ _ h0, Nat.div_eq_of_lt h2, Nat.zero_add]
 ·rw [← h1, Nat.add_comm, Nat.add_mul_mod_self_right, Nat.mod_eq_of_lt h2]
end Go.Lw
end
section
namespace Go.Lw
def sv (m : Bool) (n : Nat) : Int := if m then -(n : Int) else n
theorem sv_abs (m : Bool) (n : Nat) : (sv m n).natAbs = n := by unfold sv; split <;> omega
theorem sv_neg (m : Bool) (n : Nat) : decide (sv m n < 0) = (m && decide (n ≠ 0)) := by
 cases m
 ·have : ¬ (sv false n < 0) := by unfold sv; rw [if_neg (by simp)]; omega
  simp [this]
 ·have : (sv true n < 0) ↔ n ≠ 0 := by unfold sv; rw [if_pos rfl]; omega
  simp [this]
theorem sv_zero (m : Bool) : sv m 0 = 0 := by cases m <;> rfl
theorem sv_self (z : Int) : sv (decide (z < 0)) z.natAbs = z := by unfold sv; by_cases h : z < 0 <;> simp [h] <;> omega
def wd (n : Nat) : List Nat := dg 1000000000 n
theorem wd_dig (n : Nat) : Dig (wd n) := dg_dl (by omega) n
theorem wd_cn (n : Nat) : Cn 1000000000 (wd n) := dg_cn (by omega) n
theorem wd_dv (n : Nat) : dv 1000000000 (wd n) = n := dv_dg (by omega) n
theorem wd_zero : wd 0 = [] := dg_zero _
theorem wd_nil {n : Nat} : wd n = [] ↔ n = 0 := dg_nil_iff (by omega) n
theorem wd_len {n : Nat} : 0 < (wd n).length ↔ n ≠ 0 := by
 rw [Nat.pos_iff_ne_zero, Ne, List.length_eq_zero_iff, wd_nil]
theorem plain_wd {l : List Nat} (h : Dig l) : plainL l = wd (dv 1000000000 l) := trimZ_dg (by omega) h
def wz (z : Int) : Wh := ⟨decide (z < 0), wd z.natAbs⟩
theorem wz_mag (z : Int) : (wz z).mag = wd z.natAbs := rfl
theorem wz_minus (z : Int) : (wz z).minus = decide (z < 0) := rfl
def encZ (z : Int) : I := encWh (wz z)
def Zb (n : Nat) (z : Int) : Prop := (wd z.natAbs).length ≤ n
theorem wz_ok {n : Nat} {z : Int} (h : Zb n z) : WOk n (wz z) := ⟨h, wd_dig _, fun hm e => by
 simp only [wz, decide_eq_true_eq] at hm e
 rw [wd_nil] at e
 omega⟩
theorem signed_wz {l : List Nat} (h : Dig l) (m : Bool) : signedL l m = wz (sv m (dv 1000000000 l)) := by
 unfold signedL wz
 rw [sv_abs, sv_neg, plain_wd h]
 simp [wd_len]
theorem wz_sv (m : Bool) (n : Nat) : (wz (sv m n)).mag = wd n := by simp only [wz, sv_abs]
theorem neg_wz (z : Int) : negL (wz z) = wz (-z) := by
 unfold negL
 rw [wz_mag, wz_minus, signed_wz (wd_dig _), wd_dv]
 congr 1
 unfold sv
 by_cases h : z < 0 <;> simp [h] <;> omega
theorem compare_wd (a b : Nat) : (0 < compareL (wd a) (wd b) ↔ b < a) ∧ (compareL (wd a) (wd b) < 0 ↔ a < b) := by
 have := compareL_dv (wd_cn a) (wd_cn b)
 rwa [wd_dv, wd_dv] at this
theorem wd_len_le {a b : Nat} (h : a ≤ b) : (wd a).length ≤ (wd b).length :=
 dg_len_le (by omega) (Nat.lt_of_le_of_lt h (dg_lt_pow (by omega) b))
theorem add_wz (x y : Int) : addL (wz x) (wz y) = wz (x + y) := by
 unfold addL
 by_cases h : (wz x).minus = (wz y).minus
 ·rw [if_pos h, wz_mag, wz_mag, wz_minus, signed_wz (moreL_dig (wd_dig _) (wd_dig _)), moreL_dv, wd_dv, wd_dv]
  rw [wz_minus, wz_minus, decide_eq_decide] at h
  have : sv (decide (x < 0)) (x.natAbs + y.natAbs) = x + y := by unfold sv; by_cases h2 : x < 0 <;> simp [h2] <;> omega
  rw [this]
 ·rw [if_neg h, wz_mag, wz_mag, wz_minus, wz_minus]
  rw [wz_minus, wz_minus, decide_eq_decide] at h
  have hc := compare_wd x.natAbs y.natAbs
  split
  ·rename_i h3
   have hle : y.natAbs ≤ x.natAbs := by omega
   obtain ⟨e1, e2⟩ := lessL_dv (wd_dig x.natAbs) (wd_dig y.natAbs) (wd_len_le hle) (by rw [wd_dv, wd_dv]; exact hle)
   rw [signed_wz e2, e1, wd_dv, wd_dv]
   have : sv (decide (x < 0)) (x.natAbs - y.natAbs) = x + y := by unfold sv; by_cases h2 : x < 0 <;> simp [h2] <;> omega
   rw [this]
  ·rename_i h3
   have hle : x.natAbs ≤ y.natAbs := by omega
   obtain ⟨e1, e2⟩ := lessL_dv (wd_dig y.natAbs) (wd_dig x.natAbs) (wd_len_le hle) (by rw [wd_dv, wd_dv]; exact hle)
   rw [signed_wz e2, e1, wd_dv, wd_dv]
   have : sv (decide (y < 0)) (y.natAbs - x.natAbs) = x + y := by unfold sv; by_cases h2 : y < 0 <;> simp [h2] <;> omega
   rw [this]
theorem sub_wz (x y : Int) : subL (wz x) (wz y) = wz (x - y) := by unfold subL; rw [neg_wz, add_wz, Int.sub_eq_add_neg]
theorem sign_wz (z : Int) : signL (wz z) = z.sign := by
 unfold signL
 rw [wz_mag, wz_minus]
 by_cases h : z = 0
 ·subst h; simp [wd_zero]
 ·have : (wd z.natAbs).length ≠ 0 := by have := (wd_len (n := z.natAbs)).2 (by omega); omega
  rw [if_neg this]
  by_cases h2 : z < 0
  ·simp [h2, Int.sign_eq_neg_one_of_neg h2]
  ·simp [h2, Int.sign_eq_one_of_pos (show 0 < z by omega)]
theorem cmp_wz (x y : Int) : cmpW (wz x) (wz y) = (x - y).sign := by unfold cmpW; rw [sub_wz, sign_wz]
theorem mul_wz (x y : Int) : mulL (wz x) (wz y) = wz (x * y) := by
 unfold mulL
 have hrep : ∀ n j, (List.replicate n 0).getD j 0 = 0 := fun n j => by
  rw [List.getD_eq_getElem?_getD, List.getElem?_replicate]; split <;> rfl
 have hd0 : Dig (List.replicate ((wz x).mag.length + (wz y).mag.length + 1) 0) := fun z hz => by
  rw [List.mem_replicate] at hz; omega
 have hdg := (mulOut_ok (wz y).mag (wd_dig _) (wz x).mag (List.replicate ((wz x).mag.length + (wz y).mag.length + 1) 0) 0 (wd_dig _) hd0 (by simp)).2
 rw [signed_wz hdg, mulOut_dv (wz y).mag (wd_dig _) (wz x).mag _ 0 (wd_dig _) hd0 (by simp) (fun j _ => hrep _ j), dv_replicate]
 rw [wz_mag, wz_mag, wd_dv, wd_dv, wz_minus, wz_minus, Nat.pow_zero, Nat.one_mul, Nat.zero_add, ← Int.natAbs_mul]
 congr 1
 have hm := sv_self (x * y)
 by_cases h0 : x * y = 0
 ·rw [h0]; simp [sv_zero]
 ·have hx : x ≠ 0 := fun e => h0 (by rw [e, Int.zero_mul])
  have hy : y ≠ 0 := fun e => h0 (by rw [e, Int.mul_zero])
  have : (decide (x < 0) != decide (y < 0)) = decide (x * y < 0) := by
   rcases Int.lt_or_gt_of_ne hx with h1 | h1 <;> rcases Int.lt_or_gt_of_ne hy with h2 | h2
   ·have := Int.mul_pos_of_neg_of_neg h1 h2; simp [h1, h2] <;> omega
   ·have := Int.mul_neg_of_neg_of_pos h1 h2; simp [h1, this] <;> omega
   ·have := Int.mul_neg_of_pos_of_neg h1 h2; simp [h2, this] <;> omega
   ·have := Int.mul_pos h1 h2
    have e1 : ¬ x < 0 := by omega
    have e2 : ¬ y < 0 := by omega
    have e3 : ¬ x * y < 0 := by omega
    simp [e1, e2, e3]
  rw [this]; exact hm
theorem of_wz (n : Int) : ofL n = wz n := by unfold ofL wz wd; rw [digs_eq]
theorem one_wz (z : Int) : oneL (wz z) = decide (z = 1) := by
 have key : (¬ z < 0 ∧ (wd z.natAbs).length = 1 ∧ (wd z.natAbs).getD 0 0 = 1) ↔ z = 1 := by
  constructor
  ·rintro ⟨h1, h2, h3⟩
   obtain ⟨d, hd⟩ := List.length_eq_one_iff.1 h2
   rw [hd] at h3
   have := wd_dv z.natAbs
   rw [hd] at this
   simp [dv] at h3 this
   omega
  ·rintro rfl
   have : wd 1 = [1] := by
    unfold wd
    rw [dg_pos (by omega) (by omega)]
    simp [dg_zero]
   simp [this]
 unfold oneL
 rw [wz_mag, wz_minus, ← Bool.coe_iff_coe]
 simp only [Bool.and_eq_true, Bool.not_eq_true', decide_eq_true_eq, decide_eq_false_iff_not]
 exact key
end Go.Lw
end
section
set_option maxRecDepth 10000
namespace Go.Lw
open Go.Proofs
theorem add_z {x y : Int} (hx : Zb 1000000000 x) (hy : Zb 1000000000 y) : AC P0 104 [.i (encZ x), .i (encZ y)] (.i (encZ (x + y))) := by
 have := add_ac (wz x) (wz y) (wz_ok hx) (wz_ok hy); rwa [add_wz] at this
theorem sub_z {x y : Int} (hx : Zb 1000000000 x) (hy : Zb 1000000000 y) : AC P0 98 [.i (encZ x), .i (encZ y)] (.i (encZ (x - y))) := by
 have := sub_ac (wz x) (wz y) (wz_ok hx) (wz_ok hy); rwa [sub_wz] at this
theorem mul_z {x y : Int} (hx : Zb 100000000 x) (hy : Zb 100000000 y) : AC P0 102 [.i (encZ x), .i (encZ y)] (.i (encZ (x * y))) := by
 have := mul_ac (wz x) (wz y) (wz_ok hx) (wz_ok hy); rwa [mul_wz] at this
theorem neg_z {x : Int} (hx : Zb top x) : AC P0 133 [.i (encZ x)] (.i (encZ (-x))) := by
 have := neg_ac (wz x) hx; rwa [neg_wz] at this
theorem sign_z (x : Int) : AC P0 99 [.i (encZ x)] (.i (.int .i64 x.sign)) := by
 have := sign_ac (wz x); rwa [sign_wz] at this
theorem cmp_z {x y : Int} (hx : Zb 1000000000 x) (hy : Zb 1000000000 y) : AC P0 56 [.i (encZ x), .i (encZ y)] (.i (.int .i64 (x - y).sign)) := by
 have := cmp_ac (wz x) (wz y) (wz_ok hx) (wz_ok hy); rwa [cmp_wz] at this
theorem one_z (x : Int) : AC P0 58 [.i (encZ x)] (.i (.bool (decide (x = 1)))) := by
 have := one_ac (wz x); rwa [one_wz] at this
theorem of_z (n : Int) (h0 : -9223372036854775808 ≤ n) (h1 : n < 9223372036854775808) : AC P0 54 [.i (.int .i64 n)] (.i (encZ n)) := by
 have := of_ac n h0 h1; rwa [of_wz] at this
theorem zero_z (x : Int) : AC P0 100 [.i (encZ x)] (.i (.bool (decide (x = 0)))) := by
 have h := zero_ac (wz x)
 have e : decide ((wz x).mag.length = 0) = decide (x = 0) := by
  rw [decide_eq_decide, wz_mag, List.length_eq_zero_iff, wd_nil]; omega
 rwa [e] at h
theorem abs_z (x : Int) : AC P0 97 [.i (encZ x)] (.i (encZ x.natAbs)) := by
 have h := abs_ac (wz x)
 have e : (⟨false, (wz x).mag⟩ : Wh) = wz (x.natAbs : Int) := by
  unfold wz
  have : ¬ ((x.natAbs : Int) < 0) := by omega
  simp [this]
 rwa [e] at h
theorem compare_z (a b : Nat) (ha : (wd a).length ≤ top) (hb : (wd b).length ≤ top) : AC P0 145 [.i (words (wd a)), .i (words (wd b))] (.i (.int .i64 (compareL (wd a) (wd b)))) :=
 compare_ac _ _ ha hb (wd_dig a) (wd_dig b)
theorem signed_z {l : List Nat} (h : Dig l) (hl : l.length ≤ top) (m : Bool) : AC P0 96 [.i (words l), .i (.bool m)] (.i (encZ (sv m (dv 1000000000 l)))) := by
 have := signed_ac l m hl; rwa [signed_wz h] at this
end Go.Lw
end
