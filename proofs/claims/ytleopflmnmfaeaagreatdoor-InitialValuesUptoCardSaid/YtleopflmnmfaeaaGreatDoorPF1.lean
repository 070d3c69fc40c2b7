/-
A part of the proof that the statement InitialValues holds of the given program (second form, tied card): the text of a whole number, walked.
-/
import Derived.Test.YtleopflmnmfaeaaGreatDoorPH
import Derived.Test.YtleopflmnmfaeaaGreatDoorPF0
import Derived.Great.BuildSlice
import Derived.RangeFuncBox
import Derived.Shelf.Strings.Trim
set_option autoImplicit false
set_option linter.unusedSimpArgs false
set_option linter.unusedVariables false
set_option linter.unnecessarySimpa false
section
namespace Go.Proofs
open Go.RowKit Go.Shelf
attribute [local go_sem] Oper.semAt_some
theorem zero_in (F : Fence) (n : Nat) (hF : F.fn 100) (hro : F.round = none) (m : Bool) (b off len cap : Nat) (w : World) :
  CallsIn F n Tryz.prog 100 #[.agg #[.bool m, .slice (some ⟨b, off, none⟩) len cap]] w fun e w' => e = .returned (.bool (decide ((len : Int) = 0))) ∧ w' = w.alloc (.cells #[.bool m, .slice (some ⟨b, off, none⟩) len cap] 71) := by
 refine callsIn_of_wp Tryz.func100 rfl hF ?_ hro
 simp only [Tryz.ntmps100, List.size_toArray, List.length_cons, List.length_nil, Nat.reduceAdd, Nat.reduceSub, Array.replicate_succ, Array.replicate_zero, List.push_toArray, List.append_toArray, List.nil_append, List.cons_append]
 gi_wp2
 go_ret
 exact ⟨rfl, rfl⟩
theorem downward_in (F : Fence) (n : Nat) (hF : F.fn 105) (hro : F.round = none) (m : Bool) (b off len cap : Nat) (w : World) :
  CallsIn F n Tryz.prog 105 #[.agg #[.bool m, .slice (some ⟨b, off, none⟩) len cap]] w fun e w' => e = .returned (.func (.func 150) #[] #[.pointer (some ⟨w.heap.size, 0, none⟩)]) ∧ w' = w.alloc (.cells #[.bool m, .slice (some ⟨b, off, none⟩) len cap] 71) := by
 refine callsIn_of_wp Tryz.func105 rfl hF ?_ hro
 simp only [Tryz.ntmps105, List.size_toArray, List.length_cons, List.length_nil, Nat.reduceAdd, Nat.reduceSub, Array.replicate_succ, Array.replicate_zero, List.push_toArray, List.append_toArray, List.nil_append, List.cons_append]
 gi_wp2
 go_ret
 exact ⟨rfl, rfl⟩
theorem down_stops (F : Fence) (n : Nat) (hF : F.fn 150) (hro : F.round = none) (hn : 1 ≤ n) (Bs n₀ b off len cap : Nat) (f : Nat → WX) (hlen : len ≤ 1000000000000) (w : World) (hb : b < n₀) (hBsn : Bs < w.heap.size) (hn₀ : n₀ ≤ w.heap.size)
  (hf : ∀ k, k < len → (f k).1.1 = len - 1 - k) (hBs : w.cell? ⟨Bs, 1, none⟩ = some (.slice (some ⟨b, off, none⟩) len cap)) (hc : ∀ k, k < len → w.cell? ⟨b, off + (len - 1 - k), none⟩ = some (.int .u32 ((f k).1.2 : Int))) :
  SeqStopsK F n Tryz.prog 150 #[.pointer (some ⟨Bs, 0, none⟩)] (fun x : WX => #[Value.int .i64 (x.1.1 : Int), Value.int .u32 (x.1.2 : Int)]) (KpD n₀ Bs) (fun ys => ys = (List.range len).map f) (fun _ => True) len w := fun l J Jx W hW _ _ hY h0 => by
 have hB : Below n₀ w W := hW.mono hn₀
 refine (down_in F n hF hro hn l Bs n₀ b off len cap f hlen hb J Jx hf hY W ((hW.cell (p := ⟨Bs, 1, none⟩) hBsn).trans hBs) (fun k hk => (hB.cell (p := ⟨b, off + (len - 1 - k), none⟩) hb).trans (hc k hk)) h0).mono ?_
 rintro e W' ⟨he, h | ⟨pre, _, hj⟩⟩
 ·exact ⟨he, .inl h⟩
 ·exact ⟨he, .inr ⟨pre, trivial, hj⟩⟩
theorem Tryz.info5' : (Tryz.prog.info? 5).map (fun i => (i.zero, i.size, i.bytes)) = some (some (.int .u8 0), 1, 1) := by kernel_rfl
def chunk (x : Nat) : List UInt8 := (List.range 9).map fun i => UInt8.ofNat (48 + x / 10 ^ (8 - i) % 10)
def chunks (xs : List WX) : List UInt8 := xs.flatMap fun x => chunk x.1.2
theorem chunks_snoc (pre : List WX) (x : WX) : chunks (pre ++ [x]) = chunks pre ++ chunk x.1.2 := by simp [chunks]
theorem chunk_len (x : Nat) : (chunk x).length = 9 := by simp [chunk]
theorem chunks_len (pre : List WX) : (chunks pre).length = 9 * pre.length := by
 induction pre with
 | nil => rfl
 | cons x t ih => simp only [chunks, List.flatMap_cons, List.length_append, chunk_len, List.length_cons]; simp only [chunks] at ih; omega
def encB (x : UInt8) : Value := .int .u8 (x.toNat : Int)
def arrL (x k : Nat) : List Value := (List.range 9).map fun i => if i < k then .int .u8 0 else encB (UInt8.ofNat (48 + x / 10 ^ (8 - i) % 10))
theorem arr_len (x k : Nat) : (arrL x k).length = 9 := by simp [arrL]
theorem arr_get (x k i : Nat) (h : i < 9) : (arrL x k)[i]? = some (if i < k then .int .u8 0 else encB (UInt8.ofNat (48 + x / 10 ^ (8 - i) % 10))) := by simp [arrL, h]
theorem arr_9 (x : Nat) : (arrL x 9).toArray = #[Value.int .u8 0, .int .u8 0, .int .u8 0, .int .u8 0, .int .u8 0, .int .u8 0, .int .u8 0, .int .u8 0, .int .u8 0] := by
 simp [arrL, List.range_succ]
theorem arr_0 (x : Nat) : arrL x 0 = (chunk x).map encB := by simp [arrL, chunk]
theorem arr_set (x j : Nat) (h : j < 9) : (arrL x (j + 1)).set j (encB (UInt8.ofNat (48 + x / 10 ^ (8 - j) % 10))) = arrL x j := by
 refine List.ext_getElem? fun i => ?_
 rw [List.getElem?_set]
 by_cases hi : i < 9
 ·rw [arr_get x j i hi, arr_get x (j + 1) i hi, arr_len]
  by_cases e : j = i
  ·subst e; simp [h]
  ·rw [if_neg e]
   by_cases h2 : i < j
   ·rw [if_pos h2, if_pos (by omega)]
   ·rw [if_neg h2, if_neg (by omega)]
 ·rw [arr_len, List.getElem?_eq_none (by rw [arr_len]; omega), List.getElem?_eq_none (by rw [arr_len]; omega)]
  simp [show j ≠ i by omega]
theorem dg1 (n : Nat) (h : n < 1000000000) : ((n : Int).tdiv 10) % 4294967296 = ((n / 10 : Nat) : Int) := by
 rw [Int.tdiv_eq_ediv_of_nonneg (by omega)]; omega
theorem dg2 (n : Nat) : (48 + (n : Int).tmod 10) % 256 = ((UInt8.ofNat (48 + n % 10)).toNat : Int) := by
 rw [Int.tmod_eq_emod_of_nonneg (by omega), UInt8.toNat_ofNat']; omega
theorem own_block {β : Type} (k : Nat) (cs : Array Value) (t : TypeId) (fr : Nat × Nat) : Own (fun (_ : β) W => W.heap[k]? = some (.cells cs t fr)) := by
 intro s A B row h hg hr
 refine (hg.block k (Array.getElem?_eq_some_iff.1 h).1 fun e => ?_).trans h
 obtain ⟨o, ho, hc⟩ := hr k e.symm
 rw [h] at ho; cases ho; cases hc
theorem Own.and' {β : Type} {I I' : β → World → Prop} (h : Own I) (h' : Own I') : Own (fun s W => I s W ∧ I' s W) := fun s A B row hs hg hr => ⟨h s A B row hs.1 hg hr, h' s A B row hs.2 hg hr⟩
set_option maxRecDepth 100000 in
set_option maxHeartbeats 4000000 in
theorem string_calls (m : Bool) (b off len cap : Nat) (f : Nat → WX) (hlen : len ≤ 1000000000000) (hpos : 0 < len) (w : World) (hb : b < w.heap.size)
  (hf : ∀ k, k < len → (f k).1.1 = len - 1 - k) (hc : ∀ k, k < len → w.cell? ⟨b, off + (len - 1 - k), none⟩ = some (.int .u32 ((f k).1.2 : Int))) :
  Calls Tryz.prog 62 #[.agg #[.bool m, .slice (some ⟨b, off, none⟩) len cap]] w fun e w' => ∃ s, e = .returned (.string s) ∧ s = (if m then ⟨#[45]⟩ else ⟨#[]⟩) ++ ⟨(Lib.trimLeftB (chunks ((List.range len).map f)) 48).toArray⟩ ∧ Below w.heap.size w w' := by
 refine (callsIn_wide (n := 6)).1 ?_
 obtain ⟨i0, hi, hz0, hz1, hz2⟩ := info_parts Tryz.info5'
 have hne : ¬ ((len : Int) = 0) := by omega
 refine callsIn_of_wp_marks Tryz.func62 rfl trivial ?_ rfl
 simp only [Tryz.ntmps62, List.size_toArray, List.length_cons, List.length_nil, Nat.reduceAdd, Nat.reduceSub, Array.replicate_succ, Array.replicate_zero, List.push_toArray, List.append_toArray, List.nil_append, List.cons_append]
 gi_wp2_with (first | (refine ⟨trivial, ?_⟩; gi_at_call 100; refine (zero_in Fence.wide 5 trivial rfl _ _ _ _ _ _).mono ?_; rintro e w' ⟨rfl, rfl⟩) | (refine ⟨trivial, ?_⟩; gi_at_call 105; refine (downward_in Fence.wide 5 trivial rfl _ _ _ _ _ _).mono ?_; rintro e w' ⟨rfl, rfl⟩))
 have bO := Boxed.new ((w.alloc (.cells #[.bool m, .slice (some ⟨b, off, none⟩) len cap] 71)).alloc (.cells #[.bool m, .slice (some ⟨b, off, none⟩) len cap] 71)) 178 (.slice none 0 0)
 have hbs : b < w.heap.size := hb
 obtain ⟨W0, hW0⟩ : ∃ W0, W0 = ((((w.alloc (Obj.cells #[Value.bool m, Value.slice (some { block := b, off := off }) len cap] 71)).alloc (Obj.cells #[Value.bool m, Value.slice (some { block := b, off := off }) len cap] 71)).alloc (Obj.cells #[Value.slice none 0 0] 178)).alloc (Obj.cells #[Value.bool m, Value.slice (some { block := b, off := off }) len cap] 71)) := ⟨_, rfl⟩
 have hs0 : W0.heap.size = w.heap.size + 4 := by rw [hW0]; simp
 have hB0 : Below (w.heap.size + 1) (w.alloc (.cells #[.bool m, .slice (some ⟨b, off, none⟩) len cap] 71)) W0 := by
  rw [hW0]
  exact (((Below.refl _ _).alloc (by simp) _).alloc (by simp) _).alloc (by simp) _
 have hBw : Below w.heap.size w (w.alloc (.cells #[.bool m, .slice (some ⟨b, off, none⟩) len cap] 71)) := (Below.refl _ w).alloc (Nat.le_refl _) _
 have bO : Boxed W0 (w.heap.size + 2) 178 (.slice none 0 0) := by
  have := bO.alloc (Obj.cells #[Value.bool m, Value.slice (some { block := b, off := off }) len cap] 71)
  rw [hW0]
  simpa using this
 have bX : W0.heap[w.heap.size + 3]? = some (.cells #[Value.bool m, Value.slice (some { block := b, off := off }) len cap] 71 (0, 0)) := by
  rw [hW0]
  have := World.alloc_heap_new (((w.alloc (Obj.cells #[Value.bool m, Value.slice (some { block := b, off := off }) len cap] 71)).alloc (Obj.cells #[Value.bool m, Value.slice (some { block := b, off := off }) len cap] 71)).alloc (Obj.cells #[Value.slice none 0 0] 178)) (Obj.cells #[Value.bool m, Value.slice (some { block := b, off := off }) len cap] 71)
  simp only [World.size_alloc] at this
  exact this
 have bN : W0.cell? ⟨w.heap.size + 3, 1, none⟩ = some (.slice (some ⟨b, off, none⟩) len cap) := by
  rw [hW0]
  have := World.alloc_heap_new (((w.alloc (Obj.cells #[Value.bool m, Value.slice (some { block := b, off := off }) len cap] 71)).alloc (Obj.cells #[Value.bool m, Value.slice (some { block := b, off := off }) len cap] 71)).alloc (Obj.cells #[Value.slice none 0 0] 178)) (Obj.cells #[Value.bool m, Value.slice (some { block := b, off := off }) len cap] 71)
  simp only [World.size_alloc] at this
  simp only [World.cell?, this]
  rfl
 have bM : (w.alloc (.cells #[.bool m, .slice (some ⟨b, off, none⟩) len cap] 71)).cell? ⟨w.heap.size, 0, none⟩ = some (.bool m) := by
  have := World.alloc_heap_new w (.cells #[.bool m, .slice (some ⟨b, off, none⟩) len cap] 71)
  simp only [World.cell?, this]
  rfl
 rw [← hW0]
 have hcW : ∀ k, k < len → W0.cell? ⟨b, off + (len - 1 - k), none⟩ = some (.int .u32 ((f k).1.2 : Int)) := fun k hk => ((hBw.trans (hB0.mono (by omega))).cell (p := ⟨b, off + (len - 1 - k), none⟩) hb).trans (hc k hk)
 clear hW0
 refine wpIn_rangeFunc_ownF rfl (by omega) (gf := 150) (lb := #[.pointer (some ⟨w.heap.size + 3, 0, none⟩)]) rfl trivial (enters_of Tryz.func150 (by kernel_rfl) rfl)
  (down_stops Fence.wide 5 trivial rfl (by omega) (w.heap.size + 3) (w.heap.size + 1) b off len cap f hlen W0 (by omega) (by omega) (by omega) hf bN hcW) KpD.trans (KpD.turn (by omega) (by omega)) (Below.refl _ _) (fun _ => rfl)
  (fun pre W => ((∃ v, Boxed W (w.heap.size + 2) 178 v ∧ W.ownsRow (w.heap.size + 1) 5 1 v (chunks pre).length ((chunks pre).map encB) ∧ True) ∧ W.heap[w.heap.size + 3]? = some (.cells #[Value.bool m, Value.slice (some { block := b, off := off }) len cap] 71 (0, 0))) ∧ Below (w.heap.size + 1) (w.alloc (.cells #[.bool m, .slice (some ⟨b, off, none⟩) len cap] 71)) W)
  (fun _ _ _ => False)
  (OwnFrom.and (Own.from (Own.and' (holdsRow_own (w.heap.size + 1) (w.heap.size + 2) 178 5 1 (fun pre => (chunks pre).length) (fun pre => (chunks pre).map encB) (fun _ _ => True)) (own_block _ _ _ _)) _) (ownFrom_below (by simp) (by omega)))
  (fun _ _ _ _ _ hs _ _ => hs)
  ⟨⟨⟨_, bO, World.ownsRow_nil _ _ _ _, trivial⟩, bX⟩, hB0⟩
  (fun x => { tmps := #[Value.agg #[Value.bool m, Value.slice (some { block := b, off := off }) len cap],
     Value.pointer (some { block := w.heap.size, off := 0 }), Value.string { data := #[] },
     Value.pointer (some { block := w.heap.size + 1 + 1, off := 0 }), undef, .int .u32 (x.1.2 : Int), undef, undef, undef,
     Value.agg #[Value.bool m, Value.slice (some { block := b, off := off }) len cap], Value.bool false,
     Value.agg #[Value.bool m, Value.slice (some { block := b, off := off }) len cap],
     Value.func (Fn.func 150) #[] #[Value.pointer (some { block := w.heap.size + 1 + 1 + 1, off := 0 })], .int .i64 (x.1.1 : Int), .int .u32 (x.1.2 : Int),
     undef, undef, undef, undef, undef, undef, undef, undef, undef, undef, undef, undef, undef, undef, undef,
     undef, undef, undef, undef, undef, undef, undef, undef], defers := [] }) ?assign ?body ?done ?stop
 case assign =>
  intro l x W K hK
  gi_wp2
  exact hK
 case body =>
  rintro l pre x W ⟨⟨⟨v, hv, hrow, _⟩, hX⟩, hB⟩ hlt
  have hc := hv.cell
  have hlt1 := hv.lt
  gi_wp2
  rw [← arr_9 x.1.2]
  gi_loopw [5, 7] (fun v5 v7 wr => ∃ k : Nat, k ≤ 9 ∧ v7 = .int .i64 ((k : Int) - 1) ∧ v5 = .int .u32 ((x.1.2 / 10 ^ (9 - k) : Nat) : Int) ∧ wr = W.alloc (.cells (arrL x.1.2 k).toArray 182)) (fun _ v7 _ => (intOf v7 + 1).toNat)
  case atStart => exact ⟨9, Nat.le_refl _, rfl, by simp, rfl⟩
  case round =>
   obtain ⟨k, hk, rfl, rfl, rfl⟩ := hrel
   rcases k with _ | j
   ·gi_wp2
    clear hc
    have hbx := hv.alloc (Obj.cells (arrL x.1.2 0).toArray 182)
    have hblk := World.alloc_heap_new W (.cells (arrL x.1.2 0).toArray 182)
    have hpl := chunks_len pre
    obtain ⟨v', w1, hrun, hown', hgrow, _, _⟩ := run_append_own_at (P := Tryz.prog) (w := (W.alloc (Obj.cells (arrL x.1.2 0).toArray 182)).drew) (w.heap.size + 1) 178 178 5 i0 (.int .u8 0) 1 1 Tryz.underlying178 hi hz0 hz1 hz2 rfl (by decide) v _ _ ((hrow.alloc _).drew)
     ⟨W.heap.size, 0, none⟩ 9 9 (arrL x.1.2 0) (by simp [arr_len]) (fun j u hu => by
      show (W.alloc (Obj.cells (arrL x.1.2 0).toArray 182)).cell? _ = _
      rw [Addr.add_lit]
      simp only [Nat.zero_add, World.cell?, hblk, List.getElem?_toArray, hu]
      simp) (fun u hu => by
      rw [arr_0] at hu
      obtain ⟨y, _, rfl⟩ := List.mem_map.1 hu
      rfl) (by unfold maxLen; omega) (by omega) (by have := hB.size; simp at this ⊢; omega)
    have hgrow' : (W.alloc (Obj.cells (arrL x.1.2 0).toArray 182)).grownBy w1 v.ownBlock := ⟨hgrow.os, hgrow.tape, hgrow.output, hgrow.size, hgrow.block⟩
    obtain ⟨hv1, hv2, hr2, hk2, hb2⟩ := hv.appended (by decide) hrow (by have := hB.size; simpa using this) (by omega) hown' hgrow'
    obtain ⟨i1, hi1, hs1⟩ : ∃ i1, Tryz.prog.info? 178 = some i1 ∧ i1.size = 1 := ⟨(Tryz.prog.info? 178).get (by kernel_rfl), Option.some_get _ |>.symm, by kernel_rfl⟩
    have hv'1 : v'.cells = #[v'] ∧ v'.oneCell' = true := by
     rcases hown'.2 with ⟨rfl, _⟩ | ⟨g, cap, cur, rfl, _⟩ <;> exact ⟨rfl, rfl⟩
    have hst := store1 (P := Tryz.prog) (T := 178) hi1 hs1 hv1.cell hv1.frozen hv'1.1 hv'1.2
    have hld : (loadVar 178 ⟨w.heap.size + 2, 0, none⟩).run Tryz.prog (W.alloc (Obj.cells (arrL x.1.2 0).toArray 182)).drew = .ok v (W.alloc (Obj.cells (arrL x.1.2 0).toArray 182)).drew := by
     refine load1 ?_ hbx.cell
     simp [isAgg, run_underlying Tryz.underlying178, Result.andThen]
    refine appendRegion (P := Tryz.prog) 178 182 9 (by kernel_rfl) rfl rfl rfl rfl rfl rfl rfl rfl rfl rfl rfl rfl (by kernel_rfl) (by kernel_rfl) (by kernel_rfl) (by kernel_rfl) (by kernel_rfl) (by kernel_rfl) (by decide) (by decide) (by decide) (by decide) (by decide)
     (by simp) (by simp) (by simp) rfl rfl hld ?_ hrun hst ?_
    ·intro ρ hρ
     simp [execOp, hρ, go_sem, Tryz.underlying182, Result.andThen]
    ·intro a'
     have hne3 : some (w.heap.size + 3) ≠ v.ownBlock := by
      rcases hrow.2 with ⟨rfl, _⟩ | ⟨g, cp, cur, rfl, _, hg, _⟩
      ·simp [Value.ownBlock]
      ·intro e
       simp only [Value.ownBlock, Option.some.injEq] at e
       rw [← e] at hg
       rw [hX] at hg
       simp at hg
     have h3 : (w1.setCell ⟨w.heap.size + 2, 0, none⟩ v').heap[w.heap.size + 3]? = W.heap[w.heap.size + 3]? := by
      rw [Below.heap_setCell _ _ _ _ (by simp)]
      rw [hgrow'.block _ (by have := (Array.getElem?_eq_some_iff.1 hX).1; simp; omega) hne3]
      first
       | exact heap_alloc_old W _ _ (Array.getElem?_eq_some_iff.1 hX).1
       | exact heap_alloc_old W _ (Array.getElem?_eq_some_iff.1 hX).1
     refine ⟨hk2, ⟨hb2, h3⟩, ⟨⟨v', hv2, ?_, trivial⟩, h3.trans hX⟩, hB.trans hb2⟩
     rw [chunks_snoc, List.length_append, chunk_len, List.map_append, ← arr_0]
     exact hr2
   ·have hji : ((j + 1 : Nat) : Int) - 1 = (j : Int) := by omega
    rw [hji]
    have hblk := World.alloc_heap_new W (.cells (arrL x.1.2 (j + 1)).toArray 182)
    have hcell : (W.alloc (.cells (arrL x.1.2 (j + 1)).toArray 182)).cell? ⟨W.heap.size, j, none⟩ = some (.int .u8 0) := by
     have h9 : j < 9 := by omega
     simp only [World.cell?, hblk, List.getElem?_toArray]
     rw [arr_get x.1.2 (j + 1) j h9, if_pos (Nat.lt_succ_self j)]
     simp
    have hfro : (W.alloc (.cells (arrL x.1.2 (j + 1)).toArray 182)).frozen? ⟨W.heap.size, j, none⟩ = false := by
     simp only [World.frozen?, hblk]; simp
    clear hblk
    gi_wp2
    go_roundw
    case rel =>
     have h9 : j < 9 := by omega
     have hd : ((x.1.2 : Int) / 10 ^ (8 - j)) = ((x.1.2 / 10 ^ (8 - j) : Nat) : Int) := by simp
     have hlt9 : x.1.2 / 10 ^ (8 - j) < 1000000000 := Nat.lt_of_le_of_lt (Nat.div_le_self _ _) x.2
     rw [hd]
     refine ⟨j, by omega, rfl, ?_, ?_⟩
     ·rw [dg1 _ hlt9, show 9 - j = (8 - j) + 1 by omega, Nat.pow_succ, Nat.div_div_eq_div_mul]
     ·rw [dg2, ← arr_set x.1.2 j h9]; rfl
    case measure => simp [intOf]
 case done =>
  rintro D ys W hD rfl ⟨⟨⟨v, hv, hrow, _⟩, hX⟩, hB⟩ hK
  have hlen' : (chunks ((List.range len).map f)).length = 9 * len := by rw [chunks_len]; simp
  obtain ⟨bs, hbs'⟩ : ∃ bs, bs = chunks ((List.range len).map f) := ⟨_, rfl⟩
  have hrow : W.ownsRow (w.heap.size + 1) 5 1 v (chunks ((List.range len).map f)).length ((chunks ((List.range len).map f)).map encB) := hrow
  rw [← hbs'] at hrow hlen'
  have A : HeldBack (bs = chunks ((List.range len).map f)) := ⟨hbs'⟩
  clear hbs'
  rcases hrow.2 with ⟨_, h0⟩ | ⟨g, cp, cur, rfl, hg0, hg, hn, hcm, hcs, hct⟩
  ·omega
  have hsl : (Lib.trimLeftB bs 48).length ≤ 9000000000000 := by
   have := (List.dropWhile_sublist (fun x : UInt8 => x == 48) (l := bs)).length_le
   unfold Lib.trimLeftB; omega
  clear hlen'
  have hc := hv.cell
  have hM : W.cell? ⟨w.heap.size, 0, none⟩ = some (.bool m) := (hB.cell (p := ⟨w.heap.size, 0, none⟩) (by simp)).trans bM
  have hconv : (convert 178 9 (.slice (some ⟨g, 0, none⟩) bs.length cp)).run Tryz.prog W = .ok (.string ⟨bs.toArray⟩) W := by
   refine run_convert_bytes_back (P := Tryz.prog) W 178 9 5 ⟨g, 0, none⟩ cp bs Tryz.underlying178 Tryz.underlying5 Tryz.underlying9 (fun j hj => ?_)
   rw [Addr.add_lit]
   have hcj : cur[j]? = some (encB bs[j]) := by
    have h2 : (cur.toList.take (bs.length * 1))[j]? = some (encB bs[j]) := by rw [hct, List.getElem?_map, List.getElem?_eq_getElem hj]; rfl
    rw [List.getElem?_take, if_pos (by omega)] at h2
    simpa using h2
   simp only [Nat.zero_add, World.cell?, hg, hcj]
   simp [encB]
  have htl : ∀ s w, CallsIn Fence.wide 5 Tryz.prog 106 #[.string s, .string ⟨#[48]⟩] w fun e w' => e = .returned (.string ⟨(Lib.trimLeftB s.data.toList 48).toArray⟩) ∧ w' = w := fun s w => callsIn_wide.2 (Any.strings_TrimLeft_one Tryz.layTrimLeft s 48 (by decide) w)
  gi_wp2_with (refine ⟨trivial, ?_⟩; gi_at_call 106; refine (htl _ _).mono ?_; rintro e w' ⟨rfl, rfl⟩)
  all_goals (
   refine ⟨by simp, .inl ⟨_, _, rfl, run_takeDeferred hK, ?_⟩⟩
   refine ⟨_, results_tmp rfl _ _ _, _, rfl, by rw [← A.out] <;> first | rfl | (apply ByteArray.ext; simp), ?_⟩
   exact (hBw.trans (hB.mono (by omega))).trans (belowK_b (w := w) (Nat.le_refl _) _ D _ _ (by omega) hK rfl rfl))
 case stop =>
  rintro D c pre W _ _ h _
  exact h.elim
end Go.Proofs
end
