/-
A part of the proof that the statement InitialSignals holds of the given program (second form, tied card): the law as a contract.
-/
import Derived.Test.YtleopflmnmfaeaaGreatDoorPV
import Derived.Test.YtleopflmnmfaeaaGreatDoorPW1
set_option autoImplicit false
set_option linter.unusedSimpArgs false
set_option linter.unusedVariables false
set_option linter.unnecessarySimpa false
section
set_option maxRecDepth 10000
namespace Go.Lw
open Go.Proofs
theorem hb_5 : hasBody P0 5 = true := by kernel_rfl
set_option maxHeartbeats 4000000 in
theorem signals_ac (name : ByteArray) (l : List ByteArray) (ord : Int) (time later : ByteArray) (ho : 0 ≤ ord ∧ ord < 256) (hs1 : name.size ≤ top) (hl : l.length ≤ 10000000) (hs2 : ∀ s ∈ l, s.size ≤ 8000000) (hs3 : time.size ≤ 8000000) (hs4 : later.size ≤ 8000000) :
  AC P0 4 [.i (sigI name l), .i (.int .u8 ord), .i (.str time), .i (.str later)] (.i (.bool true)) := by
 obtain ⟨rt, hrt⟩ := rd_ex time
 obtain ⟨rl, hrl⟩ := rd_ex later
 have it := is_ac time (Nat.le_trans hs3 (by unfold top; omega)) rt hrt
 have il := is_ac later (Nat.le_trans hs4 (by unfold top; omega)) rl hrl
 refine AC.of_go Tryz.func4 rfl rfl (Nat.le_of_ble_eq_true rfl) ?_
 simp +contextual (disch := first | (intro _; intros; contradiction) | omega | (simp only [lens]; omega)) only [go_sem, ↓reduceIte, reduceCtorEq, Nat.reduceEqDiff, Nat.reduceLT, Nat.reduceSub, Int.reduceLT, Nat.reduceAdd, Nat.reduceLeDiff, Int.reduceEq, Int.reduceNe, Int.reduceToNat, Tryz.f4, sigI, strs, hb_5, true_and]
 refine ⟨fun h1 => ⟨fun h2 => ⟨fun h3 => ?_, fun h3 => ?_⟩, fun h2 => ?_⟩, fun h1 => ?_⟩
 rotate_left
 ·refine .ac awake_ac (by simp) ?_
  simp +contextual (disch := first | (intro _; intros; contradiction) | omega | (simp only [lens]; omega)) only [go_sem, ↓reduceIte, reduceCtorEq, Nat.reduceEqDiff, Nat.reduceLT, Nat.reduceSub, Int.reduceLT, Nat.reduceAdd, Nat.reduceLeDiff, Int.reduceEq, Int.reduceNe, Int.reduceToNat, Tryz.f4]
 ·refine .ac awake_ac (by simp) ?_
  simp +contextual (disch := first | (intro _; intros; contradiction) | omega | (simp only [lens]; omega)) only [go_sem, ↓reduceIte, reduceCtorEq, Nat.reduceEqDiff, Nat.reduceLT, Nat.reduceSub, Int.reduceLT, Nat.reduceAdd, Nat.reduceLeDiff, Int.reduceEq, Int.reduceNe, Int.reduceToNat, Tryz.f4]
 ·refine .ac awake_ac (by simp) ?_
  simp +contextual (disch := first | (intro _; intros; contradiction) | omega | (simp only [lens]; omega)) only [go_sem, ↓reduceIte, reduceCtorEq, Nat.reduceEqDiff, Nat.reduceLT, Nat.reduceSub, Int.reduceLT, Nat.reduceAdd, Nat.reduceLeDiff, Int.reduceEq, Int.reduceNe, Int.reduceToNat, Tryz.f4]
 refine .ac it (by simp) ?_
 cases rt with
 | none =>
  simp only [Option.isSome_none] at *
  simp +contextual (disch := first | (intro _; intros; contradiction) | omega | (simp only [lens]; omega)) only [go_sem, ↓reduceIte, reduceCtorEq, Nat.reduceEqDiff, Nat.reduceLT, Nat.reduceSub, Int.reduceLT, Nat.reduceAdd, Nat.reduceLeDiff, Int.reduceEq, Int.reduceNe, Int.reduceToNat, Tryz.f4, hb_5, true_and]
  refine .ac awake_ac (by simp) ?_
  simp +contextual (disch := first | (intro _; intros; contradiction) | omega | (simp only [lens]; omega)) only [go_sem, ↓reduceIte, reduceCtorEq, Nat.reduceEqDiff, Nat.reduceLT, Nat.reduceSub, Int.reduceLT, Nat.reduceAdd, Nat.reduceLeDiff, Int.reduceEq, Int.reduceNe, Int.reduceToNat, Tryz.f4]
 | some t =>
  simp only [Option.isSome_some] at *
  have ht := (hrt t).1 rfl
  simp +contextual (disch := first | (intro _; intros; contradiction) | omega | (simp only [lens]; omega)) only [go_sem, ↓reduceIte, reduceCtorEq, Nat.reduceEqDiff, Nat.reduceLT, Nat.reduceSub, Int.reduceLT, Nat.reduceAdd, Nat.reduceLeDiff, Int.reduceEq, Int.reduceNe, Int.reduceToNat, Tryz.f4, hb_5, true_and]
  refine .ac il (by simp) ?_
  cases rl with
  | none =>
   simp only [Option.isSome_none] at *
   simp +contextual (disch := first | (intro _; intros; contradiction) | omega | (simp only [lens]; omega)) only [go_sem, ↓reduceIte, reduceCtorEq, Nat.reduceEqDiff, Nat.reduceLT, Nat.reduceSub, Int.reduceLT, Nat.reduceAdd, Nat.reduceLeDiff, Int.reduceEq, Int.reduceNe, Int.reduceToNat, Tryz.f4, hb_5, true_and]
   refine .ac awake_ac (by simp) ?_
   simp +contextual (disch := first | (intro _; intros; contradiction) | omega | (simp only [lens]; omega)) only [go_sem, ↓reduceIte, reduceCtorEq, Nat.reduceEqDiff, Nat.reduceLT, Nat.reduceSub, Int.reduceLT, Nat.reduceAdd, Nat.reduceLeDiff, Int.reduceEq, Int.reduceNe, Int.reduceToNat, Tryz.f4]
  | some tl =>
   simp only [Option.isSome_some] at *
   have htl := (hrl tl).1 rfl
   simp +contextual (disch := first | (intro _; intros; contradiction) | omega | (simp only [lens]; omega)) only [go_sem, ↓reduceIte, reduceCtorEq, Nat.reduceEqDiff, Nat.reduceLT, Nat.reduceSub, Int.reduceLT, Nat.reduceAdd, Nat.reduceLeDiff, Int.reduceEq, Int.reduceNe, Int.reduceToNat, Tryz.f4, hb_5, true_and]
   refine go_loopI (fun i : Nat => ⟨126, [(1, .i (.int .u8 ord)), (2, .i (.str time)), (3, .i (.str later)), (4, .loc 4 0), (9, .i (.int .i64 i))], [(4, some (.var 24 [.i (.str name), .i (.sl 9 (l.map .str))]))]⟩)
    (fun i => i ≤ l.length ∧ ∀ k, k < i → (l.getD k ⟨#[]⟩).size ≤ 40) (fun i => l.length - i) 0 ?_ ⟨by omega, fun k hk => absurd hk (by omega)⟩ ?_
   ·exact tu
   ·rintro K i ⟨g1, g2⟩ hK
    simp +contextual (disch := first | (intro _; intros; contradiction) | omega | (simp only [lens]; omega)) only [go_sem, ↓reduceIte, reduceCtorEq, Nat.reduceEqDiff, Nat.reduceLT, Nat.reduceSub, Int.reduceLT, Nat.reduceAdd, Nat.reduceLeDiff, Int.reduceEq, Int.reduceNe, Int.reduceToNat, Tryz.f4, hb_5, true_and]
    refine ⟨fun h4 => ⟨fun h5 => ?_, fun h5 => ?_⟩, fun h4 => ?_⟩
    ·refine .ac awake_ac (by simp) ?_
     simp +contextual (disch := first | (intro _; intros; contradiction) | omega | (simp only [lens]; omega)) only [go_sem, ↓reduceIte, reduceCtorEq, Nat.reduceEqDiff, Nat.reduceLT, Nat.reduceSub, Int.reduceLT, Nat.reduceAdd, Nat.reduceLeDiff, Int.reduceEq, Int.reduceNe, Int.reduceToNat, Tryz.f4]
    ·refine hK _ (i + 1) ⟨by omega, fun k hk => ?_⟩ (by omega) ?_
     ·by_cases e : k = i
      ·subst e; omega
      ·exact g2 k (by omega)
     ·simp only [show ((i + 1 : Nat) : Int) = (i : Int) + 1 by omega]; exact tu
    ·clear hK K g1 g2
     obtain ⟨o, ho7⟩ : ∃ o : Nat, (o : Int) = ord % 7 := ⟨(ord % 7).toNat, by omega⟩
     have ho6 : o ≤ 6 := by omega
     rw [← ho7]
     by_cases hnm : NameOk name ∧ ∀ s ∈ l, ∃ q, Rd s q
     rotate_left
     ·have va := value_ac name l (o : Int) later (errD 1) (.form fun h => hnm ⟨h.1, h.2.1⟩) (by omega) hs1 hs2 hs4
      simp only [sigI, strs] at va
      refine .ac va (by simp) ?_
      simp +contextual (disch := first | (intro _; intros; contradiction) | omega | (simp only [lens]; omega)) only [go_sem, ↓reduceIte, reduceCtorEq, Nat.reduceEqDiff, Nat.reduceLT, Nat.reduceSub, Int.reduceLT, Nat.reduceAdd, Nat.reduceLeDiff, Int.reduceEq, Int.reduceNe, Int.reduceToNat, Tryz.f4, hb_5, true_and, errD]
      refine .ac awake_ac (by simp) ?_
      simp +contextual (disch := first | (intro _; intros; contradiction) | omega | (simp only [lens]; omega)) only [go_sem, ↓reduceIte, reduceCtorEq, Nat.reduceEqDiff, Nat.reduceLT, Nat.reduceSub, Int.reduceLT, Nat.reduceAdd, Nat.reduceLeDiff, Int.reduceEq, Int.reduceNe, Int.reduceToNat, Tryz.f4]
     obtain ⟨c, hc⟩ := strs_ex l
     have hc1 : ∀ k, k < l.length → Rd (l.getD k ⟨#[]⟩) (c k) := fun k hk => hc k (hnm.2 _ (getD_mem hk))
     have vk : ∀ (k : Nat), k ≤ 6 → ∀ (s : ByteArray) (q : Rat), Rd s q → s.size ≤ 8000000 → AC P0 6 [.i (.agg [.str name, .sl 9 (l.map .str)]), .i (.int .i64 k), .i (.str s)]
       (if ndig (gQ c l.length k q).num.natAbs ≤ 300 ∧ ndig (gQ c l.length k q).den ≤ 300 then .tup [.i (.str (wtxt (gQ c l.length k q))), .i (.int .i64 0)] else errD 2) := fun k hk s q hq hs => by
      by_cases hf : ndig (gQ c l.length k q).num.natAbs ≤ 300 ∧ ndig (gQ c l.length k q).den ≤ 300
      ·rw [if_pos hf]; exact value_ac name l (k : Int) s _ (.val hnm.1 c q hc1 hq (by omega) (by omega) (by omega) _ rfl hf) (by omega) hs1 hs2 hs
      ·rw [if_neg hf]; exact value_ac name l (k : Int) s _ (.big hnm.1 c q hc1 hq (by omega) (by omega) (by omega) _ rfl hf) (by omega) hs1 hs2 hs
     have v0 := vk o ho6 later tl htl hs4
     by_cases hf : ndig (gQ c l.length o tl).num.natAbs ≤ 300 ∧ ndig (gQ c l.length o tl).den ≤ 300
     rotate_left
     ·rw [if_neg hf] at v0
      refine .ac v0 (by simp) ?_
      simp +contextual (disch := first | (intro _; intros; contradiction) | omega | (simp only [lens]; omega)) only [go_sem, ↓reduceIte, reduceCtorEq, Nat.reduceEqDiff, Nat.reduceLT, Nat.reduceSub, Int.reduceLT, Nat.reduceAdd, Nat.reduceLeDiff, Int.reduceEq, Int.reduceNe, Int.reduceToNat, Tryz.f4, hb_5, true_and, errD]
      refine .ac awake_ac (by simp) ?_
      simp +contextual (disch := first | (intro _; intros; contradiction) | omega | (simp only [lens]; omega)) only [go_sem, ↓reduceIte, reduceCtorEq, Nat.reduceEqDiff, Nat.reduceLT, Nat.reduceSub, Int.reduceLT, Nat.reduceAdd, Nat.reduceLeDiff, Int.reduceEq, Int.reduceNe, Int.reduceToNat, Tryz.f4]
     rw [if_pos hf] at v0
     refine .ac v0 (by simp) ?_
     have rdl := readq_ac htl (Nat.le_trans hs4 (by unfold top; omega))
     have rdt := readq_ac ht (Nat.le_trans hs3 (by unfold top; omega))
     have rdw := rd_wtxt _ hf.1 hf.2
     have rdv := readq_ac rdw (Nat.le_trans (wtxt_size hf.1 hf.2) (by unfold top; omega))
     have bw := rdw.b
     obtain ⟨want, hwant⟩ : ∃ want, want = gQ c l.length o tl := ⟨_, rfl⟩
     rw [← hwant] at rdv bw
     rw [← hwant]
     have mn := minus_ac tl t (htl.b.mono (m := 100000000) (by decide)) (ht.b.mono (m := 100000000) (by decide))
     have bh : Qb 151 (tl - t) := (htl.b.sub ht.b).mono (by omega)
     obtain ⟨h, hh⟩ : ∃ h, h = tl - t := ⟨_, rfl⟩
     rw [← hh] at mn bh
     simp only [eqr] at rdl rdt mn
     have q0 := qOf_ac 0 (by omega) (by omega)
     have q1 := qOf_ac 1 (by omega) (by omega)
     simp only [Rat.intCast_zero, Rat.intCast_one] at q0 q1
     simp only [eqr] at q0 q1
     simp +contextual (disch := first | (intro _; intros; contradiction) | omega | (simp only [lens]; omega)) only [go_sem, ↓reduceIte, reduceCtorEq, Nat.reduceEqDiff, Nat.reduceLT, Nat.reduceSub, Int.reduceLT, Nat.reduceAdd, Nat.reduceLeDiff, Int.reduceEq, Int.reduceNe, Int.reduceToNat, Tryz.f4, hb_5, true_and]
     refine .ac rdl (by simp) ?_
     simp +contextual (disch := first | (intro _; intros; contradiction) | omega | (simp only [lens]; omega)) only [go_sem, ↓reduceIte, reduceCtorEq, Nat.reduceEqDiff, Nat.reduceLT, Nat.reduceSub, Int.reduceLT, Nat.reduceAdd, Nat.reduceLeDiff, Int.reduceEq, Int.reduceNe, Int.reduceToNat, Tryz.f4, hb_5, true_and]
     refine .ac rdt (by simp) ?_
     simp +contextual (disch := first | (intro _; intros; contradiction) | omega | (simp only [lens]; omega)) only [go_sem, ↓reduceIte, reduceCtorEq, Nat.reduceEqDiff, Nat.reduceLT, Nat.reduceSub, Int.reduceLT, Nat.reduceAdd, Nat.reduceLeDiff, Int.reduceEq, Int.reduceNe, Int.reduceToNat, Tryz.f4, hb_5, true_and]
     refine .ac mn (by simp) ?_
     simp +contextual (disch := first | (intro _; intros; contradiction) | omega | (simp only [lens]; omega)) only [go_sem, ↓reduceIte, reduceCtorEq, Nat.reduceEqDiff, Nat.reduceLT, Nat.reduceSub, Int.reduceLT, Nat.reduceAdd, Nat.reduceLeDiff, Int.reduceEq, Int.reduceNe, Int.reduceToNat, Tryz.f4, hb_5, true_and]
     refine .ac q0 (by simp) ?_
     simp +contextual (disch := first | (intro _; intros; contradiction) | omega | (simp only [lens]; omega)) only [go_sem, ↓reduceIte, reduceCtorEq, Nat.reduceEqDiff, Nat.reduceLT, Nat.reduceSub, Int.reduceLT, Nat.reduceAdd, Nat.reduceLeDiff, Int.reduceEq, Int.reduceNe, Int.reduceToNat, Tryz.f4, hb_5, true_and]
     refine .ac q1 (by simp) ?_
     simp +contextual (disch := first | (intro _; intros; contradiction) | omega | (simp only [lens]; omega)) only [go_sem, ↓reduceIte, reduceCtorEq, Nat.reduceEqDiff, Nat.reduceLT, Nat.reduceSub, Int.reduceLT, Nat.reduceAdd, Nat.reduceLeDiff, Int.reduceEq, Int.reduceNe, Int.reduceToNat, Tryz.f4, hb_5, true_and]
     obtain ⟨V, hV⟩ : ∃ V : Nat → Rat, V = fun k => gQ c l.length k t := ⟨_, rfl⟩
     refine go_loopI (fun j : Nat => ⟨126, [(2, .i (.str time)), (3, .i (.str later)), (4, .loc 4 0), (10, .i (.int .i64 o)), (11, .i (.str (wtxt want))), (13, .loc 13 0), (14, .loc 14 0), (15, .loc 15 0), (16, .i (.int .i64 ((o : Int) + j)))],
       [(4, some (.var 24 [.i (.str name), .i (.sl 9 (l.map .str))])), (13, some (.var 33 (ec h))), (14, some (.var 33 (ec (tsQ V h o j)))), (15, some (.var 33 (ec (pwQ h j))))]⟩)
      (fun j => o + j ≤ 7 ∧ ∀ i, i < j → Qb 75 (V (o + i))) (fun j => 7 - j) 0 ?_ ⟨by omega, fun i hi => absurd hi (by omega)⟩ ?_
     ·simp only [ec, tsQ, pwQ, show (o : Int) + ((0 : Nat) : Int) = o by omega]; exact tu
     ·rintro K j ⟨g1, g2⟩ hK
      simp only [ec]
      simp +contextual (disch := first | (intro _; intros; contradiction) | omega | (simp only [lens]; omega)) only [go_sem, ↓reduceIte, reduceCtorEq, Nat.reduceEqDiff, Nat.reduceLT, Nat.reduceSub, Int.reduceLT, Nat.reduceAdd, Nat.reduceLeDiff, Int.reduceEq, Int.reduceNe, Int.reduceToNat, Tryz.f4, hb_5, true_and]
      refine ⟨fun h6 => ?_, fun h6 => ?_⟩
      ·have vj := vk (o + j) (by omega) time t ht hs3
       rw [show ((o + j : Nat) : Int) = (o : Int) + j by omega] at vj
       by_cases hfj : ndig (gQ c l.length (o + j) t).num.natAbs ≤ 300 ∧ ndig (gQ c l.length (o + j) t).den ≤ 300
       rotate_left
       ·rw [if_neg hfj] at vj
        refine .ac vj (by simp) ?_
        simp +contextual (disch := first | (intro _; intros; contradiction) | omega | (simp only [lens]; omega)) only [go_sem, ↓reduceIte, reduceCtorEq, Nat.reduceEqDiff, Nat.reduceLT, Nat.reduceSub, Int.reduceLT, Nat.reduceAdd, Nat.reduceLeDiff, Int.reduceEq, Int.reduceNe, Int.reduceToNat, Tryz.f4, hb_5, true_and, errD]
       rw [if_pos hfj] at vj
       have rwj := rd_wtxt _ hfj.1 hfj.2
       have rvj := readq_ac rwj (Nat.le_trans (wtxt_size hfj.1 hfj.2) (by unfold top; omega))
       have bj := rwj.b
       have eV : gQ c l.length (o + j) t = V (o + j) := by rw [hV]
       rw [eV] at vj rvj bj
       have bp := pwQ_b bh j (by omega)
       have bs := tsQ_b bh o j (by omega) g2
       have tm := times_ac (V (o + j)) (pwQ h j) (bj.mono (by omega)) (bp.mono (by omega))
       have bt := bj.mul bp
       have pl := plus_ac (tsQ V h o j) (V (o + j) * pwQ h j) (bs.mono (by omega)) (bt.mono (by omega))
       have tp := times_ac (pwQ h j) h (bp.mono (by omega)) (bh.mono (by omega))
       have btp := bp.mul bh
       have qo := qOf_ac ((j + 1 : Nat) : Int) (by omega) (by omega)
       have ov := over_ac (pwQ h j * h) ((((j + 1 : Nat) : Int)) : Rat) (btp.mono (by omega)) ((Qb.int (n := ((j + 1 : Nat) : Int)) (by omega)).mono (by omega)) (by rw [Ne, Rat.intCast_eq_zero_iff]; omega)
       rw [show pwQ h j * h / ((((j + 1 : Nat) : Int)) : Rat) = pwQ h (j + 1) from rfl] at ov
       rw [show tsQ V h o j + V (o + j) * pwQ h j = tsQ V h o (j + 1) from rfl] at pl
       simp only [eqr] at rvj tm pl tp qo ov
       refine .ac vj (by simp) ?_
       simp +contextual (disch := first | (intro _; intros; contradiction) | omega | (simp only [lens]; omega)) only [go_sem, ↓reduceIte, reduceCtorEq, Nat.reduceEqDiff, Nat.reduceLT, Nat.reduceSub, Int.reduceLT, Nat.reduceAdd, Nat.reduceLeDiff, Int.reduceEq, Int.reduceNe, Int.reduceToNat, Tryz.f4, hb_5, true_and]
       refine go_drawn mixed0 (by kernel_rfl) ?_
       simp +contextual (disch := first | (intro _; intros; contradiction) | omega | (simp only [lens]; omega)) only [go_sem, ↓reduceIte, reduceCtorEq, Nat.reduceEqDiff, Nat.reduceLT, Nat.reduceSub, Int.reduceLT, Nat.reduceAdd, Nat.reduceLeDiff, Int.reduceEq, Int.reduceNe, Int.reduceToNat, Tryz.f4]
       refine ⟨_, rvj, _, tm, _, pl, ?_⟩
       simp +contextual (disch := first | (intro _; intros; contradiction) | omega | (simp only [lens]; omega)) only [go_sem, ↓reduceIte, reduceCtorEq, Nat.reduceEqDiff, Nat.reduceLT, Nat.reduceSub, Int.reduceLT, Nat.reduceAdd, Nat.reduceLeDiff, Int.reduceEq, Int.reduceNe, Int.reduceToNat, Tryz.f4]
       refine ⟨by kernel_rfl, ?_⟩
       refine .ac tp (by simp) ?_
       simp +contextual (disch := first | (intro _; intros; contradiction) | omega | (simp only [lens]; omega)) only [go_sem, ↓reduceIte, reduceCtorEq, Nat.reduceEqDiff, Nat.reduceLT, Nat.reduceSub, Int.reduceLT, Nat.reduceAdd, Nat.reduceLeDiff, Int.reduceEq, Int.reduceNe, Int.reduceToNat, Tryz.f4, show (o : Int) + j - o + 1 = ((j + 1 : Nat) : Int) by omega]
       refine .ac qo (by simp) ?_
       simp +contextual (disch := first | (intro _; intros; contradiction) | omega | (simp only [lens]; omega)) only [go_sem, ↓reduceIte, reduceCtorEq, Nat.reduceEqDiff, Nat.reduceLT, Nat.reduceSub, Int.reduceLT, Nat.reduceAdd, Nat.reduceLeDiff, Int.reduceEq, Int.reduceNe, Int.reduceToNat, Tryz.f4]
       refine .ac ov (by simp) ?_
       simp +contextual (disch := first | (intro _; intros; contradiction) | omega | (simp only [lens]; omega)) only [go_sem, ↓reduceIte, reduceCtorEq, Nat.reduceEqDiff, Nat.reduceLT, Nat.reduceSub, Int.reduceLT, Nat.reduceAdd, Nat.reduceLeDiff, Int.reduceEq, Int.reduceNe, Int.reduceToNat, Tryz.f4]
       refine hK _ (j + 1) ⟨by omega, fun i hi => ?_⟩ (by omega) ?_
       ·by_cases e : i = j
        ·subst e; exact bj
        ·exact g2 i (by omega)
       ·simp only [ec, show (o : Int) + ((j + 1 : Nat) : Int) = (o : Int) + j + 1 by omega]; exact tu
      ·have hj : j = 7 - o := by omega
       have hsum : tsQ V h o j = want := by
        rw [hj, hV, hwant, taylor c (by omega) t h o ho6, hh]
        congr 1; grind
       have bs := tsQ_b bh o j (by omega) g2
       have ag := against_ac (tsQ V h o j) want (bs.mono (by omega)) (bw.mono (by omega))
       have e0 : (tsQ V h o j - want).num.sign = 0 := by rw [hsum, Rat.sub_self]; rfl
       rw [e0] at ag
       simp only [eqr] at rdv ag
       refine go_drawn mixed0 (by kernel_rfl) ?_
       simp +contextual (disch := first | (intro _; intros; contradiction) | omega | (simp only [lens]; omega)) only [go_sem, ↓reduceIte, reduceCtorEq, Nat.reduceEqDiff, Nat.reduceLT, Nat.reduceSub, Int.reduceLT, Nat.reduceAdd, Nat.reduceLeDiff, Int.reduceEq, Int.reduceNe, Int.reduceToNat, Tryz.f4, hb_5, true_and]
       refine ⟨_, rdv, _, ag, ?_⟩
       simp +contextual (disch := first | (intro _; intros; contradiction) | omega | (simp only [lens]; omega)) only [go_sem, ↓reduceIte, reduceCtorEq, Nat.reduceEqDiff, Nat.reduceLT, Nat.reduceSub, Int.reduceLT, Nat.reduceAdd, Nat.reduceLeDiff, Int.reduceEq, Int.reduceNe, Int.reduceToNat, Tryz.f4, hb_5, true_and]
       refine ⟨_, awake_ac, ?_⟩
       simp +contextual (disch := first | (intro _; intros; contradiction) | omega | (simp only [lens]; omega)) only [go_sem, ↓reduceIte, reduceCtorEq, Nat.reduceEqDiff, Nat.reduceLT, Nat.reduceSub, Int.reduceLT, Nat.reduceAdd, Nat.reduceLeDiff, Int.reduceEq, Int.reduceNe, Int.reduceToNat, Tryz.f4]
       kernel_rfl
end Go.Lw
end
