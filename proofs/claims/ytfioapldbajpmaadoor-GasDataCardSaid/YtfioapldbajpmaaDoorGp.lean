/- Gp: gas.Declared of two empty lists; of any. -/
import Derived.Test.YtfioapldbajpmaaDoorGi
set_option linter.unusedSimpArgs false
set_option linter.unusedVariables false
namespace Go.Proofs.YtfioapldbajpmaaDoor
open Go Go.Ev Go.Proofs
set_option maxRecDepth 100000
set_option maxHeartbeats 4000000
theorem keyIter0 {Hc : Hp} {b1 c : Nat} {p : Option Addr} {k1 : Kind} (hmc : marksOf Hc = []) (h1 : findE Hc b1 = some ⟨b1, 0, k1, [.slice p 0 c]⟩) :
    IterV Tryd.prog 66 [.pointer (some ⟨b1, 0, none⟩)] Hc [] := by
  refine ⟨enterO Tryd.func66 rfl rfl, fun X Ho I St l x0 hro hmk h0 hy => ?_⟩
  have hmarks : ∀ x, marksOf (Hc ++ Ho x) = [] := fun x => by rw [marks_append, hmc, hmk]; rfl
  have hm0 := hmarks x0
  have h1' := fun z => findE_left (B := Ho z) h1
  have yf : ∀ (x' : X), (I 0 x' ∨ St x') → ∃ H'_1, List.Sublist H'_1 (dropM (Hc ++ Ho x')) ∧ ∃ z, (I 0 z ∨ St z) ∧ H'_1 = Ho z := fun x' hst => by
    refine ⟨Ho x', ?_, x', hst, rfl⟩
    rw [dropM_eq (hmarks x')]
    exact List.sublist_append_right _ _
  refine callsO (noG_ok _) Tryd.mix Tryd.pl66 Tryd.func66 rfl Tryd.ntmps66 Tryd.results66 rfl (by first | rfl | assumption) (Nat.le_of_ble_eq_true rfl) (by kernel_rfl) ?_
  simp only [push_cast, Nat.reduceAdd, Nat.reduceSub, Nat.reduceMul, Nat.reduceLT, Nat.reduceLeDiff, Nat.reduceEqDiff, Nat.reduceMod, Nat.reduceDiv, Int.reduceAdd, Int.reduceSub, Int.reduceMul, Int.reduceLT, Int.reduceLE, Int.reduceEq, Int.reduceNeg, Int.reduceToNat, reduceIte, reduceCtorEq, Int.reduceBEq, Int.reduceBNe, Bool.true_beq, Bool.false_beq, Bool.true_bne, Bool.false_bne, Bool.not_true, Bool.not_false, h1']
  refine unrollO (noG_ok _) (pl := Tryd.pl66) Tryd.mix 1 (by kernel_rfl) ?_
  simp only [push_cast, Nat.reduceAdd, Nat.reduceSub, Nat.reduceMul, Nat.reduceLT, Nat.reduceLeDiff, Nat.reduceEqDiff, Nat.reduceMod, Nat.reduceDiv, Int.reduceAdd, Int.reduceSub, Int.reduceMul, Int.reduceLT, Int.reduceLE, Int.reduceEq, Int.reduceNeg, Int.reduceToNat, reduceIte, reduceCtorEq, Int.reduceBEq, Int.reduceBNe, Bool.true_beq, Bool.false_beq, Bool.true_bne, Bool.false_bne, Bool.not_true, Bool.not_false, h1', Int.lt_irrefl]
  exact yf x0 (.inl h0)
theorem sumK0_ok (b1 c : Nat) (p : Option Addr) (k1 : Kind) (bh r : Nat) (hk1 : marksOf [⟨b1, 0, k1, [.slice p 0 c]⟩] = []) :
    CallsV Tryd.prog 51 [.func (.func 66) #[] #[.pointer (some ⟨b1, 0, none⟩)], .func (.func 54) #[] #[.pointer (some ⟨bh, 0, none⟩)]]
      [⟨b1, 0, k1, [.slice p 0 c]⟩] (Ret0 (.int .i64 0)) := by
  refine callsO (noG_ok _) Tryd.mix plSk Tryd.func51 rfl Tryd.ntmps51 Tryd.results51 rfl ?_ (Nat.le_of_ble_eq_true rfl) (by kernel_rfl) ?_
  · exact hk1
  simp only [push_cast, Nat.reduceAdd, Nat.reduceSub, Nat.reduceMul, Nat.reduceLT, Nat.reduceLeDiff, Nat.reduceEqDiff, Nat.reduceMod, Nat.reduceDiv, Int.reduceAdd, Int.reduceSub, Int.reduceMul, Int.reduceLT, Int.reduceLE, Int.reduceEq, Int.reduceNeg, Int.reduceToNat, reduceIte, reduceCtorEq, Int.reduceBEq, Int.reduceBNe, Bool.true_beq, Bool.false_beq, Bool.true_bne, Bool.false_bne, Bool.not_true, Bool.not_false]
  intro b3 hb3 b4 hb4
  refine rangeO (noG_ok _) (pl := plSk) Tryd.mix (Hc := [⟨b1, 0, k1, [.slice p 0 c]⟩]) (Hm := [])
    (keyIter0 (b1 := b1) (p := p) (c := c) (k1 := k1) hk1 (by simp [findE])) rfl
    (X := Unit) (fun _ => [⟨b4, 0, .cel 3, [.int .i64 0]⟩, ⟨b3, 0, .cel 83, [.func (.func 54) #[] #[.pointer (some ⟨bh, 0, none⟩)]]⟩])
    (fun _ _ => True) (fun _ _ => False) ()
    ?_ ?_ ?_ hk1 (by simp) (fun n => rfl) (fun x y e he => .inl ?_) ?_ (by kernel_rfl) (by kernel_rfl) (fun _ _ h => h.elim) ?_ ?_ (fun _ _ _ _ h => h.elim)
  · trivial
  · simp only [push_cast, Nat.reduceAdd, Nat.reduceSub, Nat.reduceMul, Nat.reduceLT, Nat.reduceLeDiff, Nat.reduceEqDiff, Nat.reduceMod, Nat.reduceDiv, Int.reduceAdd, Int.reduceSub, Int.reduceMul, Int.reduceLT, Int.reduceLE, Int.reduceEq, Int.reduceNeg, Int.reduceToNat, reduceIte, reduceCtorEq, Int.reduceBEq, Int.reduceBNe, Bool.true_beq, Bool.false_beq, Bool.true_bne, Bool.false_bne, Bool.not_true, Bool.not_false, hb3, hb4]
  · rw [show ∀ (x a b : Ent), [x, a, b] = [x, a] ++ [b] from fun _ _ _ => rfl, marks_append, hk1]; rfl
  · simp only [List.mem_cons, List.not_mem_nil, or_false] at he
    rcases he with rfl | rfl <;> trivial
  · intro args ha
    cases ha
  · rintro lo k s args hk _
    cases hk
  · rintro D s hfD _
    simp only [push_cast, Nat.reduceAdd, Nat.reduceSub, Nat.reduceMul, Nat.reduceLT, Nat.reduceLeDiff, Nat.reduceEqDiff, Nat.reduceMod, Nat.reduceDiv, Int.reduceAdd, Int.reduceSub, Int.reduceMul, Int.reduceLT, Int.reduceLE, Int.reduceEq, Int.reduceNeg, Int.reduceToNat, reduceIte, reduceCtorEq, Int.reduceBEq, Int.reduceBNe, Bool.true_beq, Bool.false_beq, Bool.true_bne, Bool.false_bne, Bool.not_true, Bool.not_false, List.nil_append] at hfD
    simp only [push_cast, Nat.reduceAdd, Nat.reduceSub, Nat.reduceMul, Nat.reduceLT, Nat.reduceLeDiff, Nat.reduceEqDiff, Nat.reduceMod, Nat.reduceDiv, Int.reduceAdd, Int.reduceSub, Int.reduceMul, Int.reduceLT, Int.reduceLE, Int.reduceEq, Int.reduceNeg, Int.reduceToNat, reduceIte, reduceCtorEq, Int.reduceBEq, Int.reduceBNe, Bool.true_beq, Bool.false_beq, Bool.true_bne, Bool.false_bne, Bool.not_true, Bool.not_false, hb3, hb4, hfD]
theorem gdecl0_ok {M : Hp} {R W' : List KeyT} {vr vw : Value} (hr : LiR KeyT.cells 25 M R vr) (hw : LiR KeyT.cells 25 M W' vw) (hm : marksOf M = []) (hrn : R.length ≤ 400000) (hwn : W'.length ≤ 400000) (h0 : R ++ W' = []) :
    CallsV Tryd.prog 33 [.agg #[vr, vw]] M (Ret0 (.int .i64 (declI R W'))) := by
  have hr' := hr
  have hw' := hw
  obtain ⟨pr, cr, rfl, -⟩ := hr'
  obtain ⟨pw, cw, rfl, -⟩ := hw'
  have cm : ∀ r, (Value.map r).cells.toList = [.map r] := fun _ => rfl
  refine callsO (noG_ok _) Tryd.mix plGD Tryd.func33 rfl Tryd.ntmps33 Tryd.results33 rfl (by first | rfl | assumption) (Nat.le_of_ble_eq_true rfl) (by kernel_rfl) ?_
  simp only [push_cast, Nat.reduceAdd, Nat.reduceSub, Nat.reduceMul, Nat.reduceLT, Nat.reduceLeDiff, Nat.reduceEqDiff, Nat.reduceMod, Nat.reduceDiv, Int.reduceAdd, Int.reduceSub, Int.reduceMul, Int.reduceLT, Int.reduceLE, Int.reduceEq, Int.reduceNeg, Int.reduceToNat, reduceIte, reduceCtorEq, Int.reduceBEq, Int.reduceBNe, Bool.true_beq, Bool.false_beq, Bool.true_bne, Bool.false_bne, Bool.not_true, Bool.not_false]
  intro b1 hb1
  refine regO (noG_ok _) ?_
  simp only [push_cast, Nat.reduceAdd, Nat.reduceSub, Nat.reduceMul, Nat.reduceLT, Nat.reduceLeDiff, Nat.reduceEqDiff, Nat.reduceMod, Nat.reduceDiv, Int.reduceAdd, Int.reduceSub, Int.reduceMul, Int.reduceLT, Int.reduceLE, Int.reduceEq, Int.reduceNeg, Int.reduceToNat, reduceIte, reduceCtorEq, Int.reduceBEq, Int.reduceBNe, Bool.true_beq, Bool.false_beq, Bool.true_bne, Bool.false_bne, Bool.not_true, Bool.not_false]
  intro r hbr bh hbh
  refine regO (noG_ok _) ?_
  simp only [push_cast, Nat.reduceAdd, Nat.reduceSub, Nat.reduceMul, Nat.reduceLT, Nat.reduceLeDiff, Nat.reduceEqDiff, Nat.reduceMod, Nat.reduceDiv, Int.reduceAdd, Int.reduceSub, Int.reduceMul, Int.reduceLT, Int.reduceLE, Int.reduceEq, Int.reduceNeg, Int.reduceToNat, reduceIte, reduceCtorEq, Int.reduceBEq, Int.reduceBNe, Bool.true_beq, Bool.false_beq, Bool.true_bne, Bool.false_bne, Bool.not_true, Bool.not_false, hb1, hbr, hbh, cm]
  intro b9 hb9
  obtain ⟨LL, hLL⟩ : ∃ LL : Hp, LL = [⟨b9, 0, .vec 28 1 2, [.slice pr R.length cr, .slice pw W'.length cw]⟩, ⟨bh, 0, .cel 75, [.map (some r)]⟩, ⟨r, 0, .obj (.map #[] 0), []⟩, ⟨b1, 0, .cel 30, [.slice pr R.length cr, .slice pw W'.length cw]⟩] := ⟨_, rfl⟩
  have hfl : freshN LL M := by
    rw [hLL]
    exact ⟨hb9.2.2.2.2.2.2, hbh.2.2.2.2, hbr.2.2, hb1, trivial⟩
  have hml : marksOf (LL ++ M) = [] := by rw [marks_append, hm, hLL]; rfl
  have hcat : ∀ b o n cs, cellsAt M b o n = some cs → cellsAt (roAll (LL ++ M)) b o n = some cs := fun b o n cs h => by
    rw [cellsAt_roAll, cellsAt_swap hfl]
    exact (Ext.app hm (N := LL) (by rw [hLL]; rfl)).keep b o n cs h
  have hext : Ext M (roAll (LL ++ M)) := ⟨(roAll_ro _).marks, hcat⟩
  have hbx : findE (roAll (LL ++ M)) b9 = some ⟨b9, 0, .ro, [.slice pr R.length cr, .slice pw W'.length cw]⟩ := by
    rw [findE_roAll, hLL]; simp [findE]
  obtain ⟨n, hn⟩ : ∃ n, n = (R ++ W').length := ⟨_, rfl⟩
  have hn0 : n = 0 := by rw [hn, h0]; rfl
  refine (show ∀ {K}, CallsV Tryd.prog _ _ (LL ++ M) K → CallsV Tryd.prog _ _ _ K from fun h => by rw [hLL] at h; exact h) ?_
  refine (concat_ok (hr.ext hext) (hw.ext hext) (roAll_ro _).marks hbx hrn hwn).use (derE_behind (L := []) (M := LL ++ M) trivial) ?_
  intro v N hg
  refine ⟨hg.wr.1, hg.wr.2, fun hf => ?_⟩
  obtain ⟨p', c', rfl⟩ : ∃ p' c', v = .slice p' 0 c' := by
    rcases hg with ⟨_, _, hv, _⟩ | ⟨b0, c0, hv, _⟩
    · exact ⟨none, 0, hv⟩
    · rw [← hn, hn0] at hv; exact ⟨_, c0, hv⟩
  have hN := hg.wr
  rw [hLL] at hf ⊢
  simp only [push_cast, Nat.reduceAdd, Nat.reduceSub, Nat.reduceMul, Nat.reduceLT, Nat.reduceLeDiff, Nat.reduceEqDiff, Nat.reduceMod, Nat.reduceDiv, Int.reduceAdd, Int.reduceSub, Int.reduceMul, Int.reduceLT, Int.reduceLE, Int.reduceEq, Int.reduceNeg, Int.reduceToNat, reduceIte, reduceCtorEq, Int.reduceBEq, Int.reduceBNe, Bool.true_beq, Bool.false_beq, Bool.true_bne, Bool.false_bne, Bool.not_true, Bool.not_false]
  refine (valuesK_ok _ _ _).use trivial ?_
  rintro v N' ⟨b1', rfl, rfl⟩
  refine ⟨⟨trivial, trivial⟩, rfl, fun hf' => ?_⟩
  simp only [push_cast, Nat.reduceAdd, Nat.reduceSub, Nat.reduceMul, Nat.reduceLT, Nat.reduceLeDiff, Nat.reduceEqDiff, Nat.reduceMod, Nat.reduceDiv, Int.reduceAdd, Int.reduceSub, Int.reduceMul, Int.reduceLT, Int.reduceLE, Int.reduceEq, Int.reduceNeg, Int.reduceToNat, reduceIte, reduceCtorEq, Int.reduceBEq, Int.reduceBNe, Bool.true_beq, Bool.false_beq, Bool.true_bne, Bool.false_bne, Bool.not_true, Bool.not_false]
  refine CallsV.sub ((sumK0_ok b1' c' p' (.cel 28) bh r rfl).toK ?_) ?_ ?_
  · rintro v N' ⟨rfl, rfl⟩
    have e0 : declI R W' = 0 := by rw [declI_eq, h0]; rfl
    simp only [push_cast, Nat.reduceAdd, Nat.reduceSub, Nat.reduceMul, Nat.reduceLT, Nat.reduceLeDiff, Nat.reduceEqDiff, Nat.reduceMod, Nat.reduceDiv, Int.reduceAdd, Int.reduceSub, Int.reduceMul, Int.reduceLT, Int.reduceLE, Int.reduceEq, Int.reduceNeg, Int.reduceToNat, reduceIte, reduceCtorEq, Int.reduceBEq, Int.reduceBNe, Bool.true_beq, Bool.false_beq, Bool.true_bne, Bool.false_bne, Bool.not_true, Bool.not_false, e0]
  · simp only [subH, findE, remE, if_true, and_true]
  · simp only [marksOf, marks_append, hm, hN.2, List.nil_append]
theorem gdeclA_R {M : Hp} {R W' : List KeyT} {vr vw : Value} (hr : LiR KeyT.cells 25 M R vr) (hw : LiR KeyT.cells 25 M W' vw) (hrn : R.length ≤ 400000) (hwn : W'.length ≤ 400000) :
    ∀ M0, roM M0 → cellsAt M0 = cellsAt M → CallsV Tryd.prog 33 [.agg #[vr, vw]] M0 (Ret0 (.int .i64 (declI R W'))) := by
  intro M0 h he
  by_cases h0 : R ++ W' = []
  · exact gdecl0_ok (hr.congr he.symm) (hw.congr he.symm) h.marks hrn hwn h0
  · exact gdecl_ok (hr.congr he.symm) (hw.congr he.symm) h.marks hrn hwn h0
end Go.Proofs.YtfioapldbajpmaaDoor
