/- Gi: gas.Declared. -/
import Derived.Test.YtfioapldbajpmaaDoorGh
set_option linter.unusedSimpArgs false
set_option linter.unusedVariables false
namespace Go.Proofs.YtfioapldbajpmaaDoor
open Go Go.Ev Go.Proofs
set_option maxRecDepth 100000
set_option maxHeartbeats 4000000
def plGD : Plans := fun i => if i = 1 then [(0, 9)] else if i = 2 then [(0, 9)] else Tryd.pl33 i
attribute [push_cast] plGD
theorem gdecl_ok {M : Hp} {R W' : List KeyT} {vr vw : Value} (hr : LiR KeyT.cells 25 M R vr) (hw : LiR KeyT.cells 25 M W' vw) (hm : marksOf M = []) (hrn : R.length ≤ 400000) (hwn : W'.length ≤ 400000) (h0 : R ++ W' ≠ []) :
    CallsV Tryd.prog 33 [.agg #[vr, vw]] M (Ret0 (.int .i64 (declI R W'))) := by
  have hr' := hr
  have hw' := hw
  obtain ⟨pr, cr, rfl, -⟩ := hr'
  obtain ⟨pw, cw, rfl, -⟩ := hw'
  have cm : ∀ r, (Value.map r).cells.toList = [.map r] := fun _ => rfl
  refine callsO (noG_ok _) Tryd.mix plGD Tryd.func33 rfl Tryd.ntmps33 Tryd.results33 rfl (by first | rfl | assumption) (Nat.le_of_ble_eq_true rfl) (by kernel_rfl) ?_
  simp only [push_cast, Nat.reduceAdd, Nat.reduceSub, Nat.reduceMul, Nat.reduceLT, Nat.reduceLeDiff, Nat.reduceEqDiff, Nat.reduceMod, Nat.reduceDiv, Int.reduceAdd, Int.reduceSub, Int.reduceMul, Int.reduceLT, Int.reduceLE, Int.reduceEq, Int.reduceNeg, Int.reduceToNat, reduceIte, reduceCtorEq, Int.reduceBEq, Int.reduceBNe, Bool.true_beq, Bool.false_beq, Bool.true_bne, Bool.false_bne, Bool.not_true, Bool.not_false]
  intro b1 hb1
  refine regO (noG_ok _) ?_
  simp only [push_cast, Nat.reduceAdd, Nat.reduceSub, Nat.reduceMul, Nat.reduceLT, Nat.reduceLeDiff, Nat.reduceEqDiff, Nat.reduceMod, Nat.reduceDiv, Int.reduceAdd, Int.reduceSub, Int.reduceMul, Int.reduceLT, Int.reduceLE, Int.reduceEq, Int.reduceNeg, Int.reduceToNat, reduceIte, reduceCtorEq, Int.reduceBEq, Int.reduceBNe, Bool.true_beq, Bool.false_beq, Bool.true_bne, Bool.false_bne, Bool.not_true, Bool.not_false]
  intro r hbr bh hbh
  refine regO (noG_ok _) ?_
  simp only [push_cast, Nat.reduceAdd, Nat.reduceSub, Nat.reduceMul, Nat.reduceLT, Nat.reduceLeDiff, Nat.reduceEqDiff, Nat.reduceMod, Nat.reduceDiv, Int.reduceAdd, Int.reduceSub, Int.reduceMul, Int.reduceLT, Int.reduceLE, Int.reduceEq, Int.reduceNeg, Int.reduceToNat, reduceIte, reduceCtorEq, Int.reduceBEq, Int.reduceBNe, Bool.true_beq, Bool.false_beq, Bool.true_bne, Bool.false_bne, Bool.not_true, Bool.not_false, hb1, hbr, hbh, cm]
  intro b9 hb9
  obtain ⟨LL, hLL⟩ : ∃ LL : Hp, LL = [⟨b9, 0, .vec 28 1 2, [.slice pr R.length cr, .slice pw W'.length cw]⟩, ⟨bh, 0, .cel 75, [.map (some r)]⟩, ⟨r, 0, .obj (.map #[] 0), []⟩, ⟨b1, 0, .cel 30, [.slice pr R.length cr, .slice pw W'.length cw]⟩] := ⟨_, rfl⟩
  have hfl : freshN LL M := by
    rw [hLL]
    exact ⟨hb9.2.2.2.2.2.2, hbh.2.2.2.2, hbr.2.2, hb1, trivial⟩
  have hml : marksOf (LL ++ M) = [] := by rw [marks_append, hm, hLL]; rfl
  have hcat : ∀ b o n cs, cellsAt M b o n = some cs → cellsAt (roAll (LL ++ M)) b o n = some cs := fun b o n cs h => by
    rw [cellsAt_roAll, cellsAt_swap hfl]
    exact (Ext.app hm (N := LL) (by rw [hLL]; rfl)).keep b o n cs h
  have hext : Ext M (roAll (LL ++ M)) := ⟨(roAll_ro _).marks, hcat⟩
  have hbx : findE (roAll (LL ++ M)) b9 = some ⟨b9, 0, .ro, [.slice pr R.length cr, .slice pw W'.length cw]⟩ := by
    rw [findE_roAll, hLL]; simp [findE]
  obtain ⟨n, hn⟩ : ∃ n, n = (R ++ W').length := ⟨_, rfl⟩
  have hn0 : n ≠ 0 := fun h => h0 (List.length_eq_zero_iff.1 (hn ▸ h))
  refine (show ∀ {K}, CallsV Tryd.prog _ _ (LL ++ M) K → CallsV Tryd.prog _ _ _ K from fun h => by rw [hLL] at h; exact h) ?_
  refine (concat_ok (hr.ext hext) (hw.ext hext) (roAll_ro _).marks hbx hrn hwn).use (derE_behind (L := []) (M := LL ++ M) trivial) ?_
  intro v N hg
  refine ⟨hg.wr.1, hg.wr.2, fun hf => ?_⟩
  rcases hg with ⟨hz, _⟩ | ⟨b0, c0, rfl, hc0, hl0, rfl⟩
  · exact absurd (hn.trans hz) hn0
  rw [← hn]
  rw [hLL] at hf ⊢
  obtain ⟨hb0, -⟩ := hf
  simp only [push_cast, Nat.reduceAdd, Nat.reduceSub, Nat.reduceMul, Nat.reduceLT, Nat.reduceLeDiff, Nat.reduceEqDiff, Nat.reduceMod, Nat.reduceDiv, Int.reduceAdd, Int.reduceSub, Int.reduceMul, Int.reduceLT, Int.reduceLE, Int.reduceEq, Int.reduceNeg, Int.reduceToNat, reduceIte, reduceCtorEq, Int.reduceBEq, Int.reduceBNe, Bool.true_beq, Bool.false_beq, Bool.true_bne, Bool.false_bne, Bool.not_true, Bool.not_false]
  refine (valuesK_ok _ _ _).use trivial ?_
  rintro v N ⟨b1', rfl, rfl⟩
  refine ⟨⟨trivial, trivial⟩, rfl, fun hf => ?_⟩
  obtain ⟨⟨n1, n1', n2, n2', n3, n3', n4, n4', n5, n5', n6⟩, -⟩ := hf
  obtain ⟨m2, m2', m3, m3', m4, m4', m5, m5', m6⟩ := hb0
  dsimp only at n1 n1' n2 n2' n3 n3' n4 n4' n5 n5' n6 m2 m2' m3 m3' m4 m4' m5 m5' m6
  simp only [push_cast, Nat.reduceAdd, Nat.reduceSub, Nat.reduceMul, Nat.reduceLT, Nat.reduceLeDiff, Nat.reduceEqDiff, Nat.reduceMod, Nat.reduceDiv, Int.reduceAdd, Int.reduceSub, Int.reduceMul, Int.reduceLT, Int.reduceLE, Int.reduceEq, Int.reduceNeg, Int.reduceToNat, reduceIte, reduceCtorEq, Int.reduceBEq, Int.reduceBNe, Bool.true_beq, Bool.false_beq, Bool.true_bne, Bool.false_bne, Bool.not_true, Bool.not_false]
  rw [hn]
  refine CallsV.sub ((sumK_ok (R ++ W') b1' b0 c0 bh r (.cel 28) (.vec 58 25 c0) rfl rfl n1 n3 n4 m3 m4 hbh.1 (by rw [List.length_append]; omega)).toK ?_) ?_ ?_
  · rintro v N ⟨rfl, rfl⟩
    simp only [push_cast, Nat.reduceAdd, Nat.reduceSub, Nat.reduceMul, Nat.reduceLT, Nat.reduceLeDiff, Nat.reduceEqDiff, Nat.reduceMod, Nat.reduceDiv, Int.reduceAdd, Int.reduceSub, Int.reduceMul, Int.reduceLT, Int.reduceLE, Int.reduceEq, Int.reduceNeg, Int.reduceToNat, reduceIte, reduceCtorEq, Int.reduceBEq, Int.reduceBNe, Bool.true_beq, Bool.false_beq, Bool.true_bne, Bool.false_bne, Bool.not_true, Bool.not_false, declI_eq]
  · simp only [subH, findE, remE, n1, n1', n2, n2', n3, n3', n4, n4', n5, n5', m2, m2', m3, m3', m4, m4', m5, m5', hbh, hb9, hbr, if_true, if_false, and_true, true_and]
  · simp only [marksOf, hm]
theorem gdecl_R {M : Hp} {R W' : List KeyT} {vr vw : Value} (hr : LiR KeyT.cells 25 M R vr) (hw : LiR KeyT.cells 25 M W' vw) (hrn : R.length ≤ 400000) (hwn : W'.length ≤ 400000) (h0 : R ++ W' ≠ []) :
    ∀ M0, roM M0 → cellsAt M0 = cellsAt M → CallsV Tryd.prog 33 [.agg #[vr, vw]] M0 (Ret0 (.int .i64 (declI R W'))) :=
  fun _ h he => gdecl_ok (hr.congr he.symm) (hw.congr he.symm) h.marks hrn hwn h0
end Go.Proofs.YtfioapldbajpmaaDoor
