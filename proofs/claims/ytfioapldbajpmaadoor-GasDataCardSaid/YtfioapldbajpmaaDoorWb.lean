/- Wb: the document's words (layer 1). -/
import Derived.Test.YtfioapldbajpmaaDoorWa
import Derived.PlainAid
set_option linter.unusedSimpArgs false
set_option linter.unusedVariables false
namespace Go.Proofs.YtfioapldbajpmaaDoor
open Go Go.Ev Go.Proofs
set_option maxRecDepth 100000
set_option maxHeartbeats 4000000
theorem refCmp (x y : W) : CallsV Tryd.prog 80 [x.v, y.v] [] (Ret0 (.int .i64 (x.cmp y))) := by
  refine callsO (noG_ok _) Tryd.mix Tryd.pl80 Tryd.func80 rfl Tryd.ntmps80 Tryd.results80 rfl (by first | rfl | assumption) (Nat.le_of_ble_eq_true rfl) (by kernel_rfl) ?_
  simp only [push_cast, Nat.reduceAdd, Nat.reduceSub, Nat.reduceMul, Nat.reduceLT, Nat.reduceLeDiff, Nat.reduceEqDiff, Nat.reduceMod, Nat.reduceDiv, Int.reduceAdd, Int.reduceSub, Int.reduceMul, Int.reduceLT, Int.reduceLE, Int.reduceEq, Int.reduceNeg, Int.reduceToNat, reduceIte, reduceCtorEq, Int.reduceBEq, Int.reduceBNe, Bool.true_beq, Bool.false_beq, Bool.true_bne, Bool.false_bne, Bool.not_true, Bool.not_false]
  intro b1 b2 hb2
  refine unrollO (noG_ok _) (pl := Tryd.pl80) Tryd.mix 5 (by kernel_rfl) ?_
  simp only [push_cast, Nat.reduceAdd, Nat.reduceSub, Nat.reduceMul, Nat.reduceLT, Nat.reduceLeDiff, Nat.reduceEqDiff, Nat.reduceMod, Nat.reduceDiv, Int.reduceAdd, Int.reduceSub, Int.reduceMul, Int.reduceLT, Int.reduceLE, Int.reduceEq, Int.reduceNeg, Int.reduceToNat, reduceIte, reduceCtorEq, Int.reduceBEq, Int.reduceBNe, Bool.true_beq, Bool.false_beq, Bool.true_bne, Bool.false_bne, Bool.not_true, Bool.not_false, hb2, Value.int.injEq]
  simp only [sel_ite, decide_eq_true_eq, bne_iff_ne, ne_eq, beq_iff_eq]
  split
  · exact W.cmp_lt (W.num_d (by assumption))
  split
  · exact W.cmp_gt (W.num_d (by assumption))
  have hd : x.d = y.d := by omega
  split
  · exact W.cmp_lt (W.num_c hd (by assumption))
  split
  · exact W.cmp_gt (W.num_c hd.symm (by assumption))
  have hc : x.c = y.c := by omega
  split
  · exact W.cmp_lt (W.num_b hd hc (by assumption))
  split
  · exact W.cmp_gt (W.num_b hd.symm hc.symm (by assumption))
  have hb : x.b = y.b := by omega
  split
  · exact W.cmp_lt (W.num_a hd hc hb (by assumption))
  split
  · exact W.cmp_gt (W.num_a hd.symm hc.symm hb.symm (by assumption))
  have ha : x.a = y.a := by omega
  exact W.cmp_eq (by rw [W.eq ha hb hc hd])
theorem refOf (n : Int) (hn : -9223372036854775808 ≤ n ∧ n ≤ 9223372036854775807) : CallsV Tryd.prog 23 [.int .i64 n] [] (Ret0 (W.ofInt n).v) := by
  refine callsO (noG_ok _) Tryd.mix Tryd.pl23 Tryd.func23 rfl Tryd.ntmps23 Tryd.results23 rfl (by first | rfl | assumption) (Nat.le_of_ble_eq_true rfl) (by kernel_rfl) ?_
  simp only [push_cast, Nat.reduceAdd, Nat.reduceSub, Nat.reduceMul, Nat.reduceLT, Nat.reduceLeDiff, Nat.reduceEqDiff, Nat.reduceMod, Nat.reduceDiv, Int.reduceAdd, Int.reduceSub, Int.reduceMul, Int.reduceLT, Int.reduceLE, Int.reduceEq, Int.reduceNeg, Int.reduceToNat, reduceIte, reduceCtorEq, Int.reduceBEq, Int.reduceBNe, Bool.true_beq, Bool.false_beq, Bool.true_bne, Bool.false_bne, Bool.not_true, Bool.not_false]
  intro b1 b2 hb2
  rcases Int.lt_or_le n 0 with h | h
  · simp only [push_cast, Nat.reduceAdd, Nat.reduceSub, Nat.reduceMul, Nat.reduceLT, Nat.reduceLeDiff, Nat.reduceEqDiff, Nat.reduceMod, Nat.reduceDiv, Int.reduceAdd, Int.reduceSub, Int.reduceMul, Int.reduceLT, Int.reduceLE, Int.reduceEq, Int.reduceNeg, Int.reduceToNat, reduceIte, reduceCtorEq, Int.reduceBEq, Int.reduceBNe, Bool.true_beq, Bool.false_beq, Bool.true_bne, Bool.false_bne, Bool.not_true, Bool.not_false, h, hb2]
    refine unrollO (noG_ok _) (pl := Tryd.pl23) Tryd.mix 4 (by kernel_rfl) ?_
    simp only [push_cast, Nat.reduceAdd, Nat.reduceSub, Nat.reduceMul, Nat.reduceLT, Nat.reduceLeDiff, Nat.reduceEqDiff, Nat.reduceMod, Nat.reduceDiv, Int.reduceAdd, Int.reduceSub, Int.reduceMul, Int.reduceLT, Int.reduceLE, Int.reduceEq, Int.reduceNeg, Int.reduceToNat, reduceIte, reduceCtorEq, Int.reduceBEq, Int.reduceBNe, Bool.true_beq, Bool.false_beq, Bool.true_bne, Bool.false_bne, Bool.not_true, Bool.not_false, hb2]
    rw [W.ofInt, if_neg (by omega), PlainAid.u64_neg h (by omega)]
    simp only [W.v, W.cells, Value.agg.injEq]
    congr 2
    simp only [Value.int.injEq, true_and]
    omega
  · simp only [push_cast, Nat.reduceAdd, Nat.reduceSub, Nat.reduceMul, Nat.reduceLT, Nat.reduceLeDiff, Nat.reduceEqDiff, Nat.reduceMod, Nat.reduceDiv, Int.reduceAdd, Int.reduceSub, Int.reduceMul, Int.reduceLT, Int.reduceLE, Int.reduceEq, Int.reduceNeg, Int.reduceToNat, reduceIte, reduceCtorEq, Int.reduceBEq, Int.reduceBNe, Bool.true_beq, Bool.false_beq, Bool.true_bne, Bool.false_bne, Bool.not_true, Bool.not_false, Int.not_lt.2 h, hb2]
    rw [W.ofInt, if_pos (by omega), PlainAid.u64_nonneg (by omega) (by omega)]
    simp only [W.v, W.cells, Value.agg.injEq]
    congr 2
    simp only [Value.int.injEq, true_and]
    omega
end Go.Proofs.YtfioapldbajpmaaDoor
