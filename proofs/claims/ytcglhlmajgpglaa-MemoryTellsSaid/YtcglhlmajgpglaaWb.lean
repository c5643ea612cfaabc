/- Wb: the document's words (layer 1). -/
import Derived.Test.YtcglhlmajgpglaaWa
import Derived.PlainAid
set_option linter.unusedSimpArgs false
set_option linter.unusedVariables false
namespace Go.Proofs.Ytcglhlmajgpglaa
open Go Go.Ev Go.Proofs
set_option maxRecDepth 100000
set_option maxHeartbeats 4000000
theorem refOf (n : Int) (hn : -9223372036854775808 ≤ n ∧ n ≤ 9223372036854775807) : CallsV Try.prog 13 [.int .i64 n] [] (Ret0 (W.ofInt n).v) := by
  refine callsO (noG_ok _) Try.mix Try.pl13 Try.func13 rfl Try.ntmps13 Try.results13 rfl (by first | rfl | assumption) (Nat.le_of_ble_eq_true rfl) (by kernel_rfl) ?_
  simp only [push_cast, Nat.reduceAdd, Nat.reduceSub, Nat.reduceMul, Nat.reduceLT, Nat.reduceLeDiff, Nat.reduceEqDiff, Nat.reduceMod, Nat.reduceDiv, Int.reduceAdd, Int.reduceSub, Int.reduceMul, Int.reduceLT, Int.reduceLE, Int.reduceEq, Int.reduceNeg, Int.reduceToNat, reduceIte, reduceCtorEq]
  intro b1 b2 hb2
  rcases Int.lt_or_le n 0 with h | h
  · simp only [push_cast, Nat.reduceAdd, Nat.reduceSub, Nat.reduceMul, Nat.reduceLT, Nat.reduceLeDiff, Nat.reduceEqDiff, Nat.reduceMod, Nat.reduceDiv, Int.reduceAdd, Int.reduceSub, Int.reduceMul, Int.reduceLT, Int.reduceLE, Int.reduceEq, Int.reduceNeg, Int.reduceToNat, reduceIte, reduceCtorEq, h, hb2]
    refine unrollO (noG_ok _) (pl := Try.pl13) Try.mix 4 (by kernel_rfl) ?_
    simp only [push_cast, Nat.reduceAdd, Nat.reduceSub, Nat.reduceMul, Nat.reduceLT, Nat.reduceLeDiff, Nat.reduceEqDiff, Nat.reduceMod, Nat.reduceDiv, Int.reduceAdd, Int.reduceSub, Int.reduceMul, Int.reduceLT, Int.reduceLE, Int.reduceEq, Int.reduceNeg, Int.reduceToNat, reduceIte, reduceCtorEq, hb2]
    rw [W.ofInt, if_neg (by omega), PlainAid.u64_neg h (by omega)]
    simp only [W.v, W.cells, Value.agg.injEq]
    congr 2
    simp only [Value.int.injEq, true_and]
    omega
  · simp only [push_cast, Nat.reduceAdd, Nat.reduceSub, Nat.reduceMul, Nat.reduceLT, Nat.reduceLeDiff, Nat.reduceEqDiff, Nat.reduceMod, Nat.reduceDiv, Int.reduceAdd, Int.reduceSub, Int.reduceMul, Int.reduceLT, Int.reduceLE, Int.reduceEq, Int.reduceNeg, Int.reduceToNat, reduceIte, reduceCtorEq, Int.not_lt.2 h, hb2]
    rw [W.ofInt, if_pos (by omega), PlainAid.u64_nonneg (by omega) (by omega)]
    simp only [W.v, W.cells, Value.agg.injEq]
    congr 2
    simp only [Value.int.injEq, true_and]
    omega
end Go.Proofs.Ytcglhlmajgpglaa
