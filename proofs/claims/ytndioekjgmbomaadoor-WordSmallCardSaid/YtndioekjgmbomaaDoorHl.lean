/- Hl: WordSmall. -/
import Derived.Test.YtndioekjgmbomaaDoorHk
set_option linter.unusedSimpArgs false
set_option linter.unusedVariables false
namespace Go.Ev
theorem sm_add {p q : Nat} (hp : p < 1073741824) (hq : q < 1073741824) : intW (plusW (ofW (p : Int)) (ofW (q : Int))) = (((p + q : Nat) : Int), true) := by
  have e : (plusW (ofW (p : Int)) (ofW (q : Int))).num = p + q := by rw [plus_num, of_nat p (by omega), of_nat q (by omega)]; omega
  rw [intW_eq, e, if_pos (by omega)]
theorem sm_mul {p q : Nat} (hp : p < 1073741824) (hq : q < 1073741824) : intW (timesW (ofW (p : Int)) (ofW (q : Int))) = (((p * q : Nat) : Int), true) := by
  have hpq : p * q ≤ 1073741823 * 1073741823 := Nat.mul_le_mul (by omega) (by omega)
  have e : (timesW (ofW (p : Int)) (ofW (q : Int))).num = p * q := by rw [timesW_eq, W.num_of, of_nat p (by omega), of_nat q (by omega)]; generalize p * q = r at *; omega
  rw [intW_eq, e, if_pos (by omega)]
theorem ofW_num (n : Int) (h : i64In n) : cM ((ofW n).num : Int) n := by
  unfold i64In at h
  rcases Int.lt_or_le n 0 with h0 | h0
  · rw [ofW_eq, W.ofInt, if_neg (by omega)]
    refine ⟨1, ?_⟩
    unfold W.num
    rw [modM_eq]
    dsimp only
    omega
  · rw [of_num h0 (by omega)]
    exact cM.of_eq (by omega)
theorem sm_sub {p q : Nat} (hp : p < 1073741824) (hq : q < 1073741824) : subtW (ofW (p : Int)) (ofW (q : Int)) = ofW ((p : Int) - (q : Int)) := by
  refine ((cM.subt _ _).trans ((cM.sub (ofW_num _ (by unfold i64In; omega)) (ofW_num _ (by unfold i64In; omega))).trans (ofW_num _ (by unfold i64In; omega)).symm)).eq
theorem sm_dec {p : Nat} (hp : p < 1073741824) : parseP (bs (decW (p : Int))) = (ofW (p : Int), 0) := by
  unfold parseP
  rw [decW_eq, Int.toNat_natCast, parse_dec (k := 9) (by omega) (by omega)]
  congr 1
  exact W.num_inj (by rw [W.num_of, Nat.mod_eq_of_lt (by omega), of_nat p (by omega)])
theorem sm_len {p : Nat} : (decW (p : Int)).length ≤ 10 := by rw [decW_eq]; exact decF_len 9 _
end Go.Ev
namespace Go.Proofs.YtndioekjgmbomaaDoor
open Go Go.Ev Go.Proofs
set_option maxRecDepth 100000
set_option maxHeartbeats 4000000
def plSm : Plans := fun i => if i = 6 then [(0, 9)] else if i = 7 then [(0, 9)] else if i = 8 then [(0, 9)] else if i = 9 then [(0, 9)] else Tryd.pl7 i
attribute [push_cast] plSm
theorem wordSmall0 (m n : Int) (hm : i64In m) (hn : i64In n) : CallsV Tryd.prog 7 [.int .i64 m, .int .i64 n] [] (Ret0 (.bool true)) := by
  have j0 : i64B m = true := i64B_in hm
  have j0' : i64B n = true := i64B_in hn
  have j1 : i64B 1073741824 = true := i64B_in (by decide)
  have j2 : posB 1073741824 = true := posB_in (by decide)
  have hp := pickN_lt m (show (0 : Int) < 1073741824 by decide)
  have hq := pickN_lt n (show (0 : Int) < 1073741824 by decide)
  obtain ⟨p, hpp⟩ : ∃ p, p = pickN m 1073741824 := ⟨_, rfl⟩
  obtain ⟨q, hqq⟩ : ∃ p, p = pickN n 1073741824 := ⟨_, rfl⟩
  rw [← hpp] at hp
  rw [← hqq] at hq
  have j3 : i64B (p : Int) = true := i64B_in (by unfold i64In; omega)
  have j4 : i64B (q : Int) = true := i64B_in (by unfold i64In; omega)
  have j5 : i64B ((p : Int) - (q : Int)) = true := i64B_in (by unfold i64In; omega)
  have j6 : dcB (p : Int) = true := by rw [dcB_eq, decide_eq_true_eq]; omega
  have a1 := sm_add (p := p) (q := q) (by omega) (by omega)
  have a2 := sm_mul (p := p) (q := q) (by omega) (by omega)
  have a3 := sm_sub (p := p) (q := q) (by omega) (by omega)
  have a4 := sm_dec (p := p) (by omega)
  have z4 : pzB (decW (p : Int)).length = true := pzB_in (by have := sm_len (p := p); omega)
  have a5 := parseP_hex (ofW (p : Int))
  have z5 : pzB (hexW (ofW (p : Int))).length = true := pzB_in (by have := hex_len (ofW (p : Int)); omega)
  rw [Int.natCast_add] at a1
  rw [Int.natCast_mul] at a2
  have np : (ofW (p : Int)).num = p := of_nat p (by omega)
  have nq : (ofW (q : Int)).num = q := of_nat q (by omega)
  have m1 : (p : Int) * (q : Int) ≤ 1073741823 * 1073741823 := by rw [← Int.natCast_mul]; have : p * q ≤ 1073741823 * 1073741823 := Nat.mul_le_mul (by omega) (by omega); omega
  have m2 : 0 ≤ (p : Int) * (q : Int) := by rw [← Int.natCast_mul]; omega
  have w1 : IntKind.i64.wrap ((p : Int) * (q : Int)) = (p : Int) * (q : Int) := wrap_i64' (by omega)
  refine callsO gDec_ok Tryd.mix plSm Tryd.func7 rfl Tryd.ntmps7 Tryd.results7 rfl (by first | rfl | assumption) (Nat.le_of_ble_eq_true rfl) (by kernel_rfl) ?_
  simp only [push_cast, Nat.reduceAdd, Nat.reduceSub, Nat.reduceMul, Nat.reduceLT, Nat.reduceLeDiff, Nat.reduceEqDiff, Nat.reduceMod, Nat.reduceDiv, Int.reduceAdd, Int.reduceSub, Int.reduceMul, Int.reduceLT, Int.reduceLE, Int.reduceEq, Int.reduceNeg, Int.reduceToNat, reduceIte, reduceCtorEq, Int.reduceBEq, Int.reduceBNe, Bool.true_beq, Bool.false_beq, Bool.true_bne, Bool.false_bne, Bool.not_true, Bool.not_false, j0, j0', j1, j2, ← hpp, ← hqq, j3, j4, a1, a2]
  refine regO gDec_ok ?_
  simp only [push_cast, Nat.reduceAdd, Nat.reduceSub, Nat.reduceMul, Nat.reduceLT, Nat.reduceLeDiff, Nat.reduceEqDiff, Nat.reduceMod, Nat.reduceDiv, Int.reduceAdd, Int.reduceSub, Int.reduceMul, Int.reduceLT, Int.reduceLE, Int.reduceEq, Int.reduceNeg, Int.reduceToNat, reduceIte, reduceCtorEq, Int.reduceBEq, Int.reduceBNe, Bool.true_beq, Bool.false_beq, Bool.true_bne, Bool.false_bne, Bool.not_true, Bool.not_false, j3, j4, a3]
  intro b12
  refine regO gDec_ok ?_
  simp only [push_cast, Nat.reduceAdd, Nat.reduceSub, Nat.reduceMul, Nat.reduceLT, Nat.reduceLeDiff, Nat.reduceEqDiff, Nat.reduceMod, Nat.reduceDiv, Int.reduceAdd, Int.reduceSub, Int.reduceMul, Int.reduceLT, Int.reduceLE, Int.reduceEq, Int.reduceNeg, Int.reduceToNat, reduceIte, reduceCtorEq, Int.reduceBEq, Int.reduceBNe, Bool.true_beq, Bool.false_beq, Bool.true_bne, Bool.false_bne, Bool.not_true, Bool.not_false, j6, bs_size, z4, a4]
  intro b13 hb13
  refine regO gDec_ok ?_
  simp only [push_cast, Nat.reduceAdd, Nat.reduceSub, Nat.reduceMul, Nat.reduceLT, Nat.reduceLeDiff, Nat.reduceEqDiff, Nat.reduceMod, Nat.reduceDiv, Int.reduceAdd, Int.reduceSub, Int.reduceMul, Int.reduceLT, Int.reduceLE, Int.reduceEq, Int.reduceNeg, Int.reduceToNat, reduceIte, reduceCtorEq, Int.reduceBEq, Int.reduceBNe, Bool.true_beq, Bool.false_beq, Bool.true_bne, Bool.false_bne, Bool.not_true, Bool.not_false, hb13, j3, bs_size, z5, a5]
  intro b15 hb15
  refine regO gDec_ok ?_
  rcases Nat.lt_trichotomy p q with h | h | h
  · have c1 : -1 = (ofW (p : Int)).cmp (ofW (q : Int)) := W.cmp_lt (by rw [np, nq]; exact h)
    have h1 : p < q := h
    have h2 : ¬ q < p := by omega
    simp (maxSteps := 3000000) only [push_cast, Nat.reduceAdd, Nat.reduceSub, Nat.reduceMul, Nat.reduceLT, Nat.reduceLeDiff, Nat.reduceEqDiff, Nat.reduceMod, Nat.reduceDiv, Int.reduceAdd, Int.reduceSub, Int.reduceMul, Int.reduceLT, Int.reduceLE, Int.reduceEq, Int.reduceNeg, Int.reduceToNat, reduceIte, reduceCtorEq, Int.reduceBEq, Int.reduceBNe, Bool.true_beq, Bool.false_beq, Bool.true_bne, Bool.false_bne, Bool.not_true, Bool.not_false, hb13, hb15, h1, h2, j3, j4, j5, a3, ← c1, w1, wrap_i64' (show -9223372036854775808 ≤ (p : Int) + (q : Int) ∧ (p : Int) + (q : Int) ≤ 9223372036854775807 by omega), wrap_i64' (show -9223372036854775808 ≤ (p : Int) - (q : Int) ∧ (p : Int) - (q : Int) ≤ 9223372036854775807 by omega), beq_self_eq_true, decide_true]
    done
  · have c1 : 0 = (ofW (p : Int)).cmp (ofW (q : Int)) := W.cmp_eq (by rw [np, nq]; exact h)
    have h1 : ¬ p < q := by omega
    have h2 : ¬ q < p := by omega
    simp (maxSteps := 3000000) only [push_cast, Nat.reduceAdd, Nat.reduceSub, Nat.reduceMul, Nat.reduceLT, Nat.reduceLeDiff, Nat.reduceEqDiff, Nat.reduceMod, Nat.reduceDiv, Int.reduceAdd, Int.reduceSub, Int.reduceMul, Int.reduceLT, Int.reduceLE, Int.reduceEq, Int.reduceNeg, Int.reduceToNat, reduceIte, reduceCtorEq, Int.reduceBEq, Int.reduceBNe, Bool.true_beq, Bool.false_beq, Bool.true_bne, Bool.false_bne, Bool.not_true, Bool.not_false, hb13, hb15, h1, h2, j3, j4, j5, a3, ← c1, w1, wrap_i64' (show -9223372036854775808 ≤ (p : Int) + (q : Int) ∧ (p : Int) + (q : Int) ≤ 9223372036854775807 by omega), wrap_i64' (show -9223372036854775808 ≤ (p : Int) - (q : Int) ∧ (p : Int) - (q : Int) ≤ 9223372036854775807 by omega), beq_self_eq_true, decide_true]
    done
  · have c1 : 1 = (ofW (p : Int)).cmp (ofW (q : Int)) := W.cmp_gt (by rw [np, nq]; exact h)
    have h1 : ¬ p < q := by omega
    have h2 : q < p := h
    simp (maxSteps := 3000000) only [push_cast, Nat.reduceAdd, Nat.reduceSub, Nat.reduceMul, Nat.reduceLT, Nat.reduceLeDiff, Nat.reduceEqDiff, Nat.reduceMod, Nat.reduceDiv, Int.reduceAdd, Int.reduceSub, Int.reduceMul, Int.reduceLT, Int.reduceLE, Int.reduceEq, Int.reduceNeg, Int.reduceToNat, reduceIte, reduceCtorEq, Int.reduceBEq, Int.reduceBNe, Bool.true_beq, Bool.false_beq, Bool.true_bne, Bool.false_bne, Bool.not_true, Bool.not_false, hb13, hb15, h1, h2, j3, j4, j5, a3, ← c1, w1, wrap_i64' (show -9223372036854775808 ≤ (p : Int) + (q : Int) ∧ (p : Int) + (q : Int) ≤ 9223372036854775807 by omega), wrap_i64' (show -9223372036854775808 ≤ (p : Int) - (q : Int) ∧ (p : Int) - (q : Int) ≤ 9223372036854775807 by omega), beq_self_eq_true, decide_true]
    done
end Go.Proofs.YtndioekjgmbomaaDoor
