/- Sq: MemoryCosts. -/
import Derived.Test.YtcglhlmajgpglaaSp
set_option linter.unusedSimpArgs false
set_option linter.unusedVariables false
namespace Go.Ev
theorem cost_nat {n : Nat} (h : n ≤ 32768) : costI (n : Int) = ((3 * n + n * n / 512 : Nat) : Int) := by
  have hw : withI (n : Int) 0 32768 = (n : Int) := by rw [withI_eq]; repeat' split <;> omega
  rw [costI_eq, hw]
  rw [Int.natCast_add, Int.natCast_mul, Int.natCast_ediv, Int.natCast_mul]; rfl
theorem sq_succ (n : Nat) : (n + 1) * (n + 1) = n * n + 2 * n + 1 := by
  rw [Nat.add_mul, Nat.mul_add]; omega
theorem cost_step {n : Nat} (h : n < 32768) : 3 ≤ costI ((n + 1 : Nat) : Int) - costI (n : Int) ∧ (512 ≤ n → 3 < costI ((n + 1 : Nat) : Int) - costI (n : Int)) := by
  rw [cost_nat (by omega), cost_nat (by omega), sq_succ]
  generalize n * n = q
  omega
theorem need_nat {a n : Nat} (ha : a < 18446744073709551616) (hn : n < 18446744073709551616) : needI (ofW (a : Int)) (ofW (n : Int)) = if n = 0 then (0, true) else if a + n ≤ 1048576 then ((((a + n + 31) / 32 : Nat) : Int), true) else (0, false) := by
  rw [needI_eq, of_nat a ha, of_nat n hn]
end Go.Ev
namespace Go.Proofs.Ytcglhlmajgpglaa
open Go Go.Ev Go.Proofs
set_option maxRecDepth 100000
set_option maxHeartbeats 4000000
theorem memoryCosts0 (c : Int) (hc : i64In c) : CallsV Try.prog 5 [.int .i64 c] [] (Ret0 (.bool true)) := by
  have j1 := i64B_in hc
  have j2 : i64B 32766 = true := i64B_in (by decide)
  have j3 : i64B 32 = true := i64B_in (by decide)
  have j4 : i64B 1048576 = true := i64B_in (by decide)
  have q1 : posB 32766 = true := posB_in (by decide)
  have hp := pickN_lt c (n := 32766) (by decide)
  obtain ⟨N, hN⟩ : ∃ p, p = pickN c 32766 := ⟨_, rfl⟩
  rw [← hN] at hp
  obtain ⟨s1, s1'⟩ := cost_step (n := N) (by omega)
  obtain ⟨s2, _⟩ := cost_step (n := N + 1) (by omega)
  have e1 : ((N + 1 : Nat) : Int) = (N : Int) + 1 := rfl
  have e2 : ((N + 1 + 1 : Nat) : Int) = (N : Int) + 2 := by omega
  rw [e1] at s1 s1'
  rw [e2, e1] at s2
  obtain ⟨m, hm⟩ : ∃ m, m = 32 * N := ⟨_, rfl⟩
  have em : (32 : Int) * (N : Int) = (m : Int) := by omega
  have jm : i64B (m : Int) = true := i64B_in ⟨by omega, by omega⟩
  have n1 : needI (ofW (m : Int)) (ofW 32) = ((N : Int) + 1, true) := by
    have := need_nat (a := m) (n := 32) (by omega) (by decide)
    refine this.trans ?_
    rw [if_neg (by decide), if_pos (by omega)]
    congr 1
    omega
  have n2 : ∃ k, needI (ofW (m : Int)) (ofW 1048576) = (k, decide (N = 0)) := by
    have := need_nat (a := m) (n := 1048576) (by omega) (by decide)
    by_cases h0 : N = 0
    · refine ⟨(((m + 1048576 + 31) / 32 : Nat) : Int), this.trans ?_⟩
      rw [if_neg (by decide), if_pos (by omega), decide_eq_true h0]
    · refine ⟨0, this.trans ?_⟩
      rw [if_neg (by decide), if_neg (by omega), decide_eq_false h0]
  obtain ⟨k, n2⟩ := n2
  have b0 : 0 ≤ costI (N : Int) ∧ costI (N : Int) ≤ 2195456 := by rw [cost_nat (by omega)]; have := Nat.mul_le_mul (show N ≤ 32768 by omega) (show N ≤ 32768 by omega); generalize N * N = q at *; omega
  have b1 : 0 ≤ costI ((N : Int) + 1) ∧ costI ((N : Int) + 1) ≤ 2195456 := by rw [← e1, cost_nat (by omega)]; have := Nat.mul_le_mul (show N + 1 ≤ 32768 by omega) (show N + 1 ≤ 32768 by omega); generalize (N + 1) * (N + 1) = q at *; omega
  have b2 : 0 ≤ costI ((N : Int) + 2) ∧ costI ((N : Int) + 2) ≤ 2195456 := by rw [← e2, cost_nat (by omega)]; have := Nat.mul_le_mul (show N + 1 + 1 ≤ 32768 by omega) (show N + 1 + 1 ≤ 32768 by omega); generalize (N + 1 + 1) * (N + 1 + 1) = q at *; omega
  have s1'' : 512 ≤ (N : Int) → 3 < costI ((N : Int) + 1) - costI (N : Int) := fun h => s1' (by omega)
  have s3 : 6 ≤ costI ((N : Int) + 2) - costI (N : Int) := by omega
  have w1 := wrap_i64' (show -9223372036854775808 ≤ costI ((N : Int) + 1) - costI (N : Int) ∧ costI ((N : Int) + 1) - costI (N : Int) ≤ 9223372036854775807 by omega)
  have w2 := wrap_i64' (show -9223372036854775808 ≤ costI ((N : Int) + 2) - costI ((N : Int) + 1) ∧ costI ((N : Int) + 2) - costI ((N : Int) + 1) ≤ 9223372036854775807 by omega)
  have w3 := wrap_i64' (show -9223372036854775808 ≤ costI ((N : Int) + 2) - costI (N : Int) ∧ costI ((N : Int) + 2) - costI (N : Int) ≤ 9223372036854775807 by omega)
  have hz : (decide (N = 0) == ((N : Int) == 0)) = true := by
    by_cases h0 : N = 0
    · subst h0; rfl
    · rw [decide_eq_false h0]
      have : ((N : Int) == 0) = false := by rw [beq_eq_false_iff_ne]; omega
      rw [this]; rfl
  refine callsO gO_ok Try.mix Try.pl5 Try.func5 rfl Try.ntmps5 Try.results5 rfl (by first | rfl | assumption) (Nat.le_of_ble_eq_true rfl) (by kernel_rfl) ?_
  by_cases h5 : (N : Int) < 512
  · simp only [push_cast, Nat.reduceAdd, Nat.reduceSub, Nat.reduceMul, Nat.reduceLT, Nat.reduceLeDiff, Nat.reduceEqDiff, Nat.reduceMod, Nat.reduceDiv, Int.reduceAdd, Int.reduceSub, Int.reduceMul, Int.reduceLT, Int.reduceLE, Int.reduceEq, Int.reduceNeg, Int.reduceToNat, reduceIte, reduceCtorEq, j1, j2, j3, j4, q1, ← hN, wrap_i64' (show -9223372036854775808 ≤ (N : Int) + 1 ∧ (N : Int) + 1 ≤ 9223372036854775807 by omega), wrap_i64' (show -9223372036854775808 ≤ (N : Int) + 2 ∧ (N : Int) + 2 ≤ 9223372036854775807 by omega), em, wrap_i64' (show -9223372036854775808 ≤ (m : Int) ∧ (m : Int) ≤ 9223372036854775807 by omega), jm, n1, n2, w1, w2, w3, s1, s2, s3, h5, hz, decide_true]
  · have s4 := s1'' (by omega)
    simp only [push_cast, Nat.reduceAdd, Nat.reduceSub, Nat.reduceMul, Nat.reduceLT, Nat.reduceLeDiff, Nat.reduceEqDiff, Nat.reduceMod, Nat.reduceDiv, Int.reduceAdd, Int.reduceSub, Int.reduceMul, Int.reduceLT, Int.reduceLE, Int.reduceEq, Int.reduceNeg, Int.reduceToNat, reduceIte, reduceCtorEq, j1, j2, j3, j4, q1, ← hN, wrap_i64' (show -9223372036854775808 ≤ (N : Int) + 1 ∧ (N : Int) + 1 ≤ 9223372036854775807 by omega), wrap_i64' (show -9223372036854775808 ≤ (N : Int) + 2 ∧ (N : Int) + 2 ≤ 9223372036854775807 by omega), em, wrap_i64' (show -9223372036854775808 ≤ (m : Int) ∧ (m : Int) ≤ 9223372036854775807 by omega), jm, n1, n2, w1, w2, w3, s1, s2, s3, s4, h5, hz, decide_true]
theorem memoryCosts_ok {H : Hp} {c : Int} (hm : marksOf H = []) (hc : i64In c) : CallsV Try.prog 5 [.int .i64 c] H (Ret0 (.bool true)) := (memoryCosts0 c hc).onto hm
end Go.Proofs.Ytcglhlmajgpglaa
