/- Dj: DivideSmall: the walk. -/
import Derived.Test.YtbpnjkedflkabaaDi
set_option linter.unusedSimpArgs false
set_option linter.unusedVariables false
namespace Go.Ev
noncomputable def powN : Nat → Nat → Nat := hid fun b i => b ^ i
theorem powN_eq (b i : Nat) : powN b i = b ^ i := by unfold powN; rw [hid_eq]
theorem powN_zero (b : Nat) : powN b 0 = 1 := by rw [powN_eq, Nat.pow_zero]
theorem l_append {α : Type} (a b : List α) : List.append a b = a ++ b := rfl
attribute [push_cast] powN_zero l_append
end Go.Ev
namespace Go.Proofs.Ytbpnjkedflkabaa
open Go Go.Ev Go.Proofs
set_option maxRecDepth 100000
set_option maxHeartbeats 4000000
theorem pow_small {b i : Nat} (hb : b < 1000) (hi : i ≤ 5) : b ^ i ≤ 995009990004999 :=
  Nat.le_trans (Nat.pow_le_pow_left (Nat.le_of_lt_succ hb : b ≤ 999) i) (Nat.le_trans (Nat.pow_le_pow_right (by decide : 0 < 999) hi) (by decide))
theorem divideSmall_ok {H : Hp} {m n k : Int} (hm : marksOf H = []) (i1 : i64In m) (i2 : i64In n) (i3 : i64In k) :
    CallsV Try.prog 7 [.int .i64 m, .int .i64 n, .int .i64 k] H (Ret0 (.bool true)) := by
  have p1 := pickN_lt m (n := 1099511627776) (by decide)
  have p2 := pickN_lt n (n := 1048576) (by decide)
  have p3 := pickN_lt k (n := 1048576) (by decide)
  have p4 := pickN_lt k (n := 6) (by decide)
  have p5 := pickN_lt n (n := 1000) (by decide)
  have l1 : i64B 1099511627776 = true := i64B_in (by decide)
  have l2 : i64B 1048576 = true := i64B_in (by decide)
  have l3 : i64B 6 = true := i64B_in (by decide)
  have l4 : i64B 1000 = true := i64B_in (by decide)
  have q1 : posB 1099511627776 = true := posB_in (by decide)
  have q2 : posB 1048576 = true := posB_in (by decide)
  have q3 : posB 6 = true := posB_in (by decide)
  have q4 : posB 1000 = true := posB_in (by decide)
  have j1 := i64B_in i1
  have j2 := i64B_in i2
  have j3 := i64B_in i3
  obtain ⟨X, hX⟩ : ∃ X, X = pickN m 1099511627776 := ⟨_, rfl⟩
  obtain ⟨N2, hN2⟩ : ∃ X, X = pickN n 1048576 := ⟨_, rfl⟩
  obtain ⟨N3, hN3⟩ : ∃ X, X = pickN k 1048576 := ⟨_, rfl⟩
  obtain ⟨C, hC⟩ : ∃ X, X = pickN k 6 := ⟨_, rfl⟩
  obtain ⟨b, hb⟩ : ∃ X, X = pickN n 1000 := ⟨_, rfl⟩
  rw [← hX] at p1
  rw [← hN2] at p2
  rw [← hN3] at p3
  rw [← hC] at p4
  rw [← hb] at p5
  obtain ⟨A, hA⟩ : ∃ A, A = (X : Int) - 549755813888 := ⟨_, rfl⟩
  obtain ⟨B0, hB0⟩ : ∃ B, B = (N2 : Int) - 524288 := ⟨_, rfl⟩
  obtain ⟨Y, hY⟩ : ∃ Y : Nat, Y = 1 + N2 := ⟨_, rfl⟩
  obtain ⟨Z, hZ⟩ : ∃ Z : Nat, Z = 1 + N3 := ⟨_, rfl⟩
  have eY : (1 : Int) + (N2 : Int) = (Y : Int) := by omega
  have eZ : (1 : Int) + (N3 : Int) = (Z : Int) := by omega
  have wA := wrap_i64' (show -9223372036854775808 ≤ A ∧ A ≤ 9223372036854775807 by omega)
  have wB := wrap_i64' (show -9223372036854775808 ≤ B0 ∧ B0 ≤ 9223372036854775807 by omega)
  have wY := wrap_i64' (show -9223372036854775808 ≤ (Y : Int) ∧ (Y : Int) ≤ 9223372036854775807 by omega)
  have wZ := wrap_i64' (show -9223372036854775808 ≤ (Z : Int) ∧ (Z : Int) ≤ 9223372036854775807 by omega)
  refine callsO gZ_ok Try.mix Try.pl7 Try.func7 rfl Try.ntmps7 Try.results7 rfl (by first | rfl | assumption) (Nat.le_of_ble_eq_true rfl) (by kernel_rfl) ?_
  simp only [push_cast, Nat.reduceAdd, Nat.reduceSub, Nat.reduceMul, Nat.reduceLT, Nat.reduceLeDiff, Nat.reduceEqDiff, Nat.reduceMod, Nat.reduceDiv, Int.reduceAdd, Int.reduceSub, Int.reduceMul, Int.reduceLT, Int.reduceLE, Int.reduceEq, Int.reduceNeg, Int.reduceToNat, reduceIte, reduceCtorEq]
  refine awake_ok.pure trivial ?_
  simp only [push_cast, Nat.reduceAdd, Nat.reduceSub, Nat.reduceMul, Nat.reduceLT, Nat.reduceLeDiff, Nat.reduceEqDiff, Nat.reduceMod, Nat.reduceDiv, Int.reduceAdd, Int.reduceSub, Int.reduceMul, Int.reduceLT, Int.reduceLE, Int.reduceEq, Int.reduceNeg, Int.reduceToNat, reduceIte, reduceCtorEq, j1, j2, j3, l1, l2, l3, l4, q1, q2, q3, q4, ← hX, ← hN2, ← hN3, ← hC, ← hb, ← hA, ← hB0, eY, eZ, wA, wB, wY, wZ]
  refine (fun rest => ?main : ((T : Tm) → (H' : Hp) → (∃ B : Int, -524288 ≤ B ∧ B < 524288 ∧ ¬ B = 0 ∧ H' = H ∧ subT T [(1, .int .i64 n), (2, .int .i64 k), (7, .bool true), (8, .func (.func 27) #[] #[]), (9, .int .i64 A), (10, .int .i64 B), (11, .int .i64 X), (12, .int .i64 Y), (13, .int .i64 Z), (14, .int .i64 1), (15, .int .i64 0)]) → WpV Try.prog none 159 (.loop ?c) ?K T H') → _) ?rest
  case main =>
    by_cases h0 : B0 = 0
    · have e0 : (B0 == 0) = true := by rw [h0]; rfl
      simp only [push_cast, Nat.reduceAdd, Nat.reduceSub, Nat.reduceMul, Nat.reduceLT, Nat.reduceLeDiff, Nat.reduceEqDiff, Nat.reduceMod, Nat.reduceDiv, Int.reduceAdd, Int.reduceSub, Int.reduceMul, Int.reduceLT, Int.reduceLE, Int.reduceEq, Int.reduceNeg, Int.reduceToNat, reduceIte, reduceCtorEq, j1, j2, j3, l1, l2, l3, l4, q1, q2, q3, q4, ← hX, ← hN2, ← hN3, ← hC, ← hb, e0, eY, eZ, wY, wZ]
      refine rest _ _ ⟨7, by decide, by decide, by decide, rfl, ?_⟩
      simp only [push_cast, Nat.reduceAdd, Nat.reduceSub, Nat.reduceMul, Nat.reduceLT, Nat.reduceLeDiff, Nat.reduceEqDiff, Nat.reduceMod, Nat.reduceDiv, Int.reduceAdd, Int.reduceSub, Int.reduceMul, Int.reduceLT, Int.reduceLE, Int.reduceEq, Int.reduceNeg, Int.reduceToNat, reduceIte, reduceCtorEq]
    · have e0 : (B0 == 0) = false := by rw [beq_eq_false_iff_ne]; exact h0
      simp only [push_cast, Nat.reduceAdd, Nat.reduceSub, Nat.reduceMul, Nat.reduceLT, Nat.reduceLeDiff, Nat.reduceEqDiff, Nat.reduceMod, Nat.reduceDiv, Int.reduceAdd, Int.reduceSub, Int.reduceMul, Int.reduceLT, Int.reduceLE, Int.reduceEq, Int.reduceNeg, Int.reduceToNat, reduceIte, reduceCtorEq, j1, j2, j3, l1, l2, l3, l4, q1, q2, q3, q4, ← hX, ← hN2, ← hN3, ← hC, ← hb, e0, eY, eZ, wY, wZ]
      refine rest _ _ ⟨B0, by omega, by omega, h0, rfl, ?_⟩
      simp only [push_cast, Nat.reduceAdd, Nat.reduceSub, Nat.reduceMul, Nat.reduceLT, Nat.reduceLeDiff, Nat.reduceEqDiff, Nat.reduceMod, Nat.reduceDiv, Int.reduceAdd, Int.reduceSub, Int.reduceMul, Int.reduceLT, Int.reduceLE, Int.reduceEq, Int.reduceNeg, Int.reduceToNat, reduceIte, reduceCtorEq]
  case rest =>
    rintro T H' ⟨B, b1, b2, b0, rfl, hT⟩
    refine loopO gZ_ok (pl := Try.pl7) Try.mix (X := Nat)
      (fun i => ([(1, .int .i64 n), (2, .int .i64 k), (7, .bool true), (8, .func (.func 27) #[] #[]), (9, .int .i64 A), (10, .int .i64 B), (11, .int .i64 X), (12, .int .i64 Y), (13, .int .i64 Z), (14, .int .i64 ((powN b i : Nat) : Int)), (15, .int .i64 i)], H'))
      (fun i => i ≤ C) (fun i => C - i) 0 ?_ ?_ (by kernel_rfl) ?_
    · exact Nat.zero_le _
    · refine ⟨?_, subH_self _, rfl⟩
      dsimp only
      rw [powN_zero]
      exact hT
    · intro i hi
      dsimp only at hi ⊢
      obtain ⟨q, hq⟩ : ∃ q, q = powN b i := ⟨_, rfl⟩
      rw [← hq]
      rcases Nat.lt_or_ge i C with hlt | hge
      · obtain ⟨q2, hq2⟩ : ∃ q2, q2 = powN b (i + 1) := ⟨_, rfl⟩
        have hqb := pow_small (b := b) (i := i + 1) (by omega) (by omega)
        rw [← powN_eq, ← hq2] at hqb
        have e1 : (q : Int) * (b : Int) = (q2 : Int) := by rw [hq2, hq, powN_eq, powN_eq, Nat.pow_succ]; exact (Int.natCast_mul _ _).symm
        simp only [push_cast, Nat.reduceAdd, Nat.reduceSub, Nat.reduceMul, Nat.reduceLT, Nat.reduceLeDiff, Nat.reduceEqDiff, Nat.reduceMod, Nat.reduceDiv, Int.reduceAdd, Int.reduceSub, Int.reduceMul, Int.reduceLT, Int.reduceLE, Int.reduceEq, Int.reduceNeg, Int.reduceToNat, reduceIte, reduceCtorEq, j2, j3, l3, l4, q3, q4, ← hC, ← hb, hlt, e1, wrap_i64' (show -9223372036854775808 ≤ (q2 : Int) ∧ (q2 : Int) ≤ 9223372036854775807 by omega), wrap_i64' (show -9223372036854775808 ≤ (i : Int) + 1 ∧ (i : Int) + 1 ≤ 9223372036854775807 by omega)]
        refine ⟨i + 1, hlt, by omega, ?_⟩
        rw [hq2]
        exact ⟨⟨rfl, rfl⟩, subH_self _⟩
      · obtain rfl : i = C := by omega
        have hqb := pow_small (b := b) (i := i) (by omega) (by omega)
        have cX : i64B (X : Int) = true := i64B_in ⟨by omega, by omega⟩
        have cY : i64B (Y : Int) = true := i64B_in ⟨by omega, by omega⟩
        have cZ : i64B (Z : Int) = true := i64B_in ⟨by omega, by omega⟩
        have cA : i64B A = true := i64B_in ⟨by omega, by omega⟩
        have cB : i64B B = true := i64B_in ⟨by omega, by omega⟩
        have cb : i64B (b : Int) = true := i64B_in ⟨by omega, by omega⟩
        have ci : i64B (i : Int) = true := i64B_in ⟨by omega, by omega⟩
        have hqb : q ≤ 995009990004999 := by rw [hq, powN_eq]; exact hqb
        have cq : i64B (q : Int) = true := i64B_in ⟨by omega, by omega⟩
        have s1 := sdiv_of (a := A) (b := B) ⟨by omega, by omega⟩ ⟨by omega, by omega⟩
        have s2 := smod_of (a := A) (b := B) ⟨by omega, by omega⟩ ⟨by omega, by omega⟩ b0
        have s3 := of_div (x := X) (y := Y) (by omega) (by omega)
        have s4 := of_mod (x := X) (y := Y) (by omega) (by omega) (by omega)
        have s5 := addmod_of (x := X) (y := Y) (n := Z) (by omega) (by omega) (by omega) (by omega)
        have s6 := mulmod_of (x := X) (y := Y) (n := Z) (by omega) (by omega) (by omega) (by omega)
        have s7 := exp_of (x := b) (y := i) (by omega) (by omega) (by rw [← powN_eq, ← hq]; omega)
        rw [← powN_eq, ← hq] at s7
        obtain ⟨D1, hD1⟩ : ∃ D, D = A.tdiv B := ⟨_, rfl⟩
        obtain ⟨D2, hD2⟩ : ∃ D, D = A.tmod B := ⟨_, rfl⟩
        obtain ⟨D3, hD3⟩ : ∃ D : Nat, D = X / Y := ⟨_, rfl⟩
        obtain ⟨D4, hD4⟩ : ∃ D : Nat, D = X % Y := ⟨_, rfl⟩
        obtain ⟨D5, hD5⟩ : ∃ D : Nat, D = (X + Y) % Z := ⟨_, rfl⟩
        obtain ⟨D6, hD6⟩ : ∃ D : Nat, D = X * Y % Z := ⟨_, rfl⟩
        obtain ⟨S, hS⟩ : ∃ S : Nat, S = X + Y := ⟨_, rfl⟩
        obtain ⟨M, hM⟩ : ∃ S : Nat, S = X * Y := ⟨_, rfl⟩
        rw [← hD1] at s1
        rw [← hD2] at s2
        rw [← hD3] at s3
        rw [← hD4] at s4
        rw [← hD5] at s5
        rw [← hD6] at s6
        have d1 : A.natAbs ≤ 1099511627776 := by omega
        have d2 : D1.natAbs ≤ 1099511627776 := by rw [hD1, Int.natAbs_tdiv]; exact Nat.le_trans (Nat.div_le_self _ _) d1
        have d3 : D2.natAbs ≤ 1099511627776 := by rw [hD2, Int.natAbs_tmod]; exact Nat.le_trans (Nat.mod_le _ _) d1
        have d4 : D3 ≤ X := by rw [hD3]; exact Nat.div_le_self _ _
        have d5 : D4 ≤ X := by rw [hD4]; exact Nat.mod_le _ _
        have d6 : D5 ≤ S := by rw [hD5, ← hS]; exact Nat.mod_le _ _
        have d7 : M ≤ 1099511627776 * 1048577 := by rw [hM]; exact Nat.mul_le_mul (by omega) (by omega)
        have d8 : D6 ≤ M := by rw [hD6, ← hM]; exact Nat.mod_le _ _
        have t3 : (X : Int).tdiv (Y : Int) = (D3 : Int) := by rw [hD3]; rfl
        have t4 : (X : Int).tmod (Y : Int) = (D4 : Int) := by rw [hD4]; rfl
        have t5 : (X : Int) + (Y : Int) = (S : Int) := by omega
        have t6 : (S : Int).tmod (Z : Int) = (D5 : Int) := by rw [hD5, ← hS]; rfl
        have t7 : (X : Int) * (Y : Int) = (M : Int) := by rw [hM]; exact (Int.natCast_mul _ _).symm
        have t8 : (M : Int).tmod (Z : Int) = (D6 : Int) := by rw [hD6, ← hM]; rfl
        have v1 := i64B_in (c := D1) ⟨by omega, by omega⟩
        have v2 := i64B_in (c := D2) ⟨by omega, by omega⟩
        have v3 := i64B_in (c := (D3 : Int)) ⟨by omega, by omega⟩
        have v4 := i64B_in (c := (D4 : Int)) ⟨by omega, by omega⟩
        have v5 := i64B_in (c := (D5 : Int)) ⟨by omega, by omega⟩
        have v6 := i64B_in (c := (D6 : Int)) ⟨by omega, by omega⟩
        have zY : ¬ (Y : Int) = 0 := by omega
        have zZ : ¬ (Z : Int) = 0 := by omega
        have zY' : ¬ Y = 0 := by omega
        have zZ' : ¬ Z = 0 := by omega
        simp only [push_cast, Nat.reduceAdd, Nat.reduceSub, Nat.reduceMul, Nat.reduceLT, Nat.reduceLeDiff, Nat.reduceEqDiff, Nat.reduceMod, Nat.reduceDiv, Int.reduceAdd, Int.reduceSub, Int.reduceMul, Int.reduceLT, Int.reduceLE, Int.reduceEq, Int.reduceNeg, Int.reduceToNat, reduceIte, reduceCtorEq, j2, j3, l3, l4, q3, q4, ← hC, ← hb, Nat.lt_irrefl, cX, cY, cZ, cA, cB, cb, ci, cq, s1, s2, s3, s4, s5, s6, s7, ← hD1, ← hD2, t3, t4, t5, t6, t7, t8, v1, v2, v3, v4, v5, v6, b0, zY, zZ, zY', zZ', wrap_i64' (show -9223372036854775808 ≤ D1 ∧ D1 ≤ 9223372036854775807 by omega), wrap_i64' (show -9223372036854775808 ≤ D2 ∧ D2 ≤ 9223372036854775807 by omega), wrap_i64' (show -9223372036854775808 ≤ (D3 : Int) ∧ (D3 : Int) ≤ 9223372036854775807 by omega), wrap_i64' (show -9223372036854775808 ≤ (D4 : Int) ∧ (D4 : Int) ≤ 9223372036854775807 by omega), wrap_i64' (show -9223372036854775808 ≤ (D5 : Int) ∧ (D5 : Int) ≤ 9223372036854775807 by omega), wrap_i64' (show -9223372036854775808 ≤ (D6 : Int) ∧ (D6 : Int) ≤ 9223372036854775807 by omega), wrap_i64' (show -9223372036854775808 ≤ (S : Int) ∧ (S : Int) ≤ 9223372036854775807 by omega), wrap_i64' (show -9223372036854775808 ≤ (M : Int) ∧ (M : Int) ≤ 9223372036854775807 by omega), decide_true]
end Go.Proofs.Ytbpnjkedflkabaa
