/- Dn: DividePowers. -/
import Derived.Test.YtbpnjkedflkabaaDk
set_option linter.unusedSimpArgs false
set_option linter.unusedVariables false
namespace Go.Ev
noncomputable def bit64 : Nat → Nat := hid fun r => 2 ^ r
theorem bit64_eq (r : Nat) : bit64 r = 2 ^ r := by unfold bit64; rw [hid_eq]
theorem bit64_lt {r : Nat} (h : r < 64) : bit64 r < 18446744073709551616 := by
  rw [bit64_eq]
  exact Nat.lt_of_lt_of_le (Nat.pow_lt_pow_right (by decide) h) (by decide)
theorem bit64_shl {r : Nat} (h : r < 64) : shlI .u64 1 (r : Int) = ((bit64 r : Nat) : Int) := by
  have hl := bit64_lt h
  unfold shlI
  rw [IntKind.wrap_u64]
  have e : min (r : Int).toNat IntKind.u64.bits = r := by
    show min r 64 = r
    omega
  rw [e, bit64_eq]
  rw [bit64_eq] at hl
  rw [Int.one_mul]
  have e2 : ((2 ^ r : Nat) : Int) = (2 : Int) ^ r := Int.natCast_pow 2 r
  rw [← e2]
  generalize 2 ^ r = z at *
  omega
theorem pow_add (a x y : W) (z : W) (h : z.num = x.num + y.num) : expW a z = mulW (expW a x) (expW a y) := by
  unfold expW mulW
  refine W.of_eq ?_
  rw [W.num_of, W.num_of, h, Nat.pow_add, Nat.mul_mod]
theorem one_num : (ofW 1).num = 1 := of_nat 1 (by decide)
theorem two_num : (ofW 2).num = 2 := of_nat 2 (by decide)
theorem pow_one (a : W) : expW (ofW 1) a = ofW 1 := by
  unfold expW
  rw [one_num, Nat.one_pow]
  exact of_of (n := 1) (by decide)
theorem pow_1 (a : W) : expW a (ofW 1) = a := by
  unfold expW
  rw [one_num, Nat.pow_one, W.of_num]
theorem pow_2 (a : W) : expW a (ofW 2) = mulW a a := by
  unfold expW mulW
  rw [two_num, Nat.pow_two]
theorem two_pow {x : Nat} (h : x < 400) : (expW (ofW 2) (ofW (x : Int))).num = 2 ^ x % 115792089237316195423570985008687907853269984665640564039457584007913129639936 := by
  unfold expW
  rw [two_num, of_nat x (by omega), W.num_of]
theorem two_great {x : Nat} (h : x < 400) (h2 : 256 ≤ x) : expW (ofW 2) (ofW (x : Int)) = W.zero := by
  refine W.num_inj ?_
  rw [two_pow h, show x = 256 + (x - 256) by omega, Nat.pow_add]
  show 115792089237316195423570985008687907853269984665640564039457584007913129639936 * _ % _ = 0
  exact Nat.mul_mod_right _ _
theorem two_small {x : Nat} (h2 : x < 256) : (expW (ofW 2) (ofW (x : Int))).num = 2 ^ (64 * (x / 64)) * bit64 (x % 64) := by
  rw [two_pow (by omega), bit64_eq, ← Nat.pow_add, show 64 * (x / 64) + x % 64 = x by omega]
  exact Nat.mod_eq_of_lt (Nat.lt_of_lt_of_le (Nat.pow_lt_pow_right (by decide) h2) (by decide))
end Go.Ev
namespace Go.Proofs.Ytbpnjkedflkabaa
open Go Go.Ev Go.Proofs
set_option maxRecDepth 100000
set_option maxHeartbeats 4000000
def plP : Plans := fun i => if i = 6 then [(0, 9)] else if i = 7 then [(0, 9)] else if i = 8 then [(0, 9)] else if i = 9 then [(0, 9)] else Try.pl6 i
attribute [push_cast] plP
theorem dividePowers0 (a : W) (m n : Int) (i1 : i64In m) (i2 : i64In n) : CallsV Try.prog 6 [a.v, .int .i64 m, .int .i64 n] [] (Ret0 (.bool true)) := by
  have p1 := pickN_lt m (n := 400) (by decide)
  have p2 := pickN_lt n (n := 400) (by decide)
  have l1 : i64B 400 = true := i64B_in (by decide)
  have l2 : i64B 1 = true := i64B_in (by decide)
  have l3 : i64B 2 = true := i64B_in (by decide)
  have q1 : posB 400 = true := posB_in (by decide)
  have j1 := i64B_in i1
  have j2 := i64B_in i2
  obtain ⟨X, hX⟩ : ∃ X, X = pickN m 400 := ⟨_, rfl⟩
  obtain ⟨Y, hY⟩ : ∃ X, X = pickN n 400 := ⟨_, rfl⟩
  rw [← hX] at p1
  rw [← hY] at p2
  obtain ⟨S, hS⟩ : ∃ S, S = X + Y := ⟨_, rfl⟩
  have eS : (X : Int) + (Y : Int) = (S : Int) := by omega
  have wX : i64B (X : Int) = true := i64B_in ⟨by omega, by omega⟩
  have wY : i64B (Y : Int) = true := i64B_in ⟨by omega, by omega⟩
  have wS : i64B (S : Int) = true := i64B_in ⟨by omega, by omega⟩
  have f1 := pow_add a (ofW X) (ofW Y) (ofW S) (by rw [of_nat X (by omega), of_nat Y (by omega), of_nat S (by omega)]; exact hS)
  have f2 := pow_one a
  have f3 := pow_1 a
  have f4 := pow_2 (expW a (ofW X))
  have sS := wrap_i64' (show -9223372036854775808 ≤ (S : Int) ∧ (S : Int) ≤ 9223372036854775807 by omega)
  refine callsO gQ_ok Try.mix plP Try.func6 rfl Try.ntmps6 Try.results6 rfl (by first | rfl | assumption) (Nat.le_of_ble_eq_true rfl) (by kernel_rfl) ?_
  simp only [push_cast, Nat.reduceAdd, Nat.reduceSub, Nat.reduceMul, Nat.reduceLT, Nat.reduceLeDiff, Nat.reduceEqDiff, Nat.reduceMod, Nat.reduceDiv, Int.reduceAdd, Int.reduceSub, Int.reduceMul, Int.reduceLT, Int.reduceLE, Int.reduceEq, Int.reduceNeg, Int.reduceToNat, reduceIte, reduceCtorEq, j1, j2, l1, q1, ← hX, ← hY, wX, wY]
  intro b3 b10 hb10
  simp only [push_cast, Nat.reduceAdd, Nat.reduceSub, Nat.reduceMul, Nat.reduceLT, Nat.reduceLeDiff, Nat.reduceEqDiff, Nat.reduceMod, Nat.reduceDiv, Int.reduceAdd, Int.reduceSub, Int.reduceMul, Int.reduceLT, Int.reduceLE, Int.reduceEq, Int.reduceNeg, Int.reduceToNat, reduceIte, reduceCtorEq, j1, j2, l1, q1, ← hX, ← hY, wX, wY, hb10]
  intro b11 hb11
  simp only [push_cast, Nat.reduceAdd, Nat.reduceSub, Nat.reduceMul, Nat.reduceLT, Nat.reduceLeDiff, Nat.reduceEqDiff, Nat.reduceMod, Nat.reduceDiv, Int.reduceAdd, Int.reduceSub, Int.reduceMul, Int.reduceLT, Int.reduceLE, Int.reduceEq, Int.reduceNeg, Int.reduceToNat, reduceIte, reduceCtorEq, j1, j2, l1, q1, ← hX, ← hY, wX, wY, hb10, hb11]
  refine regO gQ_ok ?_
  simp only [push_cast, Nat.reduceAdd, Nat.reduceSub, Nat.reduceMul, Nat.reduceLT, Nat.reduceLeDiff, Nat.reduceEqDiff, Nat.reduceMod, Nat.reduceDiv, Int.reduceAdd, Int.reduceSub, Int.reduceMul, Int.reduceLT, Int.reduceLE, Int.reduceEq, Int.reduceNeg, Int.reduceToNat, reduceIte, reduceCtorEq, wX, wY, hb10, hb11, l3]
  intro b12 hb12
  refine regO gQ_ok ?_
  simp only [push_cast, Nat.reduceAdd, Nat.reduceSub, Nat.reduceMul, Nat.reduceLT, Nat.reduceLeDiff, Nat.reduceEqDiff, Nat.reduceMod, Nat.reduceDiv, Int.reduceAdd, Int.reduceSub, Int.reduceMul, Int.reduceLT, Int.reduceLE, Int.reduceEq, Int.reduceNeg, Int.reduceToNat, reduceIte, reduceCtorEq, wX, wY, hb10, hb11, hb12, l3]
  intro b13 hb13
  refine regO gQ_ok ?_
  rcases Nat.lt_or_ge X 256 with hlt | hge
  · have x1 : (X : Int) < 256 := by omega
    obtain ⟨r, hr⟩ : ∃ r, r = X % 64 := ⟨_, rfl⟩
    have er : (X : Int).tmod 64 = (r : Int) := by rw [hr]; rfl
    have rl : r < 64 := by omega
    have es := bit64_shl rl
    have bl := bit64_lt rl
    have h2 := two_small hlt
    rw [← hr] at h2
    obtain ⟨p, hp⟩ : ∃ p, p = X / 64 := ⟨_, rfl⟩
    have ep : (X : Int).tdiv 64 = (p : Int) := by rw [hp]; rfl
    rw [← hp] at h2
    generalize bit64 r = B at *
    generalize expW (ofW 2) (ofW (X : Int)) = R at *
    have r0 : ¬ (r : Int) < 0 := by omega
    obtain rfl | rfl | rfl | rfl : p = 0 ∨ p = 1 ∨ p = 2 ∨ p = 3 := by omega
    · have e : R = ⟨B, 0, 0, 0, bl, by decide, by decide, by decide⟩ := W.num_inj (by rw [h2]; show _ = B + 18446744073709551616 * (0 + 18446744073709551616 * (0 + 18446744073709551616 * 0)); simp only [Nat.reduceMul, Nat.reducePow]; omega)
      have hc : [Value.int .u64 (B : Nat), .int .u64 (0 : Nat), .int .u64 (0 : Nat), .int .u64 (0 : Nat)] = R.cells := by rw [e]; rfl
      have hc' : [Value.int .u64 ((B : Nat) : Int), Value.int .u64 0, Value.int .u64 0, Value.int .u64 0] = R.cells := hc
      have ep' : (X : Int).tdiv 64 = 0 := ep
      clear e hc ep
      simp only [push_cast, Nat.reduceAdd, Nat.reduceSub, Nat.reduceMul, Nat.reduceLT, Nat.reduceLeDiff, Nat.reduceEqDiff, Nat.reduceMod, Nat.reduceDiv, Int.reduceAdd, Int.reduceSub, Int.reduceMul, Int.reduceLT, Int.reduceLE, Int.reduceEq, Int.reduceNeg, Int.reduceToNat, reduceIte, reduceCtorEq, x1]
      refine regO gQ_ok ?_
      generalize hK : (thenK _ _ : Exit → Tm → Hp → Prop) = K0
      simp only [push_cast, Nat.reduceAdd, Nat.reduceSub, Nat.reduceMul, Nat.reduceLT, Nat.reduceLeDiff, Nat.reduceEqDiff, Nat.reduceMod, Nat.reduceDiv, Int.reduceAdd, Int.reduceSub, Int.reduceMul, Int.reduceLT, Int.reduceLE, Int.reduceEq, Int.reduceNeg, Int.reduceToNat, reduceIte, reduceCtorEq, er, ep', es, r0, hb10, hb11, hb12, hb13]
      change K0 _ _ [⟨b13, 0, .cel 24, [Value.int .u64 ((B : Nat) : Int), Value.int .u64 0, Value.int .u64 0, Value.int .u64 0]⟩, _, _, _, _]
      rw [hc', ← hK]
      simp only [push_cast, Nat.reduceAdd, Nat.reduceSub, Nat.reduceMul, Nat.reduceLT, Nat.reduceLeDiff, Nat.reduceEqDiff, Nat.reduceMod, Nat.reduceDiv, Int.reduceAdd, Int.reduceSub, Int.reduceMul, Int.reduceLT, Int.reduceLE, Int.reduceEq, Int.reduceNeg, Int.reduceToNat, reduceIte, reduceCtorEq, wX, wY, wS, hb10, hb11, hb12, hb13, l2, l3, eS, sS, f1, f2, f3, f4]
    · have e : R = ⟨0, B, 0, 0, by decide, bl, by decide, by decide⟩ := W.num_inj (by rw [h2]; show _ = 0 + 18446744073709551616 * (B + 18446744073709551616 * (0 + 18446744073709551616 * 0)); simp only [Nat.reduceMul, Nat.reducePow]; omega)
      have hc : [Value.int .u64 (0 : Nat), .int .u64 (B : Nat), .int .u64 (0 : Nat), .int .u64 (0 : Nat)] = R.cells := by rw [e]; rfl
      have hc' : [Value.int .u64 0, Value.int .u64 ((B : Nat) : Int), Value.int .u64 0, Value.int .u64 0] = R.cells := hc
      have ep' : (X : Int).tdiv 64 = 1 := ep
      clear e hc ep
      simp only [push_cast, Nat.reduceAdd, Nat.reduceSub, Nat.reduceMul, Nat.reduceLT, Nat.reduceLeDiff, Nat.reduceEqDiff, Nat.reduceMod, Nat.reduceDiv, Int.reduceAdd, Int.reduceSub, Int.reduceMul, Int.reduceLT, Int.reduceLE, Int.reduceEq, Int.reduceNeg, Int.reduceToNat, reduceIte, reduceCtorEq, x1]
      refine regO gQ_ok ?_
      generalize hK : (thenK _ _ : Exit → Tm → Hp → Prop) = K0
      simp only [push_cast, Nat.reduceAdd, Nat.reduceSub, Nat.reduceMul, Nat.reduceLT, Nat.reduceLeDiff, Nat.reduceEqDiff, Nat.reduceMod, Nat.reduceDiv, Int.reduceAdd, Int.reduceSub, Int.reduceMul, Int.reduceLT, Int.reduceLE, Int.reduceEq, Int.reduceNeg, Int.reduceToNat, reduceIte, reduceCtorEq, er, ep', es, r0, hb10, hb11, hb12, hb13]
      change K0 _ _ [⟨b13, 0, .cel 24, [Value.int .u64 0, Value.int .u64 ((B : Nat) : Int), Value.int .u64 0, Value.int .u64 0]⟩, _, _, _, _]
      rw [hc', ← hK]
      simp only [push_cast, Nat.reduceAdd, Nat.reduceSub, Nat.reduceMul, Nat.reduceLT, Nat.reduceLeDiff, Nat.reduceEqDiff, Nat.reduceMod, Nat.reduceDiv, Int.reduceAdd, Int.reduceSub, Int.reduceMul, Int.reduceLT, Int.reduceLE, Int.reduceEq, Int.reduceNeg, Int.reduceToNat, reduceIte, reduceCtorEq, wX, wY, wS, hb10, hb11, hb12, hb13, l2, l3, eS, sS, f1, f2, f3, f4]
    · have e : R = ⟨0, 0, B, 0, by decide, by decide, bl, by decide⟩ := W.num_inj (by rw [h2]; show _ = 0 + 18446744073709551616 * (0 + 18446744073709551616 * (B + 18446744073709551616 * 0)); simp only [Nat.reduceMul, Nat.reducePow]; omega)
      have hc : [Value.int .u64 (0 : Nat), .int .u64 (0 : Nat), .int .u64 (B : Nat), .int .u64 (0 : Nat)] = R.cells := by rw [e]; rfl
      have hc' : [Value.int .u64 0, Value.int .u64 0, Value.int .u64 ((B : Nat) : Int), Value.int .u64 0] = R.cells := hc
      have ep' : (X : Int).tdiv 64 = 2 := ep
      clear e hc ep
      simp only [push_cast, Nat.reduceAdd, Nat.reduceSub, Nat.reduceMul, Nat.reduceLT, Nat.reduceLeDiff, Nat.reduceEqDiff, Nat.reduceMod, Nat.reduceDiv, Int.reduceAdd, Int.reduceSub, Int.reduceMul, Int.reduceLT, Int.reduceLE, Int.reduceEq, Int.reduceNeg, Int.reduceToNat, reduceIte, reduceCtorEq, x1]
      refine regO gQ_ok ?_
      generalize hK : (thenK _ _ : Exit → Tm → Hp → Prop) = K0
      simp only [push_cast, Nat.reduceAdd, Nat.reduceSub, Nat.reduceMul, Nat.reduceLT, Nat.reduceLeDiff, Nat.reduceEqDiff, Nat.reduceMod, Nat.reduceDiv, Int.reduceAdd, Int.reduceSub, Int.reduceMul, Int.reduceLT, Int.reduceLE, Int.reduceEq, Int.reduceNeg, Int.reduceToNat, reduceIte, reduceCtorEq, er, ep', es, r0, hb10, hb11, hb12, hb13]
      change K0 _ _ [⟨b13, 0, .cel 24, [Value.int .u64 0, Value.int .u64 0, Value.int .u64 ((B : Nat) : Int), Value.int .u64 0]⟩, _, _, _, _]
      rw [hc', ← hK]
      simp only [push_cast, Nat.reduceAdd, Nat.reduceSub, Nat.reduceMul, Nat.reduceLT, Nat.reduceLeDiff, Nat.reduceEqDiff, Nat.reduceMod, Nat.reduceDiv, Int.reduceAdd, Int.reduceSub, Int.reduceMul, Int.reduceLT, Int.reduceLE, Int.reduceEq, Int.reduceNeg, Int.reduceToNat, reduceIte, reduceCtorEq, wX, wY, wS, hb10, hb11, hb12, hb13, l2, l3, eS, sS, f1, f2, f3, f4]
    · have e : R = ⟨0, 0, 0, B, by decide, by decide, by decide, bl⟩ := W.num_inj (by rw [h2]; show _ = 0 + 18446744073709551616 * (0 + 18446744073709551616 * (0 + 18446744073709551616 * B)); simp only [Nat.reduceMul, Nat.reducePow]; omega)
      have hc : [Value.int .u64 (0 : Nat), .int .u64 (0 : Nat), .int .u64 (0 : Nat), .int .u64 (B : Nat)] = R.cells := by rw [e]; rfl
      have hc' : [Value.int .u64 0, Value.int .u64 0, Value.int .u64 0, Value.int .u64 ((B : Nat) : Int)] = R.cells := hc
      have ep' : (X : Int).tdiv 64 = 3 := ep
      clear e hc ep
      simp only [push_cast, Nat.reduceAdd, Nat.reduceSub, Nat.reduceMul, Nat.reduceLT, Nat.reduceLeDiff, Nat.reduceEqDiff, Nat.reduceMod, Nat.reduceDiv, Int.reduceAdd, Int.reduceSub, Int.reduceMul, Int.reduceLT, Int.reduceLE, Int.reduceEq, Int.reduceNeg, Int.reduceToNat, reduceIte, reduceCtorEq, x1]
      refine regO gQ_ok ?_
      generalize hK : (thenK _ _ : Exit → Tm → Hp → Prop) = K0
      simp only [push_cast, Nat.reduceAdd, Nat.reduceSub, Nat.reduceMul, Nat.reduceLT, Nat.reduceLeDiff, Nat.reduceEqDiff, Nat.reduceMod, Nat.reduceDiv, Int.reduceAdd, Int.reduceSub, Int.reduceMul, Int.reduceLT, Int.reduceLE, Int.reduceEq, Int.reduceNeg, Int.reduceToNat, reduceIte, reduceCtorEq, er, ep', es, r0, hb10, hb11, hb12, hb13]
      change K0 _ _ [⟨b13, 0, .cel 24, [Value.int .u64 0, Value.int .u64 0, Value.int .u64 0, Value.int .u64 ((B : Nat) : Int)]⟩, _, _, _, _]
      rw [hc', ← hK]
      simp only [push_cast, Nat.reduceAdd, Nat.reduceSub, Nat.reduceMul, Nat.reduceLT, Nat.reduceLeDiff, Nat.reduceEqDiff, Nat.reduceMod, Nat.reduceDiv, Int.reduceAdd, Int.reduceSub, Int.reduceMul, Int.reduceLT, Int.reduceLE, Int.reduceEq, Int.reduceNeg, Int.reduceToNat, reduceIte, reduceCtorEq, wX, wY, wS, hb10, hb11, hb12, hb13, l2, l3, eS, sS, f1, f2, f3, f4]
  · have x1 : ¬ (X : Int) < 256 := by omega
    have h2 := two_great (by omega : X < 400) hge
    simp only [push_cast, Nat.reduceAdd, Nat.reduceSub, Nat.reduceMul, Nat.reduceLT, Nat.reduceLeDiff, Nat.reduceEqDiff, Nat.reduceMod, Nat.reduceDiv, Int.reduceAdd, Int.reduceSub, Int.reduceMul, Int.reduceLT, Int.reduceLE, Int.reduceEq, Int.reduceNeg, Int.reduceToNat, reduceIte, reduceCtorEq, x1, wX, wY, wS, hb10, hb11, hb12, hb13, l2, l3, eS, sS, f1, f2, f3, f4, h2, W.zero_agg]

theorem dividePowers_ok {H : Hp} {a : W} {m n : Int} (hm : marksOf H = []) (i1 : i64In m) (i2 : i64In n) : CallsV Try.prog 6 [a.v, .int .i64 m, .int .i64 n] H (Ret0 (.bool true)) := (dividePowers0 a m n i1 i2).onto hm
end Go.Proofs.Ytbpnjkedflkabaa
