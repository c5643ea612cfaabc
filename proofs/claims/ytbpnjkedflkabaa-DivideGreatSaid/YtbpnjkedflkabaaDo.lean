/- Do: DivideGreat. -/
import Derived.Test.YtbpnjkedflkabaaDl
set_option linter.unusedSimpArgs false
set_option linter.unusedVariables false
namespace Go.Ev
def half (a b : Nat) (ha : a < 18446744073709551616) (hb : b < 18446744073709551616) : W := ⟨a, b, 0, 0, ha, hb, by decide, by decide⟩
theorem half_lt (a b : Nat) (ha : a < 18446744073709551616) (hb : b < 18446744073709551616) : (half a b ha hb).num < 340282366920938463463374607431768211456 := by
  show a + 18446744073709551616 * (b + 18446744073709551616 * (0 + 18446744073709551616 * 0)) < _
  omega
section
variable {x y z : W} (hx : x.num < 340282366920938463463374607431768211456) (hy : y.num < 340282366920938463463374607431768211456) (h0 : ¬ y = W.zero)
include hx hy in
theorem great_p : (mulW x y).num = x.num * y.num := by
  unfold mulW
  rw [W.num_small]
  have := Nat.mul_le_mul (Nat.le_of_lt_succ hx : _ ≤ 340282366920938463463374607431768211455) (Nat.le_of_lt_succ hy : _ ≤ 340282366920938463463374607431768211455)
  omega
include hx hy h0 in
theorem great_s : (addW (mulW x y) (modW z y)).num = x.num * y.num + z.num % y.num := by
  unfold addW
  rw [great_p hx hy, mod_num h0, W.num_small]
  have := Nat.mul_le_mul (Nat.le_of_lt_succ hx : _ ≤ 340282366920938463463374607431768211455) (Nat.le_of_lt_succ hy : _ ≤ 340282366920938463463374607431768211455)
  have := Nat.mod_lt z.num (W.pos h0)
  omega
include hx hy h0
theorem great1 : divW (mulW x y) y = x := W.num_inj (by rw [div_num, great_p hx hy, Nat.mul_div_cancel _ (W.pos h0)])
theorem great2 : modW (mulW x y) y = W.zero := W.num_inj (by rw [mod_num h0, great_p hx hy, Nat.mul_mod_left]; rfl)
theorem great3 (z : W) : decide ((addW (mulW x y) (modW z y)).cmp (mulW x y) < 0) = false := by
  rw [decide_eq_false_iff_not, W.cmp_neg, great_s hx hy h0, great_p hx hy]
  omega
theorem great4 (z : W) : divW (addW (mulW x y) (modW z y)) y = x := W.num_inj (by
  rw [div_num, great_s hx hy h0, Nat.add_comm, Nat.add_mul_div_right _ _ (W.pos h0), Nat.div_eq_of_lt (Nat.mod_lt _ (W.pos h0)), Nat.zero_add])
theorem great5 (z : W) : modW (addW (mulW x y) (modW z y)) y = modW z y := W.num_inj (by
  rw [mod_num h0, great_s hx hy h0, mod_num h0, Nat.add_comm, Nat.add_mul_mod_self_right, Nat.mod_mod])
end
theorem great6 (x : W) {y : W} (h0 : ¬ y = W.zero) : mulmodW x y y = W.zero := by
  unfold mulmodW
  rw [if_neg h0, Nat.mul_mod_left, W.of_zero]
end Go.Ev
namespace Go.Proofs.Ytbpnjkedflkabaa
open Go Go.Ev Go.Proofs
set_option maxRecDepth 100000
set_option maxHeartbeats 4000000
def plG : Plans := fun i => if i = 2 then [(0, 9)] else if i = 3 then [(0, 9)] else if i = 4 then [(0, 9)] else if i = 5 then [(0, 9)] else if i = 6 then [(0, 9)] else if i = 9 then [(0, 9)] else if i = 10 then [(0, 9)] else if i = 11 then [(0, 9)] else Try.pl8 i
attribute [push_cast] plG
theorem divideGreat0 (a0 a1 b0 b1 c0 c1 : Nat) (ha0 : a0 < 18446744073709551616) (ha1 : a1 < 18446744073709551616) (hb0 : b0 < 18446744073709551616) (hb1 : b1 < 18446744073709551616) (hc0 : c0 < 18446744073709551616) (hc1 : c1 < 18446744073709551616) :
    CallsV Try.prog 8 [.agg #[.int .u64 (a0 : Nat), .int .u64 (a1 : Nat)], .agg #[.int .u64 (b0 : Nat), .int .u64 (b1 : Nat)], .agg #[.int .u64 (c0 : Nat), .int .u64 (c1 : Nat)]] [] (Ret0 (.bool true)) := by
  obtain ⟨x, hx⟩ : ∃ x, x = half a0 a1 ha0 ha1 := ⟨_, rfl⟩
  obtain ⟨y, hy⟩ : ∃ x, x = half b0 b1 hb0 hb1 := ⟨_, rfl⟩
  obtain ⟨z, hz⟩ : ∃ x, x = half c0 c1 hc0 hc1 := ⟨_, rfl⟩
  have ex : Value.agg #[.int .u64 (a0 : Nat), .int .u64 (a1 : Nat), .int .u64 0, .int .u64 0] = x.v := by rw [hx]; rfl
  have ey : Value.agg #[.int .u64 (b0 : Nat), .int .u64 (b1 : Nat), .int .u64 0, .int .u64 0] = y.v := by rw [hy]; rfl
  have ez : Value.agg #[.int .u64 (c0 : Nat), .int .u64 (c1 : Nat), .int .u64 0, .int .u64 0] = z.v := by rw [hz]; rfl
  have lx : x.num < 340282366920938463463374607431768211456 := by rw [hx]; exact half_lt _ _ _ _
  have ly : y.num < 340282366920938463463374607431768211456 := by rw [hy]; exact half_lt _ _ _ _
  clear hx hy hz
  refine callsO gQ_ok Try.mix plG Try.func8 rfl Try.ntmps8 Try.results8 rfl (by first | rfl | assumption) (Nat.le_of_ble_eq_true rfl) (by kernel_rfl) ?_
  simp only [push_cast, Nat.reduceAdd, Nat.reduceSub, Nat.reduceMul, Nat.reduceLT, Nat.reduceLeDiff, Nat.reduceEqDiff, Nat.reduceMod, Nat.reduceDiv, Int.reduceAdd, Int.reduceSub, Int.reduceMul, Int.reduceLT, Int.reduceLE, Int.reduceEq, Int.reduceNeg, Int.reduceToNat, reduceIte, reduceCtorEq]
  intro b3 b4 hb4 b5 hb5
  refine regO gQ_ok ?_
  simp only [push_cast, Nat.reduceAdd, Nat.reduceSub, Nat.reduceMul, Nat.reduceLT, Nat.reduceLeDiff, Nat.reduceEqDiff, Nat.reduceMod, Nat.reduceDiv, Int.reduceAdd, Int.reduceSub, Int.reduceMul, Int.reduceLT, Int.reduceLE, Int.reduceEq, Int.reduceNeg, Int.reduceToNat, reduceIte, reduceCtorEq, hb4, hb5, ex]
  intro b8 hb8
  refine regO gQ_ok ?_
  simp only [push_cast, Nat.reduceAdd, Nat.reduceSub, Nat.reduceMul, Nat.reduceLT, Nat.reduceLeDiff, Nat.reduceEqDiff, Nat.reduceMod, Nat.reduceDiv, Int.reduceAdd, Int.reduceSub, Int.reduceMul, Int.reduceLT, Int.reduceLE, Int.reduceEq, Int.reduceNeg, Int.reduceToNat, reduceIte, reduceCtorEq, hb4, hb5, hb8, ey]
  intro b9 hb9
  refine regO gQ_ok ?_
  simp only [push_cast, Nat.reduceAdd, Nat.reduceSub, Nat.reduceMul, Nat.reduceLT, Nat.reduceLeDiff, Nat.reduceEqDiff, Nat.reduceMod, Nat.reduceDiv, Int.reduceAdd, Int.reduceSub, Int.reduceMul, Int.reduceLT, Int.reduceLE, Int.reduceEq, Int.reduceNeg, Int.reduceToNat, reduceIte, reduceCtorEq, hb4, hb5, hb8, hb9, ez]
  intro b10 hb10
  refine regO gQ_ok ?_
  simp only [push_cast, Nat.reduceAdd, Nat.reduceSub, Nat.reduceMul, Nat.reduceLT, Nat.reduceLeDiff, Nat.reduceEqDiff, Nat.reduceMod, Nat.reduceDiv, Int.reduceAdd, Int.reduceSub, Int.reduceMul, Int.reduceLT, Int.reduceLE, Int.reduceEq, Int.reduceNeg, Int.reduceToNat, reduceIte, reduceCtorEq, hb4, hb5, hb8, hb9, hb10]
  intro b11 hb11
  refine regO gQ_ok ?_
  by_cases h : y = W.zero
  · rw [h]
    simp only [push_cast, Nat.reduceAdd, Nat.reduceSub, Nat.reduceMul, Nat.reduceLT, Nat.reduceLeDiff, Nat.reduceEqDiff, Nat.reduceMod, Nat.reduceDiv, Int.reduceAdd, Int.reduceSub, Int.reduceMul, Int.reduceLT, Int.reduceLE, Int.reduceEq, Int.reduceNeg, Int.reduceToNat, reduceIte, reduceCtorEq, hb4, hb5, hb8, hb9, hb10, hb11, W.zero_agg, div_zero]
    done
  · have e1 : decide (y = W.zero) = false := decide_eq_false h
    have g1 := great1 lx ly h
    have g2 := great2 lx ly h
    have g3 := great3 lx ly h z
    have g4 := great4 lx ly h z
    have g5 := great5 lx ly h z
    have g6 := great6 x h
    simp only [push_cast, Nat.reduceAdd, Nat.reduceSub, Nat.reduceMul, Nat.reduceLT, Nat.reduceLeDiff, Nat.reduceEqDiff, Nat.reduceMod, Nat.reduceDiv, Int.reduceAdd, Int.reduceSub, Int.reduceMul, Int.reduceLT, Int.reduceLE, Int.reduceEq, Int.reduceNeg, Int.reduceToNat, reduceIte, reduceCtorEq, hb4, hb5, hb8, hb9, hb10, hb11, W.zero_agg, e1]
    intro b12 hb12
    refine regO gQ_ok ?_
    simp only [push_cast, Nat.reduceAdd, Nat.reduceSub, Nat.reduceMul, Nat.reduceLT, Nat.reduceLeDiff, Nat.reduceEqDiff, Nat.reduceMod, Nat.reduceDiv, Int.reduceAdd, Int.reduceSub, Int.reduceMul, Int.reduceLT, Int.reduceLE, Int.reduceEq, Int.reduceNeg, Int.reduceToNat, reduceIte, reduceCtorEq, hb4, hb5, hb8, hb9, hb10, hb11, hb12]
    intro b13 hb13
    refine regO gQ_ok ?_
    simp only [push_cast, Nat.reduceAdd, Nat.reduceSub, Nat.reduceMul, Nat.reduceLT, Nat.reduceLeDiff, Nat.reduceEqDiff, Nat.reduceMod, Nat.reduceDiv, Int.reduceAdd, Int.reduceSub, Int.reduceMul, Int.reduceLT, Int.reduceLE, Int.reduceEq, Int.reduceNeg, Int.reduceToNat, reduceIte, reduceCtorEq, hb4, hb5, hb8, hb9, hb10, hb11, hb12, hb13]
    intro b14 hb14
    refine regO gQ_ok ?_
    simp only [push_cast, Nat.reduceAdd, Nat.reduceSub, Nat.reduceMul, Nat.reduceLT, Nat.reduceLeDiff, Nat.reduceEqDiff, Nat.reduceMod, Nat.reduceDiv, Int.reduceAdd, Int.reduceSub, Int.reduceMul, Int.reduceLT, Int.reduceLE, Int.reduceEq, Int.reduceNeg, Int.reduceToNat, reduceIte, reduceCtorEq, hb4, hb5, hb8, hb9, hb10, hb11, hb12, hb13, hb14, W.zero_agg, g1, g2, g3, g4, g5, g6]
    done
theorem divideGreat_ok {H : Hp} {a0 a1 b0 b1 c0 c1 : Nat} (hm : marksOf H = []) (ha : a0 < 18446744073709551616 ∧ a1 < 18446744073709551616) (hb : b0 < 18446744073709551616 ∧ b1 < 18446744073709551616) (hc : c0 < 18446744073709551616 ∧ c1 < 18446744073709551616) :
    CallsV Try.prog 8 [.agg #[.int .u64 (a0 : Nat), .int .u64 (a1 : Nat)], .agg #[.int .u64 (b0 : Nat), .int .u64 (b1 : Nat)], .agg #[.int .u64 (c0 : Nat), .int .u64 (c1 : Nat)]] H (Ret0 (.bool true)) := (divideGreat0 a0 a1 b0 b1 c0 c1 ha.1 ha.2 hb.1 hb.2 hc.1 hc.2).onto hm
end Go.Proofs.Ytbpnjkedflkabaa
