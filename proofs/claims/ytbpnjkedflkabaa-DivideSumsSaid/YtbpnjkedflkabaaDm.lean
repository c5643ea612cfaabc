/- Dm: DivideSums. -/
import Derived.Test.YtbpnjkedflkabaaDk
set_option linter.unusedSimpArgs false
set_option linter.unusedVariables false
namespace Go.Ev
def lowW (w : W) : W := ⟨w.a, w.b, 0, 0, w.ha, w.hb, by decide, by decide⟩
theorem low_agg (w : W) : Value.agg #[.int .u64 (w.a : Nat), .int .u64 (w.b : Nat), .int .u64 0, .int .u64 0] = (lowW w).v := rfl
theorem low_cells (w : W) : [Value.int .u64 (w.a : Nat), .int .u64 (w.b : Nat), .int .u64 0, .int .u64 0] = (lowW w).cells := rfl
theorem low_lt (w : W) : (lowW w).num < 340282366920938463463374607431768211456 := by
  have := w.ha; have := w.hb
  show w.a + 18446744073709551616 * (w.b + 18446744073709551616 * (0 + 18446744073709551616 * 0)) < _
  omega
theorem sums1 (a b n : W) : addmodW b a n = addmodW a b n := by unfold addmodW; rw [Nat.add_comm]
theorem sums2 (a b n : W) : mulmodW b a n = mulmodW a b n := by unfold mulmodW; rw [Nat.mul_comm]
theorem sums3 {x y : W} (n : W) (hx : x.num < 340282366920938463463374607431768211456) (hy : y.num < 340282366920938463463374607431768211456) : modW (addW x y) n = addmodW x y n := by
  unfold modW addmodW addW
  rw [W.num_small (by omega)]
theorem sums4 {x y : W} (n : W) (hx : x.num < 340282366920938463463374607431768211456) (hy : y.num < 340282366920938463463374607431768211456) : modW (mulW x y) n = mulmodW x y n := by
  unfold modW mulmodW mulW
  rw [W.num_small]
  have := Nat.mul_le_mul (Nat.le_of_lt_succ hx : _ ≤ 340282366920938463463374607431768211455) (Nat.le_of_lt_succ hy : _ ≤ 340282366920938463463374607431768211455)
  omega
theorem mod_mod {x : Nat} {n : W} (h : ¬ n = W.zero) : modW (W.of (x % n.num)) n = W.of (x % n.num) := by
  have hl : x % n.num < n.num := Nat.mod_lt _ (W.pos h)
  have := n.num_lt
  refine W.num_inj ?_
  rw [mod_num h, W.num_small (by omega), Nat.mod_mod]
theorem sums5 (a b n : W) : modW (addmodW a b n) n = addmodW a b n := by
  unfold addmodW
  split
  · rename_i h; rw [h, modW, if_pos rfl]
  · rename_i h; exact mod_mod h
theorem sums6 (a b n : W) : modW (mulmodW a b n) n = mulmodW a b n := by
  unfold mulmodW
  split
  · rename_i h; rw [h, modW, if_pos rfl]
  · rename_i h; exact mod_mod h
theorem sums7 (a n : W) : mulmodW a (ofW 1) n = modW a n := by
  unfold mulmodW modW
  have h : (ofW 1).num = 1 := of_nat 1 (by decide)
  rw [h, Nat.mul_one]
theorem sums8 (a n : W) : addmodW a W.zero n = modW a n := by
  unfold addmodW modW
  rw [show W.zero.num = 0 from rfl, Nat.add_zero]
theorem sums9 (a b n : W) : mulmodW (modW a n) (modW b n) n = mulmodW a b n := by
  by_cases h : n = W.zero
  · unfold mulmodW; rw [if_pos h, if_pos h]
  · unfold mulmodW
    rw [if_neg h, if_neg h, mod_num h, mod_num h, ← Nat.mul_mod]
end Go.Ev
namespace Go.Proofs.Ytbpnjkedflkabaa
open Go Go.Ev Go.Proofs
set_option maxRecDepth 100000
set_option maxHeartbeats 4000000
def plS : Plans := fun i => if i = 2 then [(0, 9)] else if i = 3 then [(0, 9)] else if i = 4 then [(0, 9)] else if i = 5 then [(0, 9)] else if i = 6 then [(0, 9)] else Try.pl5 i
attribute [push_cast] plS
theorem divideSums0 (a b n : W) : CallsV Try.prog 5 [a.v, b.v, n.v] [] (Ret0 (.bool true)) := by
  have g1 := sums1 a b n
  have g2 := sums2 a b n
  have g3 := sums3 n (low_lt a) (low_lt b)
  have g4 := sums4 n (low_lt a) (low_lt b)
  have g5 := sums5 a b n
  have g6 := sums6 a b n
  have g7 := sums7 a n
  have g8 := sums8 a n
  have g9 := sums9 a b n
  have i1 : i64B 1 = true := i64B_in (by decide)
  refine callsO gQ_ok Try.mix plS Try.func5 rfl Try.ntmps5 Try.results5 rfl (by first | rfl | assumption) (Nat.le_of_ble_eq_true rfl) (by kernel_rfl) ?_
  simp only [push_cast, Nat.reduceAdd, Nat.reduceSub, Nat.reduceMul, Nat.reduceLT, Nat.reduceLeDiff, Nat.reduceEqDiff, Nat.reduceMod, Nat.reduceDiv, Int.reduceAdd, Int.reduceSub, Int.reduceMul, Int.reduceLT, Int.reduceLE, Int.reduceEq, Int.reduceNeg, Int.reduceToNat, reduceIte, reduceCtorEq]
  intro b3 b4 hb4 b5 hb5
  refine regO gQ_ok ?_
  simp only [push_cast, Nat.reduceAdd, Nat.reduceSub, Nat.reduceMul, Nat.reduceLT, Nat.reduceLeDiff, Nat.reduceEqDiff, Nat.reduceMod, Nat.reduceDiv, Int.reduceAdd, Int.reduceSub, Int.reduceMul, Int.reduceLT, Int.reduceLE, Int.reduceEq, Int.reduceNeg, Int.reduceToNat, reduceIte, reduceCtorEq, hb4, hb5]
  intro b8 hb8
  refine regO gQ_ok ?_
  simp only [push_cast, Nat.reduceAdd, Nat.reduceSub, Nat.reduceMul, Nat.reduceLT, Nat.reduceLeDiff, Nat.reduceEqDiff, Nat.reduceMod, Nat.reduceDiv, Int.reduceAdd, Int.reduceSub, Int.reduceMul, Int.reduceLT, Int.reduceLE, Int.reduceEq, Int.reduceNeg, Int.reduceToNat, reduceIte, reduceCtorEq, hb4, hb5, hb8]
  intro b9 hb9
  refine regO gQ_ok ?_
  simp only [push_cast, Nat.reduceAdd, Nat.reduceSub, Nat.reduceMul, Nat.reduceLT, Nat.reduceLeDiff, Nat.reduceEqDiff, Nat.reduceMod, Nat.reduceDiv, Int.reduceAdd, Int.reduceSub, Int.reduceMul, Int.reduceLT, Int.reduceLE, Int.reduceEq, Int.reduceNeg, Int.reduceToNat, reduceIte, reduceCtorEq, hb4, hb5, hb8, hb9, i1]
  intro b10 hb10
  refine regO gQ_ok ?_
  simp only [push_cast, Nat.reduceAdd, Nat.reduceSub, Nat.reduceMul, Nat.reduceLT, Nat.reduceLeDiff, Nat.reduceEqDiff, Nat.reduceMod, Nat.reduceDiv, Int.reduceAdd, Int.reduceSub, Int.reduceMul, Int.reduceLT, Int.reduceLE, Int.reduceEq, Int.reduceNeg, Int.reduceToNat, reduceIte, reduceCtorEq, hb4, hb5, hb8, hb9, hb10]
  intro b11 hb11
  refine regO gQ_ok ?_
  generalize hK : (thenK _ _ : Exit → Tm → Hp → Prop) = K0
  simp only [push_cast, Nat.reduceAdd, Nat.reduceSub, Nat.reduceMul, Nat.reduceLT, Nat.reduceLeDiff, Nat.reduceEqDiff, Nat.reduceMod, Nat.reduceDiv, Int.reduceAdd, Int.reduceSub, Int.reduceMul, Int.reduceLT, Int.reduceLE, Int.reduceEq, Int.reduceNeg, Int.reduceToNat, reduceIte, reduceCtorEq, hb4, hb5, hb8, hb9, hb10, hb11]
  intro b12 hb12
  rw [← hK, low_cells, low_cells]
  simp only [push_cast, Nat.reduceAdd, Nat.reduceSub, Nat.reduceMul, Nat.reduceLT, Nat.reduceLeDiff, Nat.reduceEqDiff, Nat.reduceMod, Nat.reduceDiv, Int.reduceAdd, Int.reduceSub, Int.reduceMul, Int.reduceLT, Int.reduceLE, Int.reduceEq, Int.reduceNeg, Int.reduceToNat, reduceIte, reduceCtorEq, hb4, hb5, hb8, hb9, hb10, hb11, hb12, low_agg, W.zero_agg, i1, g1, g2, g3, g4, g5, g6, g7, g8, g9]

theorem divideSums_ok {H : Hp} {a b n : W} (hm : marksOf H = []) : CallsV Try.prog 5 [a.v, b.v, n.v] H (Ret0 (.bool true)) := (divideSums0 a b n).onto hm
end Go.Proofs.Ytbpnjkedflkabaa
