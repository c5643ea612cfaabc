/- Di: awake. -/
import Derived.Test.YtbpnjkedflkabaaDh
set_option linter.unusedSimpArgs false
set_option linter.unusedVariables false
namespace Go.Ev
def W.bigN : W := ⟨0, 0, 0, 9223372036854775808, by decide, by decide, by decide, by decide⟩
noncomputable def W.big : W := hid W.bigN
theorem W.big_eq : W.big = W.bigN := hid_eq _
theorem W.big_num : W.big.num = 57896044618658097711785492504343953926634992332820282019728792003956564819968 := by rw [W.big_eq]; rfl
theorem big_agg : Value.agg #[.int .u64 0, .int .u64 0, .int .u64 0, .int .u64 9223372036854775808] = W.big.v := by rw [W.big_eq]; rfl
theorem aw1 : sdivW (ofW (-7)) (ofW 2) = ofW (-3) := sdiv_of (by decide) (by decide)
theorem aw2 : smodW (ofW (-7)) (ofW 2) = ofW (-1) := smod_of (by decide) (by decide) (by decide)
theorem of_nat (n : Nat) (h : n < 18446744073709551616) : (ofW (n : Int)).num = n := by rw [of_num (by omega) (by omega)]; rfl
theorem aw3 : mulmodW W.big (ofW 4) (ofW 7) = ofW 4 := by
  unfold mulmodW
  have h7 : (ofW 7).num = 7 := of_nat 7 (by decide)
  have h4 : (ofW 4).num = 4 := of_nat 4 (by decide)
  rw [if_neg (of_ne (by decide) (by decide)), h7, h4, W.big_num]
  exact of_of (n := 4) (by decide)
theorem aw4 : addmodW W.big W.big (ofW 7) = ofW 2 := by
  unfold addmodW
  have h7 : (ofW 7).num = 7 := of_nat 7 (by decide)
  rw [if_neg (of_ne (by decide) (by decide)), h7, W.big_num]
  exact of_of (n := 2) (by decide)
theorem aw5 : expW (ofW 2) (ofW 255) = W.big := by
  unfold expW
  have h2 : (ofW 2).num = 2 := of_nat 2 (by decide)
  have h255 : (ofW 255).num = 255 := of_nat 255 (by decide)
  rw [h2, h255]
  refine W.num_inj ?_
  rw [W.num_of, W.big_num]
theorem aw6 : divW (ofW (-7)) W.zero = W.zero := by
  unfold divW
  rw [show W.zero.num = 0 from rfl, Nat.div_zero, W.of_zero]
theorem aw7 : modW (ofW 17) (ofW 5) = ofW 2 := of_mod (x := 17) (y := 5) (by decide) (by decide) (by decide)
theorem aw8 : expW W.zero W.zero = ofW 1 := by
  unfold expW
  rw [show W.zero.num = 0 from rfl]
  exact of_of (n := 1) (by decide)
theorem i64B_lit : i64B (-7) = true ∧ i64B 2 = true ∧ i64B (-3) = true ∧ i64B (-1) = true ∧ i64B 4 = true ∧ i64B 7 = true ∧ i64B 255 = true ∧ i64B 17 = true ∧ i64B 5 = true ∧ i64B 1 = true :=
  ⟨i64B_in (by decide), i64B_in (by decide), i64B_in (by decide), i64B_in (by decide), i64B_in (by decide), i64B_in (by decide), i64B_in (by decide), i64B_in (by decide), i64B_in (by decide), i64B_in (by decide)⟩
end Go.Ev
namespace Go.Proofs.Ytbpnjkedflkabaa
open Go Go.Ev Go.Proofs
set_option maxRecDepth 100000
set_option maxHeartbeats 4000000
def plA : Plans := fun i => if i = 2 then [(0, 9)] else if i = 3 then [(0, 9)] else Try.pl9 i
attribute [push_cast] plA
theorem awake_ok : CallsV Try.prog 9 [] [] (Ret0 (.bool true)) := by
  refine callsO gZ_ok Try.mix plA Try.func9 rfl Try.ntmps9 Try.results9 rfl (by first | rfl | assumption) (Nat.le_of_ble_eq_true rfl) (by kernel_rfl) ?_
  simp only [push_cast, Nat.reduceAdd, Nat.reduceSub, Nat.reduceMul, Nat.reduceLT, Nat.reduceLeDiff, Nat.reduceEqDiff, Nat.reduceMod, Nat.reduceDiv, Int.reduceAdd, Int.reduceSub, Int.reduceMul, Int.reduceLT, Int.reduceLE, Int.reduceEq, Int.reduceNeg, Int.reduceToNat, reduceIte, reduceCtorEq, i64B_lit]
  intro b1
  refine regO gZ_ok ?_
  simp only [push_cast, Nat.reduceAdd, Nat.reduceSub, Nat.reduceMul, Nat.reduceLT, Nat.reduceLeDiff, Nat.reduceEqDiff, Nat.reduceMod, Nat.reduceDiv, Int.reduceAdd, Int.reduceSub, Int.reduceMul, Int.reduceLT, Int.reduceLE, Int.reduceEq, Int.reduceNeg, Int.reduceToNat, reduceIte, reduceCtorEq, i64B_lit]
  intro b2 hb2
  refine regO gZ_ok ?_
  generalize hK : (thenK _ _ : Exit → Tm → Hp → Prop) = K0
  simp only [push_cast, Nat.reduceAdd, Nat.reduceSub, Nat.reduceMul, Nat.reduceLT, Nat.reduceLeDiff, Nat.reduceEqDiff, Nat.reduceMod, Nat.reduceDiv, Int.reduceAdd, Int.reduceSub, Int.reduceMul, Int.reduceLT, Int.reduceLE, Int.reduceEq, Int.reduceNeg, Int.reduceToNat, reduceIte, reduceCtorEq, i64B_lit, hb2, big_agg]
  intro b3 hb3
  rw [← hK]
  simp only [push_cast, Nat.reduceAdd, Nat.reduceSub, Nat.reduceMul, Nat.reduceLT, Nat.reduceLeDiff, Nat.reduceEqDiff, Nat.reduceMod, Nat.reduceDiv, Int.reduceAdd, Int.reduceSub, Int.reduceMul, Int.reduceLT, Int.reduceLE, Int.reduceEq, Int.reduceNeg, Int.reduceToNat, reduceIte, reduceCtorEq, i64B_lit, hb2, hb3, big_agg, aw1, aw2, aw3, aw4, aw5, aw6, aw7, aw8, W.zero_agg, decide_true]
end Go.Proofs.Ytbpnjkedflkabaa
