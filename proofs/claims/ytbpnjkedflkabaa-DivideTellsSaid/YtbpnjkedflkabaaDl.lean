/- Dl: DivideBack. -/
import Derived.Test.YtbpnjkedflkabaaDk
set_option linter.unusedSimpArgs false
set_option linter.unusedVariables false
namespace Go.Ev
theorem back_div {a b : W} (h : ¬ b = W.zero) : addW (mulW (divW a b) b) (modW a b) = a := by
  refine cM.eq ((cM.addW _ _).trans (((cM.mulW _ _).add (cM.rfl _)).trans ⟨0, ?_⟩))
  rw [Int.mul_zero, Int.add_zero, div_num, mod_num h, ← Int.natCast_mul, ← Int.natCast_add, Nat.div_add_mod']
theorem signed_zero {b : W} (h : ¬ b = W.zero) : ¬ (signedW b).1 = W.zero := fun e => h (by
  rw [← signed_with b, e]
  unfold withW
  split
  · refine cM.eq ((cM.negW _).trans ⟨0, ?_⟩)
    rw [show W.zero.num = 0 from rfl]; simp
  · rfl)
theorem back_sdiv {a b : W} (h : ¬ b = W.zero) : addW (mulW (sdivW a b) b) (smodW a b) = a := by
  have hB := signed_zero h
  refine cM.eq ((cM.addW _ _).trans ((((cM.mulW _ _).trans ((cM.withW _ _).mul (cM.signed b))).add (cM.withW _ _)).trans (.trans ?_ (cM.signed a).symm)))
  have e := Nat.div_add_mod' (signedW a).1.num (signedW b).1.num
  rw [← div_num, ← mod_num hB] at e
  generalize (divW (signedW a).1 (signedW b).1).num = q at *
  generalize (modW (signedW a).1 (signedW b).1).num = r at *
  generalize (signedW a).1.num = A at *
  generalize (signedW b).1.num = B at *
  generalize (signedW a).2 = sa at *
  generalize (signedW b).2 = sb at *
  refine ⟨0, ?_⟩
  rw [Int.mul_zero, Int.add_zero]
  have e' : (q : Int) * (B : Int) + (r : Int) = (A : Int) := by rw [← Int.natCast_mul, ← Int.natCast_add, e]
  cases sa <;> cases sb
  · show (q : Int) * (B : Int) + (r : Int) = (A : Int)
    exact e'
  · show -(q : Int) * -(B : Int) + (r : Int) = (A : Int)
    rw [Int.neg_mul_neg]; exact e'
  · show -(q : Int) * (B : Int) + -(r : Int) = -(A : Int)
    rw [Int.neg_mul]; omega
  · show (q : Int) * -(B : Int) + -(r : Int) = -(A : Int)
    rw [Int.mul_neg]; omega
theorem mod_lt {a b : W} (h : ¬ b = W.zero) : decide ((modW a b).cmp b < 0) = true := by
  rw [decide_eq_true_eq, W.cmp_neg, mod_num h]
  exact Nat.mod_lt _ (W.pos h)
theorem div_le (a b : W) : decide ((divW a b).cmp a ≤ 0) = true := by
  rw [decide_eq_true_eq]
  have : (divW a b).num ≤ a.num := by rw [div_num]; exact Nat.div_le_self _ _
  unfold W.cmp
  repeat' split <;> omega
theorem abs_le (b : W) : (signedW b).1.num ≤ 57896044618658097711785492504343953926634992332820282019728792003956564819968 := by
  have h := top_num b
  have := b.num_lt
  unfold signedW
  split
  · rename_i ht
    rw [ht] at h
    have h2 := of_decide_eq_true h.symm
    show (negW b).num ≤ _
    unfold negW
    rw [subW_eq, W.num_of, show W.zero.num = 0 from rfl]
    omega
  · rename_i ht
    rw [Bool.not_eq_true] at ht
    rw [ht] at h
    have h2 := of_decide_eq_false h.symm
    show b.num ≤ _
    omega
theorem smod_top {a b : W} (h : ¬ b = W.zero) (h2 : ¬ smodW a b = W.zero) : topB (smodW a b).d = topB a.d := by
  have hB := signed_zero h
  have hr : (modW (signedW a).1 (signedW b).1).num < (signedW b).1.num := by rw [mod_num hB]; exact Nat.mod_lt _ (W.pos hB)
  have hb := abs_le b
  have hs : (signedW a).2 = topB a.d := by unfold signedW; split <;> simp_all
  have e : smodW a b = withW (modW (signedW a).1 (signedW b).1) (topB a.d) := by unfold smodW; rw [hs]
  rw [e] at h2 ⊢
  generalize modW (signedW a).1 (signedW b).1 = r at *
  generalize topB a.d = t at *
  cases t
  · show topB r.d = false
    rw [top_num, decide_eq_false_iff_not]
    omega
  · have h3 : ¬ (negW r) = W.zero := h2
    show topB (negW r).d = true
    have h4 := W.pos h3
    rw [top_num, decide_eq_true_eq]
    unfold negW at h4 ⊢
    rw [subW_eq, W.num_of, show W.zero.num = 0 from rfl] at h4 ⊢
    have := r.num_lt
    omega
theorem div_zero (a : W) : divW a W.zero = W.zero := by
  unfold divW
  rw [show W.zero.num = 0 from rfl, Nat.div_zero, W.of_zero]
theorem mod_zero (a : W) : modW a W.zero = W.zero := by unfold modW; rw [if_pos rfl]
theorem with_zero (b : Bool) : withW W.zero b = W.zero := by
  cases b
  · rfl
  · show negW W.zero = W.zero
    refine cM.eq ((cM.negW _).trans ⟨0, ?_⟩)
    rw [show W.zero.num = 0 from rfl]; simp
theorem signed_0 : (signedW W.zero).1 = W.zero := by
  unfold signedW
  rw [if_neg (by rw [topB_eq]; decide)]
theorem sdiv_zero (a : W) : sdivW a W.zero = W.zero := by unfold sdivW; rw [signed_0, div_zero, with_zero]
theorem smod_zero (a : W) : smodW a W.zero = W.zero := by unfold smodW; rw [signed_0, mod_zero, with_zero]
end Go.Ev
namespace Go.Proofs.Ytbpnjkedflkabaa
open Go Go.Ev Go.Proofs
set_option maxRecDepth 100000
set_option maxHeartbeats 4000000
def plB : Plans := fun i => if i = 2 then [(0, 9)] else if i = 3 then [(0, 9)] else if i = 4 then [(0, 9)] else if i = 5 then [(0, 9)] else if i = 6 then [(0, 9)] else if i = 7 then [(0, 9)] else Try.pl4 i
attribute [push_cast] plB
theorem divideBack0 (a b : W) : CallsV Try.prog 4 [a.v, b.v] [] (Ret0 (.bool true)) := by
  refine callsO gQ_ok Try.mix plB Try.func4 rfl Try.ntmps4 Try.results4 rfl (by first | rfl | assumption) (Nat.le_of_ble_eq_true rfl) (by kernel_rfl) ?_
  simp only [push_cast, Nat.reduceAdd, Nat.reduceSub, Nat.reduceMul, Nat.reduceLT, Nat.reduceLeDiff, Nat.reduceEqDiff, Nat.reduceMod, Nat.reduceDiv, Int.reduceAdd, Int.reduceSub, Int.reduceMul, Int.reduceLT, Int.reduceLE, Int.reduceEq, Int.reduceNeg, Int.reduceToNat, reduceIte, reduceCtorEq]
  intro b2 b3 hb3
  refine regO gQ_ok ?_
  simp only [push_cast, Nat.reduceAdd, Nat.reduceSub, Nat.reduceMul, Nat.reduceLT, Nat.reduceLeDiff, Nat.reduceEqDiff, Nat.reduceMod, Nat.reduceDiv, Int.reduceAdd, Int.reduceSub, Int.reduceMul, Int.reduceLT, Int.reduceLE, Int.reduceEq, Int.reduceNeg, Int.reduceToNat, reduceIte, reduceCtorEq, hb3]
  intro b6 hb6
  refine regO gQ_ok ?_
  simp only [push_cast, Nat.reduceAdd, Nat.reduceSub, Nat.reduceMul, Nat.reduceLT, Nat.reduceLeDiff, Nat.reduceEqDiff, Nat.reduceMod, Nat.reduceDiv, Int.reduceAdd, Int.reduceSub, Int.reduceMul, Int.reduceLT, Int.reduceLE, Int.reduceEq, Int.reduceNeg, Int.reduceToNat, reduceIte, reduceCtorEq, hb3, hb6]
  intro b7 hb7
  refine regO gQ_ok ?_
  simp only [push_cast, Nat.reduceAdd, Nat.reduceSub, Nat.reduceMul, Nat.reduceLT, Nat.reduceLeDiff, Nat.reduceEqDiff, Nat.reduceMod, Nat.reduceDiv, Int.reduceAdd, Int.reduceSub, Int.reduceMul, Int.reduceLT, Int.reduceLE, Int.reduceEq, Int.reduceNeg, Int.reduceToNat, reduceIte, reduceCtorEq, hb3, hb6, hb7]
  intro b8 hb8
  refine regO gQ_ok ?_
  simp only [push_cast, Nat.reduceAdd, Nat.reduceSub, Nat.reduceMul, Nat.reduceLT, Nat.reduceLeDiff, Nat.reduceEqDiff, Nat.reduceMod, Nat.reduceDiv, Int.reduceAdd, Int.reduceSub, Int.reduceMul, Int.reduceLT, Int.reduceLE, Int.reduceEq, Int.reduceNeg, Int.reduceToNat, reduceIte, reduceCtorEq, hb3, hb6, hb7, hb8]
  intro b9 hb9
  refine regO gQ_ok ?_
  simp only [push_cast, Nat.reduceAdd, Nat.reduceSub, Nat.reduceMul, Nat.reduceLT, Nat.reduceLeDiff, Nat.reduceEqDiff, Nat.reduceMod, Nat.reduceDiv, Int.reduceAdd, Int.reduceSub, Int.reduceMul, Int.reduceLT, Int.reduceLE, Int.reduceEq, Int.reduceNeg, Int.reduceToNat, reduceIte, reduceCtorEq, hb3, hb6, hb7, hb8, hb9, W.zero_agg]
  intro b10 hb10
  refine regO gQ_ok ?_
  by_cases h : b = W.zero
  · subst h
    simp only [push_cast, Nat.reduceAdd, Nat.reduceSub, Nat.reduceMul, Nat.reduceLT, Nat.reduceLeDiff, Nat.reduceEqDiff, Nat.reduceMod, Nat.reduceDiv, Int.reduceAdd, Int.reduceSub, Int.reduceMul, Int.reduceLT, Int.reduceLE, Int.reduceEq, Int.reduceNeg, Int.reduceToNat, reduceIte, reduceCtorEq, hb3, hb6, hb7, hb8, hb9, hb10, W.zero_agg, div_zero, mod_zero, sdiv_zero, smod_zero]
    done
  · have e1 : decide (b = W.zero) = false := decide_eq_false h
    by_cases h2 : smodW a b = W.zero
    · have e2 : decide (smodW a b = W.zero) = true := decide_eq_true h2
      simp only [push_cast, Nat.reduceAdd, Nat.reduceSub, Nat.reduceMul, Nat.reduceLT, Nat.reduceLeDiff, Nat.reduceEqDiff, Nat.reduceMod, Nat.reduceDiv, Int.reduceAdd, Int.reduceSub, Int.reduceMul, Int.reduceLT, Int.reduceLE, Int.reduceEq, Int.reduceNeg, Int.reduceToNat, reduceIte, reduceCtorEq, hb3, hb6, hb7, hb8, hb9, hb10, W.zero_agg, e1, e2, back_div h, back_sdiv h, mod_lt h, div_le]
      done
    · have e2 : decide (smodW a b = W.zero) = false := decide_eq_false h2
      have e3 := smod_top h h2
      simp only [push_cast, Nat.reduceAdd, Nat.reduceSub, Nat.reduceMul, Nat.reduceLT, Nat.reduceLeDiff, Nat.reduceEqDiff, Nat.reduceMod, Nat.reduceDiv, Int.reduceAdd, Int.reduceSub, Int.reduceMul, Int.reduceLT, Int.reduceLE, Int.reduceEq, Int.reduceNeg, Int.reduceToNat, reduceIte, reduceCtorEq, hb3, hb6, hb7, hb8, hb9, hb10, W.zero_agg, e1, e2, e3, back_div h, back_sdiv h, mod_lt h, div_le]
      done
theorem divideBack_ok {H : Hp} {a b : W} (hm : marksOf H = []) : CallsV Try.prog 4 [a.v, b.v] H (Ret0 (.bool true)) := (divideBack0 a b).onto hm
end Go.Proofs.Ytbpnjkedflkabaa
