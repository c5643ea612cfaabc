/- Dr: the document's words, layer 2: less, double; none, below, minus, size. -/
import Derived.Test.YtbpnjkedflkabaaDq
import Derived.Test.YtbpnjkedflkabaaDl
set_option linter.unusedSimpArgs false
set_option linter.unusedVariables false
namespace Go.Ev
noncomputable def lessW (w : W) (o : Bool) (n : W) : W × Bool := if o = true ∨ n.num ≤ w.num then (subW w n, true) else (w, false)
noncomputable def doubleW (w : W) (one : Bool) (n : W) : W × Bool := lessW (if one then addW (addW w w) (ofW 1) else addW w w) (topB w.d) n
noncomputable def lessG : List Value → Option Value
  | [x, .bool o, y] => (wOf x).bind fun a => (wOf y).bind fun b => some (.tuple #[(lessW a o b).1.v, .bool (lessW a o b).2])
  | _ => none
noncomputable def doubleG : List Value → Option Value
  | [x, .bool o, y] => (wOf x).bind fun a => (wOf y).bind fun b => some (.tuple #[(doubleW a o b).1.v, .bool (doubleW a o b).2])
  | _ => none
noncomputable def noneG : List Value → Option Value
  | [x] => (wOf x).bind fun a => some (.bool (decide (a = W.zero)))
  | _ => none
noncomputable def belowG : List Value → Option Value
  | [x] => (wOf x).bind fun a => some (.bool (topB a.d))
  | _ => none
noncomputable def minusG : List Value → Option Value
  | [x] => (wOf x).bind fun a => some (negW a).v
  | _ => none
noncomputable def sizeG : List Value → Option Value
  | [x] => (wOf x).bind fun a => some (signedW a).1.v
  | _ => none
attribute [push_cast] lessG doubleG noneG belowG minusG sizeG
theorem wbw_some {args : List Value} {v : Value} {g : W → Bool → W → Value} {f : List Value → Option Value} (hf : f = fun l => match l with | [x, .bool o, y] => (wOf x).bind fun a => (wOf y).bind fun b => some (g a o b) | _ => none) (h : f args = some v) :
    ∃ (x : W) (o : Bool) (y : W), args = [x.v, .bool o, y.v] ∧ v = g x o y := by
  rw [hf] at h
  dsimp only at h
  split at h
  · rename_i x o y
    cases hx : wOf x with
    | none => simp [hx] at h
    | some a => cases hy : wOf y with
      | none => simp [hx, hy] at h
      | some b =>
        simp only [hx, hy, Option.bind_some, Option.some.injEq] at h
        rw [wOf_some hx, wOf_some hy]
        exact ⟨a, o, b, rfl, h.symm⟩
  · cases h
/-- what is there, with the bit ahead -/
noncomputable def overN : Bool → Nat → Nat := hid fun o w => (if o then 115792089237316195423570985008687907853269984665640564039457584007913129639936 else 0) + w
theorem overN_eq (o : Bool) (w : Nat) : overN o w = (if o then 115792089237316195423570985008687907853269984665640564039457584007913129639936 else 0) + w := by unfold overN; rw [hid_eq]
theorem less_law {w n : W} {o : Bool} (h : overN o w.num < 2 * n.num) : (lessW w o n).1.num = overN o w.num % n.num ∧ (lessW w o n).2 = decide (n.num ≤ overN o w.num) := by
  have := w.num_lt; have := n.num_lt
  rw [overN_eq] at *
  have h0 : 0 < n.num := by omega
  have key : ∀ V, V < 2 * n.num → n.num ≤ V → V % n.num = V - n.num := fun V h1 h2 => by
    rw [Nat.mod_eq_sub_mod h2, Nat.mod_eq_of_lt (by omega)]
  unfold lessW
  cases o
  · simp only [Bool.false_eq_true, if_false, false_or, Nat.zero_add] at h ⊢
    by_cases hg : n.num ≤ w.num
    · rw [if_pos hg, decide_eq_true hg]
      refine ⟨?_, rfl⟩
      show (subW w n).num = _
      rw [subW_eq, W.num_of, key _ h hg]
      omega
    · rw [if_neg hg, decide_eq_false hg]
      exact ⟨(Nat.mod_eq_of_lt (show w.num < n.num by omega)).symm, rfl⟩
  · simp only [if_true, true_or] at h ⊢
    have hg : n.num ≤ 115792089237316195423570985008687907853269984665640564039457584007913129639936 + w.num := by omega
    rw [decide_eq_true hg]
    refine ⟨?_, rfl⟩
    show (subW w n).num = _
    rw [subW_eq, W.num_of, key _ h hg]
    omega
theorem dbl_over {w : W} (one : Bool) : overN (topB w.d) (if one then addW (addW w w) (ofW 1) else addW w w).num = 2 * w.num + one.toNat := by
  have h1 := top_num w
  have := w.num_lt
  have e1 : (ofW 1).num = 1 := of_nat 1 (by decide)
  rw [overN_eq, h1]
  have ea : (addW w w).num = (2 * w.num) % 115792089237316195423570985008687907853269984665640564039457584007913129639936 := by unfold addW; rw [W.num_of, Nat.two_mul]
  have eb : (addW (addW w w) (ofW 1)).num = (2 * w.num + 1) % 115792089237316195423570985008687907853269984665640564039457584007913129639936 := by
    show (W.of ((addW w w).num + (ofW 1).num)).num = _
    rw [W.num_of, ea, e1]; omega
  cases one
  · show _ + (addW w w).num = 2 * w.num + 0
    rw [ea]
    by_cases hg : 57896044618658097711785492504343953926634992332820282019728792003956564819968 ≤ w.num
    · rw [decide_eq_true hg, if_pos rfl]; omega
    · rw [decide_eq_false hg, if_neg (by simp)]; omega
  · show _ + (addW (addW w w) (ofW 1)).num = 2 * w.num + 1
    rw [eb]
    by_cases hg : 57896044618658097711785492504343953926634992332820282019728792003956564819968 ≤ w.num
    · rw [decide_eq_true hg, if_pos rfl]; omega
    · rw [decide_eq_false hg, if_neg (by simp)]; omega
theorem double_law {w n : W} {one : Bool} (h : w.num < n.num) : (doubleW w one n).1.num = (2 * w.num + one.toNat) % n.num ∧ (doubleW w one n).2 = decide (n.num ≤ 2 * w.num + one.toNat) := by
  have h1 : one.toNat ≤ 1 := by cases one <;> decide
  unfold doubleW
  have := less_law (w := if one then addW (addW w w) (ofW 1) else addW w w) (o := topB w.d) (n := n) (by rw [dbl_over]; omega)
  rw [dbl_over] at this
  exact this
end Go.Ev
namespace Go.Proofs.Ytbpnjkedflkabaa
open Go Go.Ev Go.Proofs
set_option maxRecDepth 100000
set_option maxHeartbeats 4000000
theorem refSubG (args : List Value) (v : Value) (h : subG args = some v) : CallsV Try.prog 53 args [] (Ret0 v) := by
  obtain ⟨x, y, rfl, rfl⟩ := two_some (g := fun a b => (subW a b).v) (by funext l; rfl) h
  rw [subW_eq]
  exact refSub x y
noncomputable def gR0 : Gam := (addG 53 subG gQ)
attribute [push_cast] gR0
theorem gR0_ok : GamOk Try.prog gR0 := (addG_ok refSubG gQ_ok)
theorem less_ok (w : W) (o : Bool) (n : W) : CallsV Try.prog 39 [w.v, .bool o, n.v] [] (Ret0 (.tuple #[(lessW w o n).1.v, .bool (lessW w o n).2])) := by
  refine callsO gR0_ok Try.mix Try.pl39 Try.func39 rfl Try.ntmps39 Try.results39 rfl (by first | rfl | assumption) (Nat.le_of_ble_eq_true rfl) (by kernel_rfl) ?_
  simp only [push_cast, Nat.reduceAdd, Nat.reduceSub, Nat.reduceMul, Nat.reduceLT, Nat.reduceLeDiff, Nat.reduceEqDiff, Nat.reduceMod, Nat.reduceDiv, Int.reduceAdd, Int.reduceSub, Int.reduceMul, Int.reduceLT, Int.reduceLE, Int.reduceEq, Int.reduceNeg, Int.reduceToNat, reduceIte, reduceCtorEq]
  intro b2 b3 hb3 b4 hb4
  cases o
  · by_cases h : n.num ≤ w.num
    · have e : lessW w false n = (subW w n, true) := by unfold lessW; rw [if_pos (.inr h)]
      have hc : ¬ w.cmp n < 0 := by rw [W.cmp_neg]; omega
      have hc' : 0 ≤ w.cmp n := by omega
      simp only [push_cast, Nat.reduceAdd, Nat.reduceSub, Nat.reduceMul, Nat.reduceLT, Nat.reduceLeDiff, Nat.reduceEqDiff, Nat.reduceMod, Nat.reduceDiv, Int.reduceAdd, Int.reduceSub, Int.reduceMul, Int.reduceLT, Int.reduceLE, Int.reduceEq, Int.reduceNeg, Int.reduceToNat, reduceIte, reduceCtorEq, hb3, hb4, hc, hc', e]
      done
    · have e : lessW w false n = (w, false) := by unfold lessW; rw [if_neg (by simp; omega)]
      have hc : w.cmp n < 0 := by rw [W.cmp_neg]; omega
      have hc' : ¬ 0 ≤ w.cmp n := by omega
      simp only [push_cast, Nat.reduceAdd, Nat.reduceSub, Nat.reduceMul, Nat.reduceLT, Nat.reduceLeDiff, Nat.reduceEqDiff, Nat.reduceMod, Nat.reduceDiv, Int.reduceAdd, Int.reduceSub, Int.reduceMul, Int.reduceLT, Int.reduceLE, Int.reduceEq, Int.reduceNeg, Int.reduceToNat, reduceIte, reduceCtorEq, hb3, hb4, hc, hc', e]
      done
  · have e : lessW w true n = (subW w n, true) := by unfold lessW; rw [if_pos (.inl rfl)]
    simp only [push_cast, Nat.reduceAdd, Nat.reduceSub, Nat.reduceMul, Nat.reduceLT, Nat.reduceLeDiff, Nat.reduceEqDiff, Nat.reduceMod, Nat.reduceDiv, Int.reduceAdd, Int.reduceSub, Int.reduceMul, Int.reduceLT, Int.reduceLE, Int.reduceEq, Int.reduceNeg, Int.reduceToNat, reduceIte, reduceCtorEq, hb3, hb4, e]
    done
theorem lessG_ok (args : List Value) (v : Value) (h : lessG args = some v) : CallsV Try.prog 39 args [] (Ret0 v) := by
  obtain ⟨x, o, y, rfl, rfl⟩ := wbw_some (g := fun a o b => .tuple #[(lessW a o b).1.v, .bool (lessW a o b).2]) (by funext l; rfl) h
  exact less_ok x o y
noncomputable def gR1 : Gam := (addG 39 lessG gR0)
attribute [push_cast] gR1
theorem gR1_ok : GamOk Try.prog gR1 := (addG_ok lessG_ok gR0_ok)
def plD : Plans := fun i => if i = 3 then [(0, 9)] else Try.pl42 i
attribute [push_cast] plD
theorem double_ok (w : W) (one : Bool) (n : W) : CallsV Try.prog 42 [w.v, .bool one, n.v] [] (Ret0 (.tuple #[(doubleW w one n).1.v, .bool (doubleW w one n).2])) := by
  have i1 : i64B 1 = true := i64B_in (by decide)
  obtain ⟨D, hD⟩ : ∃ D, D = doubleW w one n := ⟨_, rfl⟩
  rw [← hD]
  refine callsO gR1_ok Try.mix plD Try.func42 rfl Try.ntmps42 Try.results42 rfl (by first | rfl | assumption) (Nat.le_of_ble_eq_true rfl) (by kernel_rfl) ?_
  simp only [push_cast, Nat.reduceAdd, Nat.reduceSub, Nat.reduceMul, Nat.reduceLT, Nat.reduceLeDiff, Nat.reduceEqDiff, Nat.reduceMod, Nat.reduceDiv, Int.reduceAdd, Int.reduceSub, Int.reduceMul, Int.reduceLT, Int.reduceLE, Int.reduceEq, Int.reduceNeg, Int.reduceToNat, reduceIte, reduceCtorEq, bin_top']
  intro b2 b3 hb3 b4 hb4
  simp only [push_cast, Nat.reduceAdd, Nat.reduceSub, Nat.reduceMul, Nat.reduceLT, Nat.reduceLeDiff, Nat.reduceEqDiff, Nat.reduceMod, Nat.reduceDiv, Int.reduceAdd, Int.reduceSub, Int.reduceMul, Int.reduceLT, Int.reduceLE, Int.reduceEq, Int.reduceNeg, Int.reduceToNat, reduceIte, reduceCtorEq, bin_top', hb3, hb4]
  intro b9 hb9
  refine regO gR1_ok ?_
  cases one
  · have e : lessW (addW w w) (topB w.d) n = D := by rw [hD]; rfl
    simp only [push_cast, Nat.reduceAdd, Nat.reduceSub, Nat.reduceMul, Nat.reduceLT, Nat.reduceLeDiff, Nat.reduceEqDiff, Nat.reduceMod, Nat.reduceDiv, Int.reduceAdd, Int.reduceSub, Int.reduceMul, Int.reduceLT, Int.reduceLE, Int.reduceEq, Int.reduceNeg, Int.reduceToNat, reduceIte, reduceCtorEq, hb3, hb4, hb9, e]
    done
  · have e : lessW (addW (addW w w) (ofW 1)) (topB w.d) n = D := by rw [hD]; rfl
    simp only [push_cast, Nat.reduceAdd, Nat.reduceSub, Nat.reduceMul, Nat.reduceLT, Nat.reduceLeDiff, Nat.reduceEqDiff, Nat.reduceMod, Nat.reduceDiv, Int.reduceAdd, Int.reduceSub, Int.reduceMul, Int.reduceLT, Int.reduceLE, Int.reduceEq, Int.reduceNeg, Int.reduceToNat, reduceIte, reduceCtorEq, hb3, hb4, hb9, i1, e]
    done
theorem none_ok (w : W) : CallsV Try.prog 30 [w.v] [] (Ret0 (.bool (decide (w = W.zero)))) := by
  refine callsO gR1_ok Try.mix Try.pl30 Try.func30 rfl Try.ntmps30 Try.results30 rfl (by first | rfl | assumption) (Nat.le_of_ble_eq_true rfl) (by kernel_rfl) ?_
  simp only [push_cast, Nat.reduceAdd, Nat.reduceSub, Nat.reduceMul, Nat.reduceLT, Nat.reduceLeDiff, Nat.reduceEqDiff, Nat.reduceMod, Nat.reduceDiv, Int.reduceAdd, Int.reduceSub, Int.reduceMul, Int.reduceLT, Int.reduceLE, Int.reduceEq, Int.reduceNeg, Int.reduceToNat, reduceIte, reduceCtorEq, W.zero_agg]
theorem below_ok (w : W) : CallsV Try.prog 35 [w.v] [] (Ret0 (.bool (topB w.d))) := by
  refine callsO gR1_ok Try.mix Try.pl35 Try.func35 rfl Try.ntmps35 Try.results35 rfl (by first | rfl | assumption) (Nat.le_of_ble_eq_true rfl) (by kernel_rfl) ?_
  simp only [push_cast, Nat.reduceAdd, Nat.reduceSub, Nat.reduceMul, Nat.reduceLT, Nat.reduceLeDiff, Nat.reduceEqDiff, Nat.reduceMod, Nat.reduceDiv, Int.reduceAdd, Int.reduceSub, Int.reduceMul, Int.reduceLT, Int.reduceLE, Int.reduceEq, Int.reduceNeg, Int.reduceToNat, reduceIte, reduceCtorEq, bin_top']
theorem minus_ok (w : W) : CallsV Try.prog 36 [w.v] [] (Ret0 (negW w).v) := by
  refine callsO gR1_ok Try.mix Try.pl36 Try.func36 rfl Try.ntmps36 Try.results36 rfl (by first | rfl | assumption) (Nat.le_of_ble_eq_true rfl) (by kernel_rfl) ?_
  simp only [push_cast, Nat.reduceAdd, Nat.reduceSub, Nat.reduceMul, Nat.reduceLT, Nat.reduceLeDiff, Nat.reduceEqDiff, Nat.reduceMod, Nat.reduceDiv, Int.reduceAdd, Int.reduceSub, Int.reduceMul, Int.reduceLT, Int.reduceLE, Int.reduceEq, Int.reduceNeg, Int.reduceToNat, reduceIte, reduceCtorEq, W.zero_agg]
  intro b1 b2 hb2
  simp only [push_cast, Nat.reduceAdd, Nat.reduceSub, Nat.reduceMul, Nat.reduceLT, Nat.reduceLeDiff, Nat.reduceEqDiff, Nat.reduceMod, Nat.reduceDiv, Int.reduceAdd, Int.reduceSub, Int.reduceMul, Int.reduceLT, Int.reduceLE, Int.reduceEq, Int.reduceNeg, Int.reduceToNat, reduceIte, reduceCtorEq, W.zero_agg, hb2]
  rfl
theorem doubleG_ok (args : List Value) (v : Value) (h : doubleG args = some v) : CallsV Try.prog 42 args [] (Ret0 v) := by
  obtain ⟨x, o, y, rfl, rfl⟩ := wbw_some (g := fun a o b => .tuple #[(doubleW a o b).1.v, .bool (doubleW a o b).2]) (by funext l; rfl) h
  exact double_ok x o y
theorem noneG_ok (args : List Value) (v : Value) (h : noneG args = some v) : CallsV Try.prog 30 args [] (Ret0 v) := by
  obtain ⟨x, rfl, rfl⟩ := one_some (g := fun a => .bool (decide (a = W.zero))) (by funext l; rfl) h
  exact none_ok x
theorem belowG_ok (args : List Value) (v : Value) (h : belowG args = some v) : CallsV Try.prog 35 args [] (Ret0 v) := by
  obtain ⟨x, rfl, rfl⟩ := one_some (g := fun a => .bool (topB a.d)) (by funext l; rfl) h
  exact below_ok x
theorem minusG_ok (args : List Value) (v : Value) (h : minusG args = some v) : CallsV Try.prog 36 args [] (Ret0 v) := by
  obtain ⟨x, rfl, rfl⟩ := one_some (g := fun a => (negW a).v) (by funext l; rfl) h
  exact minus_ok x
noncomputable def gR2 : Gam := (addG 36 minusG (addG 35 belowG (addG 30 noneG (addG 42 doubleG gR1))))
attribute [push_cast] gR2
theorem gR2_ok : GamOk Try.prog gR2 := (addG_ok minusG_ok (addG_ok belowG_ok (addG_ok noneG_ok (addG_ok doubleG_ok gR1_ok))))
theorem size_ok (w : W) : CallsV Try.prog 34 [w.v] [] (Ret0 (signedW w).1.v) := by
  refine callsO gR2_ok Try.mix Try.pl34 Try.func34 rfl Try.ntmps34 Try.results34 rfl (by first | rfl | assumption) (Nat.le_of_ble_eq_true rfl) (by kernel_rfl) ?_
  simp only [push_cast, Nat.reduceAdd, Nat.reduceSub, Nat.reduceMul, Nat.reduceLT, Nat.reduceLeDiff, Nat.reduceEqDiff, Nat.reduceMod, Nat.reduceDiv, Int.reduceAdd, Int.reduceSub, Int.reduceMul, Int.reduceLT, Int.reduceLE, Int.reduceEq, Int.reduceNeg, Int.reduceToNat, reduceIte, reduceCtorEq]
  intro b1 b2 hb2
  cases h : topB w.d
  · have e : (signedW w).1 = w := by unfold signedW; rw [h]; rfl
    simp only [push_cast, Nat.reduceAdd, Nat.reduceSub, Nat.reduceMul, Nat.reduceLT, Nat.reduceLeDiff, Nat.reduceEqDiff, Nat.reduceMod, Nat.reduceDiv, Int.reduceAdd, Int.reduceSub, Int.reduceMul, Int.reduceLT, Int.reduceLE, Int.reduceEq, Int.reduceNeg, Int.reduceToNat, reduceIte, reduceCtorEq, h, hb2, e]
  · have e : (signedW w).1 = negW w := by unfold signedW; rw [h]; rfl
    simp only [push_cast, Nat.reduceAdd, Nat.reduceSub, Nat.reduceMul, Nat.reduceLT, Nat.reduceLeDiff, Nat.reduceEqDiff, Nat.reduceMod, Nat.reduceDiv, Int.reduceAdd, Int.reduceSub, Int.reduceMul, Int.reduceLT, Int.reduceLE, Int.reduceEq, Int.reduceNeg, Int.reduceToNat, reduceIte, reduceCtorEq, h, hb2, e]
theorem sizeG_ok (args : List Value) (v : Value) (h : sizeG args = some v) : CallsV Try.prog 34 args [] (Ret0 v) := by
  obtain ⟨x, rfl, rfl⟩ := one_some (g := fun a => (signedW a).1.v) (by funext l; rfl) h
  exact size_ok x
noncomputable def gR : Gam := (addG 34 sizeG gR2)
attribute [push_cast] gR
theorem gR_ok : GamOk Try.prog gR := (addG_ok sizeG_ok gR2_ok)
end Go.Proofs.Ytbpnjkedflkabaa
