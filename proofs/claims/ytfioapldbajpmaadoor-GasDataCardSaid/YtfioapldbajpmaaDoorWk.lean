/- Wk: the program's words: Add, Int; the document's Int. -/
import Derived.Test.YtfioapldbajpmaaDoorDa
set_option linter.unusedSimpArgs false
set_option linter.unusedVariables false
namespace Go.Ev
theorem wadd_step {x y c : Nat} (hx : x < 18446744073709551616) (hy : y < 18446744073709551616) (hc : c ≤ 1) : addLo x y c + 18446744073709551616 * addC x y c = x + y + c := by
  simp only [addLo_eq, addC_eq]; split <;> omega
theorem wadd_key {xa xb xc xd ya yb yc yd l0 l1 l2 l3 c0 c1 c2 c3 : Nat} (e0 : l0 + 18446744073709551616 * c0 = xa + ya + 0) (e1 : l1 + 18446744073709551616 * c1 = xb + yb + c0) (e2 : l2 + 18446744073709551616 * c2 = xc + yc + c1) (e3 : l3 + 18446744073709551616 * c3 = xd + yd + c2) :
    (l0 + 18446744073709551616 * (l1 + 18446744073709551616 * (l2 + 18446744073709551616 * l3))) + 115792089237316195423570985008687907853269984665640564039457584007913129639936 * c3 =
    (xa + 18446744073709551616 * (xb + 18446744073709551616 * (xc + 18446744073709551616 * xd))) + (ya + 18446744073709551616 * (yb + 18446744073709551616 * (yc + 18446744073709551616 * yd))) := by omega
theorem wadd_sum (x y : W) : (⟨addLo x.a y.a 0, addLo x.b y.b (addC x.a y.a 0), addLo x.c y.c (addC x.b y.b (addC x.a y.a 0)), addLo x.d y.d (addC x.c y.c (addC x.b y.b (addC x.a y.a 0))), addLo_lt _ _ _, addLo_lt _ _ _, addLo_lt _ _ _, addLo_lt _ _ _⟩ : W).num + 115792089237316195423570985008687907853269984665640564039457584007913129639936 * addC x.d y.d (addC x.c y.c (addC x.b y.b (addC x.a y.a 0))) = x.num + y.num :=
  wadd_key (wadd_step x.ha y.ha (Nat.zero_le 1)) (wadd_step x.hb y.hb (addC_le _ _ _)) (wadd_step x.hc y.hc (addC_le _ _ _)) (wadd_step x.hd y.hd (addC_le _ _ _))
theorem wadd_num (x y : W) : (⟨addLo x.a y.a 0, addLo x.b y.b (addC x.a y.a 0), addLo x.c y.c (addC x.b y.b (addC x.a y.a 0)), addLo x.d y.d (addC x.c y.c (addC x.b y.b (addC x.a y.a 0))), addLo_lt _ _ _, addLo_lt _ _ _, addLo_lt _ _ _, addLo_lt _ _ _⟩ : W) = W.of (x.num + y.num) := by
  refine W.eq_of ?_
  have h := wadd_sum x y
  have hl := W.num_lt ⟨addLo x.a y.a 0, addLo x.b y.b (addC x.a y.a 0), addLo x.c y.c (addC x.b y.b (addC x.a y.a 0)), addLo x.d y.d (addC x.c y.c (addC x.b y.b (addC x.a y.a 0))), addLo_lt _ _ _, addLo_lt _ _ _, addLo_lt _ _ _, addLo_lt _ _ _⟩
  generalize W.num _ = L at *
  generalize addC x.d y.d _ = c at *
  omega
noncomputable def plusW : W → W → W := hid fun x y => W.of (x.num + y.num)
theorem plusW_eq (x y : W) : plusW x y = W.of (x.num + y.num) := by unfold plusW; rw [hid_eq]
noncomputable def plusG : List Value → Option Value
  | [x, y] => (wOf x).bind fun a => (wOf y).bind fun b => some (plusW a b).v
  | _ => none
/-- a word's number, where it is one of Go's -/
noncomputable def intW : W → Int × Bool := hid fun w => if w.num ≤ 4611686018427387903 then ((w.num : Int), true) else (0, false)
theorem intW_eq (w : W) : intW w = if w.num ≤ 4611686018427387903 then ((w.num : Int), true) else (0, false) := by unfold intW; rw [hid_eq]
noncomputable def intG : List Value → Option Value
  | [x] => (wOf x).bind fun a => some (.tuple #[.int .i64 (intW a).1, .bool (intW a).2])
  | _ => none
attribute [push_cast] plusG intG
theorem wbin_some {args : List Value} {v : Value} {g : W → W → Value} {f : List Value → Option Value} (hf : f = fun l => match l with | [x, y] => (wOf x).bind fun a => (wOf y).bind fun b => some (g a b) | _ => none) (h : f args = some v) : ∃ x y : W, args = [x.v, y.v] ∧ v = g x y := by
  rw [hf] at h
  dsimp only at h
  split at h
  · rename_i x y
    cases hx : wOf x with
    | none => simp [hx] at h
    | some a => cases hy : wOf y with
      | none => simp [hx, hy] at h
      | some b =>
        simp only [hx, hy, Option.bind_some, Option.some.injEq] at h
        rw [wOf_some hx, wOf_some hy]
        exact ⟨a, b, rfl, h.symm⟩
  · cases h
theorem wun_some {args : List Value} {v : Value} {g : W → Value} {f : List Value → Option Value} (hf : f = fun l => match l with | [x] => (wOf x).bind fun a => some (g a) | _ => none) (h : f args = some v) : ∃ x : W, args = [x.v] ∧ v = g x := by
  rw [hf] at h
  dsimp only at h
  split at h
  · rename_i x
    cases hx : wOf x with
    | none => simp [hx] at h
    | some a =>
      simp only [hx, Option.bind_some, Option.some.injEq] at h
      rw [wOf_some hx]
      exact ⟨a, rfl, h.symm⟩
  · cases h
theorem or_zero {x y : Nat} (h : x ||| y = 0) : x = 0 ∧ y = 0 := by
  have h1 := Nat.left_le_or (n := x) (m := y)
  have h2 := Nat.right_le_or (n := x) (m := y)
  omega
end Go.Ev
namespace Go.Proofs.YtfioapldbajpmaaDoor
open Go Go.Ev Go.Proofs
set_option maxRecDepth 100000
set_option maxHeartbeats 4000000
theorem wordInt (w : W) : CallsV Tryd.prog 41 [w.v] [] (Ret0 (.tuple #[.int .i64 (intW w).1, .bool (intW w).2])) := by
  have ha := w.ha; have hb := w.hb; have hc := w.hc; have hd := w.hd
  have hn : w.num = w.a + 18446744073709551616 * (w.b + 18446744073709551616 * (w.c + 18446744073709551616 * w.d)) := rfl
  have h1 : bitsI .or .u64 (w.b : Int) (w.c : Int) = ((w.b ||| w.c : Nat) : Int) := bits_or_u64_nat w.b w.c hb hc
  have hu : w.b ||| w.c < 18446744073709551616 := Nat.or_lt_two_pow (n := 64) hb hc
  have h2 : bitsI .or .u64 ((w.b ||| w.c : Nat) : Int) (w.d : Int) = ((w.b ||| w.c ||| w.d : Nat) : Int) := bits_or_u64_nat (w.b ||| w.c) w.d hu hd
  have hz : w.b ||| w.c ||| w.d = 0 → w.b = 0 ∧ w.c = 0 ∧ w.d = 0 := fun h => by
    have g1 := or_zero h
    have g2 := or_zero g1.1
    exact ⟨g2.1, g2.2, g1.2⟩
  obtain ⟨v, hv⟩ : ∃ v, v = w.b ||| w.c ||| w.d := ⟨_, rfl⟩
  rw [← hv] at h2 hz
  rw [intW_eq]
  refine callsO gW_ok Tryd.mix Tryd.pl41 Tryd.func41 rfl Tryd.ntmps41 Tryd.results41 rfl (by first | rfl | assumption) (Nat.le_of_ble_eq_true rfl) (by kernel_rfl) ?_
  simp only [push_cast, Nat.reduceAdd, Nat.reduceSub, Nat.reduceMul, Nat.reduceLT, Nat.reduceLeDiff, Nat.reduceEqDiff, Nat.reduceMod, Nat.reduceDiv, Int.reduceAdd, Int.reduceSub, Int.reduceMul, Int.reduceLT, Int.reduceLE, Int.reduceEq, Int.reduceNeg, Int.reduceToNat, reduceIte, reduceCtorEq, Int.reduceBEq, Int.reduceBNe, Bool.true_beq, Bool.false_beq, Bool.true_bne, Bool.false_bne, Bool.not_true, Bool.not_false]
  by_cases h0 : v = 0
  · obtain ⟨z1, z2, z3⟩ := hz h0
    have hn' : w.num = w.a := by rw [hn, z1, z2, z3]; omega
    rw [hn']
    have hv0 : ((v : Int) != 0) = false := by rw [h0]; rfl
    by_cases hl : w.a ≤ 4611686018427387903
    · have hl' : ¬ 4611686018427387903 < (w.a : Int) := by omega
      simp only [push_cast, Nat.reduceAdd, Nat.reduceSub, Nat.reduceMul, Nat.reduceLT, Nat.reduceLeDiff, Nat.reduceEqDiff, Nat.reduceMod, Nat.reduceDiv, Int.reduceAdd, Int.reduceSub, Int.reduceMul, Int.reduceLT, Int.reduceLE, Int.reduceEq, Int.reduceNeg, Int.reduceToNat, reduceIte, reduceCtorEq, Int.reduceBEq, Int.reduceBNe, Bool.true_beq, Bool.false_beq, Bool.true_bne, Bool.false_bne, Bool.not_true, Bool.not_false, h1, h2, hv0, hl', wrap_i64' (show -9223372036854775808 ≤ (w.a : Int) ∧ (w.a : Int) ≤ 9223372036854775807 by omega), hl]
    · have hl' : 4611686018427387903 < (w.a : Int) := by omega
      simp only [push_cast, Nat.reduceAdd, Nat.reduceSub, Nat.reduceMul, Nat.reduceLT, Nat.reduceLeDiff, Nat.reduceEqDiff, Nat.reduceMod, Nat.reduceDiv, Int.reduceAdd, Int.reduceSub, Int.reduceMul, Int.reduceLT, Int.reduceLE, Int.reduceEq, Int.reduceNeg, Int.reduceToNat, reduceIte, reduceCtorEq, Int.reduceBEq, Int.reduceBNe, Bool.true_beq, Bool.false_beq, Bool.true_bne, Bool.false_bne, Bool.not_true, Bool.not_false, h1, h2, hv0, hl', hl]
  · have hv' : ((v : Int) != 0) = true := by rw [bne_iff_ne]; omega
    have hl : ¬ w.num ≤ 4611686018427387903 := fun h => h0 (by
      rw [hv]
      have : w.b = 0 := by omega
      have : w.c = 0 := by omega
      have : w.d = 0 := by omega
      simp [*])
    simp only [push_cast, Nat.reduceAdd, Nat.reduceSub, Nat.reduceMul, Nat.reduceLT, Nat.reduceLeDiff, Nat.reduceEqDiff, Nat.reduceMod, Nat.reduceDiv, Int.reduceAdd, Int.reduceSub, Int.reduceMul, Int.reduceLT, Int.reduceLE, Int.reduceEq, Int.reduceNeg, Int.reduceToNat, reduceIte, reduceCtorEq, Int.reduceBEq, Int.reduceBNe, Bool.true_beq, Bool.false_beq, Bool.true_bne, Bool.false_bne, Bool.not_true, Bool.not_false, h1, h2, hv', hl]
theorem wordIntG (args : List Value) (v : Value) (h : intG args = some v) : CallsV Tryd.prog 41 args [] (Ret0 v) := by
  obtain ⟨x, rfl, rfl⟩ := wun_some (g := fun a => .tuple #[.int .i64 (intW a).1, .bool (intW a).2]) (by funext l; rfl) h
  exact wordInt x
theorem refInt (w : W) : CallsV Tryd.prog 42 [w.v] [] (Ret0 (.tuple #[.int .i64 (intW w).1, .bool (intW w).2])) := by
  have ha := w.ha; have hb := w.hb; have hc := w.hc; have hd := w.hd
  have hn : w.num = w.a + 18446744073709551616 * (w.b + 18446744073709551616 * (w.c + 18446744073709551616 * w.d)) := rfl
  rw [intW_eq]
  refine callsO gW_ok Tryd.mix Tryd.pl42 Tryd.func42 rfl Tryd.ntmps42 Tryd.results42 rfl (by first | rfl | assumption) (Nat.le_of_ble_eq_true rfl) (by kernel_rfl) ?_
  by_cases z1 : (0 : Int) < (w.b : Int)
  · have hl : ¬ w.num ≤ 4611686018427387903 := by omega
    simp only [push_cast, Nat.reduceAdd, Nat.reduceSub, Nat.reduceMul, Nat.reduceLT, Nat.reduceLeDiff, Nat.reduceEqDiff, Nat.reduceMod, Nat.reduceDiv, Int.reduceAdd, Int.reduceSub, Int.reduceMul, Int.reduceLT, Int.reduceLE, Int.reduceEq, Int.reduceNeg, Int.reduceToNat, reduceIte, reduceCtorEq, Int.reduceBEq, Int.reduceBNe, Bool.true_beq, Bool.false_beq, Bool.true_bne, Bool.false_bne, Bool.not_true, Bool.not_false, z1, hl]
  by_cases z2 : (0 : Int) < (w.c : Int)
  · have hl : ¬ w.num ≤ 4611686018427387903 := by omega
    simp only [push_cast, Nat.reduceAdd, Nat.reduceSub, Nat.reduceMul, Nat.reduceLT, Nat.reduceLeDiff, Nat.reduceEqDiff, Nat.reduceMod, Nat.reduceDiv, Int.reduceAdd, Int.reduceSub, Int.reduceMul, Int.reduceLT, Int.reduceLE, Int.reduceEq, Int.reduceNeg, Int.reduceToNat, reduceIte, reduceCtorEq, Int.reduceBEq, Int.reduceBNe, Bool.true_beq, Bool.false_beq, Bool.true_bne, Bool.false_bne, Bool.not_true, Bool.not_false, z1, z2, hl]
  by_cases z3 : (0 : Int) < (w.d : Int)
  · have hl : ¬ w.num ≤ 4611686018427387903 := by omega
    simp only [push_cast, Nat.reduceAdd, Nat.reduceSub, Nat.reduceMul, Nat.reduceLT, Nat.reduceLeDiff, Nat.reduceEqDiff, Nat.reduceMod, Nat.reduceDiv, Int.reduceAdd, Int.reduceSub, Int.reduceMul, Int.reduceLT, Int.reduceLE, Int.reduceEq, Int.reduceNeg, Int.reduceToNat, reduceIte, reduceCtorEq, Int.reduceBEq, Int.reduceBNe, Bool.true_beq, Bool.false_beq, Bool.true_bne, Bool.false_bne, Bool.not_true, Bool.not_false, z1, z2, z3, hl]
  have hn' : w.num = w.a := by omega
  rw [hn']
  by_cases hl : w.a ≤ 4611686018427387903
  · have hl' : ¬ 4611686018427387903 < (w.a : Int) := by omega
    simp only [push_cast, Nat.reduceAdd, Nat.reduceSub, Nat.reduceMul, Nat.reduceLT, Nat.reduceLeDiff, Nat.reduceEqDiff, Nat.reduceMod, Nat.reduceDiv, Int.reduceAdd, Int.reduceSub, Int.reduceMul, Int.reduceLT, Int.reduceLE, Int.reduceEq, Int.reduceNeg, Int.reduceToNat, reduceIte, reduceCtorEq, Int.reduceBEq, Int.reduceBNe, Bool.true_beq, Bool.false_beq, Bool.true_bne, Bool.false_bne, Bool.not_true, Bool.not_false, z1, z2, z3, hl', wrap_i64' (show -9223372036854775808 ≤ (w.a : Int) ∧ (w.a : Int) ≤ 9223372036854775807 by omega), hl]
  · have hl' : 4611686018427387903 < (w.a : Int) := by omega
    simp only [push_cast, Nat.reduceAdd, Nat.reduceSub, Nat.reduceMul, Nat.reduceLT, Nat.reduceLeDiff, Nat.reduceEqDiff, Nat.reduceMod, Nat.reduceDiv, Int.reduceAdd, Int.reduceSub, Int.reduceMul, Int.reduceLT, Int.reduceLE, Int.reduceEq, Int.reduceNeg, Int.reduceToNat, reduceIte, reduceCtorEq, Int.reduceBEq, Int.reduceBNe, Bool.true_beq, Bool.false_beq, Bool.true_bne, Bool.false_bne, Bool.not_true, Bool.not_false, z1, z2, z3, hl', hl]
theorem refIntG (args : List Value) (v : Value) (h : intG args = some v) : CallsV Tryd.prog 42 args [] (Ret0 v) := by
  obtain ⟨x, rfl, rfl⟩ := wun_some (g := fun a => .tuple #[.int .i64 (intW a).1, .bool (intW a).2]) (by funext l; rfl) h
  exact refInt x
noncomputable def gK : Gam := (addG 42 intG (addG 41 intG gW))
attribute [push_cast] gK
theorem gK_ok : GamOk Tryd.prog gK := (addG_ok refIntG (addG_ok wordIntG gW_ok))
end Go.Proofs.YtfioapldbajpmaaDoor
