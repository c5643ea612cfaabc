/- Hh: words as numbers that go round; WordTurns. -/
import Derived.Test.YtndioekjgmbomaaDoorHg
set_option linter.unusedSimpArgs false
set_option linter.unusedVariables false
namespace Go.Ev
theorem CallsV.onto {P : Program} {g : FuncId} {args : List Value} {v : Value} {H : Hp} (hc : CallsV P g args [] (Ret0 v)) (hm : marksOf H = []) : CallsV P g args H (Ret0 v) := by
  refine ⟨hc.1, fun w0 mu w hs => ?_⟩
  rw [hm]
  exact hc.2 w0 mu w (hs.weak (List.nil_sublist H))
/-- numbers that are the same but for what goes round -/
noncomputable def modM : Int := hid 115792089237316195423570985008687907853269984665640564039457584007913129639936
theorem modM_eq : modM = 115792089237316195423570985008687907853269984665640564039457584007913129639936 := by unfold modM; rw [hid_eq]
def cM (x y : Int) : Prop := ∃ t, x = y + modM * t
theorem cM.rfl (x : Int) : cM x x := ⟨0, by rw [Int.mul_zero, Int.add_zero]⟩
theorem cM.trans {x y z : Int} (h : cM x y) (g : cM y z) : cM x z := by
  obtain ⟨t, rfl⟩ := h
  obtain ⟨s, rfl⟩ := g
  exact ⟨t + s, by rw [Int.mul_add]; omega⟩
theorem cM.symm {x y : Int} (h : cM x y) : cM y x := by
  obtain ⟨t, rfl⟩ := h
  exact ⟨-t, by rw [Int.mul_neg]; omega⟩
theorem cM.add {x y u v : Int} (h : cM x y) (g : cM u v) : cM (x + u) (y + v) := by
  obtain ⟨t, rfl⟩ := h
  obtain ⟨s, rfl⟩ := g
  exact ⟨t + s, by rw [Int.mul_add]; omega⟩
theorem cM.neg {x y : Int} (h : cM x y) : cM (-x) (-y) := by
  obtain ⟨t, rfl⟩ := h
  exact ⟨-t, by rw [Int.mul_neg]; omega⟩
theorem cM.mul {x y u v : Int} (h : cM x y) (g : cM u v) : cM (x * u) (y * v) := by
  obtain ⟨t, rfl⟩ := h
  obtain ⟨s, rfl⟩ := g
  refine ⟨t * v + y * s + modM * t * s, ?_⟩
  simp only [Int.mul_add, Int.add_mul, Int.mul_assoc, Int.mul_comm, Int.mul_left_comm]
  omega
theorem cM.of (n : Nat) : cM ((W.of n).num : Int) (n : Int) := by
  refine ⟨-(n / 115792089237316195423570985008687907853269984665640564039457584007913129639936 : Nat), ?_⟩
  rw [W.num_of, modM_eq]
  omega
theorem cM.eq {x y : W} (h : cM (x.num : Int) (y.num : Int)) : x = y := by
  obtain ⟨t, ht⟩ := h
  have := x.num_lt; have := y.num_lt
  rw [modM_eq] at ht
  refine W.num_inj ?_
  omega
theorem cM.plus (x y : W) : cM ((plusW x y).num : Int) ((x.num : Int) + (y.num : Int)) := by
  rw [plusW_eq, ← Int.natCast_add]; exact cM.of _
theorem cM.times (x y : W) : cM ((timesW x y).num : Int) ((x.num : Int) * (y.num : Int)) := by
  rw [timesW_eq, ← Int.natCast_mul]; exact cM.of _
theorem cM.subt (x y : W) : cM ((subtW x y).num : Int) ((x.num : Int) - (y.num : Int)) := by
  rw [subtW_eq]
  refine (cM.of _).trans ⟨1, ?_⟩
  have := x.num_lt; have := y.num_lt
  rw [modM_eq]
  omega
theorem cM.sub {x y u v : Int} (h : cM x y) (g : cM u v) : cM (x - u) (y - v) := by
  have := h.add g.neg
  rw [← Int.sub_eq_add_neg, ← Int.sub_eq_add_neg] at this
  exact this
theorem cM.of_eq {x y : Int} (h : x = y) : cM x y := by rw [h]; exact cM.rfl _
theorem zero_num : W.zero.num = 0 := rfl
theorem one_num : (ofW 1).num = 1 := of_nat 1 (by decide)
theorem min_num : cM ((ofW (-1)).num : Int) (-1) := by
  rw [aw_m]
  exact ⟨1, by rw [modM_eq]; decide⟩
theorem tu_1 (a b : W) : plusW a b = plusW b a := ((cM.plus a b).trans ((cM.of_eq (Int.add_comm _ _)).trans (cM.plus b a).symm)).eq
theorem tu_2 (a b : W) : timesW a b = timesW b a := ((cM.times a b).trans ((cM.of_eq (Int.mul_comm _ _)).trans (cM.times b a).symm)).eq
theorem tu_3 (a b c : W) : plusW (plusW a b) c = plusW a (plusW b c) :=
  ((cM.plus _ c).trans (((cM.plus a b).add (cM.rfl _)).trans ((cM.of_eq (Int.add_assoc _ _ _)).trans (((cM.rfl _).add (cM.plus b c).symm).trans (cM.plus _ _).symm)))).eq
theorem tu_4 (a b c : W) : timesW (timesW a b) c = timesW a (timesW b c) :=
  ((cM.times _ c).trans (((cM.times a b).mul (cM.rfl _)).trans ((cM.of_eq (Int.mul_assoc _ _ _)).trans (((cM.rfl _).mul (cM.times b c).symm).trans (cM.times _ _).symm)))).eq
theorem tu_5 (a b c : W) : timesW (plusW a b) c = plusW (timesW a c) (timesW b c) :=
  ((cM.times _ c).trans (((cM.plus a b).mul (cM.rfl _)).trans ((cM.of_eq (Int.add_mul _ _ _)).trans (((cM.times a c).symm.add (cM.times b c).symm).trans (cM.plus _ _).symm)))).eq
theorem tu_6 (a : W) : timesW a (ofW 1) = a := ((cM.times a _).trans (cM.of_eq (by rw [one_num]; exact Int.mul_one _))).eq
theorem tu_7 (a : W) : plusW a W.zero = a := ((cM.plus a _).trans (cM.of_eq (by rw [zero_num]; exact Int.add_zero _))).eq
theorem tu_8 (a : W) : timesW a (ofW (-1)) = subtW W.zero a :=
  ((cM.times a _).trans (((cM.rfl _).mul min_num).trans ((cM.of_eq (by rw [zero_num]; omega)).trans (cM.subt W.zero a).symm))).eq
end Go.Ev
namespace Go.Proofs.YtndioekjgmbomaaDoor
open Go Go.Ev Go.Proofs
set_option maxRecDepth 100000
set_option maxHeartbeats 4000000
def plT : Plans := fun i => if i = 1 then [(0, 9)] else if i = 2 then [(0, 9)] else if i = 3 then [(0, 9)] else Tryd.pl5 i
attribute [push_cast] plT
theorem wordTurns0 (a b c : W) : CallsV Tryd.prog 5 [a.v, b.v, c.v] [] (Ret0 (.bool true)) := by
  have j0 : i64B (-1) = true := i64B_in (by decide)
  have j1 : i64B 1 = true := i64B_in (by decide)
  have e1 : decide (plusW a b = plusW b a) = true := decide_eq_true (tu_1 a b)
  have e2 : decide (timesW a b = timesW b a) = true := decide_eq_true (tu_2 a b)
  have e3 : decide (plusW (plusW a b) c = plusW a (plusW b c)) = true := decide_eq_true (tu_3 a b c)
  have e4 : decide (timesW (timesW a b) c = timesW a (timesW b c)) = true := decide_eq_true (tu_4 a b c)
  have e5 : decide (timesW (plusW a b) c = plusW (timesW a c) (timesW b c)) = true := decide_eq_true (tu_5 a b c)
  have e6 : decide (timesW a (ofW 1) = a) = true := decide_eq_true (tu_6 a)
  have e7 : decide (plusW a W.zero = a) = true := decide_eq_true (tu_7 a)
  have e8 : decide (timesW a (ofW (-1)) = subtW W.zero a) = true := decide_eq_true (tu_8 a)
  refine callsO gAll_ok Tryd.mix plT Tryd.func5 rfl Tryd.ntmps5 Tryd.results5 rfl (by first | rfl | assumption) (Nat.le_of_ble_eq_true rfl) (by kernel_rfl) ?_
  simp only [push_cast, Nat.reduceAdd, Nat.reduceSub, Nat.reduceMul, Nat.reduceLT, Nat.reduceLeDiff, Nat.reduceEqDiff, Nat.reduceMod, Nat.reduceDiv, Int.reduceAdd, Int.reduceSub, Int.reduceMul, Int.reduceLT, Int.reduceLE, Int.reduceEq, Int.reduceNeg, Int.reduceToNat, reduceIte, reduceCtorEq]
  intro b3 b4 hb4 b5 hb5
  refine regO gAll_ok ?_
  simp only [push_cast, Nat.reduceAdd, Nat.reduceSub, Nat.reduceMul, Nat.reduceLT, Nat.reduceLeDiff, Nat.reduceEqDiff, Nat.reduceMod, Nat.reduceDiv, Int.reduceAdd, Int.reduceSub, Int.reduceMul, Int.reduceLT, Int.reduceLE, Int.reduceEq, Int.reduceNeg, Int.reduceToNat, reduceIte, reduceCtorEq, hb4, hb5]
  refine regO gAll_ok ?_
  simp only [push_cast, Nat.reduceAdd, Nat.reduceSub, Nat.reduceMul, Nat.reduceLT, Nat.reduceLeDiff, Nat.reduceEqDiff, Nat.reduceMod, Nat.reduceDiv, Int.reduceAdd, Int.reduceSub, Int.reduceMul, Int.reduceLT, Int.reduceLE, Int.reduceEq, Int.reduceNeg, Int.reduceToNat, reduceIte, reduceCtorEq, hb4, hb5, j1]
  intro b8 hb8
  refine regC gAll_ok 4 ?_
  simp only [push_cast, Nat.reduceAdd, Nat.reduceSub, Nat.reduceMul, Nat.reduceLT, Nat.reduceLeDiff, Nat.reduceEqDiff, Nat.reduceMod, Nat.reduceDiv, Int.reduceAdd, Int.reduceSub, Int.reduceMul, Int.reduceLT, Int.reduceLE, Int.reduceEq, Int.reduceNeg, Int.reduceToNat, reduceIte, reduceCtorEq, hb4, hb5, hb8]
  intro b9 hb9
  refine cutO ?_
  simp (maxSteps := 3000000) only [push_cast, Nat.reduceAdd, Nat.reduceSub, Nat.reduceMul, Nat.reduceLT, Nat.reduceLeDiff, Nat.reduceEqDiff, Nat.reduceMod, Nat.reduceDiv, Int.reduceAdd, Int.reduceSub, Int.reduceMul, Int.reduceLT, Int.reduceLE, Int.reduceEq, Int.reduceNeg, Int.reduceToNat, reduceIte, reduceCtorEq, hb4, hb5, hb8, hb9, j0, e1, e2, e3, e4, e5, e6, e7, e8, wz_agg]
end Go.Proofs.YtndioekjgmbomaaDoor
