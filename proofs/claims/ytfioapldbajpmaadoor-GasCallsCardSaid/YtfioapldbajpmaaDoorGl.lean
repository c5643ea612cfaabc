/- Gl: GasCalls. -/
import Derived.Test.YtfioapldbajpmaaDoorGj
set_option linter.unusedSimpArgs false
set_option linter.unusedVariables false
namespace Go.Ev
theorem intW_of (x : Nat) (h : x < 200000) : intW (ofW (x : Int)) = ((x : Int), true) := by
  rw [intW_eq, show (ofW (x : Int)).num = x from of_nat x (by omega), if_pos (by omega)]
theorem intW_zero : intW W.zero = (0, true) := by rw [intW_eq]; rfl
theorem call_no (n : Nat) (i : Int × Bool) (f0 f1 f2 : Bool) (h : (n : Int) < priceI f0 f1 f2) : callI n i f0 f1 f2 = (0, 0, false) := by
  unfold callI; exact if_pos (.inl h)
theorem call_yes {n x r m u : Nat} {P : Int} {f0 f1 f2 : Bool} (hP : priceI f0 f1 f2 = P) (hn : (n : Int) = P + (r : Int)) (hl : n < 200000) (hm : m = r - r / 64) (hu : u = if m < x then m else x) :
    callI n ((x : Int), true) f0 f1 f2 = (P + (u : Int), ownI f1 + (u : Int), true) := by
  have h0 : ¬ ((n : Int) < P ∨ 9007199254740992 < (n : Int)) := by omega
  have e : (n : Int) - P = (r : Int) := by omega
  have e2 : (r : Int) - (r : Int) / 64 = (m : Int) := by omega
  have e3 : minZ (x : Int) (m : Int) = (u : Int) := by unfold minZ; rw [hu]; split <;> split <;> omega
  unfold callI
  rw [hP, if_neg h0, e, e2]
  dsimp only
  rw [if_pos rfl, e3]
end Go.Ev
namespace Go.Proofs.YtfioapldbajpmaaDoor
open Go Go.Ev Go.Proofs
set_option maxRecDepth 100000
set_option maxHeartbeats 4000000
def plGC : Plans := fun i => if i = 2 then [(0, 9)] else if i = 3 then [(0, 9)] else if i = 4 then [(0, 9)] else if i = 7 then [(0, 9)] else if i = 17 then [(0, 9)] else if i = 20 then [(0, 9)] else if i = 21 then [(0, 9)] else Tryd.pl5 i
attribute [push_cast] plGC
theorem gasCalls_ok (left one two : Int) (f0 f1 f2 : Bool) (hl : i64In left) (h1 : i64In one) (h2 : i64In two) : CallsV Tryd.prog 5 [.int .i64 left, .int .i64 one, .int .i64 two, .agg #[.bool f0, .bool f1, .bool f2]] [] (Ret0 (.bool true)) := by
  have j1 := i64B_in hl
  have j2 := i64B_in h1
  have j3 := i64B_in h2
  have j4 : i64B 200000 = true := i64B_in (by decide)
  have q1 : posB 200000 = true := posB_in (by decide)
  have hp := pickN_lt one (n := 200000) (by decide)
  have hq := pickN_lt two (n := 200000) (by decide)
  have hn := pickN_lt left (n := 200000) (by decide)
  obtain ⟨p, hpe⟩ : ∃ p, p = pickN one 200000 := ⟨_, rfl⟩
  obtain ⟨q, hqe⟩ : ∃ q, q = pickN two 200000 := ⟨_, rfl⟩
  obtain ⟨n, hne⟩ : ∃ n, n = pickN left 200000 := ⟨_, rfl⟩
  rw [← hpe] at hp
  rw [← hqe] at hq
  rw [← hne] at hn
  obtain ⟨x, hx⟩ : ∃ x : Nat, x = if q < p then q else p := ⟨_, rfl⟩
  obtain ⟨y, hy⟩ : ∃ y : Nat, y = if p < q then q else p := ⟨_, rfl⟩
  have hmin : (if q < p then (q : Int) else (p : Int)) = (x : Int) := by rw [hx]; split <;> rfl
  have hmax : (if p < q then (q : Int) else (p : Int)) = (y : Int) := by rw [hy]; split <;> rfl
  have hxy : x ≤ y := by rw [hx, hy]; split <;> split <;> omega
  have hx1 : x < 200000 := by rw [hx]; split <;> omega
  have hy1 : y < 200000 := by rw [hy]; split <;> omega
  have hn1 : n < 200000 := by omega
  clear hx hy
  have jn : i64B (n : Int) = true := i64B_in (by unfold i64In; omega)
  have jx : i64B (x : Int) = true := i64B_in (by unfold i64In; omega)
  have jy : i64B (y : Int) = true := i64B_in (by unfold i64In; omega)
  have cX : callP n (ofW (x : Int)) f0 f1 f2 = callI n ((x : Int), true) f0 f1 f2 := by rw [callP_eq, intW_of x hx1]
  have cY : callP n (ofW (y : Int)) f0 f1 f2 = callI n ((y : Int), true) f0 f1 f2 := by rw [callP_eq, intW_of y hy1]
  have cZ : callP n W.zero f0 f1 f2 = callI n ((0 : Nat), true) f0 f1 f2 := by rw [callP_eq, intW_zero]; rfl
  obtain ⟨P, hP⟩ : ∃ P, P = priceI f0 f1 f2 := ⟨_, rfl⟩
  refine callsO gQ2_ok Tryd.mix plGC Tryd.func5 rfl Tryd.ntmps5 Tryd.results5 rfl (by first | rfl | assumption) (Nat.le_of_ble_eq_true rfl) (by kernel_rfl) ?_
  simp only [push_cast, Nat.reduceAdd, Nat.reduceSub, Nat.reduceMul, Nat.reduceLT, Nat.reduceLeDiff, Nat.reduceEqDiff, Nat.reduceMod, Nat.reduceDiv, Int.reduceAdd, Int.reduceSub, Int.reduceMul, Int.reduceLT, Int.reduceLE, Int.reduceEq, Int.reduceNeg, Int.reduceToNat, reduceIte, reduceCtorEq, Int.reduceBEq, Int.reduceBNe, Bool.true_beq, Bool.false_beq, Bool.true_bne, Bool.false_bne, Bool.not_true, Bool.not_false]
  intro b7
  refine regO gQ2_ok ?_
  simp only [push_cast, Nat.reduceAdd, Nat.reduceSub, Nat.reduceMul, Nat.reduceLT, Nat.reduceLeDiff, Nat.reduceEqDiff, Nat.reduceMod, Nat.reduceDiv, Int.reduceAdd, Int.reduceSub, Int.reduceMul, Int.reduceLT, Int.reduceLE, Int.reduceEq, Int.reduceNeg, Int.reduceToNat, reduceIte, reduceCtorEq, Int.reduceBEq, Int.reduceBNe, Bool.true_beq, Bool.false_beq, Bool.true_bne, Bool.false_bne, Bool.not_true, Bool.not_false, j1, j4, q1, ← hne]
  refine regO gQ2_ok ?_
  simp only [push_cast, Nat.reduceAdd, Nat.reduceSub, Nat.reduceMul, Nat.reduceLT, Nat.reduceLeDiff, Nat.reduceEqDiff, Nat.reduceMod, Nat.reduceDiv, Int.reduceAdd, Int.reduceSub, Int.reduceMul, Int.reduceLT, Int.reduceLE, Int.reduceEq, Int.reduceNeg, Int.reduceToNat, reduceIte, reduceCtorEq, Int.reduceBEq, Int.reduceBNe, Bool.true_beq, Bool.false_beq, Bool.true_bne, Bool.false_bne, Bool.not_true, Bool.not_false, j2, j3, j4, q1, ← hpe, ← hqe, hmin]
  refine regO gQ2_ok ?_
  simp only [push_cast, Nat.reduceAdd, Nat.reduceSub, Nat.reduceMul, Nat.reduceLT, Nat.reduceLeDiff, Nat.reduceEqDiff, Nat.reduceMod, Nat.reduceDiv, Int.reduceAdd, Int.reduceSub, Int.reduceMul, Int.reduceLT, Int.reduceLE, Int.reduceEq, Int.reduceNeg, Int.reduceToNat, reduceIte, reduceCtorEq, Int.reduceBEq, Int.reduceBNe, Bool.true_beq, Bool.false_beq, Bool.true_bne, Bool.false_bne, Bool.not_true, Bool.not_false, j2, j3, j4, q1, ← hpe, ← hqe, hmax, jn, jx, jy]
  refine regO gQ2_ok ?_
  cases f0
  · cases f1
    · cases f2
      · skip
        have hP : priceI false false false = 2600 := rfl
        have hO : ownI false = 0 := rfl
        by_cases h : (n : Int) < 2600
        · have nc : ¬ (2600 : Int) ≤ (n : Int) := by omega
          have cX1 := cX.trans (call_no n _ _ _ _ h)
          have cY1 := cY.trans (call_no n _ _ _ _ h)
          have cZ1 := cZ.trans (call_no n _ _ _ _ h)
          simp only [push_cast, Nat.reduceAdd, Nat.reduceSub, Nat.reduceMul, Nat.reduceLT, Nat.reduceLeDiff, Nat.reduceEqDiff, Nat.reduceMod, Nat.reduceDiv, Int.reduceAdd, Int.reduceSub, Int.reduceMul, Int.reduceLT, Int.reduceLE, Int.reduceEq, Int.reduceNeg, Int.reduceToNat, reduceIte, reduceCtorEq, Int.reduceBEq, Int.reduceBNe, Bool.true_beq, Bool.false_beq, Bool.true_bne, Bool.false_bne, Bool.not_true, Bool.not_false, cX1, cY1, cZ1, jn]
          refine regO gQ2_ok ?_
          simp only [push_cast, Nat.reduceAdd, Nat.reduceSub, Nat.reduceMul, Nat.reduceLT, Nat.reduceLeDiff, Nat.reduceEqDiff, Nat.reduceMod, Nat.reduceDiv, Int.reduceAdd, Int.reduceSub, Int.reduceMul, Int.reduceLT, Int.reduceLE, Int.reduceEq, Int.reduceNeg, Int.reduceToNat, reduceIte, reduceCtorEq, Int.reduceBEq, Int.reduceBNe, Bool.true_beq, Bool.false_beq, Bool.true_bne, Bool.false_bne, Bool.not_true, Bool.not_false, nc]
          refine regO gQ2_ok ?_
          simp only [push_cast, Nat.reduceAdd, Nat.reduceSub, Nat.reduceMul, Nat.reduceLT, Nat.reduceLeDiff, Nat.reduceEqDiff, Nat.reduceMod, Nat.reduceDiv, Int.reduceAdd, Int.reduceSub, Int.reduceMul, Int.reduceLT, Int.reduceLE, Int.reduceEq, Int.reduceNeg, Int.reduceToNat, reduceIte, reduceCtorEq, Int.reduceBEq, Int.reduceBNe, Bool.true_beq, Bool.false_beq, Bool.true_bne, Bool.false_bne, Bool.not_true, Bool.not_false, nc]
        · have nc : (2600 : Int) ≤ (n : Int) := by omega
          obtain ⟨r, hr⟩ : ∃ r : Nat, (n : Int) = 2600 + (r : Int) := ⟨((n : Int) - 2600).toNat, by omega⟩
          obtain ⟨m, hm⟩ : ∃ m, m = r - r / 64 := ⟨_, rfl⟩
          obtain ⟨u, hu⟩ : ∃ u, u = if m < x then m else x := ⟨_, rfl⟩
          obtain ⟨v, hv⟩ : ∃ v, v = if m < y then m else y := ⟨_, rfl⟩
          have cX1 : callP n (ofW (x : Int)) false false false = (2600 + (u : Int), (u : Int), true) := cX.trans ((call_yes hP hr hn1 hm hu).trans (by rw [hO]; rw [Int.zero_add]))
          have cY1 : callP n (ofW (y : Int)) false false false = (2600 + (v : Int), (v : Int), true) := cY.trans ((call_yes hP hr hn1 hm hv).trans (by rw [hO]; rw [Int.zero_add]))
          have cZ1 : callP n W.zero false false false = (2600, 0, true) := cZ.trans ((call_yes (x := 0) (u := 0) hP hr hn1 hm (by rw [if_neg (Nat.not_lt_zero _)])).trans (by rw [hO]; rfl))
          have ux : u ≤ x := by rw [hu]; split <;> omega
          have uv : u ≤ v := by rw [hu, hv]; split <;> split <;> omega
          have um : u ≤ m := by rw [hu]; split <;> omega
          have vm : v ≤ m := by rw [hv]; split <;> omega
          have mr : m ≤ r := by omega
          have g1 : 2600 + (u : Int) ≤ (n : Int) := by omega
          have g2 : 2600 + (v : Int) ≤ (n : Int) := by omega
          have g3 : (u : Int) ≤ (v : Int) := by omega
          have g4 : 2600 + (u : Int) - 2600 = (u : Int) := by omega
          have g5 : (u : Int) - 0 = (u : Int) := by omega
          have g6 : (u : Int) ≤ (x : Int) := by omega
          have g7 : (v : Int) - 0 = (v : Int) := by omega
          have g8 : (n : Int) - 2600 = (r : Int) := by omega
          obtain ⟨k, hk⟩ : ∃ k, k = r / 64 := ⟨_, rfl⟩
          have g9 : (r : Int).tdiv 64 = (k : Int) := by rw [hk]; rfl
          have g10 : (r : Int) - (k : Int) = (m : Int) := by omega
          simp only [push_cast, Nat.reduceAdd, Nat.reduceSub, Nat.reduceMul, Nat.reduceLT, Nat.reduceLeDiff, Nat.reduceEqDiff, Nat.reduceMod, Nat.reduceDiv, Int.reduceAdd, Int.reduceSub, Int.reduceMul, Int.reduceLT, Int.reduceLE, Int.reduceEq, Int.reduceNeg, Int.reduceToNat, reduceIte, reduceCtorEq, Int.reduceBEq, Int.reduceBNe, Bool.true_beq, Bool.false_beq, Bool.true_bne, Bool.false_bne, Bool.not_true, Bool.not_false, cX1, cY1, cZ1, jn]
          refine regO gQ2_ok ?_
          simp only [push_cast, Nat.reduceAdd, Nat.reduceSub, Nat.reduceMul, Nat.reduceLT, Nat.reduceLeDiff, Nat.reduceEqDiff, Nat.reduceMod, Nat.reduceDiv, Int.reduceAdd, Int.reduceSub, Int.reduceMul, Int.reduceLT, Int.reduceLE, Int.reduceEq, Int.reduceNeg, Int.reduceToNat, reduceIte, reduceCtorEq, Int.reduceBEq, Int.reduceBNe, Bool.true_beq, Bool.false_beq, Bool.true_bne, Bool.false_bne, Bool.not_true, Bool.not_false, nc]
          refine regO gQ2_ok ?_
          by_cases hmy : m < y
          · have hvm : v = m := by rw [hv, if_pos hmy]
            have z1 : ((v : Int) == (y : Int)) = false := beq_eq_false_iff_ne.2 (by omega)
            rw [hvm] at g2 g3 g7 z1 uv ⊢
            have g3n : u ≤ m := um
            simp only [push_cast, Nat.reduceAdd, Nat.reduceSub, Nat.reduceMul, Nat.reduceLT, Nat.reduceLeDiff, Nat.reduceEqDiff, Nat.reduceMod, Nat.reduceDiv, Int.reduceAdd, Int.reduceSub, Int.reduceMul, Int.reduceLT, Int.reduceLE, Int.reduceEq, Int.reduceNeg, Int.reduceToNat, reduceIte, reduceCtorEq, Int.reduceBEq, Int.reduceBNe, Bool.true_beq, Bool.false_beq, Bool.true_bne, Bool.false_bne, Bool.not_true, Bool.not_false, g1, g2, g3, g3n, g4, g5, g6, ux, g7, g8, g9, g10, z1, beq_self_eq_true, Int.sub_zero, Int.add_zero, wrap_i64' (show -9223372036854775808 ≤ (u : Int) ∧ (u : Int) ≤ 9223372036854775807 by omega), wrap_i64' (show -9223372036854775808 ≤ (m : Int) ∧ (m : Int) ≤ 9223372036854775807 by omega), wrap_i64' (show -9223372036854775808 ≤ (r : Int) ∧ (r : Int) ≤ 9223372036854775807 by omega), wrap_i64' (show -9223372036854775808 ≤ (k : Int) ∧ (k : Int) ≤ 9223372036854775807 by omega), wrap_i64' (show -9223372036854775808 ≤ (x : Int) ∧ (x : Int) ≤ 9223372036854775807 by omega), wrap_i64' (show -9223372036854775808 ≤ (y : Int) ∧ (y : Int) ≤ 9223372036854775807 by omega), wrap_i64' (show -9223372036854775808 ≤ (x : Int) + 2300 ∧ (x : Int) + 2300 ≤ 9223372036854775807 by omega), wrap_i64' (show -9223372036854775808 ≤ (y : Int) + 2300 ∧ (y : Int) + 2300 ≤ 9223372036854775807 by omega)]
          · have hvy : v = y := by rw [hv, if_neg hmy]
            have z1 : ((v : Int) == (y : Int)) = true := beq_iff_eq.2 (by omega)
            simp only [push_cast, Nat.reduceAdd, Nat.reduceSub, Nat.reduceMul, Nat.reduceLT, Nat.reduceLeDiff, Nat.reduceEqDiff, Nat.reduceMod, Nat.reduceDiv, Int.reduceAdd, Int.reduceSub, Int.reduceMul, Int.reduceLT, Int.reduceLE, Int.reduceEq, Int.reduceNeg, Int.reduceToNat, reduceIte, reduceCtorEq, Int.reduceBEq, Int.reduceBNe, Bool.true_beq, Bool.false_beq, Bool.true_bne, Bool.false_bne, Bool.not_true, Bool.not_false, g1, g2, g3, uv, g4, g5, g6, ux, g7, g8, g9, g10, z1, beq_self_eq_true, Int.sub_zero, Int.add_zero, wrap_i64' (show -9223372036854775808 ≤ (u : Int) ∧ (u : Int) ≤ 9223372036854775807 by omega), wrap_i64' (show -9223372036854775808 ≤ (v : Int) ∧ (v : Int) ≤ 9223372036854775807 by omega), wrap_i64' (show -9223372036854775808 ≤ (r : Int) ∧ (r : Int) ≤ 9223372036854775807 by omega), wrap_i64' (show -9223372036854775808 ≤ (k : Int) ∧ (k : Int) ≤ 9223372036854775807 by omega), wrap_i64' (show -9223372036854775808 ≤ (x : Int) ∧ (x : Int) ≤ 9223372036854775807 by omega), wrap_i64' (show -9223372036854775808 ≤ (y : Int) ∧ (y : Int) ≤ 9223372036854775807 by omega), wrap_i64' (show -9223372036854775808 ≤ (x : Int) + 2300 ∧ (x : Int) + 2300 ≤ 9223372036854775807 by omega), wrap_i64' (show -9223372036854775808 ≤ (y : Int) + 2300 ∧ (y : Int) + 2300 ≤ 9223372036854775807 by omega)]
      · skip
        have hP : priceI false false true = 2600 := rfl
        have hO : ownI false = 0 := rfl
        by_cases h : (n : Int) < 2600
        · have nc : ¬ (2600 : Int) ≤ (n : Int) := by omega
          have cX1 := cX.trans (call_no n _ _ _ _ h)
          have cY1 := cY.trans (call_no n _ _ _ _ h)
          have cZ1 := cZ.trans (call_no n _ _ _ _ h)
          simp only [push_cast, Nat.reduceAdd, Nat.reduceSub, Nat.reduceMul, Nat.reduceLT, Nat.reduceLeDiff, Nat.reduceEqDiff, Nat.reduceMod, Nat.reduceDiv, Int.reduceAdd, Int.reduceSub, Int.reduceMul, Int.reduceLT, Int.reduceLE, Int.reduceEq, Int.reduceNeg, Int.reduceToNat, reduceIte, reduceCtorEq, Int.reduceBEq, Int.reduceBNe, Bool.true_beq, Bool.false_beq, Bool.true_bne, Bool.false_bne, Bool.not_true, Bool.not_false, cX1, cY1, cZ1, jn]
          refine regO gQ2_ok ?_
          simp only [push_cast, Nat.reduceAdd, Nat.reduceSub, Nat.reduceMul, Nat.reduceLT, Nat.reduceLeDiff, Nat.reduceEqDiff, Nat.reduceMod, Nat.reduceDiv, Int.reduceAdd, Int.reduceSub, Int.reduceMul, Int.reduceLT, Int.reduceLE, Int.reduceEq, Int.reduceNeg, Int.reduceToNat, reduceIte, reduceCtorEq, Int.reduceBEq, Int.reduceBNe, Bool.true_beq, Bool.false_beq, Bool.true_bne, Bool.false_bne, Bool.not_true, Bool.not_false, nc]
          refine regO gQ2_ok ?_
          simp only [push_cast, Nat.reduceAdd, Nat.reduceSub, Nat.reduceMul, Nat.reduceLT, Nat.reduceLeDiff, Nat.reduceEqDiff, Nat.reduceMod, Nat.reduceDiv, Int.reduceAdd, Int.reduceSub, Int.reduceMul, Int.reduceLT, Int.reduceLE, Int.reduceEq, Int.reduceNeg, Int.reduceToNat, reduceIte, reduceCtorEq, Int.reduceBEq, Int.reduceBNe, Bool.true_beq, Bool.false_beq, Bool.true_bne, Bool.false_bne, Bool.not_true, Bool.not_false, nc]
        · have nc : (2600 : Int) ≤ (n : Int) := by omega
          obtain ⟨r, hr⟩ : ∃ r : Nat, (n : Int) = 2600 + (r : Int) := ⟨((n : Int) - 2600).toNat, by omega⟩
          obtain ⟨m, hm⟩ : ∃ m, m = r - r / 64 := ⟨_, rfl⟩
          obtain ⟨u, hu⟩ : ∃ u, u = if m < x then m else x := ⟨_, rfl⟩
          obtain ⟨v, hv⟩ : ∃ v, v = if m < y then m else y := ⟨_, rfl⟩
          have cX1 : callP n (ofW (x : Int)) false false true = (2600 + (u : Int), (u : Int), true) := cX.trans ((call_yes hP hr hn1 hm hu).trans (by rw [hO]; rw [Int.zero_add]))
          have cY1 : callP n (ofW (y : Int)) false false true = (2600 + (v : Int), (v : Int), true) := cY.trans ((call_yes hP hr hn1 hm hv).trans (by rw [hO]; rw [Int.zero_add]))
          have cZ1 : callP n W.zero false false true = (2600, 0, true) := cZ.trans ((call_yes (x := 0) (u := 0) hP hr hn1 hm (by rw [if_neg (Nat.not_lt_zero _)])).trans (by rw [hO]; rfl))
          have ux : u ≤ x := by rw [hu]; split <;> omega
          have uv : u ≤ v := by rw [hu, hv]; split <;> split <;> omega
          have um : u ≤ m := by rw [hu]; split <;> omega
          have vm : v ≤ m := by rw [hv]; split <;> omega
          have mr : m ≤ r := by omega
          have g1 : 2600 + (u : Int) ≤ (n : Int) := by omega
          have g2 : 2600 + (v : Int) ≤ (n : Int) := by omega
          have g3 : (u : Int) ≤ (v : Int) := by omega
          have g4 : 2600 + (u : Int) - 2600 = (u : Int) := by omega
          have g5 : (u : Int) - 0 = (u : Int) := by omega
          have g6 : (u : Int) ≤ (x : Int) := by omega
          have g7 : (v : Int) - 0 = (v : Int) := by omega
          have g8 : (n : Int) - 2600 = (r : Int) := by omega
          obtain ⟨k, hk⟩ : ∃ k, k = r / 64 := ⟨_, rfl⟩
          have g9 : (r : Int).tdiv 64 = (k : Int) := by rw [hk]; rfl
          have g10 : (r : Int) - (k : Int) = (m : Int) := by omega
          simp only [push_cast, Nat.reduceAdd, Nat.reduceSub, Nat.reduceMul, Nat.reduceLT, Nat.reduceLeDiff, Nat.reduceEqDiff, Nat.reduceMod, Nat.reduceDiv, Int.reduceAdd, Int.reduceSub, Int.reduceMul, Int.reduceLT, Int.reduceLE, Int.reduceEq, Int.reduceNeg, Int.reduceToNat, reduceIte, reduceCtorEq, Int.reduceBEq, Int.reduceBNe, Bool.true_beq, Bool.false_beq, Bool.true_bne, Bool.false_bne, Bool.not_true, Bool.not_false, cX1, cY1, cZ1, jn]
          refine regO gQ2_ok ?_
          simp only [push_cast, Nat.reduceAdd, Nat.reduceSub, Nat.reduceMul, Nat.reduceLT, Nat.reduceLeDiff, Nat.reduceEqDiff, Nat.reduceMod, Nat.reduceDiv, Int.reduceAdd, Int.reduceSub, Int.reduceMul, Int.reduceLT, Int.reduceLE, Int.reduceEq, Int.reduceNeg, Int.reduceToNat, reduceIte, reduceCtorEq, Int.reduceBEq, Int.reduceBNe, Bool.true_beq, Bool.false_beq, Bool.true_bne, Bool.false_bne, Bool.not_true, Bool.not_false, nc]
          refine regO gQ2_ok ?_
          by_cases hmy : m < y
          · have hvm : v = m := by rw [hv, if_pos hmy]
            have z1 : ((v : Int) == (y : Int)) = false := beq_eq_false_iff_ne.2 (by omega)
            rw [hvm] at g2 g3 g7 z1 uv ⊢
            have g3n : u ≤ m := um
            simp only [push_cast, Nat.reduceAdd, Nat.reduceSub, Nat.reduceMul, Nat.reduceLT, Nat.reduceLeDiff, Nat.reduceEqDiff, Nat.reduceMod, Nat.reduceDiv, Int.reduceAdd, Int.reduceSub, Int.reduceMul, Int.reduceLT, Int.reduceLE, Int.reduceEq, Int.reduceNeg, Int.reduceToNat, reduceIte, reduceCtorEq, Int.reduceBEq, Int.reduceBNe, Bool.true_beq, Bool.false_beq, Bool.true_bne, Bool.false_bne, Bool.not_true, Bool.not_false, g1, g2, g3, g3n, g4, g5, g6, ux, g7, g8, g9, g10, z1, beq_self_eq_true, Int.sub_zero, Int.add_zero, wrap_i64' (show -9223372036854775808 ≤ (u : Int) ∧ (u : Int) ≤ 9223372036854775807 by omega), wrap_i64' (show -9223372036854775808 ≤ (m : Int) ∧ (m : Int) ≤ 9223372036854775807 by omega), wrap_i64' (show -9223372036854775808 ≤ (r : Int) ∧ (r : Int) ≤ 9223372036854775807 by omega), wrap_i64' (show -9223372036854775808 ≤ (k : Int) ∧ (k : Int) ≤ 9223372036854775807 by omega), wrap_i64' (show -9223372036854775808 ≤ (x : Int) ∧ (x : Int) ≤ 9223372036854775807 by omega), wrap_i64' (show -9223372036854775808 ≤ (y : Int) ∧ (y : Int) ≤ 9223372036854775807 by omega), wrap_i64' (show -9223372036854775808 ≤ (x : Int) + 2300 ∧ (x : Int) + 2300 ≤ 9223372036854775807 by omega), wrap_i64' (show -9223372036854775808 ≤ (y : Int) + 2300 ∧ (y : Int) + 2300 ≤ 9223372036854775807 by omega)]
          · have hvy : v = y := by rw [hv, if_neg hmy]
            have z1 : ((v : Int) == (y : Int)) = true := beq_iff_eq.2 (by omega)
            simp only [push_cast, Nat.reduceAdd, Nat.reduceSub, Nat.reduceMul, Nat.reduceLT, Nat.reduceLeDiff, Nat.reduceEqDiff, Nat.reduceMod, Nat.reduceDiv, Int.reduceAdd, Int.reduceSub, Int.reduceMul, Int.reduceLT, Int.reduceLE, Int.reduceEq, Int.reduceNeg, Int.reduceToNat, reduceIte, reduceCtorEq, Int.reduceBEq, Int.reduceBNe, Bool.true_beq, Bool.false_beq, Bool.true_bne, Bool.false_bne, Bool.not_true, Bool.not_false, g1, g2, g3, uv, g4, g5, g6, ux, g7, g8, g9, g10, z1, beq_self_eq_true, Int.sub_zero, Int.add_zero, wrap_i64' (show -9223372036854775808 ≤ (u : Int) ∧ (u : Int) ≤ 9223372036854775807 by omega), wrap_i64' (show -9223372036854775808 ≤ (v : Int) ∧ (v : Int) ≤ 9223372036854775807 by omega), wrap_i64' (show -9223372036854775808 ≤ (r : Int) ∧ (r : Int) ≤ 9223372036854775807 by omega), wrap_i64' (show -9223372036854775808 ≤ (k : Int) ∧ (k : Int) ≤ 9223372036854775807 by omega), wrap_i64' (show -9223372036854775808 ≤ (x : Int) ∧ (x : Int) ≤ 9223372036854775807 by omega), wrap_i64' (show -9223372036854775808 ≤ (y : Int) ∧ (y : Int) ≤ 9223372036854775807 by omega), wrap_i64' (show -9223372036854775808 ≤ (x : Int) + 2300 ∧ (x : Int) + 2300 ≤ 9223372036854775807 by omega), wrap_i64' (show -9223372036854775808 ≤ (y : Int) + 2300 ∧ (y : Int) + 2300 ≤ 9223372036854775807 by omega)]
    · cases f2
      · skip
        have hP : priceI false true false = 11600 := rfl
        have hO : ownI true = 2300 := rfl
        by_cases h : (n : Int) < 11600
        · have nc : ¬ (11600 : Int) ≤ (n : Int) := by omega
          have cX1 := cX.trans (call_no n _ _ _ _ h)
          have cY1 := cY.trans (call_no n _ _ _ _ h)
          have cZ1 := cZ.trans (call_no n _ _ _ _ h)
          simp only [push_cast, Nat.reduceAdd, Nat.reduceSub, Nat.reduceMul, Nat.reduceLT, Nat.reduceLeDiff, Nat.reduceEqDiff, Nat.reduceMod, Nat.reduceDiv, Int.reduceAdd, Int.reduceSub, Int.reduceMul, Int.reduceLT, Int.reduceLE, Int.reduceEq, Int.reduceNeg, Int.reduceToNat, reduceIte, reduceCtorEq, Int.reduceBEq, Int.reduceBNe, Bool.true_beq, Bool.false_beq, Bool.true_bne, Bool.false_bne, Bool.not_true, Bool.not_false, cX1, cY1, cZ1, jn]
          refine regO gQ2_ok ?_
          simp only [push_cast, Nat.reduceAdd, Nat.reduceSub, Nat.reduceMul, Nat.reduceLT, Nat.reduceLeDiff, Nat.reduceEqDiff, Nat.reduceMod, Nat.reduceDiv, Int.reduceAdd, Int.reduceSub, Int.reduceMul, Int.reduceLT, Int.reduceLE, Int.reduceEq, Int.reduceNeg, Int.reduceToNat, reduceIte, reduceCtorEq, Int.reduceBEq, Int.reduceBNe, Bool.true_beq, Bool.false_beq, Bool.true_bne, Bool.false_bne, Bool.not_true, Bool.not_false, nc]
          refine regO gQ2_ok ?_
          simp only [push_cast, Nat.reduceAdd, Nat.reduceSub, Nat.reduceMul, Nat.reduceLT, Nat.reduceLeDiff, Nat.reduceEqDiff, Nat.reduceMod, Nat.reduceDiv, Int.reduceAdd, Int.reduceSub, Int.reduceMul, Int.reduceLT, Int.reduceLE, Int.reduceEq, Int.reduceNeg, Int.reduceToNat, reduceIte, reduceCtorEq, Int.reduceBEq, Int.reduceBNe, Bool.true_beq, Bool.false_beq, Bool.true_bne, Bool.false_bne, Bool.not_true, Bool.not_false, nc]
        · have nc : (11600 : Int) ≤ (n : Int) := by omega
          obtain ⟨r, hr⟩ : ∃ r : Nat, (n : Int) = 11600 + (r : Int) := ⟨((n : Int) - 11600).toNat, by omega⟩
          obtain ⟨m, hm⟩ : ∃ m, m = r - r / 64 := ⟨_, rfl⟩
          obtain ⟨u, hu⟩ : ∃ u, u = if m < x then m else x := ⟨_, rfl⟩
          obtain ⟨v, hv⟩ : ∃ v, v = if m < y then m else y := ⟨_, rfl⟩
          have cX1 : callP n (ofW (x : Int)) false true false = (11600 + (u : Int), 2300 + (u : Int), true) := cX.trans ((call_yes hP hr hn1 hm hu).trans (by rw [hO]))
          have cY1 : callP n (ofW (y : Int)) false true false = (11600 + (v : Int), 2300 + (v : Int), true) := cY.trans ((call_yes hP hr hn1 hm hv).trans (by rw [hO]))
          have cZ1 : callP n W.zero false true false = (11600, 2300, true) := cZ.trans ((call_yes (x := 0) (u := 0) hP hr hn1 hm (by rw [if_neg (Nat.not_lt_zero _)])).trans (by rw [hO]; rfl))
          have ux : u ≤ x := by rw [hu]; split <;> omega
          have uv : u ≤ v := by rw [hu, hv]; split <;> split <;> omega
          have um : u ≤ m := by rw [hu]; split <;> omega
          have vm : v ≤ m := by rw [hv]; split <;> omega
          have mr : m ≤ r := by omega
          have g1 : 11600 + (u : Int) ≤ (n : Int) := by omega
          have g2 : 11600 + (v : Int) ≤ (n : Int) := by omega
          have g3 : 2300 + (u : Int) ≤ 2300 + (v : Int) := by omega
          have g4 : 11600 + (u : Int) - 11600 = (u : Int) := by omega
          have g5 : 2300 + (u : Int) - 2300 = (u : Int) := by omega
          have g6 : 2300 + (u : Int) ≤ (x : Int) + 2300 := by omega
          have g7 : 2300 + (v : Int) - 2300 = (v : Int) := by omega
          have g8 : (n : Int) - 11600 = (r : Int) := by omega
          obtain ⟨k, hk⟩ : ∃ k, k = r / 64 := ⟨_, rfl⟩
          have g9 : (r : Int).tdiv 64 = (k : Int) := by rw [hk]; rfl
          have g10 : (r : Int) - (k : Int) = (m : Int) := by omega
          simp only [push_cast, Nat.reduceAdd, Nat.reduceSub, Nat.reduceMul, Nat.reduceLT, Nat.reduceLeDiff, Nat.reduceEqDiff, Nat.reduceMod, Nat.reduceDiv, Int.reduceAdd, Int.reduceSub, Int.reduceMul, Int.reduceLT, Int.reduceLE, Int.reduceEq, Int.reduceNeg, Int.reduceToNat, reduceIte, reduceCtorEq, Int.reduceBEq, Int.reduceBNe, Bool.true_beq, Bool.false_beq, Bool.true_bne, Bool.false_bne, Bool.not_true, Bool.not_false, cX1, cY1, cZ1, jn]
          refine regO gQ2_ok ?_
          simp only [push_cast, Nat.reduceAdd, Nat.reduceSub, Nat.reduceMul, Nat.reduceLT, Nat.reduceLeDiff, Nat.reduceEqDiff, Nat.reduceMod, Nat.reduceDiv, Int.reduceAdd, Int.reduceSub, Int.reduceMul, Int.reduceLT, Int.reduceLE, Int.reduceEq, Int.reduceNeg, Int.reduceToNat, reduceIte, reduceCtorEq, Int.reduceBEq, Int.reduceBNe, Bool.true_beq, Bool.false_beq, Bool.true_bne, Bool.false_bne, Bool.not_true, Bool.not_false, nc]
          refine regO gQ2_ok ?_
          by_cases hmy : m < y
          · have hvm : v = m := by rw [hv, if_pos hmy]
            have z1 : (2300 + (v : Int) == (y : Int) + 2300) = false := beq_eq_false_iff_ne.2 (by omega)
            rw [hvm] at g2 g3 g7 z1 uv ⊢
            have g3n : u ≤ m := um
            simp only [push_cast, Nat.reduceAdd, Nat.reduceSub, Nat.reduceMul, Nat.reduceLT, Nat.reduceLeDiff, Nat.reduceEqDiff, Nat.reduceMod, Nat.reduceDiv, Int.reduceAdd, Int.reduceSub, Int.reduceMul, Int.reduceLT, Int.reduceLE, Int.reduceEq, Int.reduceNeg, Int.reduceToNat, reduceIte, reduceCtorEq, Int.reduceBEq, Int.reduceBNe, Bool.true_beq, Bool.false_beq, Bool.true_bne, Bool.false_bne, Bool.not_true, Bool.not_false, g1, g2, g3, g3n, g4, g5, g6, ux, g7, g8, g9, g10, z1, beq_self_eq_true, Int.sub_zero, Int.add_zero, wrap_i64' (show -9223372036854775808 ≤ (u : Int) ∧ (u : Int) ≤ 9223372036854775807 by omega), wrap_i64' (show -9223372036854775808 ≤ (m : Int) ∧ (m : Int) ≤ 9223372036854775807 by omega), wrap_i64' (show -9223372036854775808 ≤ (r : Int) ∧ (r : Int) ≤ 9223372036854775807 by omega), wrap_i64' (show -9223372036854775808 ≤ (k : Int) ∧ (k : Int) ≤ 9223372036854775807 by omega), wrap_i64' (show -9223372036854775808 ≤ (x : Int) ∧ (x : Int) ≤ 9223372036854775807 by omega), wrap_i64' (show -9223372036854775808 ≤ (y : Int) ∧ (y : Int) ≤ 9223372036854775807 by omega), wrap_i64' (show -9223372036854775808 ≤ (x : Int) + 2300 ∧ (x : Int) + 2300 ≤ 9223372036854775807 by omega), wrap_i64' (show -9223372036854775808 ≤ (y : Int) + 2300 ∧ (y : Int) + 2300 ≤ 9223372036854775807 by omega)]
          · have hvy : v = y := by rw [hv, if_neg hmy]
            have z1 : (2300 + (v : Int) == (y : Int) + 2300) = true := beq_iff_eq.2 (by omega)
            simp only [push_cast, Nat.reduceAdd, Nat.reduceSub, Nat.reduceMul, Nat.reduceLT, Nat.reduceLeDiff, Nat.reduceEqDiff, Nat.reduceMod, Nat.reduceDiv, Int.reduceAdd, Int.reduceSub, Int.reduceMul, Int.reduceLT, Int.reduceLE, Int.reduceEq, Int.reduceNeg, Int.reduceToNat, reduceIte, reduceCtorEq, Int.reduceBEq, Int.reduceBNe, Bool.true_beq, Bool.false_beq, Bool.true_bne, Bool.false_bne, Bool.not_true, Bool.not_false, g1, g2, g3, uv, g4, g5, g6, ux, g7, g8, g9, g10, z1, beq_self_eq_true, Int.sub_zero, Int.add_zero, wrap_i64' (show -9223372036854775808 ≤ (u : Int) ∧ (u : Int) ≤ 9223372036854775807 by omega), wrap_i64' (show -9223372036854775808 ≤ (v : Int) ∧ (v : Int) ≤ 9223372036854775807 by omega), wrap_i64' (show -9223372036854775808 ≤ (r : Int) ∧ (r : Int) ≤ 9223372036854775807 by omega), wrap_i64' (show -9223372036854775808 ≤ (k : Int) ∧ (k : Int) ≤ 9223372036854775807 by omega), wrap_i64' (show -9223372036854775808 ≤ (x : Int) ∧ (x : Int) ≤ 9223372036854775807 by omega), wrap_i64' (show -9223372036854775808 ≤ (y : Int) ∧ (y : Int) ≤ 9223372036854775807 by omega), wrap_i64' (show -9223372036854775808 ≤ (x : Int) + 2300 ∧ (x : Int) + 2300 ≤ 9223372036854775807 by omega), wrap_i64' (show -9223372036854775808 ≤ (y : Int) + 2300 ∧ (y : Int) + 2300 ≤ 9223372036854775807 by omega)]
      · skip
        have hP : priceI false true true = 36600 := rfl
        have hO : ownI true = 2300 := rfl
        by_cases h : (n : Int) < 36600
        · have nc : ¬ (36600 : Int) ≤ (n : Int) := by omega
          have cX1 := cX.trans (call_no n _ _ _ _ h)
          have cY1 := cY.trans (call_no n _ _ _ _ h)
          have cZ1 := cZ.trans (call_no n _ _ _ _ h)
          simp only [push_cast, Nat.reduceAdd, Nat.reduceSub, Nat.reduceMul, Nat.reduceLT, Nat.reduceLeDiff, Nat.reduceEqDiff, Nat.reduceMod, Nat.reduceDiv, Int.reduceAdd, Int.reduceSub, Int.reduceMul, Int.reduceLT, Int.reduceLE, Int.reduceEq, Int.reduceNeg, Int.reduceToNat, reduceIte, reduceCtorEq, Int.reduceBEq, Int.reduceBNe, Bool.true_beq, Bool.false_beq, Bool.true_bne, Bool.false_bne, Bool.not_true, Bool.not_false, cX1, cY1, cZ1, jn]
          refine regO gQ2_ok ?_
          simp only [push_cast, Nat.reduceAdd, Nat.reduceSub, Nat.reduceMul, Nat.reduceLT, Nat.reduceLeDiff, Nat.reduceEqDiff, Nat.reduceMod, Nat.reduceDiv, Int.reduceAdd, Int.reduceSub, Int.reduceMul, Int.reduceLT, Int.reduceLE, Int.reduceEq, Int.reduceNeg, Int.reduceToNat, reduceIte, reduceCtorEq, Int.reduceBEq, Int.reduceBNe, Bool.true_beq, Bool.false_beq, Bool.true_bne, Bool.false_bne, Bool.not_true, Bool.not_false, nc]
          refine regO gQ2_ok ?_
          simp only [push_cast, Nat.reduceAdd, Nat.reduceSub, Nat.reduceMul, Nat.reduceLT, Nat.reduceLeDiff, Nat.reduceEqDiff, Nat.reduceMod, Nat.reduceDiv, Int.reduceAdd, Int.reduceSub, Int.reduceMul, Int.reduceLT, Int.reduceLE, Int.reduceEq, Int.reduceNeg, Int.reduceToNat, reduceIte, reduceCtorEq, Int.reduceBEq, Int.reduceBNe, Bool.true_beq, Bool.false_beq, Bool.true_bne, Bool.false_bne, Bool.not_true, Bool.not_false, nc]
        · have nc : (36600 : Int) ≤ (n : Int) := by omega
          obtain ⟨r, hr⟩ : ∃ r : Nat, (n : Int) = 36600 + (r : Int) := ⟨((n : Int) - 36600).toNat, by omega⟩
          obtain ⟨m, hm⟩ : ∃ m, m = r - r / 64 := ⟨_, rfl⟩
          obtain ⟨u, hu⟩ : ∃ u, u = if m < x then m else x := ⟨_, rfl⟩
          obtain ⟨v, hv⟩ : ∃ v, v = if m < y then m else y := ⟨_, rfl⟩
          have cX1 : callP n (ofW (x : Int)) false true true = (36600 + (u : Int), 2300 + (u : Int), true) := cX.trans ((call_yes hP hr hn1 hm hu).trans (by rw [hO]))
          have cY1 : callP n (ofW (y : Int)) false true true = (36600 + (v : Int), 2300 + (v : Int), true) := cY.trans ((call_yes hP hr hn1 hm hv).trans (by rw [hO]))
          have cZ1 : callP n W.zero false true true = (36600, 2300, true) := cZ.trans ((call_yes (x := 0) (u := 0) hP hr hn1 hm (by rw [if_neg (Nat.not_lt_zero _)])).trans (by rw [hO]; rfl))
          have ux : u ≤ x := by rw [hu]; split <;> omega
          have uv : u ≤ v := by rw [hu, hv]; split <;> split <;> omega
          have um : u ≤ m := by rw [hu]; split <;> omega
          have vm : v ≤ m := by rw [hv]; split <;> omega
          have mr : m ≤ r := by omega
          have g1 : 36600 + (u : Int) ≤ (n : Int) := by omega
          have g2 : 36600 + (v : Int) ≤ (n : Int) := by omega
          have g3 : 2300 + (u : Int) ≤ 2300 + (v : Int) := by omega
          have g4 : 36600 + (u : Int) - 36600 = (u : Int) := by omega
          have g5 : 2300 + (u : Int) - 2300 = (u : Int) := by omega
          have g6 : 2300 + (u : Int) ≤ (x : Int) + 2300 := by omega
          have g7 : 2300 + (v : Int) - 2300 = (v : Int) := by omega
          have g8 : (n : Int) - 36600 = (r : Int) := by omega
          obtain ⟨k, hk⟩ : ∃ k, k = r / 64 := ⟨_, rfl⟩
          have g9 : (r : Int).tdiv 64 = (k : Int) := by rw [hk]; rfl
          have g10 : (r : Int) - (k : Int) = (m : Int) := by omega
          simp only [push_cast, Nat.reduceAdd, Nat.reduceSub, Nat.reduceMul, Nat.reduceLT, Nat.reduceLeDiff, Nat.reduceEqDiff, Nat.reduceMod, Nat.reduceDiv, Int.reduceAdd, Int.reduceSub, Int.reduceMul, Int.reduceLT, Int.reduceLE, Int.reduceEq, Int.reduceNeg, Int.reduceToNat, reduceIte, reduceCtorEq, Int.reduceBEq, Int.reduceBNe, Bool.true_beq, Bool.false_beq, Bool.true_bne, Bool.false_bne, Bool.not_true, Bool.not_false, cX1, cY1, cZ1, jn]
          refine regO gQ2_ok ?_
          simp only [push_cast, Nat.reduceAdd, Nat.reduceSub, Nat.reduceMul, Nat.reduceLT, Nat.reduceLeDiff, Nat.reduceEqDiff, Nat.reduceMod, Nat.reduceDiv, Int.reduceAdd, Int.reduceSub, Int.reduceMul, Int.reduceLT, Int.reduceLE, Int.reduceEq, Int.reduceNeg, Int.reduceToNat, reduceIte, reduceCtorEq, Int.reduceBEq, Int.reduceBNe, Bool.true_beq, Bool.false_beq, Bool.true_bne, Bool.false_bne, Bool.not_true, Bool.not_false, nc]
          refine regO gQ2_ok ?_
          by_cases hmy : m < y
          · have hvm : v = m := by rw [hv, if_pos hmy]
            have z1 : (2300 + (v : Int) == (y : Int) + 2300) = false := beq_eq_false_iff_ne.2 (by omega)
            rw [hvm] at g2 g3 g7 z1 uv ⊢
            have g3n : u ≤ m := um
            simp only [push_cast, Nat.reduceAdd, Nat.reduceSub, Nat.reduceMul, Nat.reduceLT, Nat.reduceLeDiff, Nat.reduceEqDiff, Nat.reduceMod, Nat.reduceDiv, Int.reduceAdd, Int.reduceSub, Int.reduceMul, Int.reduceLT, Int.reduceLE, Int.reduceEq, Int.reduceNeg, Int.reduceToNat, reduceIte, reduceCtorEq, Int.reduceBEq, Int.reduceBNe, Bool.true_beq, Bool.false_beq, Bool.true_bne, Bool.false_bne, Bool.not_true, Bool.not_false, g1, g2, g3, g3n, g4, g5, g6, ux, g7, g8, g9, g10, z1, beq_self_eq_true, Int.sub_zero, Int.add_zero, wrap_i64' (show -9223372036854775808 ≤ (u : Int) ∧ (u : Int) ≤ 9223372036854775807 by omega), wrap_i64' (show -9223372036854775808 ≤ (m : Int) ∧ (m : Int) ≤ 9223372036854775807 by omega), wrap_i64' (show -9223372036854775808 ≤ (r : Int) ∧ (r : Int) ≤ 9223372036854775807 by omega), wrap_i64' (show -9223372036854775808 ≤ (k : Int) ∧ (k : Int) ≤ 9223372036854775807 by omega), wrap_i64' (show -9223372036854775808 ≤ (x : Int) ∧ (x : Int) ≤ 9223372036854775807 by omega), wrap_i64' (show -9223372036854775808 ≤ (y : Int) ∧ (y : Int) ≤ 9223372036854775807 by omega), wrap_i64' (show -9223372036854775808 ≤ (x : Int) + 2300 ∧ (x : Int) + 2300 ≤ 9223372036854775807 by omega), wrap_i64' (show -9223372036854775808 ≤ (y : Int) + 2300 ∧ (y : Int) + 2300 ≤ 9223372036854775807 by omega)]
          · have hvy : v = y := by rw [hv, if_neg hmy]
            have z1 : (2300 + (v : Int) == (y : Int) + 2300) = true := beq_iff_eq.2 (by omega)
            simp only [push_cast, Nat.reduceAdd, Nat.reduceSub, Nat.reduceMul, Nat.reduceLT, Nat.reduceLeDiff, Nat.reduceEqDiff, Nat.reduceMod, Nat.reduceDiv, Int.reduceAdd, Int.reduceSub, Int.reduceMul, Int.reduceLT, Int.reduceLE, Int.reduceEq, Int.reduceNeg, Int.reduceToNat, reduceIte, reduceCtorEq, Int.reduceBEq, Int.reduceBNe, Bool.true_beq, Bool.false_beq, Bool.true_bne, Bool.false_bne, Bool.not_true, Bool.not_false, g1, g2, g3, uv, g4, g5, g6, ux, g7, g8, g9, g10, z1, beq_self_eq_true, Int.sub_zero, Int.add_zero, wrap_i64' (show -9223372036854775808 ≤ (u : Int) ∧ (u : Int) ≤ 9223372036854775807 by omega), wrap_i64' (show -9223372036854775808 ≤ (v : Int) ∧ (v : Int) ≤ 9223372036854775807 by omega), wrap_i64' (show -9223372036854775808 ≤ (r : Int) ∧ (r : Int) ≤ 9223372036854775807 by omega), wrap_i64' (show -9223372036854775808 ≤ (k : Int) ∧ (k : Int) ≤ 9223372036854775807 by omega), wrap_i64' (show -9223372036854775808 ≤ (x : Int) ∧ (x : Int) ≤ 9223372036854775807 by omega), wrap_i64' (show -9223372036854775808 ≤ (y : Int) ∧ (y : Int) ≤ 9223372036854775807 by omega), wrap_i64' (show -9223372036854775808 ≤ (x : Int) + 2300 ∧ (x : Int) + 2300 ≤ 9223372036854775807 by omega), wrap_i64' (show -9223372036854775808 ≤ (y : Int) + 2300 ∧ (y : Int) + 2300 ≤ 9223372036854775807 by omega)]
  · cases f1
    · cases f2
      · skip
        have hP : priceI true false false = 100 := rfl
        have hO : ownI false = 0 := rfl
        by_cases h : (n : Int) < 100
        · have nc : ¬ (100 : Int) ≤ (n : Int) := by omega
          have cX1 := cX.trans (call_no n _ _ _ _ h)
          have cY1 := cY.trans (call_no n _ _ _ _ h)
          have cZ1 := cZ.trans (call_no n _ _ _ _ h)
          simp only [push_cast, Nat.reduceAdd, Nat.reduceSub, Nat.reduceMul, Nat.reduceLT, Nat.reduceLeDiff, Nat.reduceEqDiff, Nat.reduceMod, Nat.reduceDiv, Int.reduceAdd, Int.reduceSub, Int.reduceMul, Int.reduceLT, Int.reduceLE, Int.reduceEq, Int.reduceNeg, Int.reduceToNat, reduceIte, reduceCtorEq, Int.reduceBEq, Int.reduceBNe, Bool.true_beq, Bool.false_beq, Bool.true_bne, Bool.false_bne, Bool.not_true, Bool.not_false, cX1, cY1, cZ1, jn]
          refine regO gQ2_ok ?_
          simp only [push_cast, Nat.reduceAdd, Nat.reduceSub, Nat.reduceMul, Nat.reduceLT, Nat.reduceLeDiff, Nat.reduceEqDiff, Nat.reduceMod, Nat.reduceDiv, Int.reduceAdd, Int.reduceSub, Int.reduceMul, Int.reduceLT, Int.reduceLE, Int.reduceEq, Int.reduceNeg, Int.reduceToNat, reduceIte, reduceCtorEq, Int.reduceBEq, Int.reduceBNe, Bool.true_beq, Bool.false_beq, Bool.true_bne, Bool.false_bne, Bool.not_true, Bool.not_false, nc]
          refine regO gQ2_ok ?_
          simp only [push_cast, Nat.reduceAdd, Nat.reduceSub, Nat.reduceMul, Nat.reduceLT, Nat.reduceLeDiff, Nat.reduceEqDiff, Nat.reduceMod, Nat.reduceDiv, Int.reduceAdd, Int.reduceSub, Int.reduceMul, Int.reduceLT, Int.reduceLE, Int.reduceEq, Int.reduceNeg, Int.reduceToNat, reduceIte, reduceCtorEq, Int.reduceBEq, Int.reduceBNe, Bool.true_beq, Bool.false_beq, Bool.true_bne, Bool.false_bne, Bool.not_true, Bool.not_false, nc]
        · have nc : (100 : Int) ≤ (n : Int) := by omega
          obtain ⟨r, hr⟩ : ∃ r : Nat, (n : Int) = 100 + (r : Int) := ⟨((n : Int) - 100).toNat, by omega⟩
          obtain ⟨m, hm⟩ : ∃ m, m = r - r / 64 := ⟨_, rfl⟩
          obtain ⟨u, hu⟩ : ∃ u, u = if m < x then m else x := ⟨_, rfl⟩
          obtain ⟨v, hv⟩ : ∃ v, v = if m < y then m else y := ⟨_, rfl⟩
          have cX1 : callP n (ofW (x : Int)) true false false = (100 + (u : Int), (u : Int), true) := cX.trans ((call_yes hP hr hn1 hm hu).trans (by rw [hO]; rw [Int.zero_add]))
          have cY1 : callP n (ofW (y : Int)) true false false = (100 + (v : Int), (v : Int), true) := cY.trans ((call_yes hP hr hn1 hm hv).trans (by rw [hO]; rw [Int.zero_add]))
          have cZ1 : callP n W.zero true false false = (100, 0, true) := cZ.trans ((call_yes (x := 0) (u := 0) hP hr hn1 hm (by rw [if_neg (Nat.not_lt_zero _)])).trans (by rw [hO]; rfl))
          have ux : u ≤ x := by rw [hu]; split <;> omega
          have uv : u ≤ v := by rw [hu, hv]; split <;> split <;> omega
          have um : u ≤ m := by rw [hu]; split <;> omega
          have vm : v ≤ m := by rw [hv]; split <;> omega
          have mr : m ≤ r := by omega
          have g1 : 100 + (u : Int) ≤ (n : Int) := by omega
          have g2 : 100 + (v : Int) ≤ (n : Int) := by omega
          have g3 : (u : Int) ≤ (v : Int) := by omega
          have g4 : 100 + (u : Int) - 100 = (u : Int) := by omega
          have g5 : (u : Int) - 0 = (u : Int) := by omega
          have g6 : (u : Int) ≤ (x : Int) := by omega
          have g7 : (v : Int) - 0 = (v : Int) := by omega
          have g8 : (n : Int) - 100 = (r : Int) := by omega
          obtain ⟨k, hk⟩ : ∃ k, k = r / 64 := ⟨_, rfl⟩
          have g9 : (r : Int).tdiv 64 = (k : Int) := by rw [hk]; rfl
          have g10 : (r : Int) - (k : Int) = (m : Int) := by omega
          simp only [push_cast, Nat.reduceAdd, Nat.reduceSub, Nat.reduceMul, Nat.reduceLT, Nat.reduceLeDiff, Nat.reduceEqDiff, Nat.reduceMod, Nat.reduceDiv, Int.reduceAdd, Int.reduceSub, Int.reduceMul, Int.reduceLT, Int.reduceLE, Int.reduceEq, Int.reduceNeg, Int.reduceToNat, reduceIte, reduceCtorEq, Int.reduceBEq, Int.reduceBNe, Bool.true_beq, Bool.false_beq, Bool.true_bne, Bool.false_bne, Bool.not_true, Bool.not_false, cX1, cY1, cZ1, jn]
          refine regO gQ2_ok ?_
          simp only [push_cast, Nat.reduceAdd, Nat.reduceSub, Nat.reduceMul, Nat.reduceLT, Nat.reduceLeDiff, Nat.reduceEqDiff, Nat.reduceMod, Nat.reduceDiv, Int.reduceAdd, Int.reduceSub, Int.reduceMul, Int.reduceLT, Int.reduceLE, Int.reduceEq, Int.reduceNeg, Int.reduceToNat, reduceIte, reduceCtorEq, Int.reduceBEq, Int.reduceBNe, Bool.true_beq, Bool.false_beq, Bool.true_bne, Bool.false_bne, Bool.not_true, Bool.not_false, nc]
          refine regO gQ2_ok ?_
          by_cases hmy : m < y
          · have hvm : v = m := by rw [hv, if_pos hmy]
            have z1 : ((v : Int) == (y : Int)) = false := beq_eq_false_iff_ne.2 (by omega)
            rw [hvm] at g2 g3 g7 z1 uv ⊢
            have g3n : u ≤ m := um
            simp only [push_cast, Nat.reduceAdd, Nat.reduceSub, Nat.reduceMul, Nat.reduceLT, Nat.reduceLeDiff, Nat.reduceEqDiff, Nat.reduceMod, Nat.reduceDiv, Int.reduceAdd, Int.reduceSub, Int.reduceMul, Int.reduceLT, Int.reduceLE, Int.reduceEq, Int.reduceNeg, Int.reduceToNat, reduceIte, reduceCtorEq, Int.reduceBEq, Int.reduceBNe, Bool.true_beq, Bool.false_beq, Bool.true_bne, Bool.false_bne, Bool.not_true, Bool.not_false, g1, g2, g3, g3n, g4, g5, g6, ux, g7, g8, g9, g10, z1, beq_self_eq_true, Int.sub_zero, Int.add_zero, wrap_i64' (show -9223372036854775808 ≤ (u : Int) ∧ (u : Int) ≤ 9223372036854775807 by omega), wrap_i64' (show -9223372036854775808 ≤ (m : Int) ∧ (m : Int) ≤ 9223372036854775807 by omega), wrap_i64' (show -9223372036854775808 ≤ (r : Int) ∧ (r : Int) ≤ 9223372036854775807 by omega), wrap_i64' (show -9223372036854775808 ≤ (k : Int) ∧ (k : Int) ≤ 9223372036854775807 by omega), wrap_i64' (show -9223372036854775808 ≤ (x : Int) ∧ (x : Int) ≤ 9223372036854775807 by omega), wrap_i64' (show -9223372036854775808 ≤ (y : Int) ∧ (y : Int) ≤ 9223372036854775807 by omega), wrap_i64' (show -9223372036854775808 ≤ (x : Int) + 2300 ∧ (x : Int) + 2300 ≤ 9223372036854775807 by omega), wrap_i64' (show -9223372036854775808 ≤ (y : Int) + 2300 ∧ (y : Int) + 2300 ≤ 9223372036854775807 by omega)]
          · have hvy : v = y := by rw [hv, if_neg hmy]
            have z1 : ((v : Int) == (y : Int)) = true := beq_iff_eq.2 (by omega)
            simp only [push_cast, Nat.reduceAdd, Nat.reduceSub, Nat.reduceMul, Nat.reduceLT, Nat.reduceLeDiff, Nat.reduceEqDiff, Nat.reduceMod, Nat.reduceDiv, Int.reduceAdd, Int.reduceSub, Int.reduceMul, Int.reduceLT, Int.reduceLE, Int.reduceEq, Int.reduceNeg, Int.reduceToNat, reduceIte, reduceCtorEq, Int.reduceBEq, Int.reduceBNe, Bool.true_beq, Bool.false_beq, Bool.true_bne, Bool.false_bne, Bool.not_true, Bool.not_false, g1, g2, g3, uv, g4, g5, g6, ux, g7, g8, g9, g10, z1, beq_self_eq_true, Int.sub_zero, Int.add_zero, wrap_i64' (show -9223372036854775808 ≤ (u : Int) ∧ (u : Int) ≤ 9223372036854775807 by omega), wrap_i64' (show -9223372036854775808 ≤ (v : Int) ∧ (v : Int) ≤ 9223372036854775807 by omega), wrap_i64' (show -9223372036854775808 ≤ (r : Int) ∧ (r : Int) ≤ 9223372036854775807 by omega), wrap_i64' (show -9223372036854775808 ≤ (k : Int) ∧ (k : Int) ≤ 9223372036854775807 by omega), wrap_i64' (show -9223372036854775808 ≤ (x : Int) ∧ (x : Int) ≤ 9223372036854775807 by omega), wrap_i64' (show -9223372036854775808 ≤ (y : Int) ∧ (y : Int) ≤ 9223372036854775807 by omega), wrap_i64' (show -9223372036854775808 ≤ (x : Int) + 2300 ∧ (x : Int) + 2300 ≤ 9223372036854775807 by omega), wrap_i64' (show -9223372036854775808 ≤ (y : Int) + 2300 ∧ (y : Int) + 2300 ≤ 9223372036854775807 by omega)]
      · skip
        have hP : priceI true false true = 100 := rfl
        have hO : ownI false = 0 := rfl
        by_cases h : (n : Int) < 100
        · have nc : ¬ (100 : Int) ≤ (n : Int) := by omega
          have cX1 := cX.trans (call_no n _ _ _ _ h)
          have cY1 := cY.trans (call_no n _ _ _ _ h)
          have cZ1 := cZ.trans (call_no n _ _ _ _ h)
          simp only [push_cast, Nat.reduceAdd, Nat.reduceSub, Nat.reduceMul, Nat.reduceLT, Nat.reduceLeDiff, Nat.reduceEqDiff, Nat.reduceMod, Nat.reduceDiv, Int.reduceAdd, Int.reduceSub, Int.reduceMul, Int.reduceLT, Int.reduceLE, Int.reduceEq, Int.reduceNeg, Int.reduceToNat, reduceIte, reduceCtorEq, Int.reduceBEq, Int.reduceBNe, Bool.true_beq, Bool.false_beq, Bool.true_bne, Bool.false_bne, Bool.not_true, Bool.not_false, cX1, cY1, cZ1, jn]
          refine regO gQ2_ok ?_
          simp only [push_cast, Nat.reduceAdd, Nat.reduceSub, Nat.reduceMul, Nat.reduceLT, Nat.reduceLeDiff, Nat.reduceEqDiff, Nat.reduceMod, Nat.reduceDiv, Int.reduceAdd, Int.reduceSub, Int.reduceMul, Int.reduceLT, Int.reduceLE, Int.reduceEq, Int.reduceNeg, Int.reduceToNat, reduceIte, reduceCtorEq, Int.reduceBEq, Int.reduceBNe, Bool.true_beq, Bool.false_beq, Bool.true_bne, Bool.false_bne, Bool.not_true, Bool.not_false, nc]
          refine regO gQ2_ok ?_
          simp only [push_cast, Nat.reduceAdd, Nat.reduceSub, Nat.reduceMul, Nat.reduceLT, Nat.reduceLeDiff, Nat.reduceEqDiff, Nat.reduceMod, Nat.reduceDiv, Int.reduceAdd, Int.reduceSub, Int.reduceMul, Int.reduceLT, Int.reduceLE, Int.reduceEq, Int.reduceNeg, Int.reduceToNat, reduceIte, reduceCtorEq, Int.reduceBEq, Int.reduceBNe, Bool.true_beq, Bool.false_beq, Bool.true_bne, Bool.false_bne, Bool.not_true, Bool.not_false, nc]
        · have nc : (100 : Int) ≤ (n : Int) := by omega
          obtain ⟨r, hr⟩ : ∃ r : Nat, (n : Int) = 100 + (r : Int) := ⟨((n : Int) - 100).toNat, by omega⟩
          obtain ⟨m, hm⟩ : ∃ m, m = r - r / 64 := ⟨_, rfl⟩
          obtain ⟨u, hu⟩ : ∃ u, u = if m < x then m else x := ⟨_, rfl⟩
          obtain ⟨v, hv⟩ : ∃ v, v = if m < y then m else y := ⟨_, rfl⟩
          have cX1 : callP n (ofW (x : Int)) true false true = (100 + (u : Int), (u : Int), true) := cX.trans ((call_yes hP hr hn1 hm hu).trans (by rw [hO]; rw [Int.zero_add]))
          have cY1 : callP n (ofW (y : Int)) true false true = (100 + (v : Int), (v : Int), true) := cY.trans ((call_yes hP hr hn1 hm hv).trans (by rw [hO]; rw [Int.zero_add]))
          have cZ1 : callP n W.zero true false true = (100, 0, true) := cZ.trans ((call_yes (x := 0) (u := 0) hP hr hn1 hm (by rw [if_neg (Nat.not_lt_zero _)])).trans (by rw [hO]; rfl))
          have ux : u ≤ x := by rw [hu]; split <;> omega
          have uv : u ≤ v := by rw [hu, hv]; split <;> split <;> omega
          have um : u ≤ m := by rw [hu]; split <;> omega
          have vm : v ≤ m := by rw [hv]; split <;> omega
          have mr : m ≤ r := by omega
          have g1 : 100 + (u : Int) ≤ (n : Int) := by omega
          have g2 : 100 + (v : Int) ≤ (n : Int) := by omega
          have g3 : (u : Int) ≤ (v : Int) := by omega
          have g4 : 100 + (u : Int) - 100 = (u : Int) := by omega
          have g5 : (u : Int) - 0 = (u : Int) := by omega
          have g6 : (u : Int) ≤ (x : Int) := by omega
          have g7 : (v : Int) - 0 = (v : Int) := by omega
          have g8 : (n : Int) - 100 = (r : Int) := by omega
          obtain ⟨k, hk⟩ : ∃ k, k = r / 64 := ⟨_, rfl⟩
          have g9 : (r : Int).tdiv 64 = (k : Int) := by rw [hk]; rfl
          have g10 : (r : Int) - (k : Int) = (m : Int) := by omega
          simp only [push_cast, Nat.reduceAdd, Nat.reduceSub, Nat.reduceMul, Nat.reduceLT, Nat.reduceLeDiff, Nat.reduceEqDiff, Nat.reduceMod, Nat.reduceDiv, Int.reduceAdd, Int.reduceSub, Int.reduceMul, Int.reduceLT, Int.reduceLE, Int.reduceEq, Int.reduceNeg, Int.reduceToNat, reduceIte, reduceCtorEq, Int.reduceBEq, Int.reduceBNe, Bool.true_beq, Bool.false_beq, Bool.true_bne, Bool.false_bne, Bool.not_true, Bool.not_false, cX1, cY1, cZ1, jn]
          refine regO gQ2_ok ?_
          simp only [push_cast, Nat.reduceAdd, Nat.reduceSub, Nat.reduceMul, Nat.reduceLT, Nat.reduceLeDiff, Nat.reduceEqDiff, Nat.reduceMod, Nat.reduceDiv, Int.reduceAdd, Int.reduceSub, Int.reduceMul, Int.reduceLT, Int.reduceLE, Int.reduceEq, Int.reduceNeg, Int.reduceToNat, reduceIte, reduceCtorEq, Int.reduceBEq, Int.reduceBNe, Bool.true_beq, Bool.false_beq, Bool.true_bne, Bool.false_bne, Bool.not_true, Bool.not_false, nc]
          refine regO gQ2_ok ?_
          by_cases hmy : m < y
          · have hvm : v = m := by rw [hv, if_pos hmy]
            have z1 : ((v : Int) == (y : Int)) = false := beq_eq_false_iff_ne.2 (by omega)
            rw [hvm] at g2 g3 g7 z1 uv ⊢
            have g3n : u ≤ m := um
            simp only [push_cast, Nat.reduceAdd, Nat.reduceSub, Nat.reduceMul, Nat.reduceLT, Nat.reduceLeDiff, Nat.reduceEqDiff, Nat.reduceMod, Nat.reduceDiv, Int.reduceAdd, Int.reduceSub, Int.reduceMul, Int.reduceLT, Int.reduceLE, Int.reduceEq, Int.reduceNeg, Int.reduceToNat, reduceIte, reduceCtorEq, Int.reduceBEq, Int.reduceBNe, Bool.true_beq, Bool.false_beq, Bool.true_bne, Bool.false_bne, Bool.not_true, Bool.not_false, g1, g2, g3, g3n, g4, g5, g6, ux, g7, g8, g9, g10, z1, beq_self_eq_true, Int.sub_zero, Int.add_zero, wrap_i64' (show -9223372036854775808 ≤ (u : Int) ∧ (u : Int) ≤ 9223372036854775807 by omega), wrap_i64' (show -9223372036854775808 ≤ (m : Int) ∧ (m : Int) ≤ 9223372036854775807 by omega), wrap_i64' (show -9223372036854775808 ≤ (r : Int) ∧ (r : Int) ≤ 9223372036854775807 by omega), wrap_i64' (show -9223372036854775808 ≤ (k : Int) ∧ (k : Int) ≤ 9223372036854775807 by omega), wrap_i64' (show -9223372036854775808 ≤ (x : Int) ∧ (x : Int) ≤ 9223372036854775807 by omega), wrap_i64' (show -9223372036854775808 ≤ (y : Int) ∧ (y : Int) ≤ 9223372036854775807 by omega), wrap_i64' (show -9223372036854775808 ≤ (x : Int) + 2300 ∧ (x : Int) + 2300 ≤ 9223372036854775807 by omega), wrap_i64' (show -9223372036854775808 ≤ (y : Int) + 2300 ∧ (y : Int) + 2300 ≤ 9223372036854775807 by omega)]
          · have hvy : v = y := by rw [hv, if_neg hmy]
            have z1 : ((v : Int) == (y : Int)) = true := beq_iff_eq.2 (by omega)
            simp only [push_cast, Nat.reduceAdd, Nat.reduceSub, Nat.reduceMul, Nat.reduceLT, Nat.reduceLeDiff, Nat.reduceEqDiff, Nat.reduceMod, Nat.reduceDiv, Int.reduceAdd, Int.reduceSub, Int.reduceMul, Int.reduceLT, Int.reduceLE, Int.reduceEq, Int.reduceNeg, Int.reduceToNat, reduceIte, reduceCtorEq, Int.reduceBEq, Int.reduceBNe, Bool.true_beq, Bool.false_beq, Bool.true_bne, Bool.false_bne, Bool.not_true, Bool.not_false, g1, g2, g3, uv, g4, g5, g6, ux, g7, g8, g9, g10, z1, beq_self_eq_true, Int.sub_zero, Int.add_zero, wrap_i64' (show -9223372036854775808 ≤ (u : Int) ∧ (u : Int) ≤ 9223372036854775807 by omega), wrap_i64' (show -9223372036854775808 ≤ (v : Int) ∧ (v : Int) ≤ 9223372036854775807 by omega), wrap_i64' (show -9223372036854775808 ≤ (r : Int) ∧ (r : Int) ≤ 9223372036854775807 by omega), wrap_i64' (show -9223372036854775808 ≤ (k : Int) ∧ (k : Int) ≤ 9223372036854775807 by omega), wrap_i64' (show -9223372036854775808 ≤ (x : Int) ∧ (x : Int) ≤ 9223372036854775807 by omega), wrap_i64' (show -9223372036854775808 ≤ (y : Int) ∧ (y : Int) ≤ 9223372036854775807 by omega), wrap_i64' (show -9223372036854775808 ≤ (x : Int) + 2300 ∧ (x : Int) + 2300 ≤ 9223372036854775807 by omega), wrap_i64' (show -9223372036854775808 ≤ (y : Int) + 2300 ∧ (y : Int) + 2300 ≤ 9223372036854775807 by omega)]
    · cases f2
      · skip
        have hP : priceI true true false = 9100 := rfl
        have hO : ownI true = 2300 := rfl
        by_cases h : (n : Int) < 9100
        · have nc : ¬ (9100 : Int) ≤ (n : Int) := by omega
          have cX1 := cX.trans (call_no n _ _ _ _ h)
          have cY1 := cY.trans (call_no n _ _ _ _ h)
          have cZ1 := cZ.trans (call_no n _ _ _ _ h)
          simp only [push_cast, Nat.reduceAdd, Nat.reduceSub, Nat.reduceMul, Nat.reduceLT, Nat.reduceLeDiff, Nat.reduceEqDiff, Nat.reduceMod, Nat.reduceDiv, Int.reduceAdd, Int.reduceSub, Int.reduceMul, Int.reduceLT, Int.reduceLE, Int.reduceEq, Int.reduceNeg, Int.reduceToNat, reduceIte, reduceCtorEq, Int.reduceBEq, Int.reduceBNe, Bool.true_beq, Bool.false_beq, Bool.true_bne, Bool.false_bne, Bool.not_true, Bool.not_false, cX1, cY1, cZ1, jn]
          refine regO gQ2_ok ?_
          simp only [push_cast, Nat.reduceAdd, Nat.reduceSub, Nat.reduceMul, Nat.reduceLT, Nat.reduceLeDiff, Nat.reduceEqDiff, Nat.reduceMod, Nat.reduceDiv, Int.reduceAdd, Int.reduceSub, Int.reduceMul, Int.reduceLT, Int.reduceLE, Int.reduceEq, Int.reduceNeg, Int.reduceToNat, reduceIte, reduceCtorEq, Int.reduceBEq, Int.reduceBNe, Bool.true_beq, Bool.false_beq, Bool.true_bne, Bool.false_bne, Bool.not_true, Bool.not_false, nc]
          refine regO gQ2_ok ?_
          simp only [push_cast, Nat.reduceAdd, Nat.reduceSub, Nat.reduceMul, Nat.reduceLT, Nat.reduceLeDiff, Nat.reduceEqDiff, Nat.reduceMod, Nat.reduceDiv, Int.reduceAdd, Int.reduceSub, Int.reduceMul, Int.reduceLT, Int.reduceLE, Int.reduceEq, Int.reduceNeg, Int.reduceToNat, reduceIte, reduceCtorEq, Int.reduceBEq, Int.reduceBNe, Bool.true_beq, Bool.false_beq, Bool.true_bne, Bool.false_bne, Bool.not_true, Bool.not_false, nc]
        · have nc : (9100 : Int) ≤ (n : Int) := by omega
          obtain ⟨r, hr⟩ : ∃ r : Nat, (n : Int) = 9100 + (r : Int) := ⟨((n : Int) - 9100).toNat, by omega⟩
          obtain ⟨m, hm⟩ : ∃ m, m = r - r / 64 := ⟨_, rfl⟩
          obtain ⟨u, hu⟩ : ∃ u, u = if m < x then m else x := ⟨_, rfl⟩
          obtain ⟨v, hv⟩ : ∃ v, v = if m < y then m else y := ⟨_, rfl⟩
          have cX1 : callP n (ofW (x : Int)) true true false = (9100 + (u : Int), 2300 + (u : Int), true) := cX.trans ((call_yes hP hr hn1 hm hu).trans (by rw [hO]))
          have cY1 : callP n (ofW (y : Int)) true true false = (9100 + (v : Int), 2300 + (v : Int), true) := cY.trans ((call_yes hP hr hn1 hm hv).trans (by rw [hO]))
          have cZ1 : callP n W.zero true true false = (9100, 2300, true) := cZ.trans ((call_yes (x := 0) (u := 0) hP hr hn1 hm (by rw [if_neg (Nat.not_lt_zero _)])).trans (by rw [hO]; rfl))
          have ux : u ≤ x := by rw [hu]; split <;> omega
          have uv : u ≤ v := by rw [hu, hv]; split <;> split <;> omega
          have um : u ≤ m := by rw [hu]; split <;> omega
          have vm : v ≤ m := by rw [hv]; split <;> omega
          have mr : m ≤ r := by omega
          have g1 : 9100 + (u : Int) ≤ (n : Int) := by omega
          have g2 : 9100 + (v : Int) ≤ (n : Int) := by omega
          have g3 : 2300 + (u : Int) ≤ 2300 + (v : Int) := by omega
          have g4 : 9100 + (u : Int) - 9100 = (u : Int) := by omega
          have g5 : 2300 + (u : Int) - 2300 = (u : Int) := by omega
          have g6 : 2300 + (u : Int) ≤ (x : Int) + 2300 := by omega
          have g7 : 2300 + (v : Int) - 2300 = (v : Int) := by omega
          have g8 : (n : Int) - 9100 = (r : Int) := by omega
          obtain ⟨k, hk⟩ : ∃ k, k = r / 64 := ⟨_, rfl⟩
          have g9 : (r : Int).tdiv 64 = (k : Int) := by rw [hk]; rfl
          have g10 : (r : Int) - (k : Int) = (m : Int) := by omega
          simp only [push_cast, Nat.reduceAdd, Nat.reduceSub, Nat.reduceMul, Nat.reduceLT, Nat.reduceLeDiff, Nat.reduceEqDiff, Nat.reduceMod, Nat.reduceDiv, Int.reduceAdd, Int.reduceSub, Int.reduceMul, Int.reduceLT, Int.reduceLE, Int.reduceEq, Int.reduceNeg, Int.reduceToNat, reduceIte, reduceCtorEq, Int.reduceBEq, Int.reduceBNe, Bool.true_beq, Bool.false_beq, Bool.true_bne, Bool.false_bne, Bool.not_true, Bool.not_false, cX1, cY1, cZ1, jn]
          refine regO gQ2_ok ?_
          simp only [push_cast, Nat.reduceAdd, Nat.reduceSub, Nat.reduceMul, Nat.reduceLT, Nat.reduceLeDiff, Nat.reduceEqDiff, Nat.reduceMod, Nat.reduceDiv, Int.reduceAdd, Int.reduceSub, Int.reduceMul, Int.reduceLT, Int.reduceLE, Int.reduceEq, Int.reduceNeg, Int.reduceToNat, reduceIte, reduceCtorEq, Int.reduceBEq, Int.reduceBNe, Bool.true_beq, Bool.false_beq, Bool.true_bne, Bool.false_bne, Bool.not_true, Bool.not_false, nc]
          refine regO gQ2_ok ?_
          by_cases hmy : m < y
          · have hvm : v = m := by rw [hv, if_pos hmy]
            have z1 : (2300 + (v : Int) == (y : Int) + 2300) = false := beq_eq_false_iff_ne.2 (by omega)
            rw [hvm] at g2 g3 g7 z1 uv ⊢
            have g3n : u ≤ m := um
            simp only [push_cast, Nat.reduceAdd, Nat.reduceSub, Nat.reduceMul, Nat.reduceLT, Nat.reduceLeDiff, Nat.reduceEqDiff, Nat.reduceMod, Nat.reduceDiv, Int.reduceAdd, Int.reduceSub, Int.reduceMul, Int.reduceLT, Int.reduceLE, Int.reduceEq, Int.reduceNeg, Int.reduceToNat, reduceIte, reduceCtorEq, Int.reduceBEq, Int.reduceBNe, Bool.true_beq, Bool.false_beq, Bool.true_bne, Bool.false_bne, Bool.not_true, Bool.not_false, g1, g2, g3, g3n, g4, g5, g6, ux, g7, g8, g9, g10, z1, beq_self_eq_true, Int.sub_zero, Int.add_zero, wrap_i64' (show -9223372036854775808 ≤ (u : Int) ∧ (u : Int) ≤ 9223372036854775807 by omega), wrap_i64' (show -9223372036854775808 ≤ (m : Int) ∧ (m : Int) ≤ 9223372036854775807 by omega), wrap_i64' (show -9223372036854775808 ≤ (r : Int) ∧ (r : Int) ≤ 9223372036854775807 by omega), wrap_i64' (show -9223372036854775808 ≤ (k : Int) ∧ (k : Int) ≤ 9223372036854775807 by omega), wrap_i64' (show -9223372036854775808 ≤ (x : Int) ∧ (x : Int) ≤ 9223372036854775807 by omega), wrap_i64' (show -9223372036854775808 ≤ (y : Int) ∧ (y : Int) ≤ 9223372036854775807 by omega), wrap_i64' (show -9223372036854775808 ≤ (x : Int) + 2300 ∧ (x : Int) + 2300 ≤ 9223372036854775807 by omega), wrap_i64' (show -9223372036854775808 ≤ (y : Int) + 2300 ∧ (y : Int) + 2300 ≤ 9223372036854775807 by omega)]
          · have hvy : v = y := by rw [hv, if_neg hmy]
            have z1 : (2300 + (v : Int) == (y : Int) + 2300) = true := beq_iff_eq.2 (by omega)
            simp only [push_cast, Nat.reduceAdd, Nat.reduceSub, Nat.reduceMul, Nat.reduceLT, Nat.reduceLeDiff, Nat.reduceEqDiff, Nat.reduceMod, Nat.reduceDiv, Int.reduceAdd, Int.reduceSub, Int.reduceMul, Int.reduceLT, Int.reduceLE, Int.reduceEq, Int.reduceNeg, Int.reduceToNat, reduceIte, reduceCtorEq, Int.reduceBEq, Int.reduceBNe, Bool.true_beq, Bool.false_beq, Bool.true_bne, Bool.false_bne, Bool.not_true, Bool.not_false, g1, g2, g3, uv, g4, g5, g6, ux, g7, g8, g9, g10, z1, beq_self_eq_true, Int.sub_zero, Int.add_zero, wrap_i64' (show -9223372036854775808 ≤ (u : Int) ∧ (u : Int) ≤ 9223372036854775807 by omega), wrap_i64' (show -9223372036854775808 ≤ (v : Int) ∧ (v : Int) ≤ 9223372036854775807 by omega), wrap_i64' (show -9223372036854775808 ≤ (r : Int) ∧ (r : Int) ≤ 9223372036854775807 by omega), wrap_i64' (show -9223372036854775808 ≤ (k : Int) ∧ (k : Int) ≤ 9223372036854775807 by omega), wrap_i64' (show -9223372036854775808 ≤ (x : Int) ∧ (x : Int) ≤ 9223372036854775807 by omega), wrap_i64' (show -9223372036854775808 ≤ (y : Int) ∧ (y : Int) ≤ 9223372036854775807 by omega), wrap_i64' (show -9223372036854775808 ≤ (x : Int) + 2300 ∧ (x : Int) + 2300 ≤ 9223372036854775807 by omega), wrap_i64' (show -9223372036854775808 ≤ (y : Int) + 2300 ∧ (y : Int) + 2300 ≤ 9223372036854775807 by omega)]
      · skip
        have hP : priceI true true true = 34100 := rfl
        have hO : ownI true = 2300 := rfl
        by_cases h : (n : Int) < 34100
        · have nc : ¬ (34100 : Int) ≤ (n : Int) := by omega
          have cX1 := cX.trans (call_no n _ _ _ _ h)
          have cY1 := cY.trans (call_no n _ _ _ _ h)
          have cZ1 := cZ.trans (call_no n _ _ _ _ h)
          simp only [push_cast, Nat.reduceAdd, Nat.reduceSub, Nat.reduceMul, Nat.reduceLT, Nat.reduceLeDiff, Nat.reduceEqDiff, Nat.reduceMod, Nat.reduceDiv, Int.reduceAdd, Int.reduceSub, Int.reduceMul, Int.reduceLT, Int.reduceLE, Int.reduceEq, Int.reduceNeg, Int.reduceToNat, reduceIte, reduceCtorEq, Int.reduceBEq, Int.reduceBNe, Bool.true_beq, Bool.false_beq, Bool.true_bne, Bool.false_bne, Bool.not_true, Bool.not_false, cX1, cY1, cZ1, jn]
          refine regO gQ2_ok ?_
          simp only [push_cast, Nat.reduceAdd, Nat.reduceSub, Nat.reduceMul, Nat.reduceLT, Nat.reduceLeDiff, Nat.reduceEqDiff, Nat.reduceMod, Nat.reduceDiv, Int.reduceAdd, Int.reduceSub, Int.reduceMul, Int.reduceLT, Int.reduceLE, Int.reduceEq, Int.reduceNeg, Int.reduceToNat, reduceIte, reduceCtorEq, Int.reduceBEq, Int.reduceBNe, Bool.true_beq, Bool.false_beq, Bool.true_bne, Bool.false_bne, Bool.not_true, Bool.not_false, nc]
          refine regO gQ2_ok ?_
          simp only [push_cast, Nat.reduceAdd, Nat.reduceSub, Nat.reduceMul, Nat.reduceLT, Nat.reduceLeDiff, Nat.reduceEqDiff, Nat.reduceMod, Nat.reduceDiv, Int.reduceAdd, Int.reduceSub, Int.reduceMul, Int.reduceLT, Int.reduceLE, Int.reduceEq, Int.reduceNeg, Int.reduceToNat, reduceIte, reduceCtorEq, Int.reduceBEq, Int.reduceBNe, Bool.true_beq, Bool.false_beq, Bool.true_bne, Bool.false_bne, Bool.not_true, Bool.not_false, nc]
        · have nc : (34100 : Int) ≤ (n : Int) := by omega
          obtain ⟨r, hr⟩ : ∃ r : Nat, (n : Int) = 34100 + (r : Int) := ⟨((n : Int) - 34100).toNat, by omega⟩
          obtain ⟨m, hm⟩ : ∃ m, m = r - r / 64 := ⟨_, rfl⟩
          obtain ⟨u, hu⟩ : ∃ u, u = if m < x then m else x := ⟨_, rfl⟩
          obtain ⟨v, hv⟩ : ∃ v, v = if m < y then m else y := ⟨_, rfl⟩
          have cX1 : callP n (ofW (x : Int)) true true true = (34100 + (u : Int), 2300 + (u : Int), true) := cX.trans ((call_yes hP hr hn1 hm hu).trans (by rw [hO]))
          have cY1 : callP n (ofW (y : Int)) true true true = (34100 + (v : Int), 2300 + (v : Int), true) := cY.trans ((call_yes hP hr hn1 hm hv).trans (by rw [hO]))
          have cZ1 : callP n W.zero true true true = (34100, 2300, true) := cZ.trans ((call_yes (x := 0) (u := 0) hP hr hn1 hm (by rw [if_neg (Nat.not_lt_zero _)])).trans (by rw [hO]; rfl))
          have ux : u ≤ x := by rw [hu]; split <;> omega
          have uv : u ≤ v := by rw [hu, hv]; split <;> split <;> omega
          have um : u ≤ m := by rw [hu]; split <;> omega
          have vm : v ≤ m := by rw [hv]; split <;> omega
          have mr : m ≤ r := by omega
          have g1 : 34100 + (u : Int) ≤ (n : Int) := by omega
          have g2 : 34100 + (v : Int) ≤ (n : Int) := by omega
          have g3 : 2300 + (u : Int) ≤ 2300 + (v : Int) := by omega
          have g4 : 34100 + (u : Int) - 34100 = (u : Int) := by omega
          have g5 : 2300 + (u : Int) - 2300 = (u : Int) := by omega
          have g6 : 2300 + (u : Int) ≤ (x : Int) + 2300 := by omega
          have g7 : 2300 + (v : Int) - 2300 = (v : Int) := by omega
          have g8 : (n : Int) - 34100 = (r : Int) := by omega
          obtain ⟨k, hk⟩ : ∃ k, k = r / 64 := ⟨_, rfl⟩
          have g9 : (r : Int).tdiv 64 = (k : Int) := by rw [hk]; rfl
          have g10 : (r : Int) - (k : Int) = (m : Int) := by omega
          simp only [push_cast, Nat.reduceAdd, Nat.reduceSub, Nat.reduceMul, Nat.reduceLT, Nat.reduceLeDiff, Nat.reduceEqDiff, Nat.reduceMod, Nat.reduceDiv, Int.reduceAdd, Int.reduceSub, Int.reduceMul, Int.reduceLT, Int.reduceLE, Int.reduceEq, Int.reduceNeg, Int.reduceToNat, reduceIte, reduceCtorEq, Int.reduceBEq, Int.reduceBNe, Bool.true_beq, Bool.false_beq, Bool.true_bne, Bool.false_bne, Bool.not_true, Bool.not_false, cX1, cY1, cZ1, jn]
          refine regO gQ2_ok ?_
          simp only [push_cast, Nat.reduceAdd, Nat.reduceSub, Nat.reduceMul, Nat.reduceLT, Nat.reduceLeDiff, Nat.reduceEqDiff, Nat.reduceMod, Nat.reduceDiv, Int.reduceAdd, Int.reduceSub, Int.reduceMul, Int.reduceLT, Int.reduceLE, Int.reduceEq, Int.reduceNeg, Int.reduceToNat, reduceIte, reduceCtorEq, Int.reduceBEq, Int.reduceBNe, Bool.true_beq, Bool.false_beq, Bool.true_bne, Bool.false_bne, Bool.not_true, Bool.not_false, nc]
          refine regO gQ2_ok ?_
          by_cases hmy : m < y
          · have hvm : v = m := by rw [hv, if_pos hmy]
            have z1 : (2300 + (v : Int) == (y : Int) + 2300) = false := beq_eq_false_iff_ne.2 (by omega)
            rw [hvm] at g2 g3 g7 z1 uv ⊢
            have g3n : u ≤ m := um
            simp only [push_cast, Nat.reduceAdd, Nat.reduceSub, Nat.reduceMul, Nat.reduceLT, Nat.reduceLeDiff, Nat.reduceEqDiff, Nat.reduceMod, Nat.reduceDiv, Int.reduceAdd, Int.reduceSub, Int.reduceMul, Int.reduceLT, Int.reduceLE, Int.reduceEq, Int.reduceNeg, Int.reduceToNat, reduceIte, reduceCtorEq, Int.reduceBEq, Int.reduceBNe, Bool.true_beq, Bool.false_beq, Bool.true_bne, Bool.false_bne, Bool.not_true, Bool.not_false, g1, g2, g3, g3n, g4, g5, g6, ux, g7, g8, g9, g10, z1, beq_self_eq_true, Int.sub_zero, Int.add_zero, wrap_i64' (show -9223372036854775808 ≤ (u : Int) ∧ (u : Int) ≤ 9223372036854775807 by omega), wrap_i64' (show -9223372036854775808 ≤ (m : Int) ∧ (m : Int) ≤ 9223372036854775807 by omega), wrap_i64' (show -9223372036854775808 ≤ (r : Int) ∧ (r : Int) ≤ 9223372036854775807 by omega), wrap_i64' (show -9223372036854775808 ≤ (k : Int) ∧ (k : Int) ≤ 9223372036854775807 by omega), wrap_i64' (show -9223372036854775808 ≤ (x : Int) ∧ (x : Int) ≤ 9223372036854775807 by omega), wrap_i64' (show -9223372036854775808 ≤ (y : Int) ∧ (y : Int) ≤ 9223372036854775807 by omega), wrap_i64' (show -9223372036854775808 ≤ (x : Int) + 2300 ∧ (x : Int) + 2300 ≤ 9223372036854775807 by omega), wrap_i64' (show -9223372036854775808 ≤ (y : Int) + 2300 ∧ (y : Int) + 2300 ≤ 9223372036854775807 by omega)]
          · have hvy : v = y := by rw [hv, if_neg hmy]
            have z1 : (2300 + (v : Int) == (y : Int) + 2300) = true := beq_iff_eq.2 (by omega)
            simp only [push_cast, Nat.reduceAdd, Nat.reduceSub, Nat.reduceMul, Nat.reduceLT, Nat.reduceLeDiff, Nat.reduceEqDiff, Nat.reduceMod, Nat.reduceDiv, Int.reduceAdd, Int.reduceSub, Int.reduceMul, Int.reduceLT, Int.reduceLE, Int.reduceEq, Int.reduceNeg, Int.reduceToNat, reduceIte, reduceCtorEq, Int.reduceBEq, Int.reduceBNe, Bool.true_beq, Bool.false_beq, Bool.true_bne, Bool.false_bne, Bool.not_true, Bool.not_false, g1, g2, g3, uv, g4, g5, g6, ux, g7, g8, g9, g10, z1, beq_self_eq_true, Int.sub_zero, Int.add_zero, wrap_i64' (show -9223372036854775808 ≤ (u : Int) ∧ (u : Int) ≤ 9223372036854775807 by omega), wrap_i64' (show -9223372036854775808 ≤ (v : Int) ∧ (v : Int) ≤ 9223372036854775807 by omega), wrap_i64' (show -9223372036854775808 ≤ (r : Int) ∧ (r : Int) ≤ 9223372036854775807 by omega), wrap_i64' (show -9223372036854775808 ≤ (k : Int) ∧ (k : Int) ≤ 9223372036854775807 by omega), wrap_i64' (show -9223372036854775808 ≤ (x : Int) ∧ (x : Int) ≤ 9223372036854775807 by omega), wrap_i64' (show -9223372036854775808 ≤ (y : Int) ∧ (y : Int) ≤ 9223372036854775807 by omega), wrap_i64' (show -9223372036854775808 ≤ (x : Int) + 2300 ∧ (x : Int) + 2300 ≤ 9223372036854775807 by omega), wrap_i64' (show -9223372036854775808 ≤ (y : Int) + 2300 ∧ (y : Int) + 2300 ≤ 9223372036854775807 by omega)]
end Go.Proofs.YtfioapldbajpmaaDoor
