/- Gm: GasWrites. -/
import Derived.Test.YtfioapldbajpmaaDoorGj
set_option linter.unusedSimpArgs false
set_option linter.unusedVariables false
namespace Go.Ev
def nW0 (a : W) : Nat := if a = W.zero then 0 else 1
def nW1 (a b : W) : Nat := if b = W.zero then 0 else if a = b then 1 else 2
def nW2 (a b c : W) : Nat := if c = W.zero then 0 else if a = c then 1 else if b = c then 2 else 3
theorem ofS_eq {i j : Nat} (hi : i < 10) (hj : j < 10) : ofW (i : Int) = ofW (j : Int) ↔ i = j := by
  constructor
  · intro h
    have := congrArg W.num h
    rwa [of_nat i (by omega), of_nat j (by omega)] at this
  · rintro rfl; rfl
theorem ofS_zero {i : Nat} (hi : i < 10) : ofW (i : Int) = W.zero ↔ i = 0 := by
  have h := ofS_eq hi (show 0 < 10 by decide)
  rw [show ofW ((0 : Nat) : Int) = W.zero from by rw [ofW_eq]; rfl] at h
  exact h
theorem nW0_lt (a : W) : nW0 a < 10 := by unfold nW0; split <;> omega
theorem nW1_lt (a b : W) : nW1 a b < 10 := by
  unfold nW1
  split
  · omega
  · split <;> omega
theorem nW2_lt (a b c : W) : nW2 a b c < 10 := by
  unfold nW2; split; · omega
  split; · omega
  split <;> omega
theorem storeW (a b c : W) (warm : Bool) : storeP (ofW (nW0 a : Int)) (ofW (nW1 a b : Int)) (ofW (nW2 a b c : Int)) warm = storeP a b c warm := by
  have e1 : (ofW (nW0 a : Int) = ofW (nW1 a b : Int)) ↔ a = b := by
    rw [ofS_eq (nW0_lt a) (nW1_lt a b)]
    unfold nW0 nW1
    by_cases ha : a = W.zero <;> by_cases hb : b = W.zero <;> by_cases hab : a = b <;> simp_all
    all_goals (intro h; simp_all)
  have e2 : (ofW (nW1 a b : Int) = ofW (nW2 a b c : Int)) ↔ b = c := by
    rw [ofS_eq (nW1_lt a b) (nW2_lt a b c)]
    unfold nW1 nW2
    by_cases hb : b = W.zero <;> by_cases hc : c = W.zero <;> by_cases hab : a = b <;> by_cases hbc : b = c <;> by_cases hac : a = c <;> simp_all
    all_goals (intro h; simp_all)
  have e3 : (ofW (nW0 a : Int) = ofW (nW2 a b c : Int)) ↔ a = c := by
    rw [ofS_eq (nW0_lt a) (nW2_lt a b c)]
    unfold nW0 nW2
    by_cases ha : a = W.zero <;> by_cases hc : c = W.zero <;> by_cases hbc : b = c <;> by_cases hac : a = c <;> simp_all
    all_goals (intro h; simp_all)
  have e4 : (ofW (nW0 a : Int) = W.zero) ↔ a = W.zero := by
    rw [ofS_zero (nW0_lt a)]; unfold nW0; split <;> simp_all
  have e5 : (ofW (nW1 a b : Int) = W.zero) ↔ b = W.zero := by
    rw [ofS_zero (nW1_lt a b)]; unfold nW1
    by_cases hb : b = W.zero <;> by_cases hab : a = b <;> simp_all
  have e6 : (ofW (nW2 a b c : Int) = W.zero) ↔ c = W.zero := by
    rw [ofS_zero (nW2_lt a b c)]; unfold nW2
    by_cases hc : c = W.zero <;> by_cases hbc : b = c <;> by_cases hac : a = c <;> simp_all
  rw [storeP_eq, storeP_eq]
  simp only [e1, e2, e3, e4, e5, e6]
theorem storeB_in : ∀ oc cv ov o0 c0 v0 w : Bool, 100 ≤ (storeB oc cv ov o0 c0 v0 w).1 ∧ (storeB oc cv ov o0 c0 v0 w).1 ≤ 22100 ∧ -4800 ≤ (storeB oc cv ov o0 c0 v0 w).2 ∧ (storeB oc cv ov o0 c0 v0 w).2 ≤ 19900 := by decide
theorem storeP_in (a b c : W) (w : Bool) : 100 ≤ (storeP a b c w).1 ∧ (storeP a b c w).1 ≤ 22100 ∧ -4800 ≤ (storeP a b c w).2 ∧ (storeP a b c w).2 ≤ 19900 := by
  rw [storeP_eq]; exact storeB_in _ _ _ _ _ _ _
theorem fm_snoc {α : Type} (c : α → List Value) {L : List α} {i : Nat} {x : α} (h : L[i]? = some x) : (L.take (i + 1)).flatMap c = (L.take i).flatMap c ++ c x := by
  rw [List.take_add_one, h, List.flatMap_append]; simp
end Go.Ev
namespace Go.Proofs.YtfioapldbajpmaaDoor
open Go Go.Ev Go.Proofs
set_option maxRecDepth 100000
set_option maxHeartbeats 4000000
def plGW : Plans := fun i => if i = 15 then [(0, 9)] else if i = 16 then [(0, 9)] else if i = 18 then [(0, 9)] else Tryd.pl8 i
attribute [push_cast] plGW
theorem gasWrites_ok (a b c : W) (warm : Bool) : CallsV Tryd.prog 8 [a.v, b.v, c.v, .bool warm] [] (Ret0 (.bool true)) := by
  have j0 : i64B 0 = true := i64B_in (by decide)
  have j1 : i64B 1 = true := i64B_in (by decide)
  have j2 : i64B 2 = true := i64B_in (by decide)
  have j3 : i64B 3 = true := i64B_in (by decide)
  have hst := storeW a b c warm
  obtain ⟨g1, g2, g3, g4⟩ := storeP_in a b c warm
  obtain ⟨w0, hw0⟩ : ∃ w, w = ofW (nW0 a : Int) := ⟨_, rfl⟩
  obtain ⟨w1, hw1⟩ : ∃ w, w = ofW (nW1 a b : Int) := ⟨_, rfl⟩
  obtain ⟨w2, hw2⟩ : ∃ w, w = ofW (nW2 a b c : Int) := ⟨_, rfl⟩
  rw [← hw0, ← hw1, ← hw2] at hst
  have nn1 : ¬ (0 : Int) ≤ -1 := by decide
  have le0 : (0 : Int) ≤ 0 := by decide
  have le1 : (0 : Int) ≤ 1 := by decide
  have wm1 : IntKind.i64.wrap (-1) = -1 := IntWalk.i64_in _ (by decide)
  have va : ∀ w : W, Value.agg w.cells.toArray = w.v := fun _ => rfl
  refine callsO gQ2_ok Tryd.mix plGW Tryd.func8 rfl Tryd.ntmps8 Tryd.results8 rfl (by first | rfl | assumption) (Nat.le_of_ble_eq_true rfl) (by kernel_rfl) ?_
  simp only [push_cast, Nat.reduceAdd, Nat.reduceSub, Nat.reduceMul, Nat.reduceLT, Nat.reduceLeDiff, Nat.reduceEqDiff, Nat.reduceMod, Nat.reduceDiv, Int.reduceAdd, Int.reduceSub, Int.reduceMul, Int.reduceLT, Int.reduceLE, Int.reduceEq, Int.reduceNeg, Int.reduceToNat, reduceIte, reduceCtorEq, Int.reduceBEq, Int.reduceBNe, Bool.true_beq, Bool.false_beq, Bool.true_bne, Bool.false_bne, Bool.not_true, Bool.not_false]
  intro b4 b5 hb5 b6 hb6
  simp only [push_cast, Nat.reduceAdd, Nat.reduceSub, Nat.reduceMul, Nat.reduceLT, Nat.reduceLeDiff, Nat.reduceEqDiff, Nat.reduceMod, Nat.reduceDiv, Int.reduceAdd, Int.reduceSub, Int.reduceMul, Int.reduceLT, Int.reduceLE, Int.reduceEq, Int.reduceNeg, Int.reduceToNat, reduceIte, reduceCtorEq, Int.reduceBEq, Int.reduceBNe, Bool.true_beq, Bool.false_beq, Bool.true_bne, Bool.false_bne, Bool.not_true, Bool.not_false, hb5, hb6]
  intro bL hbL
  obtain ⟨M, hM⟩ : ∃ M : Hp, M = [⟨bL, 0, .vec 24 4 3, a.cells ++ (b.cells ++ c.cells)⟩, ⟨b6, 0, .cel 24, c.cells⟩, ⟨b5, 0, .cel 24, b.cells⟩, ⟨b4, 0, .cel 24, a.cells⟩] := ⟨_, rfl⟩
  refine loopO gQ2_ok (pl := plGW) Tryd.mix (X := Nat × Value × Hp)
    (fun s => ([(3, .bool warm), (4, .pointer (some ⟨b4, 0, none⟩)), (5, .pointer (some ⟨b5, 0, none⟩)), (6, .pointer (some ⟨b6, 0, none⟩)), (9, .bool true), (10, .slice (some ⟨bL, 0, none⟩) 3 3), (11, s.2.1), (12, .int .i64 s.1)], s.2.2 ++ M))
    (fun s => s.1 ≤ 3 ∧ OutC 24 4 (([w0, w1, w2].take s.1).flatMap W.cells) s.1 s.2.1 s.2.2 ∧ freshN s.2.2 M) (fun s => 3 - s.1) (0, .slice none 0 0, []) ?_ ?_ (by kernel_rfl) ?_
  · exact ⟨Nat.zero_le _, .nil _ _, trivial⟩
  · simp only [push_cast, Nat.reduceAdd, Nat.reduceSub, Nat.reduceMul, Nat.reduceLT, Nat.reduceLeDiff, Nat.reduceEqDiff, Nat.reduceMod, Nat.reduceDiv, Int.reduceAdd, Int.reduceSub, Int.reduceMul, Int.reduceLT, Int.reduceLE, Int.reduceEq, Int.reduceNeg, Int.reduceToNat, reduceIte, reduceCtorEq, Int.reduceBEq, Int.reduceBNe, Bool.true_beq, Bool.false_beq, Bool.true_bne, Bool.false_bne, Bool.not_true, Bool.not_false, hM]
  · rintro ⟨i, vo, No⟩ ⟨hi, ho, hf⟩
    dsimp only at hi ho hf ⊢
    have hfl : ∀ e x, findE M e = some x → findE (No ++ M) e = some x := fun e x h => by rw [findE_freshN hf (b := e) h]; exact h
    have fL := hfl bL ⟨bL, 0, .vec 24 4 3, a.cells ++ (b.cells ++ c.cells)⟩ (by rw [hM]; simp [findE])
    have f6 := hfl b6 ⟨b6, 0, .cel 24, c.cells⟩ (by rw [hM]; simp [findE, hbL])
    have f5 := hfl b5 ⟨b5, 0, .cel 24, b.cells⟩ (by rw [hM]; simp [findE, hbL, hb6])
    have f4 := hfl b4 ⟨b4, 0, .cel 24, a.cells⟩ (by rw [hM]; simp [findE, hbL, hb6, hb5])
    have la : a.cells.length = 4 := rfl
    have lb : b.cells.length = 4 := rfl
    have lc : c.cells.length = 4 := rfl
    have r0 : List.take 4 (List.drop 0 (a.cells ++ (b.cells ++ c.cells))) = a.cells := rfl
    have r0' : List.take 4 (a.cells ++ (b.cells ++ c.cells)) = a.cells := rfl
    have r1 : List.take 4 (List.drop 4 (a.cells ++ (b.cells ++ c.cells))) = b.cells := rfl
    have r2 : List.take 4 (List.drop 8 (a.cells ++ (b.cells ++ c.cells))) = c.cells := rfl
    have rl : (a.cells ++ (b.cells ++ c.cells)).length = 12 := rfl
    have m4 : findE M b4 = some ⟨b4, 0, .cel 24, a.cells⟩ := by rw [hM]; simp [findE, hbL, hb6, hb5]
    have m5 : findE M b5 = some ⟨b5, 0, .cel 24, b.cells⟩ := by rw [hM]; simp [findE, hbL, hb6]
    have m6 : findE M b6 = some ⟨b6, 0, .cel 24, c.cells⟩ := by rw [hM]; simp [findE, hbL]
    obtain rfl | rfl | rfl | rfl : i = 0 ∨ i = 1 ∨ i = 2 ∨ i = 3 := by omega
    · by_cases ha : a = W.zero
      · have d1 : decide (a = W.zero) = true := decide_eq_true ha
        simp only [push_cast, Nat.reduceAdd, Nat.reduceSub, Nat.reduceMul, Nat.reduceLT, Nat.reduceLeDiff, Nat.reduceEqDiff, Nat.reduceMod, Nat.reduceDiv, Int.reduceAdd, Int.reduceSub, Int.reduceMul, Int.reduceLT, Int.reduceLE, Int.reduceEq, Int.reduceNeg, Int.reduceToNat, reduceIte, reduceCtorEq, Int.reduceBEq, Int.reduceBNe, Bool.true_beq, Bool.false_beq, Bool.true_bne, Bool.false_bne, Bool.not_true, Bool.not_false, fL, r0, r0', r1, r2, rl, va, j0, j1, j2, j3, wm1, nn1, le0, le1, d1]
        refine regO gQ2_ok ?_
        simp only [push_cast, Nat.reduceAdd, Nat.reduceSub, Nat.reduceMul, Nat.reduceLT, Nat.reduceLeDiff, Nat.reduceEqDiff, Nat.reduceMod, Nat.reduceDiv, Int.reduceAdd, Int.reduceSub, Int.reduceMul, Int.reduceLT, Int.reduceLE, Int.reduceEq, Int.reduceNeg, Int.reduceToNat, reduceIte, reduceCtorEq, Int.reduceBEq, Int.reduceBNe, Bool.true_beq, Bool.false_beq, Bool.true_bne, Bool.false_bne, Bool.not_true, Bool.not_false, fL, r0, r0', r1, r2, rl, va, j0, j1, j2, j3, wm1, nn1, le0, le1, d1]
        intro b16 hb16
        refine append_out1 (e := 24) (sz := 4) (by_ := 32) (n := 0) (m := 1) (ys := (ofW 0).cells) ho hb16 (by simp only [push_cast, Nat.reduceAdd, Nat.reduceSub, Nat.reduceMul, Nat.reduceLT, Nat.reduceLeDiff, Nat.reduceEqDiff, Nat.reduceMod, Nat.reduceDiv, Int.reduceAdd, Int.reduceSub, Int.reduceMul, Int.reduceLT, Int.reduceLE, Int.reduceEq, Int.reduceNeg, Int.reduceToNat, reduceIte, reduceCtorEq, Int.reduceBEq, Int.reduceBNe, Bool.true_beq, Bool.false_beq, Bool.true_bne, Bool.false_bne, Bool.not_true, Bool.not_false]) (by simp only [push_cast, Nat.reduceAdd, Nat.reduceSub, Nat.reduceMul, Nat.reduceLT, Nat.reduceLeDiff, Nat.reduceEqDiff, Nat.reduceMod, Nat.reduceDiv, Int.reduceAdd, Int.reduceSub, Int.reduceMul, Int.reduceLT, Int.reduceLE, Int.reduceEq, Int.reduceNeg, Int.reduceToNat, reduceIte, reduceCtorEq, Int.reduceBEq, Int.reduceBNe, Bool.true_beq, Bool.false_beq, Bool.true_bne, Bool.false_bne, Bool.not_true, Bool.not_false]) rfl rfl (by unfold two47; omega) fun v2 N2 ho2 hf2 => ?_
        simp only [push_cast, Nat.reduceAdd, Nat.reduceSub, Nat.reduceMul, Nat.reduceLT, Nat.reduceLeDiff, Nat.reduceEqDiff, Nat.reduceMod, Nat.reduceDiv, Int.reduceAdd, Int.reduceSub, Int.reduceMul, Int.reduceLT, Int.reduceLE, Int.reduceEq, Int.reduceNeg, Int.reduceToNat, reduceIte, reduceCtorEq, Int.reduceBEq, Int.reduceBNe, Bool.true_beq, Bool.false_beq, Bool.true_bne, Bool.false_bne, Bool.not_true, Bool.not_false]
        have ew : w0 = ofW 0 := by rw [hw0, show nW0 a = 0 from if_pos ha]; rfl
        refine ⟨(0 + 1, v2, N2), ⟨by dsimp only; omega, ?_, freshN_cons hf2⟩, by dsimp only; omega, ⟨rfl, rfl⟩, subH_pre (subH_cons (fresh_app hb16)) _, by simp only [marks_append, marksOf, ho.wr.2, ho2.wr.2]⟩
        dsimp only
        rw [fm_snoc W.cells (L := [w0, w1, w2]) (i := 0) (x := ofW 0) (by rw [← ew]; rfl)]
        exact ho2
      · have d1 : decide (a = W.zero) = false := decide_eq_false ha
        simp only [push_cast, Nat.reduceAdd, Nat.reduceSub, Nat.reduceMul, Nat.reduceLT, Nat.reduceLeDiff, Nat.reduceEqDiff, Nat.reduceMod, Nat.reduceDiv, Int.reduceAdd, Int.reduceSub, Int.reduceMul, Int.reduceLT, Int.reduceLE, Int.reduceEq, Int.reduceNeg, Int.reduceToNat, reduceIte, reduceCtorEq, Int.reduceBEq, Int.reduceBNe, Bool.true_beq, Bool.false_beq, Bool.true_bne, Bool.false_bne, Bool.not_true, Bool.not_false, fL, r0, r0', r1, r2, rl, va, j0, j1, j2, j3, wm1, nn1, le0, le1, d1]
        refine unrollO gQ2_ok (pl := plGW) Tryd.mix 1 (by kernel_rfl) ?_
        generalize hK : (blockK 2 _ : Exit → Tm → Hp → Prop) = K0
        simp only [push_cast, Nat.reduceAdd, Nat.reduceSub, Nat.reduceMul, Nat.reduceLT, Nat.reduceLeDiff, Nat.reduceEqDiff, Nat.reduceMod, Nat.reduceDiv, Int.reduceAdd, Int.reduceSub, Int.reduceMul, Int.reduceLT, Int.reduceLE, Int.reduceEq, Int.reduceNeg, Int.reduceToNat, reduceIte, reduceCtorEq, Int.reduceBEq, Int.reduceBNe, Bool.true_beq, Bool.false_beq, Bool.true_bne, Bool.false_bne, Bool.not_true, Bool.not_false, fL, r0, r0', r1, r2, rl, va, j0, j1, j2, j3, wm1, nn1, le0, le1, d1]
        rw [← hK]
        clear hK K0
        simp only [push_cast, Nat.reduceAdd, Nat.reduceSub, Nat.reduceMul, Nat.reduceLT, Nat.reduceLeDiff, Nat.reduceEqDiff, Nat.reduceMod, Nat.reduceDiv, Int.reduceAdd, Int.reduceSub, Int.reduceMul, Int.reduceLT, Int.reduceLE, Int.reduceEq, Int.reduceNeg, Int.reduceToNat, reduceIte, reduceCtorEq, Int.reduceBEq, Int.reduceBNe, Bool.true_beq, Bool.false_beq, Bool.true_bne, Bool.false_bne, Bool.not_true, Bool.not_false, fL, r0, r0', r1, r2, rl, va, j0, j1, j2, j3, wm1, nn1, le0, le1, d1]
        refine regO gQ2_ok ?_
        simp only [push_cast, Nat.reduceAdd, Nat.reduceSub, Nat.reduceMul, Nat.reduceLT, Nat.reduceLeDiff, Nat.reduceEqDiff, Nat.reduceMod, Nat.reduceDiv, Int.reduceAdd, Int.reduceSub, Int.reduceMul, Int.reduceLT, Int.reduceLE, Int.reduceEq, Int.reduceNeg, Int.reduceToNat, reduceIte, reduceCtorEq, Int.reduceBEq, Int.reduceBNe, Bool.true_beq, Bool.false_beq, Bool.true_bne, Bool.false_bne, Bool.not_true, Bool.not_false, fL, r0, r0', r1, r2, rl, va, j0, j1, j2, j3, wm1, nn1, le0, le1, d1]
        intro b16 hb16
        refine append_out1 (e := 24) (sz := 4) (by_ := 32) (n := 0) (m := 1) (ys := (ofW 1).cells) ho hb16 (by simp only [push_cast, Nat.reduceAdd, Nat.reduceSub, Nat.reduceMul, Nat.reduceLT, Nat.reduceLeDiff, Nat.reduceEqDiff, Nat.reduceMod, Nat.reduceDiv, Int.reduceAdd, Int.reduceSub, Int.reduceMul, Int.reduceLT, Int.reduceLE, Int.reduceEq, Int.reduceNeg, Int.reduceToNat, reduceIte, reduceCtorEq, Int.reduceBEq, Int.reduceBNe, Bool.true_beq, Bool.false_beq, Bool.true_bne, Bool.false_bne, Bool.not_true, Bool.not_false]) (by simp only [push_cast, Nat.reduceAdd, Nat.reduceSub, Nat.reduceMul, Nat.reduceLT, Nat.reduceLeDiff, Nat.reduceEqDiff, Nat.reduceMod, Nat.reduceDiv, Int.reduceAdd, Int.reduceSub, Int.reduceMul, Int.reduceLT, Int.reduceLE, Int.reduceEq, Int.reduceNeg, Int.reduceToNat, reduceIte, reduceCtorEq, Int.reduceBEq, Int.reduceBNe, Bool.true_beq, Bool.false_beq, Bool.true_bne, Bool.false_bne, Bool.not_true, Bool.not_false]) rfl rfl (by unfold two47; omega) fun v2 N2 ho2 hf2 => ?_
        simp only [push_cast, Nat.reduceAdd, Nat.reduceSub, Nat.reduceMul, Nat.reduceLT, Nat.reduceLeDiff, Nat.reduceEqDiff, Nat.reduceMod, Nat.reduceDiv, Int.reduceAdd, Int.reduceSub, Int.reduceMul, Int.reduceLT, Int.reduceLE, Int.reduceEq, Int.reduceNeg, Int.reduceToNat, reduceIte, reduceCtorEq, Int.reduceBEq, Int.reduceBNe, Bool.true_beq, Bool.false_beq, Bool.true_bne, Bool.false_bne, Bool.not_true, Bool.not_false]
        have ew : w0 = ofW 1 := by rw [hw0, show nW0 a = 1 from if_neg ha]; rfl
        refine ⟨(0 + 1, v2, N2), ⟨by dsimp only; omega, ?_, freshN_cons hf2⟩, by dsimp only; omega, ⟨rfl, rfl⟩, subH_pre (subH_cons (fresh_app hb16)) _, by simp only [marks_append, marksOf, ho.wr.2, ho2.wr.2]⟩
        dsimp only
        rw [fm_snoc W.cells (L := [w0, w1, w2]) (i := 0) (x := ofW 1) (by rw [← ew]; rfl)]
        exact ho2
    · by_cases hb : b = W.zero
      · have d1 : decide (b = W.zero) = true := decide_eq_true hb
        simp only [push_cast, Nat.reduceAdd, Nat.reduceSub, Nat.reduceMul, Nat.reduceLT, Nat.reduceLeDiff, Nat.reduceEqDiff, Nat.reduceMod, Nat.reduceDiv, Int.reduceAdd, Int.reduceSub, Int.reduceMul, Int.reduceLT, Int.reduceLE, Int.reduceEq, Int.reduceNeg, Int.reduceToNat, reduceIte, reduceCtorEq, Int.reduceBEq, Int.reduceBNe, Bool.true_beq, Bool.false_beq, Bool.true_bne, Bool.false_bne, Bool.not_true, Bool.not_false, fL, r0, r0', r1, r2, rl, va, j0, j1, j2, j3, wm1, nn1, le0, le1, d1]
        refine regO gQ2_ok ?_
        simp only [push_cast, Nat.reduceAdd, Nat.reduceSub, Nat.reduceMul, Nat.reduceLT, Nat.reduceLeDiff, Nat.reduceEqDiff, Nat.reduceMod, Nat.reduceDiv, Int.reduceAdd, Int.reduceSub, Int.reduceMul, Int.reduceLT, Int.reduceLE, Int.reduceEq, Int.reduceNeg, Int.reduceToNat, reduceIte, reduceCtorEq, Int.reduceBEq, Int.reduceBNe, Bool.true_beq, Bool.false_beq, Bool.true_bne, Bool.false_bne, Bool.not_true, Bool.not_false, fL, r0, r0', r1, r2, rl, va, j0, j1, j2, j3, wm1, nn1, le0, le1, d1]
        intro b16 hb16
        refine append_out1 (e := 24) (sz := 4) (by_ := 32) (n := 1) (m := 1) (ys := (ofW 0).cells) ho hb16 (by simp only [push_cast, Nat.reduceAdd, Nat.reduceSub, Nat.reduceMul, Nat.reduceLT, Nat.reduceLeDiff, Nat.reduceEqDiff, Nat.reduceMod, Nat.reduceDiv, Int.reduceAdd, Int.reduceSub, Int.reduceMul, Int.reduceLT, Int.reduceLE, Int.reduceEq, Int.reduceNeg, Int.reduceToNat, reduceIte, reduceCtorEq, Int.reduceBEq, Int.reduceBNe, Bool.true_beq, Bool.false_beq, Bool.true_bne, Bool.false_bne, Bool.not_true, Bool.not_false]) (by simp only [push_cast, Nat.reduceAdd, Nat.reduceSub, Nat.reduceMul, Nat.reduceLT, Nat.reduceLeDiff, Nat.reduceEqDiff, Nat.reduceMod, Nat.reduceDiv, Int.reduceAdd, Int.reduceSub, Int.reduceMul, Int.reduceLT, Int.reduceLE, Int.reduceEq, Int.reduceNeg, Int.reduceToNat, reduceIte, reduceCtorEq, Int.reduceBEq, Int.reduceBNe, Bool.true_beq, Bool.false_beq, Bool.true_bne, Bool.false_bne, Bool.not_true, Bool.not_false]) rfl rfl (by unfold two47; omega) fun v2 N2 ho2 hf2 => ?_
        simp only [push_cast, Nat.reduceAdd, Nat.reduceSub, Nat.reduceMul, Nat.reduceLT, Nat.reduceLeDiff, Nat.reduceEqDiff, Nat.reduceMod, Nat.reduceDiv, Int.reduceAdd, Int.reduceSub, Int.reduceMul, Int.reduceLT, Int.reduceLE, Int.reduceEq, Int.reduceNeg, Int.reduceToNat, reduceIte, reduceCtorEq, Int.reduceBEq, Int.reduceBNe, Bool.true_beq, Bool.false_beq, Bool.true_bne, Bool.false_bne, Bool.not_true, Bool.not_false]
        have ew : w1 = ofW 0 := by rw [hw1, show nW1 a b = 0 from if_pos hb]; rfl
        refine ⟨(1 + 1, v2, N2), ⟨by dsimp only; omega, ?_, freshN_cons hf2⟩, by dsimp only; omega, ⟨rfl, rfl⟩, subH_pre (subH_cons (fresh_app hb16)) _, by simp only [marks_append, marksOf, ho.wr.2, ho2.wr.2]⟩
        dsimp only
        rw [fm_snoc W.cells (L := [w0, w1, w2]) (i := 1) (x := ofW 0) (by rw [← ew]; rfl)]
        exact ho2
      · have d1 : decide (b = W.zero) = false := decide_eq_false hb
        by_cases hab : a = b
        · have d2 : decide (a = b) = true := decide_eq_true hab
          simp only [push_cast, Nat.reduceAdd, Nat.reduceSub, Nat.reduceMul, Nat.reduceLT, Nat.reduceLeDiff, Nat.reduceEqDiff, Nat.reduceMod, Nat.reduceDiv, Int.reduceAdd, Int.reduceSub, Int.reduceMul, Int.reduceLT, Int.reduceLE, Int.reduceEq, Int.reduceNeg, Int.reduceToNat, reduceIte, reduceCtorEq, Int.reduceBEq, Int.reduceBNe, Bool.true_beq, Bool.false_beq, Bool.true_bne, Bool.false_bne, Bool.not_true, Bool.not_false, fL, r0, r0', r1, r2, rl, va, j0, j1, j2, j3, wm1, nn1, le0, le1, d1]
          refine unrollO gQ2_ok (pl := plGW) Tryd.mix 2 (by kernel_rfl) ?_
          generalize hK : (blockK 2 _ : Exit → Tm → Hp → Prop) = K0
          simp only [push_cast, Nat.reduceAdd, Nat.reduceSub, Nat.reduceMul, Nat.reduceLT, Nat.reduceLeDiff, Nat.reduceEqDiff, Nat.reduceMod, Nat.reduceDiv, Int.reduceAdd, Int.reduceSub, Int.reduceMul, Int.reduceLT, Int.reduceLE, Int.reduceEq, Int.reduceNeg, Int.reduceToNat, reduceIte, reduceCtorEq, Int.reduceBEq, Int.reduceBNe, Bool.true_beq, Bool.false_beq, Bool.true_bne, Bool.false_bne, Bool.not_true, Bool.not_false, fL, r0, r0', r1, r2, rl, va, j0, j1, j2, j3, wm1, nn1, le0, le1, d1, d2]
          rw [← hK]
          clear hK K0
          simp only [push_cast, Nat.reduceAdd, Nat.reduceSub, Nat.reduceMul, Nat.reduceLT, Nat.reduceLeDiff, Nat.reduceEqDiff, Nat.reduceMod, Nat.reduceDiv, Int.reduceAdd, Int.reduceSub, Int.reduceMul, Int.reduceLT, Int.reduceLE, Int.reduceEq, Int.reduceNeg, Int.reduceToNat, reduceIte, reduceCtorEq, Int.reduceBEq, Int.reduceBNe, Bool.true_beq, Bool.false_beq, Bool.true_bne, Bool.false_bne, Bool.not_true, Bool.not_false, fL, r0, r0', r1, r2, rl, va, j0, j1, j2, j3, wm1, nn1, le0, le1, d1, d2]
          refine regO gQ2_ok ?_
          simp only [push_cast, Nat.reduceAdd, Nat.reduceSub, Nat.reduceMul, Nat.reduceLT, Nat.reduceLeDiff, Nat.reduceEqDiff, Nat.reduceMod, Nat.reduceDiv, Int.reduceAdd, Int.reduceSub, Int.reduceMul, Int.reduceLT, Int.reduceLE, Int.reduceEq, Int.reduceNeg, Int.reduceToNat, reduceIte, reduceCtorEq, Int.reduceBEq, Int.reduceBNe, Bool.true_beq, Bool.false_beq, Bool.true_bne, Bool.false_bne, Bool.not_true, Bool.not_false, fL, r0, r0', r1, r2, rl, va, j0, j1, j2, j3, wm1, nn1, le0, le1, d1, d2]
          intro b16 hb16
          refine append_out1 (e := 24) (sz := 4) (by_ := 32) (n := 1) (m := 1) (ys := (ofW 1).cells) ho hb16 (by simp only [push_cast, Nat.reduceAdd, Nat.reduceSub, Nat.reduceMul, Nat.reduceLT, Nat.reduceLeDiff, Nat.reduceEqDiff, Nat.reduceMod, Nat.reduceDiv, Int.reduceAdd, Int.reduceSub, Int.reduceMul, Int.reduceLT, Int.reduceLE, Int.reduceEq, Int.reduceNeg, Int.reduceToNat, reduceIte, reduceCtorEq, Int.reduceBEq, Int.reduceBNe, Bool.true_beq, Bool.false_beq, Bool.true_bne, Bool.false_bne, Bool.not_true, Bool.not_false]) (by simp only [push_cast, Nat.reduceAdd, Nat.reduceSub, Nat.reduceMul, Nat.reduceLT, Nat.reduceLeDiff, Nat.reduceEqDiff, Nat.reduceMod, Nat.reduceDiv, Int.reduceAdd, Int.reduceSub, Int.reduceMul, Int.reduceLT, Int.reduceLE, Int.reduceEq, Int.reduceNeg, Int.reduceToNat, reduceIte, reduceCtorEq, Int.reduceBEq, Int.reduceBNe, Bool.true_beq, Bool.false_beq, Bool.true_bne, Bool.false_bne, Bool.not_true, Bool.not_false]) rfl rfl (by unfold two47; omega) fun v2 N2 ho2 hf2 => ?_
          simp only [push_cast, Nat.reduceAdd, Nat.reduceSub, Nat.reduceMul, Nat.reduceLT, Nat.reduceLeDiff, Nat.reduceEqDiff, Nat.reduceMod, Nat.reduceDiv, Int.reduceAdd, Int.reduceSub, Int.reduceMul, Int.reduceLT, Int.reduceLE, Int.reduceEq, Int.reduceNeg, Int.reduceToNat, reduceIte, reduceCtorEq, Int.reduceBEq, Int.reduceBNe, Bool.true_beq, Bool.false_beq, Bool.true_bne, Bool.false_bne, Bool.not_true, Bool.not_false]
          have ew : w1 = ofW 1 := by rw [hw1, show nW1 a b = 1 by unfold nW1; rw [if_neg hb, if_pos hab]]; rfl
          refine ⟨(1 + 1, v2, N2), ⟨by dsimp only; omega, ?_, freshN_cons hf2⟩, by dsimp only; omega, ⟨rfl, rfl⟩, subH_pre (subH_cons (fresh_app hb16)) _, by simp only [marks_append, marksOf, ho.wr.2, ho2.wr.2]⟩
          dsimp only
          rw [fm_snoc W.cells (L := [w0, w1, w2]) (i := 1) (x := ofW 1) (by rw [← ew]; rfl)]
          exact ho2
        · have d2 : decide (a = b) = false := decide_eq_false hab
          simp only [push_cast, Nat.reduceAdd, Nat.reduceSub, Nat.reduceMul, Nat.reduceLT, Nat.reduceLeDiff, Nat.reduceEqDiff, Nat.reduceMod, Nat.reduceDiv, Int.reduceAdd, Int.reduceSub, Int.reduceMul, Int.reduceLT, Int.reduceLE, Int.reduceEq, Int.reduceNeg, Int.reduceToNat, reduceIte, reduceCtorEq, Int.reduceBEq, Int.reduceBNe, Bool.true_beq, Bool.false_beq, Bool.true_bne, Bool.false_bne, Bool.not_true, Bool.not_false, fL, r0, r0', r1, r2, rl, va, j0, j1, j2, j3, wm1, nn1, le0, le1, d1]
          refine unrollO gQ2_ok (pl := plGW) Tryd.mix 2 (by kernel_rfl) ?_
          generalize hK : (blockK 2 _ : Exit → Tm → Hp → Prop) = K0
          simp only [push_cast, Nat.reduceAdd, Nat.reduceSub, Nat.reduceMul, Nat.reduceLT, Nat.reduceLeDiff, Nat.reduceEqDiff, Nat.reduceMod, Nat.reduceDiv, Int.reduceAdd, Int.reduceSub, Int.reduceMul, Int.reduceLT, Int.reduceLE, Int.reduceEq, Int.reduceNeg, Int.reduceToNat, reduceIte, reduceCtorEq, Int.reduceBEq, Int.reduceBNe, Bool.true_beq, Bool.false_beq, Bool.true_bne, Bool.false_bne, Bool.not_true, Bool.not_false, fL, r0, r0', r1, r2, rl, va, j0, j1, j2, j3, wm1, nn1, le0, le1, d1, d2]
          rw [← hK]
          clear hK K0
          simp only [push_cast, Nat.reduceAdd, Nat.reduceSub, Nat.reduceMul, Nat.reduceLT, Nat.reduceLeDiff, Nat.reduceEqDiff, Nat.reduceMod, Nat.reduceDiv, Int.reduceAdd, Int.reduceSub, Int.reduceMul, Int.reduceLT, Int.reduceLE, Int.reduceEq, Int.reduceNeg, Int.reduceToNat, reduceIte, reduceCtorEq, Int.reduceBEq, Int.reduceBNe, Bool.true_beq, Bool.false_beq, Bool.true_bne, Bool.false_bne, Bool.not_true, Bool.not_false, fL, r0, r0', r1, r2, rl, va, j0, j1, j2, j3, wm1, nn1, le0, le1, d1, d2]
          refine regO gQ2_ok ?_
          simp only [push_cast, Nat.reduceAdd, Nat.reduceSub, Nat.reduceMul, Nat.reduceLT, Nat.reduceLeDiff, Nat.reduceEqDiff, Nat.reduceMod, Nat.reduceDiv, Int.reduceAdd, Int.reduceSub, Int.reduceMul, Int.reduceLT, Int.reduceLE, Int.reduceEq, Int.reduceNeg, Int.reduceToNat, reduceIte, reduceCtorEq, Int.reduceBEq, Int.reduceBNe, Bool.true_beq, Bool.false_beq, Bool.true_bne, Bool.false_bne, Bool.not_true, Bool.not_false, fL, r0, r0', r1, r2, rl, va, j0, j1, j2, j3, wm1, nn1, le0, le1, d1, d2]
          intro b16 hb16
          refine append_out1 (e := 24) (sz := 4) (by_ := 32) (n := 1) (m := 1) (ys := (ofW 2).cells) ho hb16 (by simp only [push_cast, Nat.reduceAdd, Nat.reduceSub, Nat.reduceMul, Nat.reduceLT, Nat.reduceLeDiff, Nat.reduceEqDiff, Nat.reduceMod, Nat.reduceDiv, Int.reduceAdd, Int.reduceSub, Int.reduceMul, Int.reduceLT, Int.reduceLE, Int.reduceEq, Int.reduceNeg, Int.reduceToNat, reduceIte, reduceCtorEq, Int.reduceBEq, Int.reduceBNe, Bool.true_beq, Bool.false_beq, Bool.true_bne, Bool.false_bne, Bool.not_true, Bool.not_false]) (by simp only [push_cast, Nat.reduceAdd, Nat.reduceSub, Nat.reduceMul, Nat.reduceLT, Nat.reduceLeDiff, Nat.reduceEqDiff, Nat.reduceMod, Nat.reduceDiv, Int.reduceAdd, Int.reduceSub, Int.reduceMul, Int.reduceLT, Int.reduceLE, Int.reduceEq, Int.reduceNeg, Int.reduceToNat, reduceIte, reduceCtorEq, Int.reduceBEq, Int.reduceBNe, Bool.true_beq, Bool.false_beq, Bool.true_bne, Bool.false_bne, Bool.not_true, Bool.not_false]) rfl rfl (by unfold two47; omega) fun v2 N2 ho2 hf2 => ?_
          simp only [push_cast, Nat.reduceAdd, Nat.reduceSub, Nat.reduceMul, Nat.reduceLT, Nat.reduceLeDiff, Nat.reduceEqDiff, Nat.reduceMod, Nat.reduceDiv, Int.reduceAdd, Int.reduceSub, Int.reduceMul, Int.reduceLT, Int.reduceLE, Int.reduceEq, Int.reduceNeg, Int.reduceToNat, reduceIte, reduceCtorEq, Int.reduceBEq, Int.reduceBNe, Bool.true_beq, Bool.false_beq, Bool.true_bne, Bool.false_bne, Bool.not_true, Bool.not_false]
          have ew : w1 = ofW 2 := by rw [hw1, show nW1 a b = 2 by unfold nW1; rw [if_neg hb, if_neg hab]]; rfl
          refine ⟨(1 + 1, v2, N2), ⟨by dsimp only; omega, ?_, freshN_cons hf2⟩, by dsimp only; omega, ⟨rfl, rfl⟩, subH_pre (subH_cons (fresh_app hb16)) _, by simp only [marks_append, marksOf, ho.wr.2, ho2.wr.2]⟩
          dsimp only
          rw [fm_snoc W.cells (L := [w0, w1, w2]) (i := 1) (x := ofW 2) (by rw [← ew]; rfl)]
          exact ho2
    · by_cases hc : c = W.zero
      · have d1 : decide (c = W.zero) = true := decide_eq_true hc
        simp only [push_cast, Nat.reduceAdd, Nat.reduceSub, Nat.reduceMul, Nat.reduceLT, Nat.reduceLeDiff, Nat.reduceEqDiff, Nat.reduceMod, Nat.reduceDiv, Int.reduceAdd, Int.reduceSub, Int.reduceMul, Int.reduceLT, Int.reduceLE, Int.reduceEq, Int.reduceNeg, Int.reduceToNat, reduceIte, reduceCtorEq, Int.reduceBEq, Int.reduceBNe, Bool.true_beq, Bool.false_beq, Bool.true_bne, Bool.false_bne, Bool.not_true, Bool.not_false, fL, r0, r0', r1, r2, rl, va, j0, j1, j2, j3, wm1, nn1, le0, le1, d1]
        refine regO gQ2_ok ?_
        simp only [push_cast, Nat.reduceAdd, Nat.reduceSub, Nat.reduceMul, Nat.reduceLT, Nat.reduceLeDiff, Nat.reduceEqDiff, Nat.reduceMod, Nat.reduceDiv, Int.reduceAdd, Int.reduceSub, Int.reduceMul, Int.reduceLT, Int.reduceLE, Int.reduceEq, Int.reduceNeg, Int.reduceToNat, reduceIte, reduceCtorEq, Int.reduceBEq, Int.reduceBNe, Bool.true_beq, Bool.false_beq, Bool.true_bne, Bool.false_bne, Bool.not_true, Bool.not_false, fL, r0, r0', r1, r2, rl, va, j0, j1, j2, j3, wm1, nn1, le0, le1, d1]
        intro b16 hb16
        refine append_out1 (e := 24) (sz := 4) (by_ := 32) (n := 2) (m := 1) (ys := (ofW 0).cells) ho hb16 (by simp only [push_cast, Nat.reduceAdd, Nat.reduceSub, Nat.reduceMul, Nat.reduceLT, Nat.reduceLeDiff, Nat.reduceEqDiff, Nat.reduceMod, Nat.reduceDiv, Int.reduceAdd, Int.reduceSub, Int.reduceMul, Int.reduceLT, Int.reduceLE, Int.reduceEq, Int.reduceNeg, Int.reduceToNat, reduceIte, reduceCtorEq, Int.reduceBEq, Int.reduceBNe, Bool.true_beq, Bool.false_beq, Bool.true_bne, Bool.false_bne, Bool.not_true, Bool.not_false]) (by simp only [push_cast, Nat.reduceAdd, Nat.reduceSub, Nat.reduceMul, Nat.reduceLT, Nat.reduceLeDiff, Nat.reduceEqDiff, Nat.reduceMod, Nat.reduceDiv, Int.reduceAdd, Int.reduceSub, Int.reduceMul, Int.reduceLT, Int.reduceLE, Int.reduceEq, Int.reduceNeg, Int.reduceToNat, reduceIte, reduceCtorEq, Int.reduceBEq, Int.reduceBNe, Bool.true_beq, Bool.false_beq, Bool.true_bne, Bool.false_bne, Bool.not_true, Bool.not_false]) rfl rfl (by unfold two47; omega) fun v2 N2 ho2 hf2 => ?_
        simp only [push_cast, Nat.reduceAdd, Nat.reduceSub, Nat.reduceMul, Nat.reduceLT, Nat.reduceLeDiff, Nat.reduceEqDiff, Nat.reduceMod, Nat.reduceDiv, Int.reduceAdd, Int.reduceSub, Int.reduceMul, Int.reduceLT, Int.reduceLE, Int.reduceEq, Int.reduceNeg, Int.reduceToNat, reduceIte, reduceCtorEq, Int.reduceBEq, Int.reduceBNe, Bool.true_beq, Bool.false_beq, Bool.true_bne, Bool.false_bne, Bool.not_true, Bool.not_false]
        have ew : w2 = ofW 0 := by rw [hw2, show nW2 a b c = 0 from if_pos hc]; rfl
        refine ⟨(2 + 1, v2, N2), ⟨by dsimp only; omega, ?_, freshN_cons hf2⟩, by dsimp only; omega, ⟨rfl, rfl⟩, subH_pre (subH_cons (fresh_app hb16)) _, by simp only [marks_append, marksOf, ho.wr.2, ho2.wr.2]⟩
        dsimp only
        rw [fm_snoc W.cells (L := [w0, w1, w2]) (i := 2) (x := ofW 0) (by rw [← ew]; rfl)]
        exact ho2
      · have d1 : decide (c = W.zero) = false := decide_eq_false hc
        by_cases hbc : b = c
        · have d2 : decide (b = c) = true := decide_eq_true hbc
          by_cases hac : a = c
          · have d3 : decide (a = c) = true := decide_eq_true hac
            simp only [push_cast, Nat.reduceAdd, Nat.reduceSub, Nat.reduceMul, Nat.reduceLT, Nat.reduceLeDiff, Nat.reduceEqDiff, Nat.reduceMod, Nat.reduceDiv, Int.reduceAdd, Int.reduceSub, Int.reduceMul, Int.reduceLT, Int.reduceLE, Int.reduceEq, Int.reduceNeg, Int.reduceToNat, reduceIte, reduceCtorEq, Int.reduceBEq, Int.reduceBNe, Bool.true_beq, Bool.false_beq, Bool.true_bne, Bool.false_bne, Bool.not_true, Bool.not_false, fL, r0, r0', r1, r2, rl, va, j0, j1, j2, j3, wm1, nn1, le0, le1, d1]
            refine unrollO gQ2_ok (pl := plGW) Tryd.mix 3 (by kernel_rfl) ?_
            generalize hK : (blockK 2 _ : Exit → Tm → Hp → Prop) = K0
            simp only [push_cast, Nat.reduceAdd, Nat.reduceSub, Nat.reduceMul, Nat.reduceLT, Nat.reduceLeDiff, Nat.reduceEqDiff, Nat.reduceMod, Nat.reduceDiv, Int.reduceAdd, Int.reduceSub, Int.reduceMul, Int.reduceLT, Int.reduceLE, Int.reduceEq, Int.reduceNeg, Int.reduceToNat, reduceIte, reduceCtorEq, Int.reduceBEq, Int.reduceBNe, Bool.true_beq, Bool.false_beq, Bool.true_bne, Bool.false_bne, Bool.not_true, Bool.not_false, fL, r0, r0', r1, r2, rl, va, j0, j1, j2, j3, wm1, nn1, le0, le1, d1, d2, d3]
            rw [← hK]
            clear hK K0
            simp only [push_cast, Nat.reduceAdd, Nat.reduceSub, Nat.reduceMul, Nat.reduceLT, Nat.reduceLeDiff, Nat.reduceEqDiff, Nat.reduceMod, Nat.reduceDiv, Int.reduceAdd, Int.reduceSub, Int.reduceMul, Int.reduceLT, Int.reduceLE, Int.reduceEq, Int.reduceNeg, Int.reduceToNat, reduceIte, reduceCtorEq, Int.reduceBEq, Int.reduceBNe, Bool.true_beq, Bool.false_beq, Bool.true_bne, Bool.false_bne, Bool.not_true, Bool.not_false, fL, r0, r0', r1, r2, rl, va, j0, j1, j2, j3, wm1, nn1, le0, le1, d1, d2, d3]
            refine regO gQ2_ok ?_
            simp only [push_cast, Nat.reduceAdd, Nat.reduceSub, Nat.reduceMul, Nat.reduceLT, Nat.reduceLeDiff, Nat.reduceEqDiff, Nat.reduceMod, Nat.reduceDiv, Int.reduceAdd, Int.reduceSub, Int.reduceMul, Int.reduceLT, Int.reduceLE, Int.reduceEq, Int.reduceNeg, Int.reduceToNat, reduceIte, reduceCtorEq, Int.reduceBEq, Int.reduceBNe, Bool.true_beq, Bool.false_beq, Bool.true_bne, Bool.false_bne, Bool.not_true, Bool.not_false, fL, r0, r0', r1, r2, rl, va, j0, j1, j2, j3, wm1, nn1, le0, le1, d1, d2, d3]
            intro b16 hb16
            refine append_out1 (e := 24) (sz := 4) (by_ := 32) (n := 2) (m := 1) (ys := (ofW 1).cells) ho hb16 (by simp only [push_cast, Nat.reduceAdd, Nat.reduceSub, Nat.reduceMul, Nat.reduceLT, Nat.reduceLeDiff, Nat.reduceEqDiff, Nat.reduceMod, Nat.reduceDiv, Int.reduceAdd, Int.reduceSub, Int.reduceMul, Int.reduceLT, Int.reduceLE, Int.reduceEq, Int.reduceNeg, Int.reduceToNat, reduceIte, reduceCtorEq, Int.reduceBEq, Int.reduceBNe, Bool.true_beq, Bool.false_beq, Bool.true_bne, Bool.false_bne, Bool.not_true, Bool.not_false]) (by simp only [push_cast, Nat.reduceAdd, Nat.reduceSub, Nat.reduceMul, Nat.reduceLT, Nat.reduceLeDiff, Nat.reduceEqDiff, Nat.reduceMod, Nat.reduceDiv, Int.reduceAdd, Int.reduceSub, Int.reduceMul, Int.reduceLT, Int.reduceLE, Int.reduceEq, Int.reduceNeg, Int.reduceToNat, reduceIte, reduceCtorEq, Int.reduceBEq, Int.reduceBNe, Bool.true_beq, Bool.false_beq, Bool.true_bne, Bool.false_bne, Bool.not_true, Bool.not_false]) rfl rfl (by unfold two47; omega) fun v2 N2 ho2 hf2 => ?_
            simp only [push_cast, Nat.reduceAdd, Nat.reduceSub, Nat.reduceMul, Nat.reduceLT, Nat.reduceLeDiff, Nat.reduceEqDiff, Nat.reduceMod, Nat.reduceDiv, Int.reduceAdd, Int.reduceSub, Int.reduceMul, Int.reduceLT, Int.reduceLE, Int.reduceEq, Int.reduceNeg, Int.reduceToNat, reduceIte, reduceCtorEq, Int.reduceBEq, Int.reduceBNe, Bool.true_beq, Bool.false_beq, Bool.true_bne, Bool.false_bne, Bool.not_true, Bool.not_false]
            have ew : w2 = ofW 1 := by rw [hw2, show nW2 a b c = 1 by unfold nW2; rw [if_neg hc, if_pos hac]]; rfl
            refine ⟨(2 + 1, v2, N2), ⟨by dsimp only; omega, ?_, freshN_cons hf2⟩, by dsimp only; omega, ⟨rfl, rfl⟩, subH_pre (subH_cons (fresh_app hb16)) _, by simp only [marks_append, marksOf, ho.wr.2, ho2.wr.2]⟩
            dsimp only
            rw [fm_snoc W.cells (L := [w0, w1, w2]) (i := 2) (x := ofW 1) (by rw [← ew]; rfl)]
            exact ho2
          · have d3 : decide (a = c) = false := decide_eq_false hac
            simp only [push_cast, Nat.reduceAdd, Nat.reduceSub, Nat.reduceMul, Nat.reduceLT, Nat.reduceLeDiff, Nat.reduceEqDiff, Nat.reduceMod, Nat.reduceDiv, Int.reduceAdd, Int.reduceSub, Int.reduceMul, Int.reduceLT, Int.reduceLE, Int.reduceEq, Int.reduceNeg, Int.reduceToNat, reduceIte, reduceCtorEq, Int.reduceBEq, Int.reduceBNe, Bool.true_beq, Bool.false_beq, Bool.true_bne, Bool.false_bne, Bool.not_true, Bool.not_false, fL, r0, r0', r1, r2, rl, va, j0, j1, j2, j3, wm1, nn1, le0, le1, d1]
            refine unrollO gQ2_ok (pl := plGW) Tryd.mix 3 (by kernel_rfl) ?_
            generalize hK : (blockK 2 _ : Exit → Tm → Hp → Prop) = K0
            simp only [push_cast, Nat.reduceAdd, Nat.reduceSub, Nat.reduceMul, Nat.reduceLT, Nat.reduceLeDiff, Nat.reduceEqDiff, Nat.reduceMod, Nat.reduceDiv, Int.reduceAdd, Int.reduceSub, Int.reduceMul, Int.reduceLT, Int.reduceLE, Int.reduceEq, Int.reduceNeg, Int.reduceToNat, reduceIte, reduceCtorEq, Int.reduceBEq, Int.reduceBNe, Bool.true_beq, Bool.false_beq, Bool.true_bne, Bool.false_bne, Bool.not_true, Bool.not_false, fL, r0, r0', r1, r2, rl, va, j0, j1, j2, j3, wm1, nn1, le0, le1, d1, d2, d3]
            rw [← hK]
            clear hK K0
            simp only [push_cast, Nat.reduceAdd, Nat.reduceSub, Nat.reduceMul, Nat.reduceLT, Nat.reduceLeDiff, Nat.reduceEqDiff, Nat.reduceMod, Nat.reduceDiv, Int.reduceAdd, Int.reduceSub, Int.reduceMul, Int.reduceLT, Int.reduceLE, Int.reduceEq, Int.reduceNeg, Int.reduceToNat, reduceIte, reduceCtorEq, Int.reduceBEq, Int.reduceBNe, Bool.true_beq, Bool.false_beq, Bool.true_bne, Bool.false_bne, Bool.not_true, Bool.not_false, fL, r0, r0', r1, r2, rl, va, j0, j1, j2, j3, wm1, nn1, le0, le1, d1, d2, d3]
            refine regO gQ2_ok ?_
            simp only [push_cast, Nat.reduceAdd, Nat.reduceSub, Nat.reduceMul, Nat.reduceLT, Nat.reduceLeDiff, Nat.reduceEqDiff, Nat.reduceMod, Nat.reduceDiv, Int.reduceAdd, Int.reduceSub, Int.reduceMul, Int.reduceLT, Int.reduceLE, Int.reduceEq, Int.reduceNeg, Int.reduceToNat, reduceIte, reduceCtorEq, Int.reduceBEq, Int.reduceBNe, Bool.true_beq, Bool.false_beq, Bool.true_bne, Bool.false_bne, Bool.not_true, Bool.not_false, fL, r0, r0', r1, r2, rl, va, j0, j1, j2, j3, wm1, nn1, le0, le1, d1, d2, d3]
            intro b16 hb16
            refine append_out1 (e := 24) (sz := 4) (by_ := 32) (n := 2) (m := 1) (ys := (ofW 2).cells) ho hb16 (by simp only [push_cast, Nat.reduceAdd, Nat.reduceSub, Nat.reduceMul, Nat.reduceLT, Nat.reduceLeDiff, Nat.reduceEqDiff, Nat.reduceMod, Nat.reduceDiv, Int.reduceAdd, Int.reduceSub, Int.reduceMul, Int.reduceLT, Int.reduceLE, Int.reduceEq, Int.reduceNeg, Int.reduceToNat, reduceIte, reduceCtorEq, Int.reduceBEq, Int.reduceBNe, Bool.true_beq, Bool.false_beq, Bool.true_bne, Bool.false_bne, Bool.not_true, Bool.not_false]) (by simp only [push_cast, Nat.reduceAdd, Nat.reduceSub, Nat.reduceMul, Nat.reduceLT, Nat.reduceLeDiff, Nat.reduceEqDiff, Nat.reduceMod, Nat.reduceDiv, Int.reduceAdd, Int.reduceSub, Int.reduceMul, Int.reduceLT, Int.reduceLE, Int.reduceEq, Int.reduceNeg, Int.reduceToNat, reduceIte, reduceCtorEq, Int.reduceBEq, Int.reduceBNe, Bool.true_beq, Bool.false_beq, Bool.true_bne, Bool.false_bne, Bool.not_true, Bool.not_false]) rfl rfl (by unfold two47; omega) fun v2 N2 ho2 hf2 => ?_
            simp only [push_cast, Nat.reduceAdd, Nat.reduceSub, Nat.reduceMul, Nat.reduceLT, Nat.reduceLeDiff, Nat.reduceEqDiff, Nat.reduceMod, Nat.reduceDiv, Int.reduceAdd, Int.reduceSub, Int.reduceMul, Int.reduceLT, Int.reduceLE, Int.reduceEq, Int.reduceNeg, Int.reduceToNat, reduceIte, reduceCtorEq, Int.reduceBEq, Int.reduceBNe, Bool.true_beq, Bool.false_beq, Bool.true_bne, Bool.false_bne, Bool.not_true, Bool.not_false]
            have ew : w2 = ofW 2 := by rw [hw2, show nW2 a b c = 2 by unfold nW2; rw [if_neg hc, if_neg hac, if_pos hbc]]; rfl
            refine ⟨(2 + 1, v2, N2), ⟨by dsimp only; omega, ?_, freshN_cons hf2⟩, by dsimp only; omega, ⟨rfl, rfl⟩, subH_pre (subH_cons (fresh_app hb16)) _, by simp only [marks_append, marksOf, ho.wr.2, ho2.wr.2]⟩
            dsimp only
            rw [fm_snoc W.cells (L := [w0, w1, w2]) (i := 2) (x := ofW 2) (by rw [← ew]; rfl)]
            exact ho2
        · have d2 : decide (b = c) = false := decide_eq_false hbc
          by_cases hac : a = c
          · have d3 : decide (a = c) = true := decide_eq_true hac
            simp only [push_cast, Nat.reduceAdd, Nat.reduceSub, Nat.reduceMul, Nat.reduceLT, Nat.reduceLeDiff, Nat.reduceEqDiff, Nat.reduceMod, Nat.reduceDiv, Int.reduceAdd, Int.reduceSub, Int.reduceMul, Int.reduceLT, Int.reduceLE, Int.reduceEq, Int.reduceNeg, Int.reduceToNat, reduceIte, reduceCtorEq, Int.reduceBEq, Int.reduceBNe, Bool.true_beq, Bool.false_beq, Bool.true_bne, Bool.false_bne, Bool.not_true, Bool.not_false, fL, r0, r0', r1, r2, rl, va, j0, j1, j2, j3, wm1, nn1, le0, le1, d1]
            refine unrollO gQ2_ok (pl := plGW) Tryd.mix 3 (by kernel_rfl) ?_
            generalize hK : (blockK 2 _ : Exit → Tm → Hp → Prop) = K0
            simp only [push_cast, Nat.reduceAdd, Nat.reduceSub, Nat.reduceMul, Nat.reduceLT, Nat.reduceLeDiff, Nat.reduceEqDiff, Nat.reduceMod, Nat.reduceDiv, Int.reduceAdd, Int.reduceSub, Int.reduceMul, Int.reduceLT, Int.reduceLE, Int.reduceEq, Int.reduceNeg, Int.reduceToNat, reduceIte, reduceCtorEq, Int.reduceBEq, Int.reduceBNe, Bool.true_beq, Bool.false_beq, Bool.true_bne, Bool.false_bne, Bool.not_true, Bool.not_false, fL, r0, r0', r1, r2, rl, va, j0, j1, j2, j3, wm1, nn1, le0, le1, d1, d2, d3]
            rw [← hK]
            clear hK K0
            simp only [push_cast, Nat.reduceAdd, Nat.reduceSub, Nat.reduceMul, Nat.reduceLT, Nat.reduceLeDiff, Nat.reduceEqDiff, Nat.reduceMod, Nat.reduceDiv, Int.reduceAdd, Int.reduceSub, Int.reduceMul, Int.reduceLT, Int.reduceLE, Int.reduceEq, Int.reduceNeg, Int.reduceToNat, reduceIte, reduceCtorEq, Int.reduceBEq, Int.reduceBNe, Bool.true_beq, Bool.false_beq, Bool.true_bne, Bool.false_bne, Bool.not_true, Bool.not_false, fL, r0, r0', r1, r2, rl, va, j0, j1, j2, j3, wm1, nn1, le0, le1, d1, d2, d3]
            refine regO gQ2_ok ?_
            simp only [push_cast, Nat.reduceAdd, Nat.reduceSub, Nat.reduceMul, Nat.reduceLT, Nat.reduceLeDiff, Nat.reduceEqDiff, Nat.reduceMod, Nat.reduceDiv, Int.reduceAdd, Int.reduceSub, Int.reduceMul, Int.reduceLT, Int.reduceLE, Int.reduceEq, Int.reduceNeg, Int.reduceToNat, reduceIte, reduceCtorEq, Int.reduceBEq, Int.reduceBNe, Bool.true_beq, Bool.false_beq, Bool.true_bne, Bool.false_bne, Bool.not_true, Bool.not_false, fL, r0, r0', r1, r2, rl, va, j0, j1, j2, j3, wm1, nn1, le0, le1, d1, d2, d3]
            intro b16 hb16
            refine append_out1 (e := 24) (sz := 4) (by_ := 32) (n := 2) (m := 1) (ys := (ofW 1).cells) ho hb16 (by simp only [push_cast, Nat.reduceAdd, Nat.reduceSub, Nat.reduceMul, Nat.reduceLT, Nat.reduceLeDiff, Nat.reduceEqDiff, Nat.reduceMod, Nat.reduceDiv, Int.reduceAdd, Int.reduceSub, Int.reduceMul, Int.reduceLT, Int.reduceLE, Int.reduceEq, Int.reduceNeg, Int.reduceToNat, reduceIte, reduceCtorEq, Int.reduceBEq, Int.reduceBNe, Bool.true_beq, Bool.false_beq, Bool.true_bne, Bool.false_bne, Bool.not_true, Bool.not_false]) (by simp only [push_cast, Nat.reduceAdd, Nat.reduceSub, Nat.reduceMul, Nat.reduceLT, Nat.reduceLeDiff, Nat.reduceEqDiff, Nat.reduceMod, Nat.reduceDiv, Int.reduceAdd, Int.reduceSub, Int.reduceMul, Int.reduceLT, Int.reduceLE, Int.reduceEq, Int.reduceNeg, Int.reduceToNat, reduceIte, reduceCtorEq, Int.reduceBEq, Int.reduceBNe, Bool.true_beq, Bool.false_beq, Bool.true_bne, Bool.false_bne, Bool.not_true, Bool.not_false]) rfl rfl (by unfold two47; omega) fun v2 N2 ho2 hf2 => ?_
            simp only [push_cast, Nat.reduceAdd, Nat.reduceSub, Nat.reduceMul, Nat.reduceLT, Nat.reduceLeDiff, Nat.reduceEqDiff, Nat.reduceMod, Nat.reduceDiv, Int.reduceAdd, Int.reduceSub, Int.reduceMul, Int.reduceLT, Int.reduceLE, Int.reduceEq, Int.reduceNeg, Int.reduceToNat, reduceIte, reduceCtorEq, Int.reduceBEq, Int.reduceBNe, Bool.true_beq, Bool.false_beq, Bool.true_bne, Bool.false_bne, Bool.not_true, Bool.not_false]
            have ew : w2 = ofW 1 := by rw [hw2, show nW2 a b c = 1 by unfold nW2; rw [if_neg hc, if_pos hac]]; rfl
            refine ⟨(2 + 1, v2, N2), ⟨by dsimp only; omega, ?_, freshN_cons hf2⟩, by dsimp only; omega, ⟨rfl, rfl⟩, subH_pre (subH_cons (fresh_app hb16)) _, by simp only [marks_append, marksOf, ho.wr.2, ho2.wr.2]⟩
            dsimp only
            rw [fm_snoc W.cells (L := [w0, w1, w2]) (i := 2) (x := ofW 1) (by rw [← ew]; rfl)]
            exact ho2
          · have d3 : decide (a = c) = false := decide_eq_false hac
            simp only [push_cast, Nat.reduceAdd, Nat.reduceSub, Nat.reduceMul, Nat.reduceLT, Nat.reduceLeDiff, Nat.reduceEqDiff, Nat.reduceMod, Nat.reduceDiv, Int.reduceAdd, Int.reduceSub, Int.reduceMul, Int.reduceLT, Int.reduceLE, Int.reduceEq, Int.reduceNeg, Int.reduceToNat, reduceIte, reduceCtorEq, Int.reduceBEq, Int.reduceBNe, Bool.true_beq, Bool.false_beq, Bool.true_bne, Bool.false_bne, Bool.not_true, Bool.not_false, fL, r0, r0', r1, r2, rl, va, j0, j1, j2, j3, wm1, nn1, le0, le1, d1]
            refine unrollO gQ2_ok (pl := plGW) Tryd.mix 3 (by kernel_rfl) ?_
            generalize hK : (blockK 2 _ : Exit → Tm → Hp → Prop) = K0
            simp only [push_cast, Nat.reduceAdd, Nat.reduceSub, Nat.reduceMul, Nat.reduceLT, Nat.reduceLeDiff, Nat.reduceEqDiff, Nat.reduceMod, Nat.reduceDiv, Int.reduceAdd, Int.reduceSub, Int.reduceMul, Int.reduceLT, Int.reduceLE, Int.reduceEq, Int.reduceNeg, Int.reduceToNat, reduceIte, reduceCtorEq, Int.reduceBEq, Int.reduceBNe, Bool.true_beq, Bool.false_beq, Bool.true_bne, Bool.false_bne, Bool.not_true, Bool.not_false, fL, r0, r0', r1, r2, rl, va, j0, j1, j2, j3, wm1, nn1, le0, le1, d1, d2, d3]
            rw [← hK]
            clear hK K0
            simp only [push_cast, Nat.reduceAdd, Nat.reduceSub, Nat.reduceMul, Nat.reduceLT, Nat.reduceLeDiff, Nat.reduceEqDiff, Nat.reduceMod, Nat.reduceDiv, Int.reduceAdd, Int.reduceSub, Int.reduceMul, Int.reduceLT, Int.reduceLE, Int.reduceEq, Int.reduceNeg, Int.reduceToNat, reduceIte, reduceCtorEq, Int.reduceBEq, Int.reduceBNe, Bool.true_beq, Bool.false_beq, Bool.true_bne, Bool.false_bne, Bool.not_true, Bool.not_false, fL, r0, r0', r1, r2, rl, va, j0, j1, j2, j3, wm1, nn1, le0, le1, d1, d2, d3]
            refine regO gQ2_ok ?_
            simp only [push_cast, Nat.reduceAdd, Nat.reduceSub, Nat.reduceMul, Nat.reduceLT, Nat.reduceLeDiff, Nat.reduceEqDiff, Nat.reduceMod, Nat.reduceDiv, Int.reduceAdd, Int.reduceSub, Int.reduceMul, Int.reduceLT, Int.reduceLE, Int.reduceEq, Int.reduceNeg, Int.reduceToNat, reduceIte, reduceCtorEq, Int.reduceBEq, Int.reduceBNe, Bool.true_beq, Bool.false_beq, Bool.true_bne, Bool.false_bne, Bool.not_true, Bool.not_false, fL, r0, r0', r1, r2, rl, va, j0, j1, j2, j3, wm1, nn1, le0, le1, d1, d2, d3]
            intro b16 hb16
            refine append_out1 (e := 24) (sz := 4) (by_ := 32) (n := 2) (m := 1) (ys := (ofW 3).cells) ho hb16 (by simp only [push_cast, Nat.reduceAdd, Nat.reduceSub, Nat.reduceMul, Nat.reduceLT, Nat.reduceLeDiff, Nat.reduceEqDiff, Nat.reduceMod, Nat.reduceDiv, Int.reduceAdd, Int.reduceSub, Int.reduceMul, Int.reduceLT, Int.reduceLE, Int.reduceEq, Int.reduceNeg, Int.reduceToNat, reduceIte, reduceCtorEq, Int.reduceBEq, Int.reduceBNe, Bool.true_beq, Bool.false_beq, Bool.true_bne, Bool.false_bne, Bool.not_true, Bool.not_false]) (by simp only [push_cast, Nat.reduceAdd, Nat.reduceSub, Nat.reduceMul, Nat.reduceLT, Nat.reduceLeDiff, Nat.reduceEqDiff, Nat.reduceMod, Nat.reduceDiv, Int.reduceAdd, Int.reduceSub, Int.reduceMul, Int.reduceLT, Int.reduceLE, Int.reduceEq, Int.reduceNeg, Int.reduceToNat, reduceIte, reduceCtorEq, Int.reduceBEq, Int.reduceBNe, Bool.true_beq, Bool.false_beq, Bool.true_bne, Bool.false_bne, Bool.not_true, Bool.not_false]) rfl rfl (by unfold two47; omega) fun v2 N2 ho2 hf2 => ?_
            simp only [push_cast, Nat.reduceAdd, Nat.reduceSub, Nat.reduceMul, Nat.reduceLT, Nat.reduceLeDiff, Nat.reduceEqDiff, Nat.reduceMod, Nat.reduceDiv, Int.reduceAdd, Int.reduceSub, Int.reduceMul, Int.reduceLT, Int.reduceLE, Int.reduceEq, Int.reduceNeg, Int.reduceToNat, reduceIte, reduceCtorEq, Int.reduceBEq, Int.reduceBNe, Bool.true_beq, Bool.false_beq, Bool.true_bne, Bool.false_bne, Bool.not_true, Bool.not_false]
            have ew : w2 = ofW 3 := by rw [hw2, show nW2 a b c = 3 by unfold nW2; rw [if_neg hc, if_neg hac, if_neg hbc]]; rfl
            refine ⟨(2 + 1, v2, N2), ⟨by dsimp only; omega, ?_, freshN_cons hf2⟩, by dsimp only; omega, ⟨rfl, rfl⟩, subH_pre (subH_cons (fresh_app hb16)) _, by simp only [marks_append, marksOf, ho.wr.2, ho2.wr.2]⟩
            dsimp only
            rw [fm_snoc W.cells (L := [w0, w1, w2]) (i := 2) (x := ofW 3) (by rw [← ew]; rfl)]
            exact ho2
    · rcases ho with ⟨h, _⟩ | ⟨b', c', _, rfl, hc', hcl, rfl⟩
      · cases h
      have n4 := (fresh_findS hf.1 m4).2
      have n5 := (fresh_findS hf.1 m5).2
      have n6 := (fresh_findS hf.1 m6).2
      have wl : ([w0, w1, w2].take 3).flatMap W.cells = w0.cells ++ (w1.cells ++ w2.cells) := by simp
      dsimp only at n4 n5 n6
      rw [wl]
      have s0 : List.take 4 (w0.cells ++ (w1.cells ++ w2.cells)) = w0.cells := rfl
      have s1 : List.take 4 (List.drop 4 (w0.cells ++ (w1.cells ++ w2.cells))) = w1.cells := rfl
      have s2 : List.take 4 (List.drop 8 (w0.cells ++ (w1.cells ++ w2.cells))) = w2.cells := rfl
      have sl : (w0.cells ++ (w1.cells ++ w2.cells)).length = 12 := rfl
      obtain ⟨S, hS⟩ : ∃ S, S = storeP a b c warm := ⟨_, rfl⟩
      rw [← hS] at hst g1 g2 g3 g4
      simp only [push_cast, Nat.reduceAdd, Nat.reduceSub, Nat.reduceMul, Nat.reduceLT, Nat.reduceLeDiff, Nat.reduceEqDiff, Nat.reduceMod, Nat.reduceDiv, Int.reduceAdd, Int.reduceSub, Int.reduceMul, Int.reduceLT, Int.reduceLE, Int.reduceEq, Int.reduceNeg, Int.reduceToNat, reduceIte, reduceCtorEq, Int.reduceBEq, Int.reduceBNe, Bool.true_beq, Bool.false_beq, Bool.true_bne, Bool.false_bne, Bool.not_true, Bool.not_false, n4, n5, n6, m4, m5, m6, s0, s1, s2, sl, va]
      refine regO gQ2_ok ?_
      simp only [push_cast, Nat.reduceAdd, Nat.reduceSub, Nat.reduceMul, Nat.reduceLT, Nat.reduceLeDiff, Nat.reduceEqDiff, Nat.reduceMod, Nat.reduceDiv, Int.reduceAdd, Int.reduceSub, Int.reduceMul, Int.reduceLT, Int.reduceLE, Int.reduceEq, Int.reduceNeg, Int.reduceToNat, reduceIte, reduceCtorEq, Int.reduceBEq, Int.reduceBNe, Bool.true_beq, Bool.false_beq, Bool.true_bne, Bool.false_bne, Bool.not_true, Bool.not_false, n4, n5, n6, m4, m5, m6, s0, s1, s2, sl, va, ← hS, hst]
      refine regO gQ2_ok ?_
      simp only [push_cast, Nat.reduceAdd, Nat.reduceSub, Nat.reduceMul, Nat.reduceLT, Nat.reduceLeDiff, Nat.reduceEqDiff, Nat.reduceMod, Nat.reduceDiv, Int.reduceAdd, Int.reduceSub, Int.reduceMul, Int.reduceLT, Int.reduceLE, Int.reduceEq, Int.reduceNeg, Int.reduceToNat, reduceIte, reduceCtorEq, Int.reduceBEq, Int.reduceBNe, Bool.true_beq, Bool.false_beq, Bool.true_bne, Bool.false_bne, Bool.not_true, Bool.not_false, g1, g2, g3, g4, beq_self_eq_true]
end Go.Proofs.YtfioapldbajpmaaDoor
