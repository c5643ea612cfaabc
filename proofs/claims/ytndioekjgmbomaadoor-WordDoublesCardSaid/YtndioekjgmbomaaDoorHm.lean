/- Hm: WordDoubles. -/
import Derived.Test.YtndioekjgmbomaaDoorHj
set_option linter.unusedSimpArgs false
set_option linter.unusedVariables false
namespace Go.Ev
noncomputable def dblW : W → Nat → W := hid fun w t => W.of (w.num * 2 ^ t)
theorem dblW_eq (w : W) (t : Nat) : dblW w t = W.of (w.num * 2 ^ t) := by unfold dblW; rw [hid_eq]
noncomputable def topW : W → Nat → Nat → W := hid fun w s k => W.of (w.num / 2 ^ (64 * s) * 2 ^ k)
theorem topW_eq (w : W) (s k : Nat) : topW w s k = W.of (w.num / 2 ^ (64 * s) * 2 ^ k) := by unfold topW; rw [hid_eq]
theorem twice_of (n : Nat) : plusW (W.of n) (W.of n) = W.of (n * 2) := by
  refine W.num_inj ?_
  rw [plus_num, W.num_of, W.num_of]
  omega
theorem dbl_step (w : W) (t : Nat) : plusW (dblW w t) (dblW w t) = dblW w (t + 1) := by
  rw [dblW_eq, dblW_eq, twice_of, Nat.pow_succ, Nat.mul_assoc]
theorem top_step (w : W) (s k : Nat) : plusW (topW w s k) (topW w s k) = topW w s (k + 1) := by
  rw [topW_eq, topW_eq, twice_of, Nat.pow_succ, Nat.mul_assoc]
theorem dbl_0 (w : W) : dblW w 0 = w := by rw [dblW_eq, Nat.pow_zero, Nat.mul_one, W.of_num]
theorem dbl_all (w : W) : dblW w 256 = W.zero := by
  rw [dblW_eq]
  refine W.num_inj ?_
  rw [W.num_of, zero_num, show (2 : Nat) ^ 256 = 115792089237316195423570985008687907853269984665640564039457584007913129639936 by decide +kernel, Nat.mul_mod_left]
theorem top_4 (w : W) : topW w 4 0 = W.zero := by
  rw [topW_eq, Nat.div_eq_of_lt (show w.num < 2 ^ (64 * 4) from W.num_lt w)]
  exact W.num_inj (by rw [W.num_of, zero_num, Nat.zero_mul, Nat.zero_mod])
theorem top_0 (w : W) : topW w 0 0 = w := by rw [topW_eq, Nat.mul_zero, Nat.pow_zero, Nat.div_one, Nat.mul_one, W.of_num]
def loneW (x : Nat) (h : x < 18446744073709551616) : W := ⟨x, 0, 0, 0, h, by decide, by decide, by decide⟩
theorem lone_num (x : Nat) (h : x < 18446744073709551616) : (loneW x h).num = x := by unfold loneW W.num; simp
theorem plus_of (n : Nat) (x : Nat) (h : x < 18446744073709551616) : plusW (W.of n) (loneW x h) = W.of (n + x) := by
  refine W.num_inj ?_
  rw [plus_num, W.num_of, W.num_of, lone_num]
  omega
theorem top_next0 (w : W) : plusW (topW w 1 64) (loneW w.a w.ha) = topW w 0 0 := by
  rw [topW_eq, topW_eq, plus_of, Nat.pow_zero, Nat.mul_one]
  have ha := w.ha; have hb := w.hb; have hc := w.hc; have hd := w.hd
  congr 1
  unfold W.num
  simp only [Nat.reduceMul, Nat.reducePow, Nat.div_one, Nat.mul_one]
  omega
theorem lone_a (w : W) : Value.agg #[.int .u64 (w.a : Nat), .int .u64 0, .int .u64 0, .int .u64 0] = (loneW w.a w.ha).v := rfl
theorem top_next1 (w : W) : plusW (topW w 2 64) (loneW w.b w.hb) = topW w 1 0 := by
  rw [topW_eq, topW_eq, plus_of, Nat.pow_zero, Nat.mul_one]
  have ha := w.ha; have hb := w.hb; have hc := w.hc; have hd := w.hd
  congr 1
  unfold W.num
  simp only [Nat.reduceMul, Nat.reducePow, Nat.div_one, Nat.mul_one]
  omega
theorem lone_b (w : W) : Value.agg #[.int .u64 (w.b : Nat), .int .u64 0, .int .u64 0, .int .u64 0] = (loneW w.b w.hb).v := rfl
theorem top_next2 (w : W) : plusW (topW w 3 64) (loneW w.c w.hc) = topW w 2 0 := by
  rw [topW_eq, topW_eq, plus_of, Nat.pow_zero, Nat.mul_one]
  have ha := w.ha; have hb := w.hb; have hc := w.hc; have hd := w.hd
  congr 1
  unfold W.num
  simp only [Nat.reduceMul, Nat.reducePow, Nat.div_one, Nat.mul_one]
  omega
theorem lone_c (w : W) : Value.agg #[.int .u64 (w.c : Nat), .int .u64 0, .int .u64 0, .int .u64 0] = (loneW w.c w.hc).v := rfl
theorem top_next3 (w : W) : plusW (topW w 4 64) (loneW w.d w.hd) = topW w 3 0 := by
  rw [topW_eq, topW_eq, plus_of, Nat.pow_zero, Nat.mul_one]
  have ha := w.ha; have hb := w.hb; have hc := w.hc; have hd := w.hd
  congr 1
  unfold W.num
  simp only [Nat.reduceMul, Nat.reducePow, Nat.div_one, Nat.mul_one]
  omega
theorem lone_d (w : W) : Value.agg #[.int .u64 (w.d : Nat), .int .u64 0, .int .u64 0, .int .u64 0] = (loneW w.d w.hd).v := rfl
end Go.Ev
namespace Go.Proofs.YtndioekjgmbomaaDoor
open Go Go.Ev Go.Proofs
set_option maxRecDepth 100000
set_option maxHeartbeats 4000000
def plDo : Plans := fun i => if i = 2 then [(0, 9)] else if i = 3 then [(0, 9)] else Tryd.pl8 i
attribute [push_cast] plDo
theorem wordDoubles0 (w : W) : CallsV Tryd.prog 8 [w.v] [] (Ret0 (.bool true)) := by
  refine callsO gAll_ok Tryd.mix plDo Tryd.func8 rfl Tryd.ntmps8 Tryd.results8 rfl (by first | rfl | assumption) (Nat.le_of_ble_eq_true rfl) (by kernel_rfl) ?_
  simp only [push_cast, Nat.reduceAdd, Nat.reduceSub, Nat.reduceMul, Nat.reduceLT, Nat.reduceLeDiff, Nat.reduceEqDiff, Nat.reduceMod, Nat.reduceDiv, Int.reduceAdd, Int.reduceSub, Int.reduceMul, Int.reduceLT, Int.reduceLE, Int.reduceEq, Int.reduceNeg, Int.reduceToNat, reduceIte, reduceCtorEq, Int.reduceBEq, Int.reduceBNe, Bool.true_beq, Bool.false_beq, Bool.true_bne, Bool.false_bne, Bool.not_true, Bool.not_false]
  intro b1
  refine regO gAll_ok ?_
  simp only [push_cast, Nat.reduceAdd, Nat.reduceSub, Nat.reduceMul, Nat.reduceLT, Nat.reduceLeDiff, Nat.reduceEqDiff, Nat.reduceMod, Nat.reduceDiv, Int.reduceAdd, Int.reduceSub, Int.reduceMul, Int.reduceLT, Int.reduceLE, Int.reduceEq, Int.reduceNeg, Int.reduceToNat, reduceIte, reduceCtorEq, Int.reduceBEq, Int.reduceBNe, Bool.true_beq, Bool.false_beq, Bool.true_bne, Bool.false_bne, Bool.not_true, Bool.not_false]
  intro b4 hb4
  refine regO gAll_ok ?_
  simp only [push_cast, Nat.reduceAdd, Nat.reduceSub, Nat.reduceMul, Nat.reduceLT, Nat.reduceLeDiff, Nat.reduceEqDiff, Nat.reduceMod, Nat.reduceDiv, Int.reduceAdd, Int.reduceSub, Int.reduceMul, Int.reduceLT, Int.reduceLE, Int.reduceEq, Int.reduceNeg, Int.reduceToNat, reduceIte, reduceCtorEq, Int.reduceBEq, Int.reduceBNe, Bool.true_beq, Bool.false_beq, Bool.true_bne, Bool.false_bne, Bool.not_true, Bool.not_false, hb4]
  intro b5 hb5
  refine loopO gAll_ok (pl := Tryd.pl8) Tryd.mix (X := Nat)
    (fun s => ([(1, .pointer (some ⟨b1, 0, none⟩)), (3, .bool true), (4, .pointer (some ⟨b4, 0, none⟩)), (5, .pointer (some ⟨b5, 0, none⟩)), (6, .int .i64 ((s : Int) - 1))],
      [⟨b5, 0, .cel 24, (topW w s 0).cells⟩, ⟨b4, 0, .cel 24, (dblW w (64 * (4 - s))).cells⟩, ⟨b1, 0, .cel 24, w.cells⟩]))
    (fun s => s ≤ 4) (fun s => s) 4 ?_ ?_ (by kernel_rfl) ?_
  · exact Nat.le_refl _
  · rw [top_4, show dblW w (64 * (4 - 4)) = w from dbl_0 w]
    simp only [push_cast, Nat.reduceAdd, Nat.reduceSub, Nat.reduceMul, Nat.reduceLT, Nat.reduceLeDiff, Nat.reduceEqDiff, Nat.reduceMod, Nat.reduceDiv, Int.reduceAdd, Int.reduceSub, Int.reduceMul, Int.reduceLT, Int.reduceLE, Int.reduceEq, Int.reduceNeg, Int.reduceToNat, reduceIte, reduceCtorEq, Int.reduceBEq, Int.reduceBNe, Bool.true_beq, Bool.false_beq, Bool.true_bne, Bool.false_bne, Bool.not_true, Bool.not_false, hb4, hb5]
  · intro s hs
    dsimp only at hs ⊢
    obtain rfl | rfl | rfl | rfl | rfl : s = 0 ∨ s = 1 ∨ s = 2 ∨ s = 3 ∨ s = 4 := by omega
    · rw [top_0, show dblW w (64 * (4 - 0)) = W.zero from dbl_all w]
      simp only [push_cast, Nat.reduceAdd, Nat.reduceSub, Nat.reduceMul, Nat.reduceLT, Nat.reduceLeDiff, Nat.reduceEqDiff, Nat.reduceMod, Nat.reduceDiv, Int.reduceAdd, Int.reduceSub, Int.reduceMul, Int.reduceLT, Int.reduceLE, Int.reduceEq, Int.reduceNeg, Int.reduceToNat, reduceIte, reduceCtorEq, Int.reduceBEq, Int.reduceBNe, Bool.true_beq, Bool.false_beq, Bool.true_bne, Bool.false_bne, Bool.not_true, Bool.not_false, hb4, hb5, show ((0 : Nat) : Int) - 1 = -1 from rfl, wz_agg, decide_true]
    · rw [show ((1 : Nat) : Int) - 1 = 0 from rfl]
      simp only [push_cast, Nat.reduceAdd, Nat.reduceSub, Nat.reduceMul, Nat.reduceLT, Nat.reduceLeDiff, Nat.reduceEqDiff, Nat.reduceMod, Nat.reduceDiv, Int.reduceAdd, Int.reduceSub, Int.reduceMul, Int.reduceLT, Int.reduceLE, Int.reduceEq, Int.reduceNeg, Int.reduceToNat, reduceIte, reduceCtorEq, Int.reduceBEq, Int.reduceBNe, Bool.true_beq, Bool.false_beq, Bool.true_bne, Bool.false_bne, Bool.not_true, Bool.not_false, hb4, hb5]
      refine loopO gAll_ok (pl := Tryd.pl8) Tryd.mix (X := Nat)
        (fun k => ([(1, .pointer (some ⟨b1, 0, none⟩)), (3, .bool true), (4, .pointer (some ⟨b4, 0, none⟩)), (5, .pointer (some ⟨b5, 0, none⟩)), (6, .int .i64 0), (7, .int .i64 k)],
          [⟨b5, 0, .cel 24, (topW w 1 k).cells⟩, ⟨b4, 0, .cel 24, (dblW w (192 + k)).cells⟩, ⟨b1, 0, .cel 24, w.cells⟩]))
        (fun k => k ≤ 64) (fun k => 64 - k) 0 ?_ ?_ (by kernel_rfl) ?_
      · exact Nat.zero_le _
      · simp only [push_cast, Nat.reduceAdd, Nat.reduceSub, Nat.reduceMul, Nat.reduceLT, Nat.reduceLeDiff, Nat.reduceEqDiff, Nat.reduceMod, Nat.reduceDiv, Int.reduceAdd, Int.reduceSub, Int.reduceMul, Int.reduceLT, Int.reduceLE, Int.reduceEq, Int.reduceNeg, Int.reduceToNat, reduceIte, reduceCtorEq, Int.reduceBEq, Int.reduceBNe, Bool.true_beq, Bool.false_beq, Bool.true_bne, Bool.false_bne, Bool.not_true, Bool.not_false]
      · intro k hk
        dsimp only at hk ⊢
        rcases Nat.lt_or_ge k 64 with hlt | hge
        · have k1 : (k : Int) < 64 := by omega
          have e1 := dbl_step w (192 + k)
          have e2 := top_step w 1 k
          generalize topW w 1 k = A at *
          generalize dblW w (192 + k) = B at *
          simp only [push_cast, Nat.reduceAdd, Nat.reduceSub, Nat.reduceMul, Nat.reduceLT, Nat.reduceLeDiff, Nat.reduceEqDiff, Nat.reduceMod, Nat.reduceDiv, Int.reduceAdd, Int.reduceSub, Int.reduceMul, Int.reduceLT, Int.reduceLE, Int.reduceEq, Int.reduceNeg, Int.reduceToNat, reduceIte, reduceCtorEq, Int.reduceBEq, Int.reduceBNe, Bool.true_beq, Bool.false_beq, Bool.true_bne, Bool.false_bne, Bool.not_true, Bool.not_false, hb4, hb5, k1, wrap_i64' (show -9223372036854775808 ≤ (k : Int) + 1 ∧ (k : Int) + 1 ≤ 9223372036854775807 by omega)]
          exact ⟨k + 1, by omega, by omega, rfl, by first | (rw [← Nat.add_assoc, ← e1, ← e2]; exact ⟨rfl, rfl⟩) | (rw [Nat.zero_add] at e1; rw [← e1, ← e2]; exact ⟨rfl, rfl⟩)⟩
        · obtain rfl : k = 64 := by omega
          have e1 := top_next0 w
          rw [show dblW w (192 + 64) = dblW w (64 * (4 - 0)) from rfl]
          obtain ⟨B, hB⟩ : ∃ B, B = dblW w (64 * (4 - 0)) := ⟨_, rfl⟩
          rw [← hB]
          generalize topW w 1 64 = A at *
          simp only [push_cast, Nat.reduceAdd, Nat.reduceSub, Nat.reduceMul, Nat.reduceLT, Nat.reduceLeDiff, Nat.reduceEqDiff, Nat.reduceMod, Nat.reduceDiv, Int.reduceAdd, Int.reduceSub, Int.reduceMul, Int.reduceLT, Int.reduceLE, Int.reduceEq, Int.reduceNeg, Int.reduceToNat, reduceIte, reduceCtorEq, Int.reduceBEq, Int.reduceBNe, Bool.true_beq, Bool.false_beq, Bool.true_bne, Bool.false_bne, Bool.not_true, Bool.not_false, hb4, hb5, lone_a, e1]
          refine ⟨0, by omega, by omega, ?_⟩
          exact ⟨rfl, by rw [hB]; exact ⟨rfl, rfl⟩⟩
    · rw [show ((2 : Nat) : Int) - 1 = 1 from rfl]
      simp only [push_cast, Nat.reduceAdd, Nat.reduceSub, Nat.reduceMul, Nat.reduceLT, Nat.reduceLeDiff, Nat.reduceEqDiff, Nat.reduceMod, Nat.reduceDiv, Int.reduceAdd, Int.reduceSub, Int.reduceMul, Int.reduceLT, Int.reduceLE, Int.reduceEq, Int.reduceNeg, Int.reduceToNat, reduceIte, reduceCtorEq, Int.reduceBEq, Int.reduceBNe, Bool.true_beq, Bool.false_beq, Bool.true_bne, Bool.false_bne, Bool.not_true, Bool.not_false, hb4, hb5]
      refine loopO gAll_ok (pl := Tryd.pl8) Tryd.mix (X := Nat)
        (fun k => ([(1, .pointer (some ⟨b1, 0, none⟩)), (3, .bool true), (4, .pointer (some ⟨b4, 0, none⟩)), (5, .pointer (some ⟨b5, 0, none⟩)), (6, .int .i64 1), (7, .int .i64 k)],
          [⟨b5, 0, .cel 24, (topW w 2 k).cells⟩, ⟨b4, 0, .cel 24, (dblW w (128 + k)).cells⟩, ⟨b1, 0, .cel 24, w.cells⟩]))
        (fun k => k ≤ 64) (fun k => 64 - k) 0 ?_ ?_ (by kernel_rfl) ?_
      · exact Nat.zero_le _
      · simp only [push_cast, Nat.reduceAdd, Nat.reduceSub, Nat.reduceMul, Nat.reduceLT, Nat.reduceLeDiff, Nat.reduceEqDiff, Nat.reduceMod, Nat.reduceDiv, Int.reduceAdd, Int.reduceSub, Int.reduceMul, Int.reduceLT, Int.reduceLE, Int.reduceEq, Int.reduceNeg, Int.reduceToNat, reduceIte, reduceCtorEq, Int.reduceBEq, Int.reduceBNe, Bool.true_beq, Bool.false_beq, Bool.true_bne, Bool.false_bne, Bool.not_true, Bool.not_false]
      · intro k hk
        dsimp only at hk ⊢
        rcases Nat.lt_or_ge k 64 with hlt | hge
        · have k1 : (k : Int) < 64 := by omega
          have e1 := dbl_step w (128 + k)
          have e2 := top_step w 2 k
          generalize topW w 2 k = A at *
          generalize dblW w (128 + k) = B at *
          simp only [push_cast, Nat.reduceAdd, Nat.reduceSub, Nat.reduceMul, Nat.reduceLT, Nat.reduceLeDiff, Nat.reduceEqDiff, Nat.reduceMod, Nat.reduceDiv, Int.reduceAdd, Int.reduceSub, Int.reduceMul, Int.reduceLT, Int.reduceLE, Int.reduceEq, Int.reduceNeg, Int.reduceToNat, reduceIte, reduceCtorEq, Int.reduceBEq, Int.reduceBNe, Bool.true_beq, Bool.false_beq, Bool.true_bne, Bool.false_bne, Bool.not_true, Bool.not_false, hb4, hb5, k1, wrap_i64' (show -9223372036854775808 ≤ (k : Int) + 1 ∧ (k : Int) + 1 ≤ 9223372036854775807 by omega)]
          exact ⟨k + 1, by omega, by omega, rfl, by first | (rw [← Nat.add_assoc, ← e1, ← e2]; exact ⟨rfl, rfl⟩) | (rw [Nat.zero_add] at e1; rw [← e1, ← e2]; exact ⟨rfl, rfl⟩)⟩
        · obtain rfl : k = 64 := by omega
          have e1 := top_next1 w
          rw [show dblW w (128 + 64) = dblW w (64 * (4 - 1)) from rfl]
          obtain ⟨B, hB⟩ : ∃ B, B = dblW w (64 * (4 - 1)) := ⟨_, rfl⟩
          rw [← hB]
          generalize topW w 2 64 = A at *
          simp only [push_cast, Nat.reduceAdd, Nat.reduceSub, Nat.reduceMul, Nat.reduceLT, Nat.reduceLeDiff, Nat.reduceEqDiff, Nat.reduceMod, Nat.reduceDiv, Int.reduceAdd, Int.reduceSub, Int.reduceMul, Int.reduceLT, Int.reduceLE, Int.reduceEq, Int.reduceNeg, Int.reduceToNat, reduceIte, reduceCtorEq, Int.reduceBEq, Int.reduceBNe, Bool.true_beq, Bool.false_beq, Bool.true_bne, Bool.false_bne, Bool.not_true, Bool.not_false, hb4, hb5, lone_b, e1]
          refine ⟨1, by omega, by omega, ?_⟩
          exact ⟨rfl, by rw [hB]; exact ⟨rfl, rfl⟩⟩
    · rw [show ((3 : Nat) : Int) - 1 = 2 from rfl]
      simp only [push_cast, Nat.reduceAdd, Nat.reduceSub, Nat.reduceMul, Nat.reduceLT, Nat.reduceLeDiff, Nat.reduceEqDiff, Nat.reduceMod, Nat.reduceDiv, Int.reduceAdd, Int.reduceSub, Int.reduceMul, Int.reduceLT, Int.reduceLE, Int.reduceEq, Int.reduceNeg, Int.reduceToNat, reduceIte, reduceCtorEq, Int.reduceBEq, Int.reduceBNe, Bool.true_beq, Bool.false_beq, Bool.true_bne, Bool.false_bne, Bool.not_true, Bool.not_false, hb4, hb5]
      refine loopO gAll_ok (pl := Tryd.pl8) Tryd.mix (X := Nat)
        (fun k => ([(1, .pointer (some ⟨b1, 0, none⟩)), (3, .bool true), (4, .pointer (some ⟨b4, 0, none⟩)), (5, .pointer (some ⟨b5, 0, none⟩)), (6, .int .i64 2), (7, .int .i64 k)],
          [⟨b5, 0, .cel 24, (topW w 3 k).cells⟩, ⟨b4, 0, .cel 24, (dblW w (64 + k)).cells⟩, ⟨b1, 0, .cel 24, w.cells⟩]))
        (fun k => k ≤ 64) (fun k => 64 - k) 0 ?_ ?_ (by kernel_rfl) ?_
      · exact Nat.zero_le _
      · simp only [push_cast, Nat.reduceAdd, Nat.reduceSub, Nat.reduceMul, Nat.reduceLT, Nat.reduceLeDiff, Nat.reduceEqDiff, Nat.reduceMod, Nat.reduceDiv, Int.reduceAdd, Int.reduceSub, Int.reduceMul, Int.reduceLT, Int.reduceLE, Int.reduceEq, Int.reduceNeg, Int.reduceToNat, reduceIte, reduceCtorEq, Int.reduceBEq, Int.reduceBNe, Bool.true_beq, Bool.false_beq, Bool.true_bne, Bool.false_bne, Bool.not_true, Bool.not_false]
      · intro k hk
        dsimp only at hk ⊢
        rcases Nat.lt_or_ge k 64 with hlt | hge
        · have k1 : (k : Int) < 64 := by omega
          have e1 := dbl_step w (64 + k)
          have e2 := top_step w 3 k
          generalize topW w 3 k = A at *
          generalize dblW w (64 + k) = B at *
          simp only [push_cast, Nat.reduceAdd, Nat.reduceSub, Nat.reduceMul, Nat.reduceLT, Nat.reduceLeDiff, Nat.reduceEqDiff, Nat.reduceMod, Nat.reduceDiv, Int.reduceAdd, Int.reduceSub, Int.reduceMul, Int.reduceLT, Int.reduceLE, Int.reduceEq, Int.reduceNeg, Int.reduceToNat, reduceIte, reduceCtorEq, Int.reduceBEq, Int.reduceBNe, Bool.true_beq, Bool.false_beq, Bool.true_bne, Bool.false_bne, Bool.not_true, Bool.not_false, hb4, hb5, k1, wrap_i64' (show -9223372036854775808 ≤ (k : Int) + 1 ∧ (k : Int) + 1 ≤ 9223372036854775807 by omega)]
          exact ⟨k + 1, by omega, by omega, rfl, by first | (rw [← Nat.add_assoc, ← e1, ← e2]; exact ⟨rfl, rfl⟩) | (rw [Nat.zero_add] at e1; rw [← e1, ← e2]; exact ⟨rfl, rfl⟩)⟩
        · obtain rfl : k = 64 := by omega
          have e1 := top_next2 w
          rw [show dblW w (64 + 64) = dblW w (64 * (4 - 2)) from rfl]
          obtain ⟨B, hB⟩ : ∃ B, B = dblW w (64 * (4 - 2)) := ⟨_, rfl⟩
          rw [← hB]
          generalize topW w 3 64 = A at *
          simp only [push_cast, Nat.reduceAdd, Nat.reduceSub, Nat.reduceMul, Nat.reduceLT, Nat.reduceLeDiff, Nat.reduceEqDiff, Nat.reduceMod, Nat.reduceDiv, Int.reduceAdd, Int.reduceSub, Int.reduceMul, Int.reduceLT, Int.reduceLE, Int.reduceEq, Int.reduceNeg, Int.reduceToNat, reduceIte, reduceCtorEq, Int.reduceBEq, Int.reduceBNe, Bool.true_beq, Bool.false_beq, Bool.true_bne, Bool.false_bne, Bool.not_true, Bool.not_false, hb4, hb5, lone_c, e1]
          refine ⟨2, by omega, by omega, ?_⟩
          exact ⟨rfl, by rw [hB]; exact ⟨rfl, rfl⟩⟩
    · rw [show ((4 : Nat) : Int) - 1 = 3 from rfl]
      simp only [push_cast, Nat.reduceAdd, Nat.reduceSub, Nat.reduceMul, Nat.reduceLT, Nat.reduceLeDiff, Nat.reduceEqDiff, Nat.reduceMod, Nat.reduceDiv, Int.reduceAdd, Int.reduceSub, Int.reduceMul, Int.reduceLT, Int.reduceLE, Int.reduceEq, Int.reduceNeg, Int.reduceToNat, reduceIte, reduceCtorEq, Int.reduceBEq, Int.reduceBNe, Bool.true_beq, Bool.false_beq, Bool.true_bne, Bool.false_bne, Bool.not_true, Bool.not_false, hb4, hb5]
      refine loopO gAll_ok (pl := Tryd.pl8) Tryd.mix (X := Nat)
        (fun k => ([(1, .pointer (some ⟨b1, 0, none⟩)), (3, .bool true), (4, .pointer (some ⟨b4, 0, none⟩)), (5, .pointer (some ⟨b5, 0, none⟩)), (6, .int .i64 3), (7, .int .i64 k)],
          [⟨b5, 0, .cel 24, (topW w 4 k).cells⟩, ⟨b4, 0, .cel 24, (dblW w (0 + k)).cells⟩, ⟨b1, 0, .cel 24, w.cells⟩]))
        (fun k => k ≤ 64) (fun k => 64 - k) 0 ?_ ?_ (by kernel_rfl) ?_
      · exact Nat.zero_le _
      · simp only [push_cast, Nat.reduceAdd, Nat.reduceSub, Nat.reduceMul, Nat.reduceLT, Nat.reduceLeDiff, Nat.reduceEqDiff, Nat.reduceMod, Nat.reduceDiv, Int.reduceAdd, Int.reduceSub, Int.reduceMul, Int.reduceLT, Int.reduceLE, Int.reduceEq, Int.reduceNeg, Int.reduceToNat, reduceIte, reduceCtorEq, Int.reduceBEq, Int.reduceBNe, Bool.true_beq, Bool.false_beq, Bool.true_bne, Bool.false_bne, Bool.not_true, Bool.not_false]
      · intro k hk
        dsimp only at hk ⊢
        rcases Nat.lt_or_ge k 64 with hlt | hge
        · have k1 : (k : Int) < 64 := by omega
          have e1 := dbl_step w (0 + k)
          have e2 := top_step w 4 k
          generalize topW w 4 k = A at *
          generalize dblW w (0 + k) = B at *
          simp only [push_cast, Nat.reduceAdd, Nat.reduceSub, Nat.reduceMul, Nat.reduceLT, Nat.reduceLeDiff, Nat.reduceEqDiff, Nat.reduceMod, Nat.reduceDiv, Int.reduceAdd, Int.reduceSub, Int.reduceMul, Int.reduceLT, Int.reduceLE, Int.reduceEq, Int.reduceNeg, Int.reduceToNat, reduceIte, reduceCtorEq, Int.reduceBEq, Int.reduceBNe, Bool.true_beq, Bool.false_beq, Bool.true_bne, Bool.false_bne, Bool.not_true, Bool.not_false, hb4, hb5, k1, wrap_i64' (show -9223372036854775808 ≤ (k : Int) + 1 ∧ (k : Int) + 1 ≤ 9223372036854775807 by omega)]
          exact ⟨k + 1, by omega, by omega, rfl, by first | (rw [← Nat.add_assoc, ← e1, ← e2]; exact ⟨rfl, rfl⟩) | (rw [Nat.zero_add] at e1; rw [← e1, ← e2]; exact ⟨rfl, rfl⟩)⟩
        · obtain rfl : k = 64 := by omega
          have e1 := top_next3 w
          rw [show dblW w (0 + 64) = dblW w (64 * (4 - 3)) from rfl]
          obtain ⟨B, hB⟩ : ∃ B, B = dblW w (64 * (4 - 3)) := ⟨_, rfl⟩
          rw [← hB]
          generalize topW w 4 64 = A at *
          simp only [push_cast, Nat.reduceAdd, Nat.reduceSub, Nat.reduceMul, Nat.reduceLT, Nat.reduceLeDiff, Nat.reduceEqDiff, Nat.reduceMod, Nat.reduceDiv, Int.reduceAdd, Int.reduceSub, Int.reduceMul, Int.reduceLT, Int.reduceLE, Int.reduceEq, Int.reduceNeg, Int.reduceToNat, reduceIte, reduceCtorEq, Int.reduceBEq, Int.reduceBNe, Bool.true_beq, Bool.false_beq, Bool.true_bne, Bool.false_bne, Bool.not_true, Bool.not_false, hb4, hb5, lone_d, e1]
          refine ⟨3, by omega, by omega, ?_⟩
          exact ⟨rfl, by rw [hB]; exact ⟨rfl, rfl⟩⟩
end Go.Proofs.YtndioekjgmbomaaDoor
