/- Wf: Digits: the walk. -/
import Derived.Test.YtfioapldbajpmaaDoorWe
set_option linter.unusedSimpArgs false
set_option linter.unusedVariables false
namespace Go.Proofs.YtfioapldbajpmaaDoor
open Go Go.Ev Go.Proofs
set_option maxRecDepth 100000
set_option maxHeartbeats 4000000
theorem digits_ok (w : W) : CallsV Tryd.prog 64 [w.v] [] (OutC 3 1 (zs (digs w.num 32)) 32) := by
  refine callsO (noG_ok _) Tryd.mix Tryd.pl64 Tryd.func64 rfl Tryd.ntmps64 Tryd.results64 rfl (by first | rfl | assumption) (Nat.le_of_ble_eq_true rfl) (by kernel_rfl) ?_
  simp only [push_cast, Nat.reduceAdd, Nat.reduceSub, Nat.reduceMul, Nat.reduceLT, Nat.reduceLeDiff, Nat.reduceEqDiff, Nat.reduceMod, Nat.reduceDiv, Int.reduceAdd, Int.reduceSub, Int.reduceMul, Int.reduceLT, Int.reduceLE, Int.reduceEq, Int.reduceNeg, Int.reduceToNat, reduceIte, reduceCtorEq, Int.reduceBEq, Int.reduceBNe, Bool.true_beq, Bool.false_beq, Bool.true_bne, Bool.false_bne, Bool.not_true, Bool.not_false]
  intro b1
  refine loopO (noG_ok _) (pl := Tryd.pl64) Tryd.mix (X := Nat × Value × Hp)
    (fun s => ([(1, .pointer (some ⟨b1, 0, none⟩)), (3, s.2.1), (4, .int .i64 s.1)], s.2.2 ++ [⟨b1, 0, .cel 24, w.cells⟩]))
    (fun s => s.1 ≤ 4 ∧ OutC 3 1 (zs (digs w.num (8 * s.1))) (8 * s.1) s.2.1 s.2.2 ∧ freshN s.2.2 [⟨b1, 0, .cel 24, w.cells⟩]) (fun s => 4 - s.1) (0, .slice none 0 0, []) ?_ ?_ (by kernel_rfl) ?_
  · exact ⟨by decide, .nil _ _, trivial⟩
  · simp only [push_cast, Nat.reduceAdd, Nat.reduceSub, Nat.reduceMul, Nat.reduceLT, Nat.reduceLeDiff, Nat.reduceEqDiff, Nat.reduceMod, Nat.reduceDiv, Int.reduceAdd, Int.reduceSub, Int.reduceMul, Int.reduceLT, Int.reduceLE, Int.reduceEq, Int.reduceNeg, Int.reduceToNat, reduceIte, reduceCtorEq, Int.reduceBEq, Int.reduceBNe, Bool.true_beq, Bool.false_beq, Bool.true_bne, Bool.false_bne, Bool.not_true, Bool.not_false]
  · rintro ⟨i, vo, No⟩ ⟨hi, ho, hf⟩
    dsimp only at hi ho hf ⊢
    have fb : findE (No ++ [⟨b1, 0, .cel 24, w.cells⟩]) b1 = some ⟨b1, 0, .cel 24, w.cells⟩ := by
      rw [findE_freshN hf (b := b1) (e := ⟨b1, 0, .cel 24, w.cells⟩) (by simp only [push_cast, Nat.reduceAdd, Nat.reduceSub, Nat.reduceMul, Nat.reduceLT, Nat.reduceLeDiff, Nat.reduceEqDiff, Nat.reduceMod, Nat.reduceDiv, Int.reduceAdd, Int.reduceSub, Int.reduceMul, Int.reduceLT, Int.reduceLE, Int.reduceEq, Int.reduceNeg, Int.reduceToNat, reduceIte, reduceCtorEq, Int.reduceBEq, Int.reduceBNe, Bool.true_beq, Bool.false_beq, Bool.true_bne, Bool.false_bne, Bool.not_true, Bool.not_false])]; simp only [push_cast, Nat.reduceAdd, Nat.reduceSub, Nat.reduceMul, Nat.reduceLT, Nat.reduceLeDiff, Nat.reduceEqDiff, Nat.reduceMod, Nat.reduceDiv, Int.reduceAdd, Int.reduceSub, Int.reduceMul, Int.reduceLT, Int.reduceLE, Int.reduceEq, Int.reduceNeg, Int.reduceToNat, reduceIte, reduceCtorEq, Int.reduceBEq, Int.reduceBNe, Bool.true_beq, Bool.false_beq, Bool.true_bne, Bool.false_bne, Bool.not_true, Bool.not_false]
    obtain rfl | rfl | rfl | rfl | rfl : i = 0 ∨ i = 1 ∨ i = 2 ∨ i = 3 ∨ i = 4 := by omega
    · simp only [push_cast, Nat.reduceAdd, Nat.reduceSub, Nat.reduceMul, Nat.reduceLT, Nat.reduceLeDiff, Nat.reduceEqDiff, Nat.reduceMod, Nat.reduceDiv, Int.reduceAdd, Int.reduceSub, Int.reduceMul, Int.reduceLT, Int.reduceLE, Int.reduceEq, Int.reduceNeg, Int.reduceToNat, reduceIte, reduceCtorEq, Int.reduceBEq, Int.reduceBNe, Bool.true_beq, Bool.false_beq, Bool.true_bne, Bool.false_bne, Bool.not_true, Bool.not_false, fb]
      refine loopO (noG_ok _) (pl := Tryd.pl64) Tryd.mix (X := Nat × Nat × Value × Hp)
        (fun s => ([(1, .pointer (some ⟨b1, 0, none⟩)), (3, s.2.2.1), (4, .int .i64 0), (5, .int .u64 s.2.1), (6, .int .i64 s.1)], s.2.2.2 ++ [⟨b1, 0, .cel 24, w.cells⟩]))
        (fun s => s.1 ≤ 8 ∧ s.2.1 = w.a / 256 ^ s.1 ∧ OutC 3 1 (zs (digs w.num (s.1))) (s.1) s.2.2.1 s.2.2.2 ∧ freshN s.2.2.2 [⟨b1, 0, .cel 24, w.cells⟩]) (fun s => 8 - s.1) (0, w.a, vo, No) ?_ ?_ (by kernel_rfl) ?_
      · exact ⟨by dsimp only; omega, by simp, ho, hf⟩
      · simp only [push_cast, Nat.reduceAdd, Nat.reduceSub, Nat.reduceMul, Nat.reduceLT, Nat.reduceLeDiff, Nat.reduceEqDiff, Nat.reduceMod, Nat.reduceDiv, Int.reduceAdd, Int.reduceSub, Int.reduceMul, Int.reduceLT, Int.reduceLE, Int.reduceEq, Int.reduceNeg, Int.reduceToNat, reduceIte, reduceCtorEq, Int.reduceBEq, Int.reduceBNe, Bool.true_beq, Bool.false_beq, Bool.true_bne, Bool.false_bne, Bool.not_true, Bool.not_false]
        exact subH_self _
      · rintro ⟨k, x, vo, No⟩ ⟨hk, hx, ho, hf⟩
        dsimp only at hk hx ho hf ⊢
        rcases Nat.lt_or_ge k 8 with hlt | hge
        · have k8 : (k : Int) < 8 := by omega
          obtain ⟨d, hd0⟩ : ∃ d, d = digN w.num (8 * 0 + k) := ⟨_, rfl⟩
          have hd : d = x % 256 := by rw [hd0, dig_part w (by decide) hlt, hx]; rfl
          have e1 : (x : Int).tmod 256 = (d : Int) := by rw [hd]; rfl
          have hdl : d < 256 := by rw [hd]; omega
          obtain ⟨x2, hx2⟩ : ∃ x2 : Nat, x2 = x / 256 := ⟨_, rfl⟩
          have e2 : (x : Int).tdiv 256 = (x2 : Int) := by rw [hx2]; rfl
          have hxl : x2 < 18446744073709551616 := by
            have := w.ha
            have h3 : x ≤ w.a := by rw [hx]; exact Nat.div_le_self _ _
            omega
          simp only [push_cast, Nat.reduceAdd, Nat.reduceSub, Nat.reduceMul, Nat.reduceLT, Nat.reduceLeDiff, Nat.reduceEqDiff, Nat.reduceMod, Nat.reduceDiv, Int.reduceAdd, Int.reduceSub, Int.reduceMul, Int.reduceLT, Int.reduceLE, Int.reduceEq, Int.reduceNeg, Int.reduceToNat, reduceIte, reduceCtorEq, Int.reduceBEq, Int.reduceBNe, Bool.true_beq, Bool.false_beq, Bool.true_bne, Bool.false_bne, Bool.not_true, Bool.not_false, k8, e1, wrap_i64' (show -9223372036854775808 ≤ (d : Int) ∧ (d : Int) ≤ 9223372036854775807 by omega)]
          intro b10 hb10
          refine append_out1 (e := 3) (sz := 1) (by_ := 8) (n := k) (m := 1) (ys := [.int .i64 (d : Int)]) ho hb10 (by simp only [push_cast, Nat.reduceAdd, Nat.reduceSub, Nat.reduceMul, Nat.reduceLT, Nat.reduceLeDiff, Nat.reduceEqDiff, Nat.reduceMod, Nat.reduceDiv, Int.reduceAdd, Int.reduceSub, Int.reduceMul, Int.reduceLT, Int.reduceLE, Int.reduceEq, Int.reduceNeg, Int.reduceToNat, reduceIte, reduceCtorEq, Int.reduceBEq, Int.reduceBNe, Bool.true_beq, Bool.false_beq, Bool.true_bne, Bool.false_bne, Bool.not_true, Bool.not_false]) (by simp only [push_cast, Nat.reduceAdd, Nat.reduceSub, Nat.reduceMul, Nat.reduceLT, Nat.reduceLeDiff, Nat.reduceEqDiff, Nat.reduceMod, Nat.reduceDiv, Int.reduceAdd, Int.reduceSub, Int.reduceMul, Int.reduceLT, Int.reduceLE, Int.reduceEq, Int.reduceNeg, Int.reduceToNat, reduceIte, reduceCtorEq, Int.reduceBEq, Int.reduceBNe, Bool.true_beq, Bool.false_beq, Bool.true_bne, Bool.false_bne, Bool.not_true, Bool.not_false]) rfl rfl (by unfold two47; omega) fun v' N' ho' hf' => ?_
          simp only [push_cast, Nat.reduceAdd, Nat.reduceSub, Nat.reduceMul, Nat.reduceLT, Nat.reduceLeDiff, Nat.reduceEqDiff, Nat.reduceMod, Nat.reduceDiv, Int.reduceAdd, Int.reduceSub, Int.reduceMul, Int.reduceLT, Int.reduceLE, Int.reduceEq, Int.reduceNeg, Int.reduceToNat, reduceIte, reduceCtorEq, Int.reduceBEq, Int.reduceBNe, Bool.true_beq, Bool.false_beq, Bool.true_bne, Bool.false_bne, Bool.not_true, Bool.not_false, e2, wrap_u64' (n := (x2 : Int)) (by omega), wrap_i64' (show -9223372036854775808 ≤ (k : Int) + 1 ∧ (k : Int) + 1 ≤ 9223372036854775807 by omega)]
          refine ⟨(k + 1, x2, v', N'), ⟨by dsimp only; omega, ?_, ?_, freshN_cons hf'⟩, by dsimp only; omega, ⟨rfl, rfl, rfl⟩, ?_, ?_⟩
          · dsimp only; rw [hx2, hx, Nat.div_div_eq_div_mul, Nat.pow_succ]
          · dsimp only
            have hz : zs (digs w.num ((k + 1))) = zs (digs w.num (k)) ++ [.int .i64 (d : Int)] := by rw [digs_succ, zs_app, hd0, Nat.mul_zero, Nat.zero_add]; rfl
            rw [hz]
            exact ho'
          · exact subH_pre (subH_cons (fresh_app hb10)) _
          · simp only [marks_append, marksOf, ho.wr.2, ho'.wr.2]
        · obtain rfl : k = 8 := by omega
          simp only [push_cast, Nat.reduceAdd, Nat.reduceSub, Nat.reduceMul, Nat.reduceLT, Nat.reduceLeDiff, Nat.reduceEqDiff, Nat.reduceMod, Nat.reduceDiv, Int.reduceAdd, Int.reduceSub, Int.reduceMul, Int.reduceLT, Int.reduceLE, Int.reduceEq, Int.reduceNeg, Int.reduceToNat, reduceIte, reduceCtorEq, Int.reduceBEq, Int.reduceBNe, Bool.true_beq, Bool.false_beq, Bool.true_bne, Bool.false_bne, Bool.not_true, Bool.not_false, wrap_i64' (show -9223372036854775808 ≤ ((0 : Nat) : Int) + 1 ∧ ((0 : Nat) : Int) + 1 ≤ 9223372036854775807 by omega)]
          exact ⟨(1, vo, No), ⟨by dsimp only; omega, ho, hf⟩, by dsimp only; omega, ⟨rfl, rfl⟩, subH_self _, rfl⟩
    · simp only [push_cast, Nat.reduceAdd, Nat.reduceSub, Nat.reduceMul, Nat.reduceLT, Nat.reduceLeDiff, Nat.reduceEqDiff, Nat.reduceMod, Nat.reduceDiv, Int.reduceAdd, Int.reduceSub, Int.reduceMul, Int.reduceLT, Int.reduceLE, Int.reduceEq, Int.reduceNeg, Int.reduceToNat, reduceIte, reduceCtorEq, Int.reduceBEq, Int.reduceBNe, Bool.true_beq, Bool.false_beq, Bool.true_bne, Bool.false_bne, Bool.not_true, Bool.not_false, fb]
      refine loopO (noG_ok _) (pl := Tryd.pl64) Tryd.mix (X := Nat × Nat × Value × Hp)
        (fun s => ([(1, .pointer (some ⟨b1, 0, none⟩)), (3, s.2.2.1), (4, .int .i64 1), (5, .int .u64 s.2.1), (6, .int .i64 s.1)], s.2.2.2 ++ [⟨b1, 0, .cel 24, w.cells⟩]))
        (fun s => s.1 ≤ 8 ∧ s.2.1 = w.b / 256 ^ s.1 ∧ OutC 3 1 (zs (digs w.num (8 + s.1))) (8 + s.1) s.2.2.1 s.2.2.2 ∧ freshN s.2.2.2 [⟨b1, 0, .cel 24, w.cells⟩]) (fun s => 8 - s.1) (0, w.b, vo, No) ?_ ?_ (by kernel_rfl) ?_
      · exact ⟨by dsimp only; omega, by simp, ho, hf⟩
      · simp only [push_cast, Nat.reduceAdd, Nat.reduceSub, Nat.reduceMul, Nat.reduceLT, Nat.reduceLeDiff, Nat.reduceEqDiff, Nat.reduceMod, Nat.reduceDiv, Int.reduceAdd, Int.reduceSub, Int.reduceMul, Int.reduceLT, Int.reduceLE, Int.reduceEq, Int.reduceNeg, Int.reduceToNat, reduceIte, reduceCtorEq, Int.reduceBEq, Int.reduceBNe, Bool.true_beq, Bool.false_beq, Bool.true_bne, Bool.false_bne, Bool.not_true, Bool.not_false]
        exact subH_self _
      · rintro ⟨k, x, vo, No⟩ ⟨hk, hx, ho, hf⟩
        dsimp only at hk hx ho hf ⊢
        rcases Nat.lt_or_ge k 8 with hlt | hge
        · have k8 : (k : Int) < 8 := by omega
          obtain ⟨d, hd0⟩ : ∃ d, d = digN w.num (8 * 1 + k) := ⟨_, rfl⟩
          have hd : d = x % 256 := by rw [hd0, dig_part w (by decide) hlt, hx]; rfl
          have e1 : (x : Int).tmod 256 = (d : Int) := by rw [hd]; rfl
          have hdl : d < 256 := by rw [hd]; omega
          obtain ⟨x2, hx2⟩ : ∃ x2 : Nat, x2 = x / 256 := ⟨_, rfl⟩
          have e2 : (x : Int).tdiv 256 = (x2 : Int) := by rw [hx2]; rfl
          have hxl : x2 < 18446744073709551616 := by
            have := w.hb
            have h3 : x ≤ w.b := by rw [hx]; exact Nat.div_le_self _ _
            omega
          simp only [push_cast, Nat.reduceAdd, Nat.reduceSub, Nat.reduceMul, Nat.reduceLT, Nat.reduceLeDiff, Nat.reduceEqDiff, Nat.reduceMod, Nat.reduceDiv, Int.reduceAdd, Int.reduceSub, Int.reduceMul, Int.reduceLT, Int.reduceLE, Int.reduceEq, Int.reduceNeg, Int.reduceToNat, reduceIte, reduceCtorEq, Int.reduceBEq, Int.reduceBNe, Bool.true_beq, Bool.false_beq, Bool.true_bne, Bool.false_bne, Bool.not_true, Bool.not_false, k8, e1, wrap_i64' (show -9223372036854775808 ≤ (d : Int) ∧ (d : Int) ≤ 9223372036854775807 by omega)]
          intro b10 hb10
          refine append_out1 (e := 3) (sz := 1) (by_ := 8) (n := 8 + k) (m := 1) (ys := [.int .i64 (d : Int)]) ho hb10 (by simp only [push_cast, Nat.reduceAdd, Nat.reduceSub, Nat.reduceMul, Nat.reduceLT, Nat.reduceLeDiff, Nat.reduceEqDiff, Nat.reduceMod, Nat.reduceDiv, Int.reduceAdd, Int.reduceSub, Int.reduceMul, Int.reduceLT, Int.reduceLE, Int.reduceEq, Int.reduceNeg, Int.reduceToNat, reduceIte, reduceCtorEq, Int.reduceBEq, Int.reduceBNe, Bool.true_beq, Bool.false_beq, Bool.true_bne, Bool.false_bne, Bool.not_true, Bool.not_false]) (by simp only [push_cast, Nat.reduceAdd, Nat.reduceSub, Nat.reduceMul, Nat.reduceLT, Nat.reduceLeDiff, Nat.reduceEqDiff, Nat.reduceMod, Nat.reduceDiv, Int.reduceAdd, Int.reduceSub, Int.reduceMul, Int.reduceLT, Int.reduceLE, Int.reduceEq, Int.reduceNeg, Int.reduceToNat, reduceIte, reduceCtorEq, Int.reduceBEq, Int.reduceBNe, Bool.true_beq, Bool.false_beq, Bool.true_bne, Bool.false_bne, Bool.not_true, Bool.not_false]) rfl rfl (by unfold two47; omega) fun v' N' ho' hf' => ?_
          simp only [push_cast, Nat.reduceAdd, Nat.reduceSub, Nat.reduceMul, Nat.reduceLT, Nat.reduceLeDiff, Nat.reduceEqDiff, Nat.reduceMod, Nat.reduceDiv, Int.reduceAdd, Int.reduceSub, Int.reduceMul, Int.reduceLT, Int.reduceLE, Int.reduceEq, Int.reduceNeg, Int.reduceToNat, reduceIte, reduceCtorEq, Int.reduceBEq, Int.reduceBNe, Bool.true_beq, Bool.false_beq, Bool.true_bne, Bool.false_bne, Bool.not_true, Bool.not_false, e2, wrap_u64' (n := (x2 : Int)) (by omega), wrap_i64' (show -9223372036854775808 ≤ (k : Int) + 1 ∧ (k : Int) + 1 ≤ 9223372036854775807 by omega)]
          refine ⟨(k + 1, x2, v', N'), ⟨by dsimp only; omega, ?_, ?_, freshN_cons hf'⟩, by dsimp only; omega, ⟨rfl, rfl, rfl⟩, ?_, ?_⟩
          · dsimp only; rw [hx2, hx, Nat.div_div_eq_div_mul, Nat.pow_succ]
          · dsimp only
            have hz : zs (digs w.num (8 + (k + 1))) = zs (digs w.num (8 + k)) ++ [.int .i64 (d : Int)] := by rw [← Nat.add_assoc, digs_succ, zs_app, hd0]; rfl
            rw [hz]
            exact ho'
          · exact subH_pre (subH_cons (fresh_app hb10)) _
          · simp only [marks_append, marksOf, ho.wr.2, ho'.wr.2]
        · obtain rfl : k = 8 := by omega
          simp only [push_cast, Nat.reduceAdd, Nat.reduceSub, Nat.reduceMul, Nat.reduceLT, Nat.reduceLeDiff, Nat.reduceEqDiff, Nat.reduceMod, Nat.reduceDiv, Int.reduceAdd, Int.reduceSub, Int.reduceMul, Int.reduceLT, Int.reduceLE, Int.reduceEq, Int.reduceNeg, Int.reduceToNat, reduceIte, reduceCtorEq, Int.reduceBEq, Int.reduceBNe, Bool.true_beq, Bool.false_beq, Bool.true_bne, Bool.false_bne, Bool.not_true, Bool.not_false, wrap_i64' (show -9223372036854775808 ≤ ((1 : Nat) : Int) + 1 ∧ ((1 : Nat) : Int) + 1 ≤ 9223372036854775807 by omega)]
          exact ⟨(2, vo, No), ⟨by dsimp only; omega, ho, hf⟩, by dsimp only; omega, ⟨rfl, rfl⟩, subH_self _, rfl⟩
    · simp only [push_cast, Nat.reduceAdd, Nat.reduceSub, Nat.reduceMul, Nat.reduceLT, Nat.reduceLeDiff, Nat.reduceEqDiff, Nat.reduceMod, Nat.reduceDiv, Int.reduceAdd, Int.reduceSub, Int.reduceMul, Int.reduceLT, Int.reduceLE, Int.reduceEq, Int.reduceNeg, Int.reduceToNat, reduceIte, reduceCtorEq, Int.reduceBEq, Int.reduceBNe, Bool.true_beq, Bool.false_beq, Bool.true_bne, Bool.false_bne, Bool.not_true, Bool.not_false, fb]
      refine loopO (noG_ok _) (pl := Tryd.pl64) Tryd.mix (X := Nat × Nat × Value × Hp)
        (fun s => ([(1, .pointer (some ⟨b1, 0, none⟩)), (3, s.2.2.1), (4, .int .i64 2), (5, .int .u64 s.2.1), (6, .int .i64 s.1)], s.2.2.2 ++ [⟨b1, 0, .cel 24, w.cells⟩]))
        (fun s => s.1 ≤ 8 ∧ s.2.1 = w.c / 256 ^ s.1 ∧ OutC 3 1 (zs (digs w.num (16 + s.1))) (16 + s.1) s.2.2.1 s.2.2.2 ∧ freshN s.2.2.2 [⟨b1, 0, .cel 24, w.cells⟩]) (fun s => 8 - s.1) (0, w.c, vo, No) ?_ ?_ (by kernel_rfl) ?_
      · exact ⟨by dsimp only; omega, by simp, ho, hf⟩
      · simp only [push_cast, Nat.reduceAdd, Nat.reduceSub, Nat.reduceMul, Nat.reduceLT, Nat.reduceLeDiff, Nat.reduceEqDiff, Nat.reduceMod, Nat.reduceDiv, Int.reduceAdd, Int.reduceSub, Int.reduceMul, Int.reduceLT, Int.reduceLE, Int.reduceEq, Int.reduceNeg, Int.reduceToNat, reduceIte, reduceCtorEq, Int.reduceBEq, Int.reduceBNe, Bool.true_beq, Bool.false_beq, Bool.true_bne, Bool.false_bne, Bool.not_true, Bool.not_false]
        exact subH_self _
      · rintro ⟨k, x, vo, No⟩ ⟨hk, hx, ho, hf⟩
        dsimp only at hk hx ho hf ⊢
        rcases Nat.lt_or_ge k 8 with hlt | hge
        · have k8 : (k : Int) < 8 := by omega
          obtain ⟨d, hd0⟩ : ∃ d, d = digN w.num (8 * 2 + k) := ⟨_, rfl⟩
          have hd : d = x % 256 := by rw [hd0, dig_part w (by decide) hlt, hx]; rfl
          have e1 : (x : Int).tmod 256 = (d : Int) := by rw [hd]; rfl
          have hdl : d < 256 := by rw [hd]; omega
          obtain ⟨x2, hx2⟩ : ∃ x2 : Nat, x2 = x / 256 := ⟨_, rfl⟩
          have e2 : (x : Int).tdiv 256 = (x2 : Int) := by rw [hx2]; rfl
          have hxl : x2 < 18446744073709551616 := by
            have := w.hc
            have h3 : x ≤ w.c := by rw [hx]; exact Nat.div_le_self _ _
            omega
          simp only [push_cast, Nat.reduceAdd, Nat.reduceSub, Nat.reduceMul, Nat.reduceLT, Nat.reduceLeDiff, Nat.reduceEqDiff, Nat.reduceMod, Nat.reduceDiv, Int.reduceAdd, Int.reduceSub, Int.reduceMul, Int.reduceLT, Int.reduceLE, Int.reduceEq, Int.reduceNeg, Int.reduceToNat, reduceIte, reduceCtorEq, Int.reduceBEq, Int.reduceBNe, Bool.true_beq, Bool.false_beq, Bool.true_bne, Bool.false_bne, Bool.not_true, Bool.not_false, k8, e1, wrap_i64' (show -9223372036854775808 ≤ (d : Int) ∧ (d : Int) ≤ 9223372036854775807 by omega)]
          intro b10 hb10
          refine append_out1 (e := 3) (sz := 1) (by_ := 8) (n := 16 + k) (m := 1) (ys := [.int .i64 (d : Int)]) ho hb10 (by simp only [push_cast, Nat.reduceAdd, Nat.reduceSub, Nat.reduceMul, Nat.reduceLT, Nat.reduceLeDiff, Nat.reduceEqDiff, Nat.reduceMod, Nat.reduceDiv, Int.reduceAdd, Int.reduceSub, Int.reduceMul, Int.reduceLT, Int.reduceLE, Int.reduceEq, Int.reduceNeg, Int.reduceToNat, reduceIte, reduceCtorEq, Int.reduceBEq, Int.reduceBNe, Bool.true_beq, Bool.false_beq, Bool.true_bne, Bool.false_bne, Bool.not_true, Bool.not_false]) (by simp only [push_cast, Nat.reduceAdd, Nat.reduceSub, Nat.reduceMul, Nat.reduceLT, Nat.reduceLeDiff, Nat.reduceEqDiff, Nat.reduceMod, Nat.reduceDiv, Int.reduceAdd, Int.reduceSub, Int.reduceMul, Int.reduceLT, Int.reduceLE, Int.reduceEq, Int.reduceNeg, Int.reduceToNat, reduceIte, reduceCtorEq, Int.reduceBEq, Int.reduceBNe, Bool.true_beq, Bool.false_beq, Bool.true_bne, Bool.false_bne, Bool.not_true, Bool.not_false]) rfl rfl (by unfold two47; omega) fun v' N' ho' hf' => ?_
          simp only [push_cast, Nat.reduceAdd, Nat.reduceSub, Nat.reduceMul, Nat.reduceLT, Nat.reduceLeDiff, Nat.reduceEqDiff, Nat.reduceMod, Nat.reduceDiv, Int.reduceAdd, Int.reduceSub, Int.reduceMul, Int.reduceLT, Int.reduceLE, Int.reduceEq, Int.reduceNeg, Int.reduceToNat, reduceIte, reduceCtorEq, Int.reduceBEq, Int.reduceBNe, Bool.true_beq, Bool.false_beq, Bool.true_bne, Bool.false_bne, Bool.not_true, Bool.not_false, e2, wrap_u64' (n := (x2 : Int)) (by omega), wrap_i64' (show -9223372036854775808 ≤ (k : Int) + 1 ∧ (k : Int) + 1 ≤ 9223372036854775807 by omega)]
          refine ⟨(k + 1, x2, v', N'), ⟨by dsimp only; omega, ?_, ?_, freshN_cons hf'⟩, by dsimp only; omega, ⟨rfl, rfl, rfl⟩, ?_, ?_⟩
          · dsimp only; rw [hx2, hx, Nat.div_div_eq_div_mul, Nat.pow_succ]
          · dsimp only
            have hz : zs (digs w.num (16 + (k + 1))) = zs (digs w.num (16 + k)) ++ [.int .i64 (d : Int)] := by rw [← Nat.add_assoc, digs_succ, zs_app, hd0]; rfl
            rw [hz]
            exact ho'
          · exact subH_pre (subH_cons (fresh_app hb10)) _
          · simp only [marks_append, marksOf, ho.wr.2, ho'.wr.2]
        · obtain rfl : k = 8 := by omega
          simp only [push_cast, Nat.reduceAdd, Nat.reduceSub, Nat.reduceMul, Nat.reduceLT, Nat.reduceLeDiff, Nat.reduceEqDiff, Nat.reduceMod, Nat.reduceDiv, Int.reduceAdd, Int.reduceSub, Int.reduceMul, Int.reduceLT, Int.reduceLE, Int.reduceEq, Int.reduceNeg, Int.reduceToNat, reduceIte, reduceCtorEq, Int.reduceBEq, Int.reduceBNe, Bool.true_beq, Bool.false_beq, Bool.true_bne, Bool.false_bne, Bool.not_true, Bool.not_false, wrap_i64' (show -9223372036854775808 ≤ ((2 : Nat) : Int) + 1 ∧ ((2 : Nat) : Int) + 1 ≤ 9223372036854775807 by omega)]
          exact ⟨(3, vo, No), ⟨by dsimp only; omega, ho, hf⟩, by dsimp only; omega, ⟨rfl, rfl⟩, subH_self _, rfl⟩
    · simp only [push_cast, Nat.reduceAdd, Nat.reduceSub, Nat.reduceMul, Nat.reduceLT, Nat.reduceLeDiff, Nat.reduceEqDiff, Nat.reduceMod, Nat.reduceDiv, Int.reduceAdd, Int.reduceSub, Int.reduceMul, Int.reduceLT, Int.reduceLE, Int.reduceEq, Int.reduceNeg, Int.reduceToNat, reduceIte, reduceCtorEq, Int.reduceBEq, Int.reduceBNe, Bool.true_beq, Bool.false_beq, Bool.true_bne, Bool.false_bne, Bool.not_true, Bool.not_false, fb]
      refine loopO (noG_ok _) (pl := Tryd.pl64) Tryd.mix (X := Nat × Nat × Value × Hp)
        (fun s => ([(1, .pointer (some ⟨b1, 0, none⟩)), (3, s.2.2.1), (4, .int .i64 3), (5, .int .u64 s.2.1), (6, .int .i64 s.1)], s.2.2.2 ++ [⟨b1, 0, .cel 24, w.cells⟩]))
        (fun s => s.1 ≤ 8 ∧ s.2.1 = w.d / 256 ^ s.1 ∧ OutC 3 1 (zs (digs w.num (24 + s.1))) (24 + s.1) s.2.2.1 s.2.2.2 ∧ freshN s.2.2.2 [⟨b1, 0, .cel 24, w.cells⟩]) (fun s => 8 - s.1) (0, w.d, vo, No) ?_ ?_ (by kernel_rfl) ?_
      · exact ⟨by dsimp only; omega, by simp, ho, hf⟩
      · simp only [push_cast, Nat.reduceAdd, Nat.reduceSub, Nat.reduceMul, Nat.reduceLT, Nat.reduceLeDiff, Nat.reduceEqDiff, Nat.reduceMod, Nat.reduceDiv, Int.reduceAdd, Int.reduceSub, Int.reduceMul, Int.reduceLT, Int.reduceLE, Int.reduceEq, Int.reduceNeg, Int.reduceToNat, reduceIte, reduceCtorEq, Int.reduceBEq, Int.reduceBNe, Bool.true_beq, Bool.false_beq, Bool.true_bne, Bool.false_bne, Bool.not_true, Bool.not_false]
        exact subH_self _
      · rintro ⟨k, x, vo, No⟩ ⟨hk, hx, ho, hf⟩
        dsimp only at hk hx ho hf ⊢
        rcases Nat.lt_or_ge k 8 with hlt | hge
        · have k8 : (k : Int) < 8 := by omega
          obtain ⟨d, hd0⟩ : ∃ d, d = digN w.num (8 * 3 + k) := ⟨_, rfl⟩
          have hd : d = x % 256 := by rw [hd0, dig_part w (by decide) hlt, hx]; rfl
          have e1 : (x : Int).tmod 256 = (d : Int) := by rw [hd]; rfl
          have hdl : d < 256 := by rw [hd]; omega
          obtain ⟨x2, hx2⟩ : ∃ x2 : Nat, x2 = x / 256 := ⟨_, rfl⟩
          have e2 : (x : Int).tdiv 256 = (x2 : Int) := by rw [hx2]; rfl
          have hxl : x2 < 18446744073709551616 := by
            have := w.hd
            have h3 : x ≤ w.d := by rw [hx]; exact Nat.div_le_self _ _
            omega
          simp only [push_cast, Nat.reduceAdd, Nat.reduceSub, Nat.reduceMul, Nat.reduceLT, Nat.reduceLeDiff, Nat.reduceEqDiff, Nat.reduceMod, Nat.reduceDiv, Int.reduceAdd, Int.reduceSub, Int.reduceMul, Int.reduceLT, Int.reduceLE, Int.reduceEq, Int.reduceNeg, Int.reduceToNat, reduceIte, reduceCtorEq, Int.reduceBEq, Int.reduceBNe, Bool.true_beq, Bool.false_beq, Bool.true_bne, Bool.false_bne, Bool.not_true, Bool.not_false, k8, e1, wrap_i64' (show -9223372036854775808 ≤ (d : Int) ∧ (d : Int) ≤ 9223372036854775807 by omega)]
          intro b10 hb10
          refine append_out1 (e := 3) (sz := 1) (by_ := 8) (n := 24 + k) (m := 1) (ys := [.int .i64 (d : Int)]) ho hb10 (by simp only [push_cast, Nat.reduceAdd, Nat.reduceSub, Nat.reduceMul, Nat.reduceLT, Nat.reduceLeDiff, Nat.reduceEqDiff, Nat.reduceMod, Nat.reduceDiv, Int.reduceAdd, Int.reduceSub, Int.reduceMul, Int.reduceLT, Int.reduceLE, Int.reduceEq, Int.reduceNeg, Int.reduceToNat, reduceIte, reduceCtorEq, Int.reduceBEq, Int.reduceBNe, Bool.true_beq, Bool.false_beq, Bool.true_bne, Bool.false_bne, Bool.not_true, Bool.not_false]) (by simp only [push_cast, Nat.reduceAdd, Nat.reduceSub, Nat.reduceMul, Nat.reduceLT, Nat.reduceLeDiff, Nat.reduceEqDiff, Nat.reduceMod, Nat.reduceDiv, Int.reduceAdd, Int.reduceSub, Int.reduceMul, Int.reduceLT, Int.reduceLE, Int.reduceEq, Int.reduceNeg, Int.reduceToNat, reduceIte, reduceCtorEq, Int.reduceBEq, Int.reduceBNe, Bool.true_beq, Bool.false_beq, Bool.true_bne, Bool.false_bne, Bool.not_true, Bool.not_false]) rfl rfl (by unfold two47; omega) fun v' N' ho' hf' => ?_
          simp only [push_cast, Nat.reduceAdd, Nat.reduceSub, Nat.reduceMul, Nat.reduceLT, Nat.reduceLeDiff, Nat.reduceEqDiff, Nat.reduceMod, Nat.reduceDiv, Int.reduceAdd, Int.reduceSub, Int.reduceMul, Int.reduceLT, Int.reduceLE, Int.reduceEq, Int.reduceNeg, Int.reduceToNat, reduceIte, reduceCtorEq, Int.reduceBEq, Int.reduceBNe, Bool.true_beq, Bool.false_beq, Bool.true_bne, Bool.false_bne, Bool.not_true, Bool.not_false, e2, wrap_u64' (n := (x2 : Int)) (by omega), wrap_i64' (show -9223372036854775808 ≤ (k : Int) + 1 ∧ (k : Int) + 1 ≤ 9223372036854775807 by omega)]
          refine ⟨(k + 1, x2, v', N'), ⟨by dsimp only; omega, ?_, ?_, freshN_cons hf'⟩, by dsimp only; omega, ⟨rfl, rfl, rfl⟩, ?_, ?_⟩
          · dsimp only; rw [hx2, hx, Nat.div_div_eq_div_mul, Nat.pow_succ]
          · dsimp only
            have hz : zs (digs w.num (24 + (k + 1))) = zs (digs w.num (24 + k)) ++ [.int .i64 (d : Int)] := by rw [← Nat.add_assoc, digs_succ, zs_app, hd0]; rfl
            rw [hz]
            exact ho'
          · exact subH_pre (subH_cons (fresh_app hb10)) _
          · simp only [marks_append, marksOf, ho.wr.2, ho'.wr.2]
        · obtain rfl : k = 8 := by omega
          simp only [push_cast, Nat.reduceAdd, Nat.reduceSub, Nat.reduceMul, Nat.reduceLT, Nat.reduceLeDiff, Nat.reduceEqDiff, Nat.reduceMod, Nat.reduceDiv, Int.reduceAdd, Int.reduceSub, Int.reduceMul, Int.reduceLT, Int.reduceLE, Int.reduceEq, Int.reduceNeg, Int.reduceToNat, reduceIte, reduceCtorEq, Int.reduceBEq, Int.reduceBNe, Bool.true_beq, Bool.false_beq, Bool.true_bne, Bool.false_bne, Bool.not_true, Bool.not_false, wrap_i64' (show -9223372036854775808 ≤ ((3 : Nat) : Int) + 1 ∧ ((3 : Nat) : Int) + 1 ≤ 9223372036854775807 by omega)]
          exact ⟨(4, vo, No), ⟨by dsimp only; omega, ho, hf⟩, by dsimp only; omega, ⟨rfl, rfl⟩, subH_self _, rfl⟩
    · simp only [push_cast, Nat.reduceAdd, Nat.reduceSub, Nat.reduceMul, Nat.reduceLT, Nat.reduceLeDiff, Nat.reduceEqDiff, Nat.reduceMod, Nat.reduceDiv, Int.reduceAdd, Int.reduceSub, Int.reduceMul, Int.reduceLT, Int.reduceLE, Int.reduceEq, Int.reduceNeg, Int.reduceToNat, reduceIte, reduceCtorEq, Int.reduceBEq, Int.reduceBNe, Bool.true_beq, Bool.false_beq, Bool.true_bne, Bool.false_bne, Bool.not_true, Bool.not_false]
      refine ⟨No, ?_, ho⟩
      rw [dropM_eq (by simp only [marks_append, marksOf, ho.wr.2, List.append_nil])]
      exact List.sublist_append_left _ _
end Go.Proofs.YtfioapldbajpmaaDoor
