/- Hn: WordCuts. -/
import Derived.Test.YtndioekjgmbomaaDoorHh
set_option linter.unusedSimpArgs false
set_option linter.unusedVariables false
namespace Go.Ev
theorem beN_app : ∀ (a b : List UInt8), beN (a ++ b) = beN a + 256 ^ a.length * beN b
  | [], b => by simp [beN]
  | x :: a, b => by
    have := beN_app a b
    show x.toNat + 256 * beN (a ++ b) = x.toNat + 256 * beN a + 256 ^ (a.length + 1) * beN b
    rw [this, Nat.mul_add, Nat.pow_succ, Nat.mul_comm (256 ^ a.length) 256, Nat.mul_assoc, Nat.add_assoc]
theorem of_mod256 {n m : Nat} (h : n % 256 ^ 32 = m % 256 ^ 32) : W.of n = W.of m := by
  refine W.num_inj ?_
  rw [W.num_of, W.num_of]
  have e : (256 : Nat) ^ 32 = 115792089237316195423570985008687907853269984665640564039457584007913129639936 := by decide +kernel
  rw [e] at h
  exact h
theorem fromb_full (l : List UInt8) : frombW l = W.of (beN l.reverse) := by
  rw [frombW_eq]
  refine of_mod256 ?_
  rcases Nat.le_total l.reverse.length 32 with h | h
  · rw [List.take_of_length_le h]
  · have e : l.reverse = l.reverse.take 32 ++ l.reverse.drop 32 := (List.take_append_drop 32 _).symm
    have hl : (l.reverse.take 32).length = 32 := by rw [List.length_take]; omega
    conv => rhs; rw [e]
    rw [beN_app, hl, Nat.add_mul_mod_self_left]
noncomputable def cutW : W → List UInt8 → W := hid fun w x => W.of (beN x.reverse + 256 ^ x.length * w.num)
theorem cutW_eq (w : W) (x : List UInt8) : cutW w x = W.of (beN x.reverse + 256 ^ x.length * w.num) := by unfold cutW; rw [hid_eq]
theorem cut_nil (w : W) : cutW w [] = w := by rw [cutW_eq]; simp [beN, W.of_num]
theorem cut_from (w : W) (x : List UInt8) : frombW (wbytes w ++ x) = cutW w x := by
  rw [fromb_full, cutW_eq, List.reverse_append, beN_app, hBeN_wbytes, List.length_reverse]
theorem cuts_zero (x : List UInt8) : frombW (0 :: x) = frombW x := by
  rw [fromb_full, fromb_full, List.reverse_cons, hBeN_snoc]
  rfl
theorem cuts_step (w : W) (x : List UInt8) (c : UInt8) : plusW (timesW (cutW w x) (ofW 256)) (ofW (c.toNat : Int)) = cutW w (x ++ [c]) := by
  have hc := c.toNat_lt
  refine ((cM.plus _ _).trans (((cM.times _ _).add (cM.rfl _)).trans ?_)).eq
  rw [show (ofW 256).num = 256 from of_nat 256 (by decide), of_nat c.toNat (by omega), cutW_eq, cutW_eq]
  refine (((cM.of _).mul (cM.rfl _)).add (cM.rfl _)).trans (.trans ?_ (cM.of _).symm)
  refine cM.of_eq ?_
  rw [List.reverse_append, List.length_append]
  show _ = ((c.toNat + 256 * beN x.reverse + 256 ^ (x.length + 1) * w.num : Nat) : Int)
  have e : ∀ p q n c : Nat, (p + q * n) * 256 + c = c + 256 * p + q * 256 * n := fun p q n c => by
    rw [Nat.add_mul, Nat.mul_right_comm q n 256]; omega
  rw [Nat.pow_succ, ← e]
  simp only [Int.natCast_add, Int.natCast_mul]
theorem take_more {x : List UInt8} {i : Nat} (h : i < x.length) : x.take i ++ [x[i]] = x.take (i + 1) := by
  rw [List.take_add_one, List.getElem?_eq_getElem h]; rfl
end Go.Ev
namespace Go.Proofs.YtndioekjgmbomaaDoor
open Go Go.Ev Go.Proofs
set_option maxRecDepth 100000
set_option maxHeartbeats 4000000
def plCu : Plans := fun i => if i = 1 then [(0, 9)] else if i = 3 then [(0, 9)] else if i = 4 then [(0, 9)] else Tryd.pl9 i
attribute [push_cast] plCu
theorem wordCuts0 (w : W) (s : ByteArray) (hs : s.size < 1152921504606846976) : CallsV Tryd.prog 9 [w.v, .string s] [] (Ret0 (.bool true)) := by
  obtain ⟨l, rfl⟩ := bs_of s
  rw [bs_size] at hs
  obtain ⟨x, hx⟩ : ∃ x, x = l.take 60 := ⟨_, rfl⟩
  have hxl : x.length ≤ 60 := by rw [hx, List.length_take]; omega
  obtain ⟨m, hm⟩ : ∃ m, m = x.length := ⟨_, rfl⟩
  have hm1 : (if 60 < (l.length : Int) then (60 : Int) else (l.length : Int)) = (m : Int) := by
    rw [hm, hx, List.length_take]
    split <;> omega
  have m1 : m ≤ l.length := by rw [hm, hx, List.length_take]; omega
  have m0 : (0 : Int) ≤ (m : Int) := by omega
  have hmt : List.take m l = x := by rw [hm, hx, List.length_take, List.take_eq_take_iff]; omega
  have j2 : i64B 256 = true := i64B_in (by decide)
  obtain ⟨wb, hwb⟩ : ∃ l, l = wbytes w := ⟨_, rfl⟩
  have hwl : wb.length = 32 := by rw [hwb]; exact wbytes_len w
  have c1 : catB (bs wb) (bs x) = some (.string (bs (wb ++ x))) := hcatB wb x (by omega)
  have c2 : catB (bs [0]) (bs x) = some (.string (bs (0 :: x))) := hcatB [0] x (by show 1 + _ ≤ _; omega)
  have l1 : lngB (32 + x.length) = true := lngB_in (by omega)
  have l2 : lngB x.length = true := lngB_in (by omega)
  have l3 : lngB (x.length + 1) = true := lngB_in (by omega)
  have g1 : frombW (wb ++ x) = cutW w x := by rw [hwb]; exact cut_from w x
  have g2 := cuts_zero x
  refine callsO gAll_ok Tryd.mix plCu Tryd.func9 rfl Tryd.ntmps9 Tryd.results9 rfl (by first | rfl | assumption) (Nat.le_of_ble_eq_true rfl) (by kernel_rfl) ?_
  simp only [push_cast, Nat.reduceAdd, Nat.reduceSub, Nat.reduceMul, Nat.reduceLT, Nat.reduceLeDiff, Nat.reduceEqDiff, Nat.reduceMod, Nat.reduceDiv, Int.reduceAdd, Int.reduceSub, Int.reduceMul, Int.reduceLT, Int.reduceLE, Int.reduceEq, Int.reduceNeg, Int.reduceToNat, reduceIte, reduceCtorEq, Int.reduceBEq, Int.reduceBNe, Bool.true_beq, Bool.false_beq, Bool.true_bne, Bool.false_bne, Bool.not_true, Bool.not_false]
  intro b2
  refine regO gAll_ok ?_
  simp only [push_cast, Nat.reduceAdd, Nat.reduceSub, Nat.reduceMul, Nat.reduceLT, Nat.reduceLeDiff, Nat.reduceEqDiff, Nat.reduceMod, Nat.reduceDiv, Int.reduceAdd, Int.reduceSub, Int.reduceMul, Int.reduceLT, Int.reduceLE, Int.reduceEq, Int.reduceNeg, Int.reduceToNat, reduceIte, reduceCtorEq, Int.reduceBEq, Int.reduceBNe, Bool.true_beq, Bool.false_beq, Bool.true_bne, Bool.false_bne, Bool.not_true, Bool.not_false, bs_size, hm1, m0, m1, hmt]
  refine regO gAll_ok ?_
  simp only [push_cast, Nat.reduceAdd, Nat.reduceSub, Nat.reduceMul, Nat.reduceLT, Nat.reduceLeDiff, Nat.reduceEqDiff, Nat.reduceMod, Nat.reduceDiv, Int.reduceAdd, Int.reduceSub, Int.reduceMul, Int.reduceLT, Int.reduceLE, Int.reduceEq, Int.reduceNeg, Int.reduceToNat, reduceIte, reduceCtorEq, Int.reduceBEq, Int.reduceBNe, Bool.true_beq, Bool.false_beq, Bool.true_bne, Bool.false_bne, Bool.not_true, Bool.not_false]
  intro b7 hb7
  refine regO gAll_ok ?_
  simp only [push_cast, Nat.reduceAdd, Nat.reduceSub, Nat.reduceMul, Nat.reduceLT, Nat.reduceLeDiff, Nat.reduceEqDiff, Nat.reduceMod, Nat.reduceDiv, Int.reduceAdd, Int.reduceSub, Int.reduceMul, Int.reduceLT, Int.reduceLE, Int.reduceEq, Int.reduceNeg, Int.reduceToNat, reduceIte, reduceCtorEq, Int.reduceBEq, Int.reduceBNe, Bool.true_beq, Bool.false_beq, Bool.true_bne, Bool.false_bne, Bool.not_true, Bool.not_false, hb7]
  refine loopO gAll_ok (pl := Tryd.pl9) Tryd.mix (X := Nat)
    (fun i => ([(2, .pointer (some ⟨b2, 0, none⟩)), (5, .bool true), (6, .string (bs x)), (7, .pointer (some ⟨b7, 0, none⟩)), (8, .int .i64 i)],
      [⟨b7, 0, .cel 24, (cutW w (x.take i)).cells⟩, ⟨b2, 0, .cel 24, w.cells⟩]))
    (fun i => i ≤ m) (fun i => m - i) 0 ?_ ?_ (by kernel_rfl) ?_
  · exact Nat.zero_le _
  · rw [List.take_zero, cut_nil]
    simp only [push_cast, Nat.reduceAdd, Nat.reduceSub, Nat.reduceMul, Nat.reduceLT, Nat.reduceLeDiff, Nat.reduceEqDiff, Nat.reduceMod, Nat.reduceDiv, Int.reduceAdd, Int.reduceSub, Int.reduceMul, Int.reduceLT, Int.reduceLE, Int.reduceEq, Int.reduceNeg, Int.reduceToNat, reduceIte, reduceCtorEq, Int.reduceBEq, Int.reduceBNe, Bool.true_beq, Bool.false_beq, Bool.true_bne, Bool.false_bne, Bool.not_true, Bool.not_false, hb7]
  · intro i hi
    dsimp only at hi ⊢
    rcases Nat.lt_or_ge i m with hlt | hge
    · have i1 : i < x.length := by omega
      have i2 : (i : Int) < (m : Int) := by omega
      have e1 := cuts_step w (x.take i) x[i]
      rw [take_more i1] at e1
      have e2 : (bs x).data[i]? = some x[i] := hbs_idx i1
      have hc := x[i].toNat_lt
      obtain ⟨c, hcc⟩ : ∃ c, c = x[i].toNat := ⟨_, rfl⟩
      rw [← hcc] at e1 hc
      have j3 : i64B (c : Int) = true := i64B_in (by unfold i64In; omega)
      generalize cutW w (x.take i) = Y at *
      simp only [push_cast, Nat.reduceAdd, Nat.reduceSub, Nat.reduceMul, Nat.reduceLT, Nat.reduceLeDiff, Nat.reduceEqDiff, Nat.reduceMod, Nat.reduceDiv, Int.reduceAdd, Int.reduceSub, Int.reduceMul, Int.reduceLT, Int.reduceLE, Int.reduceEq, Int.reduceNeg, Int.reduceToNat, reduceIte, reduceCtorEq, Int.reduceBEq, Int.reduceBNe, Bool.true_beq, Bool.false_beq, Bool.true_bne, Bool.false_bne, Bool.not_true, Bool.not_false, hb7, bs_size, i1, ← hm, hlt, e2, j2, j3, ← hcc, wrap_i64' (show -9223372036854775808 ≤ (c : Int) ∧ (c : Int) ≤ 9223372036854775807 by omega), wrap_i64' (show -9223372036854775808 ≤ (i : Int) + 1 ∧ (i : Int) + 1 ≤ 9223372036854775807 by omega)]
      exact ⟨i + 1, by omega, by omega, rfl, by rw [e1]⟩
    · obtain rfl : i = m := by omega
      have i2 : ¬ i < i := Nat.lt_irrefl _
      rw [show x.take i = x by rw [hm]; exact List.take_length] 
      rw [← hm] at l1 l2 l3
      cases h32 : decide (32 < (i : Int))
      all_goals simp (maxSteps := 3000000) only [push_cast, Nat.reduceAdd, Nat.reduceSub, Nat.reduceMul, Nat.reduceLT, Nat.reduceLeDiff, Nat.reduceEqDiff, Nat.reduceMod, Nat.reduceDiv, Int.reduceAdd, Int.reduceSub, Int.reduceMul, Int.reduceLT, Int.reduceLE, Int.reduceEq, Int.reduceNeg, Int.reduceToNat, reduceIte, reduceCtorEq, Int.reduceBEq, Int.reduceBNe, Bool.true_beq, Bool.false_beq, Bool.true_bne, Bool.false_bne, Bool.not_true, Bool.not_false, h32, hb7, bs_size, ← hm, i2, ← hwb, bs_mk, c1, c2, l1, l2, l3, bs_data, g1, g2, hwl, List.length_append, List.length_cons, decide_true]
end Go.Proofs.YtndioekjgmbomaaDoor
