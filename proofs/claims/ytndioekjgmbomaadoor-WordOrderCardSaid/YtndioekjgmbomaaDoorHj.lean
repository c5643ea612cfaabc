/- Hj: WordOrder. -/
import Derived.Test.YtndioekjgmbomaaDoorHi
set_option linter.unusedSimpArgs false
set_option linter.unusedVariables false
namespace Go.Ev
theorem less_beN : ∀ (l m : List UInt8), l.length = m.length → Op.bytesLess l m = decide (beN l.reverse < beN m.reverse)
  | [], [], _ => rfl
  | [], _ :: _, h => by cases h
  | _ :: _, [], h => by cases h
  | x :: l, y :: m, h => by
    have hl : l.length = m.length := by simpa using h
    have ih := less_beN l m hl
    rw [List.reverse_cons, List.reverse_cons, hBeN_snoc, hBeN_snoc, List.length_reverse, List.length_reverse, hl]
    have h1 := beN_lt l.reverse
    have h2 := beN_lt m.reverse
    rw [List.length_reverse] at h1 h2
    rw [hl] at h1
    show (decide (x < y) || (x == y && Op.bytesLess l m)) = _
    rw [ih]
    generalize beN l.reverse = A at *
    generalize beN m.reverse = B at *
    generalize 256 ^ m.length = P at *
    rw [show decide (x < y) = decide (x.toNat < y.toNat) from decide_eq_decide.2 UInt8.lt_iff_toNat_lt]
    rcases Nat.lt_trichotomy x.toNat y.toNat with hx | hx | hx
    · have : P * (x.toNat + 1) ≤ P * y.toNat := Nat.mul_le_mul_left _ hx
      rw [decide_eq_true hx, Bool.true_or, eq_comm, decide_eq_true_eq]
      rw [Nat.mul_add, Nat.mul_one] at this
      omega
    · have hxy : x = y := UInt8.toNat_inj.1 hx
      subst hxy
      rw [decide_eq_false (Nat.lt_irrefl _), beq_self_eq_true, Bool.false_or, Bool.true_and]
      exact decide_eq_decide.2 ⟨fun h => by omega, fun h => by omega⟩
    · have : P * (y.toNat + 1) ≤ P * x.toNat := Nat.mul_le_mul_left _ hx
      have hne : (x == y) = false := by rw [beq_eq_false_iff_ne]; rintro rfl; omega
      rw [decide_eq_false (by omega), hne, Bool.false_and, Bool.or_false, eq_comm, decide_eq_false_iff_not]
      rw [Nat.mul_add, Nat.mul_one] at this
      omega
theorem less_wb (a b : W) : Op.bytesLess (wbytes a) (wbytes b) = decide (a.num < b.num) := by
  rw [less_beN _ _ (by rw [wbytes_len, wbytes_len]), hBeN_wbytes, hBeN_wbytes]
theorem cmp_if {x y : W} : x.cmp y = if x.num < y.num then -1 else if y.num < x.num then 1 else 0 := rfl
theorem plus_num (x y : W) : (plusW x y).num = (x.num + y.num) % 115792089237316195423570985008687907853269984665640564039457584007913129639936 := by rw [plusW_eq, W.num_of]
theorem plus_cmp {a b c : W} (h1 : ¬ (plusW a c).num < a.num) (h2 : ¬ (plusW b c).num < b.num) : (plusW a c).cmp (plusW b c) = a.cmp b := by
  have := a.num_lt; have := b.num_lt; have := c.num_lt
  rw [plus_num] at h1 h2
  unfold W.cmp
  rw [plus_num, plus_num]
  have e1 : (a.num + c.num) % 115792089237316195423570985008687907853269984665640564039457584007913129639936 = a.num + c.num := by omega
  have e2 : (b.num + c.num) % 115792089237316195423570985008687907853269984665640564039457584007913129639936 = b.num + c.num := by omega
  rw [e1, e2]
  have i1 : (a.num + c.num < b.num + c.num) = (a.num < b.num) := propext ⟨fun h => by omega, fun h => by omega⟩
  have i2 : (b.num + c.num < a.num + c.num) = (b.num < a.num) := propext ⟨fun h => by omega, fun h => by omega⟩
  simp only [i1, i2]
theorem cmp_neg {x y : W} : decide (x.cmp y < 0) = decide (x.num < y.num) := by
  unfold W.cmp
  refine decide_eq_decide.2 ?_
  split
  · rename_i h; simp [h]
  · rename_i h; split <;> simp [h]
end Go.Ev
namespace Go.Proofs.YtndioekjgmbomaaDoor
open Go Go.Ev Go.Proofs
set_option maxRecDepth 100000
set_option maxHeartbeats 4000000
def plOr : Plans := fun i => if i = 1 then [(0, 9)] else if i = 5 then [(0, 9)] else if i = 6 then [(0, 9)] else if i = 7 then [(0, 9)] else Tryd.pl6 i
attribute [push_cast] plOr
theorem wordOrder0 (a b c : W) : CallsV Tryd.prog 6 [a.v, b.v, c.v] [] (Ret0 (.bool true)) := by
  have ebl : Op.bytesLess (ByteArray.mk (wbytes a).toArray).toList (ByteArray.mk (wbytes b).toArray).toList = decide (a.num < b.num) := by
    rw [show (ByteArray.mk (wbytes a).toArray) = bs (wbytes a) from rfl, show (ByteArray.mk (wbytes b).toArray) = bs (wbytes b) from rfl, bs_toList, bs_toList, less_wb]
  obtain ⟨n, hn⟩ : ∃ n, n = a.cmp b := ⟨_, rfl⟩
  obtain ⟨m, hm⟩ : ∃ n, n = b.cmp a := ⟨_, rfl⟩
  have hw : (n = -1 ∧ m = 1 ∧ a.num < b.num ∧ decide (a = b) = false) ∨ (n = 0 ∧ m = 0 ∧ ¬ a.num < b.num ∧ decide (a = b) = true) ∨ (n = 1 ∧ m = -1 ∧ ¬ a.num < b.num ∧ decide (a = b) = false) := by
    rcases Nat.lt_trichotomy a.num b.num with h | h | h
    · exact .inl ⟨by rw [hn, ← W.cmp_lt h], by rw [hm, ← W.cmp_gt h], h, decide_eq_false (fun e => by subst e; omega)⟩
    · exact .inr (.inl ⟨by rw [hn, ← W.cmp_eq h], by rw [hm, ← W.cmp_eq h.symm], by omega, decide_eq_true (W.num_inj h)⟩)
    · exact .inr (.inr ⟨by rw [hn, ← W.cmp_gt h], by rw [hm, ← W.cmp_lt h], by omega, decide_eq_false (fun e => by subst e; omega)⟩)
  have hcmp : (decide ((plusW a c).num < a.num) || decide ((plusW b c).num < b.num)) = false → (plusW a c).cmp (plusW b c) = n := fun h => by
    rw [Bool.or_eq_false_iff, decide_eq_false_iff_not, decide_eq_false_iff_not] at h
    rw [hn]; exact plus_cmp h.1 h.2
  have hlen : ¬ a.num < b.num → ¬ ((hexW a).length : Int) < ((hexW b).length : Int) := fun h h2 => h (hex_shorter (by omega))
  obtain ⟨r1, hr1⟩ : ∃ r, r = decide ((plusW a c).num < a.num) := ⟨_, rfl⟩
  obtain ⟨r2, hr2⟩ : ∃ r, r = decide ((plusW b c).num < b.num) := ⟨_, rfl⟩
  have q1 : decide ((plusW a c).cmp a < 0) = r1 := by rw [cmp_neg, hr1]
  have q2 : decide ((plusW b c).cmp b < 0) = r2 := by rw [cmp_neg, hr2]
  rw [← hr1, ← hr2] at hcmp
  obtain ⟨hA', hhA⟩ : ∃ l, l = hexW a := ⟨_, rfl⟩
  obtain ⟨hB', hhB⟩ : ∃ l, l = hexW b := ⟨_, rfl⟩
  obtain ⟨A, hA⟩ : ∃ k, k = hA'.length := ⟨_, rfl⟩
  obtain ⟨B, hB⟩ : ∃ k, k = hB'.length := ⟨_, rfl⟩
  rw [← hhA, ← hhB] at hlen
  refine callsO gAll_ok Tryd.mix plOr Tryd.func6 rfl Tryd.ntmps6 Tryd.results6 rfl (by first | rfl | assumption) (Nat.le_of_ble_eq_true rfl) (by kernel_rfl) ?_
  simp only [push_cast, Nat.reduceAdd, Nat.reduceSub, Nat.reduceMul, Nat.reduceLT, Nat.reduceLeDiff, Nat.reduceEqDiff, Nat.reduceMod, Nat.reduceDiv, Int.reduceAdd, Int.reduceSub, Int.reduceMul, Int.reduceLT, Int.reduceLE, Int.reduceEq, Int.reduceNeg, Int.reduceToNat, reduceIte, reduceCtorEq, Int.reduceBEq, Int.reduceBNe, Bool.true_beq, Bool.false_beq, Bool.true_bne, Bool.false_bne, Bool.not_true, Bool.not_false]
  intro b3 b4 hb4 b5 hb5
  refine regO gAll_ok ?_
  rcases hw with ⟨n1, m1, l1, d1⟩ | ⟨n1, m1, l1, d1⟩ | ⟨n1, m1, l1, d1⟩
  · rw [n1] at hn hcmp
    rw [m1] at hm
    have l1' : decide (a.num < b.num) = true := decide_eq_true l1
    simp only [push_cast, Nat.reduceAdd, Nat.reduceSub, Nat.reduceMul, Nat.reduceLT, Nat.reduceLeDiff, Nat.reduceEqDiff, Nat.reduceMod, Nat.reduceDiv, Int.reduceAdd, Int.reduceSub, Int.reduceMul, Int.reduceLT, Int.reduceLE, Int.reduceEq, Int.reduceNeg, Int.reduceToNat, reduceIte, reduceCtorEq, Int.reduceBEq, Int.reduceBNe, Bool.true_beq, Bool.false_beq, Bool.true_bne, Bool.false_bne, Bool.not_true, Bool.not_false, hb4, hb5, ← hn, ← hm, ebl, d1, l1']
    refine regO gAll_ok ?_
    simp only [push_cast, Nat.reduceAdd, Nat.reduceSub, Nat.reduceMul, Nat.reduceLT, Nat.reduceLeDiff, Nat.reduceEqDiff, Nat.reduceMod, Nat.reduceDiv, Int.reduceAdd, Int.reduceSub, Int.reduceMul, Int.reduceLT, Int.reduceLE, Int.reduceEq, Int.reduceNeg, Int.reduceToNat, reduceIte, reduceCtorEq, Int.reduceBEq, Int.reduceBNe, Bool.true_beq, Bool.false_beq, Bool.true_bne, Bool.false_bne, Bool.not_true, Bool.not_false, hb4, hb5]
    intro b9 hb9
    refine regO gAll_ok ?_
    simp only [push_cast, Nat.reduceAdd, Nat.reduceSub, Nat.reduceMul, Nat.reduceLT, Nat.reduceLeDiff, Nat.reduceEqDiff, Nat.reduceMod, Nat.reduceDiv, Int.reduceAdd, Int.reduceSub, Int.reduceMul, Int.reduceLT, Int.reduceLE, Int.reduceEq, Int.reduceNeg, Int.reduceToNat, reduceIte, reduceCtorEq, Int.reduceBEq, Int.reduceBNe, Bool.true_beq, Bool.false_beq, Bool.true_bne, Bool.false_bne, Bool.not_true, Bool.not_false, hb4, hb5, hb9]
    intro b10 hb10
    refine regO gAll_ok ?_
    cases q4 : decide (B ≤ A)
    · cases r1
      · cases r2
        · have q3 := hcmp rfl
          simp only [push_cast, Nat.reduceAdd, Nat.reduceSub, Nat.reduceMul, Nat.reduceLT, Nat.reduceLeDiff, Nat.reduceEqDiff, Nat.reduceMod, Nat.reduceDiv, Int.reduceAdd, Int.reduceSub, Int.reduceMul, Int.reduceLT, Int.reduceLE, Int.reduceEq, Int.reduceNeg, Int.reduceToNat, reduceIte, reduceCtorEq, Int.reduceBEq, Int.reduceBNe, Bool.true_beq, Bool.false_beq, Bool.true_bne, Bool.false_bne, Bool.not_true, Bool.not_false, hb4, hb5, hb9, hb10, q1, q2, q3, ← hhA, ← hhB, bs_size, ← hA, ← hB, q4]
        · simp only [push_cast, Nat.reduceAdd, Nat.reduceSub, Nat.reduceMul, Nat.reduceLT, Nat.reduceLeDiff, Nat.reduceEqDiff, Nat.reduceMod, Nat.reduceDiv, Int.reduceAdd, Int.reduceSub, Int.reduceMul, Int.reduceLT, Int.reduceLE, Int.reduceEq, Int.reduceNeg, Int.reduceToNat, reduceIte, reduceCtorEq, Int.reduceBEq, Int.reduceBNe, Bool.true_beq, Bool.false_beq, Bool.true_bne, Bool.false_bne, Bool.not_true, Bool.not_false, hb4, hb5, hb9, hb10, q1, q2, ← hhA, ← hhB, bs_size, ← hA, ← hB, q4]
      · simp only [push_cast, Nat.reduceAdd, Nat.reduceSub, Nat.reduceMul, Nat.reduceLT, Nat.reduceLeDiff, Nat.reduceEqDiff, Nat.reduceMod, Nat.reduceDiv, Int.reduceAdd, Int.reduceSub, Int.reduceMul, Int.reduceLT, Int.reduceLE, Int.reduceEq, Int.reduceNeg, Int.reduceToNat, reduceIte, reduceCtorEq, Int.reduceBEq, Int.reduceBNe, Bool.true_beq, Bool.false_beq, Bool.true_bne, Bool.false_bne, Bool.not_true, Bool.not_false, hb4, hb5, hb9, hb10, q1, q2, ← hhA, ← hhB, bs_size, ← hA, ← hB, q4]
    · cases r1
      · cases r2
        · have q3 := hcmp rfl
          simp only [push_cast, Nat.reduceAdd, Nat.reduceSub, Nat.reduceMul, Nat.reduceLT, Nat.reduceLeDiff, Nat.reduceEqDiff, Nat.reduceMod, Nat.reduceDiv, Int.reduceAdd, Int.reduceSub, Int.reduceMul, Int.reduceLT, Int.reduceLE, Int.reduceEq, Int.reduceNeg, Int.reduceToNat, reduceIte, reduceCtorEq, Int.reduceBEq, Int.reduceBNe, Bool.true_beq, Bool.false_beq, Bool.true_bne, Bool.false_bne, Bool.not_true, Bool.not_false, hb4, hb5, hb9, hb10, q1, q2, q3, ← hhA, ← hhB, bs_size, ← hA, ← hB, q4]
        · simp only [push_cast, Nat.reduceAdd, Nat.reduceSub, Nat.reduceMul, Nat.reduceLT, Nat.reduceLeDiff, Nat.reduceEqDiff, Nat.reduceMod, Nat.reduceDiv, Int.reduceAdd, Int.reduceSub, Int.reduceMul, Int.reduceLT, Int.reduceLE, Int.reduceEq, Int.reduceNeg, Int.reduceToNat, reduceIte, reduceCtorEq, Int.reduceBEq, Int.reduceBNe, Bool.true_beq, Bool.false_beq, Bool.true_bne, Bool.false_bne, Bool.not_true, Bool.not_false, hb4, hb5, hb9, hb10, q1, q2, ← hhA, ← hhB, bs_size, ← hA, ← hB, q4]
      · simp only [push_cast, Nat.reduceAdd, Nat.reduceSub, Nat.reduceMul, Nat.reduceLT, Nat.reduceLeDiff, Nat.reduceEqDiff, Nat.reduceMod, Nat.reduceDiv, Int.reduceAdd, Int.reduceSub, Int.reduceMul, Int.reduceLT, Int.reduceLE, Int.reduceEq, Int.reduceNeg, Int.reduceToNat, reduceIte, reduceCtorEq, Int.reduceBEq, Int.reduceBNe, Bool.true_beq, Bool.false_beq, Bool.true_bne, Bool.false_bne, Bool.not_true, Bool.not_false, hb4, hb5, hb9, hb10, q1, q2, ← hhA, ← hhB, bs_size, ← hA, ← hB, q4]
  · rw [n1] at hn hcmp
    rw [m1] at hm
    have l1' : decide (a.num < b.num) = false := decide_eq_false l1
    have q4 : decide (B ≤ A) = true := decide_eq_true (by have := hlen l1; omega)
    simp only [push_cast, Nat.reduceAdd, Nat.reduceSub, Nat.reduceMul, Nat.reduceLT, Nat.reduceLeDiff, Nat.reduceEqDiff, Nat.reduceMod, Nat.reduceDiv, Int.reduceAdd, Int.reduceSub, Int.reduceMul, Int.reduceLT, Int.reduceLE, Int.reduceEq, Int.reduceNeg, Int.reduceToNat, reduceIte, reduceCtorEq, Int.reduceBEq, Int.reduceBNe, Bool.true_beq, Bool.false_beq, Bool.true_bne, Bool.false_bne, Bool.not_true, Bool.not_false, hb4, hb5, ← hn, ← hm, ebl, d1, l1']
    refine regO gAll_ok ?_
    simp only [push_cast, Nat.reduceAdd, Nat.reduceSub, Nat.reduceMul, Nat.reduceLT, Nat.reduceLeDiff, Nat.reduceEqDiff, Nat.reduceMod, Nat.reduceDiv, Int.reduceAdd, Int.reduceSub, Int.reduceMul, Int.reduceLT, Int.reduceLE, Int.reduceEq, Int.reduceNeg, Int.reduceToNat, reduceIte, reduceCtorEq, Int.reduceBEq, Int.reduceBNe, Bool.true_beq, Bool.false_beq, Bool.true_bne, Bool.false_bne, Bool.not_true, Bool.not_false, hb4, hb5]
    intro b9 hb9
    refine regO gAll_ok ?_
    simp only [push_cast, Nat.reduceAdd, Nat.reduceSub, Nat.reduceMul, Nat.reduceLT, Nat.reduceLeDiff, Nat.reduceEqDiff, Nat.reduceMod, Nat.reduceDiv, Int.reduceAdd, Int.reduceSub, Int.reduceMul, Int.reduceLT, Int.reduceLE, Int.reduceEq, Int.reduceNeg, Int.reduceToNat, reduceIte, reduceCtorEq, Int.reduceBEq, Int.reduceBNe, Bool.true_beq, Bool.false_beq, Bool.true_bne, Bool.false_bne, Bool.not_true, Bool.not_false, hb4, hb5, hb9]
    intro b10 hb10
    refine regO gAll_ok ?_
    cases r1
    · cases r2
      · have q3 := hcmp rfl
        simp only [push_cast, Nat.reduceAdd, Nat.reduceSub, Nat.reduceMul, Nat.reduceLT, Nat.reduceLeDiff, Nat.reduceEqDiff, Nat.reduceMod, Nat.reduceDiv, Int.reduceAdd, Int.reduceSub, Int.reduceMul, Int.reduceLT, Int.reduceLE, Int.reduceEq, Int.reduceNeg, Int.reduceToNat, reduceIte, reduceCtorEq, Int.reduceBEq, Int.reduceBNe, Bool.true_beq, Bool.false_beq, Bool.true_bne, Bool.false_bne, Bool.not_true, Bool.not_false, hb4, hb5, hb9, hb10, q1, q2, q3, ← hhA, ← hhB, bs_size, ← hA, ← hB, q4]
      · simp only [push_cast, Nat.reduceAdd, Nat.reduceSub, Nat.reduceMul, Nat.reduceLT, Nat.reduceLeDiff, Nat.reduceEqDiff, Nat.reduceMod, Nat.reduceDiv, Int.reduceAdd, Int.reduceSub, Int.reduceMul, Int.reduceLT, Int.reduceLE, Int.reduceEq, Int.reduceNeg, Int.reduceToNat, reduceIte, reduceCtorEq, Int.reduceBEq, Int.reduceBNe, Bool.true_beq, Bool.false_beq, Bool.true_bne, Bool.false_bne, Bool.not_true, Bool.not_false, hb4, hb5, hb9, hb10, q1, q2, ← hhA, ← hhB, bs_size, ← hA, ← hB, q4]
    · simp only [push_cast, Nat.reduceAdd, Nat.reduceSub, Nat.reduceMul, Nat.reduceLT, Nat.reduceLeDiff, Nat.reduceEqDiff, Nat.reduceMod, Nat.reduceDiv, Int.reduceAdd, Int.reduceSub, Int.reduceMul, Int.reduceLT, Int.reduceLE, Int.reduceEq, Int.reduceNeg, Int.reduceToNat, reduceIte, reduceCtorEq, Int.reduceBEq, Int.reduceBNe, Bool.true_beq, Bool.false_beq, Bool.true_bne, Bool.false_bne, Bool.not_true, Bool.not_false, hb4, hb5, hb9, hb10, q1, q2, ← hhA, ← hhB, bs_size, ← hA, ← hB, q4]
  · rw [n1] at hn hcmp
    rw [m1] at hm
    have l1' : decide (a.num < b.num) = false := decide_eq_false l1
    have q4 : decide (B ≤ A) = true := decide_eq_true (by have := hlen l1; omega)
    simp only [push_cast, Nat.reduceAdd, Nat.reduceSub, Nat.reduceMul, Nat.reduceLT, Nat.reduceLeDiff, Nat.reduceEqDiff, Nat.reduceMod, Nat.reduceDiv, Int.reduceAdd, Int.reduceSub, Int.reduceMul, Int.reduceLT, Int.reduceLE, Int.reduceEq, Int.reduceNeg, Int.reduceToNat, reduceIte, reduceCtorEq, Int.reduceBEq, Int.reduceBNe, Bool.true_beq, Bool.false_beq, Bool.true_bne, Bool.false_bne, Bool.not_true, Bool.not_false, hb4, hb5, ← hn, ← hm, ebl, d1, l1']
    refine regO gAll_ok ?_
    simp only [push_cast, Nat.reduceAdd, Nat.reduceSub, Nat.reduceMul, Nat.reduceLT, Nat.reduceLeDiff, Nat.reduceEqDiff, Nat.reduceMod, Nat.reduceDiv, Int.reduceAdd, Int.reduceSub, Int.reduceMul, Int.reduceLT, Int.reduceLE, Int.reduceEq, Int.reduceNeg, Int.reduceToNat, reduceIte, reduceCtorEq, Int.reduceBEq, Int.reduceBNe, Bool.true_beq, Bool.false_beq, Bool.true_bne, Bool.false_bne, Bool.not_true, Bool.not_false, hb4, hb5]
    intro b9 hb9
    refine regO gAll_ok ?_
    simp only [push_cast, Nat.reduceAdd, Nat.reduceSub, Nat.reduceMul, Nat.reduceLT, Nat.reduceLeDiff, Nat.reduceEqDiff, Nat.reduceMod, Nat.reduceDiv, Int.reduceAdd, Int.reduceSub, Int.reduceMul, Int.reduceLT, Int.reduceLE, Int.reduceEq, Int.reduceNeg, Int.reduceToNat, reduceIte, reduceCtorEq, Int.reduceBEq, Int.reduceBNe, Bool.true_beq, Bool.false_beq, Bool.true_bne, Bool.false_bne, Bool.not_true, Bool.not_false, hb4, hb5, hb9]
    intro b10 hb10
    refine regO gAll_ok ?_
    cases r1
    · cases r2
      · have q3 := hcmp rfl
        simp only [push_cast, Nat.reduceAdd, Nat.reduceSub, Nat.reduceMul, Nat.reduceLT, Nat.reduceLeDiff, Nat.reduceEqDiff, Nat.reduceMod, Nat.reduceDiv, Int.reduceAdd, Int.reduceSub, Int.reduceMul, Int.reduceLT, Int.reduceLE, Int.reduceEq, Int.reduceNeg, Int.reduceToNat, reduceIte, reduceCtorEq, Int.reduceBEq, Int.reduceBNe, Bool.true_beq, Bool.false_beq, Bool.true_bne, Bool.false_bne, Bool.not_true, Bool.not_false, hb4, hb5, hb9, hb10, q1, q2, q3, ← hhA, ← hhB, bs_size, ← hA, ← hB, q4]
      · simp only [push_cast, Nat.reduceAdd, Nat.reduceSub, Nat.reduceMul, Nat.reduceLT, Nat.reduceLeDiff, Nat.reduceEqDiff, Nat.reduceMod, Nat.reduceDiv, Int.reduceAdd, Int.reduceSub, Int.reduceMul, Int.reduceLT, Int.reduceLE, Int.reduceEq, Int.reduceNeg, Int.reduceToNat, reduceIte, reduceCtorEq, Int.reduceBEq, Int.reduceBNe, Bool.true_beq, Bool.false_beq, Bool.true_bne, Bool.false_bne, Bool.not_true, Bool.not_false, hb4, hb5, hb9, hb10, q1, q2, ← hhA, ← hhB, bs_size, ← hA, ← hB, q4]
    · simp only [push_cast, Nat.reduceAdd, Nat.reduceSub, Nat.reduceMul, Nat.reduceLT, Nat.reduceLeDiff, Nat.reduceEqDiff, Nat.reduceMod, Nat.reduceDiv, Int.reduceAdd, Int.reduceSub, Int.reduceMul, Int.reduceLT, Int.reduceLE, Int.reduceEq, Int.reduceNeg, Int.reduceToNat, reduceIte, reduceCtorEq, Int.reduceBEq, Int.reduceBNe, Bool.true_beq, Bool.false_beq, Bool.true_bne, Bool.false_bne, Bool.not_true, Bool.not_false, hb4, hb5, hb9, hb10, q1, q2, ← hhA, ← hhB, bs_size, ← hA, ← hB, q4]
end Go.Proofs.YtndioekjgmbomaaDoor
