/- Hk: decimal; WordSmall. -/
import Derived.Test.YtndioekjgmbomaaDoorHj
set_option linter.unusedSimpArgs false
set_option linter.unusedVariables false
namespace Go.Ev
theorem dec_at : ∀ n < 10, List.take 1 (List.drop n [48, 49, 50, 51, 52, 53, 54, 55, 56, 57]) = [UInt8.ofNat (48 + n)] := by decide
theorem decF_low {k n : Nat} (h : n < 10) : decF k n = [UInt8.ofNat (48 + n)] := by
  cases k with
  | zero => rfl
  | succ k => unfold decF; rw [if_pos h]
theorem decF_high {k n : Nat} (h : ¬ n < 10) : decF (k + 1) n = decF k (n / 10) ++ [UInt8.ofNat (48 + n % 10)] := by
  rw [decF]; rw [if_neg h]
noncomputable def dcB : Int → Bool := hid fun n => decide (0 ≤ n ∧ n < 1073741824)
theorem dcB_eq (n : Int) : dcB n = decide (0 ≤ n ∧ n < 1073741824) := by unfold dcB; rw [hid_eq]
noncomputable def decW : Int → List UInt8 := hid fun n => decF 9 n.toNat
theorem decW_eq (n : Int) : decW n = decF 9 n.toNat := by unfold decW; rw [hid_eq]
noncomputable def decG : List Value → Option Value
  | [.int .i64 n] => if dcB n then some (.string (bs (decW n))) else none
  | _ => none
attribute [push_cast] decG
end Go.Ev
namespace Go.Proofs.YtndioekjgmbomaaDoor
open Go Go.Ev Go.Proofs
set_option maxRecDepth 100000
set_option maxHeartbeats 4000000
theorem decimal_ok : ∀ (k n : Nat), k < 40 → n < 10 ^ (k + 1) → n < 4611686018427387904 → CallsV Tryd.prog 32 [.int .i64 n] [] (Ret0 (.string (bs (decF k n)))) := by
  have low : ∀ (k n : Nat), n < 10 → CallsV Tryd.prog 32 [.int .i64 n] [] (Ret0 (.string (bs (decF k n)))) := by
    intro k n h
    have h1 : (n : Int) < 10 := by omega
    have h2 : n + 1 ≤ 10 := by omega
    have h3 : n ≤ n + 1 := by omega
    rw [decF_low h]
    refine callsO (noG_ok _) Tryd.mix Tryd.pl32 Tryd.func32 rfl Tryd.ntmps32 Tryd.results32 rfl (by first | rfl | assumption) (Nat.le_of_ble_eq_true rfl) (by kernel_rfl) ?_
    have i1 : (0 : Int) ≤ (n : Int) + 1 := by omega
    have i2 : (n : Int) + 1 ≤ 10 := by omega
    have i3 : ((n : Int) + 1).toNat = n + 1 := by omega
    have i4 : List.take 1 (List.drop n [48, 49, 50, 51, 52, 53, 54, 55, 56, 57]) = [UInt8.ofNat (48 + n)] := dec_at n h
    simp only [push_cast, Nat.reduceAdd, Nat.reduceSub, Nat.reduceMul, Nat.reduceLT, Nat.reduceLeDiff, Nat.reduceEqDiff, Nat.reduceMod, Nat.reduceDiv, Int.reduceAdd, Int.reduceSub, Int.reduceMul, Int.reduceLT, Int.reduceLE, Int.reduceEq, Int.reduceNeg, Int.reduceToNat, reduceIte, reduceCtorEq, Int.reduceBEq, Int.reduceBNe, Bool.true_beq, Bool.false_beq, Bool.true_bne, Bool.false_bne, Bool.not_true, Bool.not_false, h1, wrap_i64' (show -9223372036854775808 ≤ (n : Int) + 1 ∧ (n : Int) + 1 ≤ 9223372036854775807 by omega), bs_mk, bs_size, List.length_cons, h3, i1, i2, i3, i4]
  intro k
  induction k with
  | zero => intro n _ h _; exact low 0 n (by omega)
  | succ k ih =>
    intro n hk h hn
    by_cases h0 : n < 10
    · exact low _ n h0
    · have h1 : ¬ (n : Int) < 10 := by omega
      have e1 : (n : Int).tdiv 10 = ((n / 10 : Nat) : Int) := rfl
      have e2 : (n : Int).tmod 10 = ((n % 10 : Nat) : Int) := rfl
      have hq : n / 10 < 10 ^ (k + 1) := by rw [Nat.pow_succ] at h; omega
      have c1 := ih (n / 10) (by omega) hq (by omega)
      have c2 := low 0 (n % 10) (by omega)
      rw [decF_high h0]
      obtain ⟨q, hqq⟩ : ∃ q, q = n / 10 := ⟨_, rfl⟩
      obtain ⟨r, hrr⟩ : ∃ q, q = n % 10 := ⟨_, rfl⟩
      rw [← hqq] at c1 e1 ⊢
      rw [← hrr] at c2 e2 ⊢
      have hl := decF_len k q
      rw [decF_low (by omega)] at c2
      have c3 : catB (bs (decF k q)) (bs [UInt8.ofNat (48 + r)]) = some (.string (bs (decF k q ++ [UInt8.ofNat (48 + r)]))) := hcatB _ _ (by show _ + 1 ≤ _; omega)
      refine callsO (noG_ok _) Tryd.mix Tryd.pl32 Tryd.func32 rfl Tryd.ntmps32 Tryd.results32 rfl (by first | rfl | assumption) (Nat.le_of_ble_eq_true rfl) (by kernel_rfl) ?_
      simp only [push_cast, Nat.reduceAdd, Nat.reduceSub, Nat.reduceMul, Nat.reduceLT, Nat.reduceLeDiff, Nat.reduceEqDiff, Nat.reduceMod, Nat.reduceDiv, Int.reduceAdd, Int.reduceSub, Int.reduceMul, Int.reduceLT, Int.reduceLE, Int.reduceEq, Int.reduceNeg, Int.reduceToNat, reduceIte, reduceCtorEq, Int.reduceBEq, Int.reduceBNe, Bool.true_beq, Bool.false_beq, Bool.true_bne, Bool.false_bne, Bool.not_true, Bool.not_false, h1, e1, wrap_i64' (show -9223372036854775808 ≤ (q : Int) ∧ (q : Int) ≤ 9223372036854775807 by omega)]
      refine c1.pure trivial ?_
      simp only [push_cast, Nat.reduceAdd, Nat.reduceSub, Nat.reduceMul, Nat.reduceLT, Nat.reduceLeDiff, Nat.reduceEqDiff, Nat.reduceMod, Nat.reduceDiv, Int.reduceAdd, Int.reduceSub, Int.reduceMul, Int.reduceLT, Int.reduceLE, Int.reduceEq, Int.reduceNeg, Int.reduceToNat, reduceIte, reduceCtorEq, Int.reduceBEq, Int.reduceBNe, Bool.true_beq, Bool.false_beq, Bool.true_bne, Bool.false_bne, Bool.not_true, Bool.not_false, h1, e2]
      refine c2.pure trivial ?_
      simp only [push_cast, Nat.reduceAdd, Nat.reduceSub, Nat.reduceMul, Nat.reduceLT, Nat.reduceLeDiff, Nat.reduceEqDiff, Nat.reduceMod, Nat.reduceDiv, Int.reduceAdd, Int.reduceSub, Int.reduceMul, Int.reduceLT, Int.reduceLE, Int.reduceEq, Int.reduceNeg, Int.reduceToNat, reduceIte, reduceCtorEq, Int.reduceBEq, Int.reduceBNe, Bool.true_beq, Bool.false_beq, Bool.true_bne, Bool.false_bne, Bool.not_true, Bool.not_false, c3]
theorem decG_ok (args : List Value) (v : Value) (h : decG args = some v) : CallsV Tryd.prog 32 args [] (Ret0 v) := by
  unfold decG at h
  split at h
  · split at h
    · rename_i n hn
      cases h
      rw [dcB_eq, decide_eq_true_eq] at hn
      obtain ⟨m, rfl⟩ : ∃ m : Nat, n = (m : Int) := ⟨n.toNat, by omega⟩
      rw [decW_eq, Int.toNat_natCast]
      exact decimal_ok 9 m (by decide) (by omega) (by omega)
    · cases h
  · cases h
noncomputable def gDec : Gam := (addG 32 decG gAll)
attribute [push_cast] gDec
theorem gDec_ok : GamOk Tryd.prog gDec := (addG_ok decG_ok gAll_ok)
end Go.Proofs.YtndioekjgmbomaaDoor
