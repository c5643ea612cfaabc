/- Gc: gas: Exp, Call; the document's own. -/
import Derived.Test.YtfioapldbajpmaaDoorGb
set_option linter.unusedSimpArgs false
set_option linter.unusedVariables false
namespace Go.Proofs.YtfioapldbajpmaaDoor
open Go Go.Ev Go.Proofs
set_option maxRecDepth 100000
set_option maxHeartbeats 4000000
theorem gexp_ok (w : W) : CallsV Tryd.prog 27 [w.v] [] (Ret0 (.int .i64 (gexpI w))) := by
  have hl := strip_le 0 (wbytes w)
  rw [wbytes_len] at hl
  have e := gexpI_eq w
  have z : zerB (bs [0]) = true := by rw [zerB_eq, decide_eq_true_eq]
  obtain ⟨k, hk⟩ : ∃ k, k = (strip 0 (wbytes w)).length := ⟨_, rfl⟩
  rw [← hk] at hl e
  refine callsO gG6_ok Tryd.mix (fun i => if i = 1 then [(0, 9)] else Tryd.pl27 i) Tryd.func27 rfl Tryd.ntmps27 Tryd.results27 rfl (by first | rfl | assumption) (Nat.le_of_ble_eq_true rfl) (by kernel_rfl) ?_
  simp only [push_cast, Nat.reduceAdd, Nat.reduceSub, Nat.reduceMul, Nat.reduceLT, Nat.reduceLeDiff, Nat.reduceEqDiff, Nat.reduceMod, Nat.reduceDiv, Int.reduceAdd, Int.reduceSub, Int.reduceMul, Int.reduceLT, Int.reduceLE, Int.reduceEq, Int.reduceNeg, Int.reduceToNat, reduceIte, reduceCtorEq, Int.reduceBEq, Int.reduceBNe, Bool.true_beq, Bool.false_beq, Bool.true_bne, Bool.false_bne, Bool.not_true, Bool.not_false]
  intro b1
  refine regO gG6_ok ?_
  simp only [push_cast, Nat.reduceAdd, Nat.reduceSub, Nat.reduceMul, Nat.reduceLT, Nat.reduceLeDiff, Nat.reduceEqDiff, Nat.reduceMod, Nat.reduceDiv, Int.reduceAdd, Int.reduceSub, Int.reduceMul, Int.reduceLT, Int.reduceLE, Int.reduceEq, Int.reduceNeg, Int.reduceToNat, reduceIte, reduceCtorEq, Int.reduceBEq, Int.reduceBNe, Bool.true_beq, Bool.false_beq, Bool.true_bne, Bool.false_bne, Bool.not_true, Bool.not_false, bs_mk, bs_data, z, bs_size, ← hk, wrap_i64' (show -9223372036854775808 ≤ 50 * (k : Int) ∧ 50 * (k : Int) ≤ 9223372036854775807 by omega), e]
theorem rexp_ok (w : W) : CallsV Tryd.prog 28 [w.v] [] (Ret0 (.int .i64 (gexpI w))) := by
  have e := gexpI_eq w
  obtain ⟨k, h1, h2, h3, h4⟩ := strip_split 0 (wbytes w)
  rw [h1, List.length_drop] at e
  have hwl := wbytes_len w
  rw [hwl] at h2 e
  obtain ⟨wb, hwb⟩ : ∃ l, l = wbytes w := ⟨_, rfl⟩
  rw [← hwb] at h3 h4 hwl
  refine callsO (noG_ok _) Tryd.mix (fun i => if i = 1 then [(0, 9)] else Tryd.pl28 i) Tryd.func28 rfl Tryd.ntmps28 Tryd.results28 rfl (by first | rfl | assumption) (Nat.le_of_ble_eq_true rfl) (by kernel_rfl) ?_
  simp only [push_cast, Nat.reduceAdd, Nat.reduceSub, Nat.reduceMul, Nat.reduceLT, Nat.reduceLeDiff, Nat.reduceEqDiff, Nat.reduceMod, Nat.reduceDiv, Int.reduceAdd, Int.reduceSub, Int.reduceMul, Int.reduceLT, Int.reduceLE, Int.reduceEq, Int.reduceNeg, Int.reduceToNat, reduceIte, reduceCtorEq, Int.reduceBEq, Int.reduceBNe, Bool.true_beq, Bool.false_beq, Bool.true_bne, Bool.false_bne, Bool.not_true, Bool.not_false]
  intro b1
  refine regO (noG_ok _) ?_
  simp only [push_cast, Nat.reduceAdd, Nat.reduceSub, Nat.reduceMul, Nat.reduceLT, Nat.reduceLeDiff, Nat.reduceEqDiff, Nat.reduceMod, Nat.reduceDiv, Int.reduceAdd, Int.reduceSub, Int.reduceMul, Int.reduceLT, Int.reduceLE, Int.reduceEq, Int.reduceNeg, Int.reduceToNat, reduceIte, reduceCtorEq, Int.reduceBEq, Int.reduceBNe, Bool.true_beq, Bool.false_beq, Bool.true_bne, Bool.false_bne, Bool.not_true, Bool.not_false]
  refine (refBytes w).pure trivial ?_
  rw [← hwb]
  simp only [push_cast, Nat.reduceAdd, Nat.reduceSub, Nat.reduceMul, Nat.reduceLT, Nat.reduceLeDiff, Nat.reduceEqDiff, Nat.reduceMod, Nat.reduceDiv, Int.reduceAdd, Int.reduceSub, Int.reduceMul, Int.reduceLT, Int.reduceLE, Int.reduceEq, Int.reduceNeg, Int.reduceToNat, reduceIte, reduceCtorEq, Int.reduceBEq, Int.reduceBNe, Bool.true_beq, Bool.false_beq, Bool.true_bne, Bool.false_bne, Bool.not_true, Bool.not_false, bs_mk]
  refine loopO (noG_ok _) (pl := Tryd.pl28) Tryd.mix (X := Nat)
    (fun i => ([(3, .string (bs wb)), (4, .int .i64 ((32 : Int) - i)), (5, .int .i64 i)], []))
    (fun i => i ≤ k) (fun i => k - i) 0 ?_ ?_ (by kernel_rfl) ?_
  · exact Nat.zero_le _
  · simp only [push_cast, Nat.reduceAdd, Nat.reduceSub, Nat.reduceMul, Nat.reduceLT, Nat.reduceLeDiff, Nat.reduceEqDiff, Nat.reduceMod, Nat.reduceDiv, Int.reduceAdd, Int.reduceSub, Int.reduceMul, Int.reduceLT, Int.reduceLE, Int.reduceEq, Int.reduceNeg, Int.reduceToNat, reduceIte, reduceCtorEq, Int.reduceBEq, Int.reduceBNe, Bool.true_beq, Bool.false_beq, Bool.true_bne, Bool.false_bne, Bool.not_true, Bool.not_false]
  · intro i hi
    dsimp only at hi ⊢
    rcases Nat.lt_or_ge i k with hlt | hge
    · have a := h3 i hlt
      have i1 : (i : Int) < 32 := by omega
      have i2 : i < 32 := by omega
      have b0 : (bs wb).data[i]? = some 0 := by rw [show (bs wb).data[i]? = wb[i]? by simp [bs]]; exact a
      have e0 : (((0 : UInt8).toNat : Int) == 0) = true := rfl
      simp only [push_cast, Nat.reduceAdd, Nat.reduceSub, Nat.reduceMul, Nat.reduceLT, Nat.reduceLeDiff, Nat.reduceEqDiff, Nat.reduceMod, Nat.reduceDiv, Int.reduceAdd, Int.reduceSub, Int.reduceMul, Int.reduceLT, Int.reduceLE, Int.reduceEq, Int.reduceNeg, Int.reduceToNat, reduceIte, reduceCtorEq, Int.reduceBEq, Int.reduceBNe, Bool.true_beq, Bool.false_beq, Bool.true_bne, Bool.false_bne, Bool.not_true, Bool.not_false, i1, i2, bs_size, hwl, b0, e0, wrap_i64' (show -9223372036854775808 ≤ (32 : Int) - (i : Int) - 1 ∧ (32 : Int) - (i : Int) - 1 ≤ 9223372036854775807 by omega), wrap_i64' (show -9223372036854775808 ≤ (i : Int) + 1 ∧ (i : Int) + 1 ≤ 9223372036854775807 by omega)]
      exact ⟨i + 1, by omega, by omega, by congr 1; omega, rfl⟩
    · obtain rfl : i = k := by omega
      have e2 : 50 * ((32 : Int) - (i : Int)) = ((50 * (32 - i) : Nat) : Int) := by omega
      have e3 : (gexpI w : Int) = 50 * ((32 : Int) - (i : Int)) := by rw [e, e2]
      rcases Nat.lt_or_ge i 32 with h32 | h32
      · have i1 : (i : Int) < 32 := by omega
        have hlen : i < wb.length := by omega
        have b0 : (bs wb).data[i]? = some wb[i] := hbs_idx hlen
        have hne : ((wb[i].toNat : Int) == 0) = false := beq_eq_false_iff_ne.2 fun h => h4 (by
          rw [List.getElem?_eq_getElem hlen]
          exact congrArg some (UInt8.toNat_inj.1 (show wb[i].toNat = 0 by omega)))
        simp only [push_cast, Nat.reduceAdd, Nat.reduceSub, Nat.reduceMul, Nat.reduceLT, Nat.reduceLeDiff, Nat.reduceEqDiff, Nat.reduceMod, Nat.reduceDiv, Int.reduceAdd, Int.reduceSub, Int.reduceMul, Int.reduceLT, Int.reduceLE, Int.reduceEq, Int.reduceNeg, Int.reduceToNat, reduceIte, reduceCtorEq, Int.reduceBEq, Int.reduceBNe, Bool.true_beq, Bool.false_beq, Bool.true_bne, Bool.false_bne, Bool.not_true, Bool.not_false, i1, h32, bs_size, hwl, b0, hne, wrap_i64' (show -9223372036854775808 ≤ 50 * ((32 : Int) - (i : Int)) ∧ 50 * ((32 : Int) - (i : Int)) ≤ 9223372036854775807 by omega), e3]
      · have i1 : ¬ (i : Int) < 32 := by omega
        simp only [push_cast, Nat.reduceAdd, Nat.reduceSub, Nat.reduceMul, Nat.reduceLT, Nat.reduceLeDiff, Nat.reduceEqDiff, Nat.reduceMod, Nat.reduceDiv, Int.reduceAdd, Int.reduceSub, Int.reduceMul, Int.reduceLT, Int.reduceLE, Int.reduceEq, Int.reduceNeg, Int.reduceToNat, reduceIte, reduceCtorEq, Int.reduceBEq, Int.reduceBNe, Bool.true_beq, Bool.false_beq, Bool.true_bne, Bool.false_bne, Bool.not_true, Bool.not_false, i1, wrap_i64' (show -9223372036854775808 ≤ 50 * ((32 : Int) - (i : Int)) ∧ 50 * ((32 : Int) - (i : Int)) ≤ 9223372036854775807 by omega), e3]
theorem gexpG_ok (args : List Value) (v : Value) (h : gexpG args = some v) : CallsV Tryd.prog 27 args [] (Ret0 v) := by
  unfold gexpG at h
  split at h
  · rename_i x
    cases hx : wOf x with
    | none => simp [hx] at h
    | some w => simp only [hx, Option.bind_some, Option.some.injEq] at h; rw [wOf_some hx, ← h]; exact gexp_ok w
  · cases h
theorem rexpG_ok (args : List Value) (v : Value) (h : gexpG args = some v) : CallsV Tryd.prog 28 args [] (Ret0 v) := by
  unfold gexpG at h
  split at h
  · rename_i x
    cases hx : wOf x with
    | none => simp [hx] at h
    | some w => simp only [hx, Option.bind_some, Option.some.injEq] at h; rw [wOf_some hx, ← h]; exact rexp_ok w
  · cases h
noncomputable def gG7 : Gam := (addG 28 gexpG (addG 27 gexpG (addG 22 storeG5 (addG 21 storeG5 gG6))))
attribute [push_cast] gG7
theorem gG7_ok : GamOk Tryd.prog gG7 := (addG_ok rexpG_ok (addG_ok gexpG_ok (addG_ok rstoreG5_ok (addG_ok gstoreG_ok gG6_ok))))
theorem gcall_ok (l : Int) (w : W) (warm value new : Bool) (hl : i64In l) : CallsV Tryd.prog 24 [.int .i64 l, w.v, .bool warm, .bool value, .bool new] [] (Ret0 (.tuple #[.int .i64 (callP l w warm value new).1, .int .i64 (callP l w warm value new).2.1, .bool (callP l w warm value new).2.2])) := by
  rw [callP_eq]
  unfold i64In at hl
  refine callsO gG7_ok Tryd.mix (fun i => if i = 1 then [(0, 9)] else Tryd.pl24 i) Tryd.func24 rfl Tryd.ntmps24 Tryd.results24 rfl (by first | rfl | assumption) (Nat.le_of_ble_eq_true rfl) (by kernel_rfl) ?_
  simp only [push_cast, Nat.reduceAdd, Nat.reduceSub, Nat.reduceMul, Nat.reduceLT, Nat.reduceLeDiff, Nat.reduceEqDiff, Nat.reduceMod, Nat.reduceDiv, Int.reduceAdd, Int.reduceSub, Int.reduceMul, Int.reduceLT, Int.reduceLE, Int.reduceEq, Int.reduceNeg, Int.reduceToNat, reduceIte, reduceCtorEq, Int.reduceBEq, Int.reduceBNe, Bool.true_beq, Bool.false_beq, Bool.true_bne, Bool.false_bne, Bool.not_true, Bool.not_false]
  intro b6
  refine regO gG7_ok ?_
  cases warm
  · cases value
    · skip
      have hP : priceI false false new = 2600 := rfl
      have ht : gtouchI false false = 2600 := rfl
      by_cases h : l < 2600 ∨ 9007199254740992 < l
      · have e : callI l (intW w) false false new = (0, 0, false) := by unfold callI; rw [hP]; exact if_pos h
        have hw : gwithI l 2600 9007199254740992 ≠ l := by rw [gwithI_eq]; unfold maxZ minZ; split <;> split <;> omega
        obtain ⟨W0, hW0⟩ : ∃ z, z = gwithI l 2600 9007199254740992 := ⟨_, rfl⟩
        rw [← hW0] at hw
        have hw' : (l == W0) = false := beq_eq_false_iff_ne.2 (Ne.symm hw)
        have hw'' : (l != W0) = true := by rw [bne, hw']; rfl
        simp only [push_cast, Nat.reduceAdd, Nat.reduceSub, Nat.reduceMul, Nat.reduceLT, Nat.reduceLeDiff, Nat.reduceEqDiff, Nat.reduceMod, Nat.reduceDiv, Int.reduceAdd, Int.reduceSub, Int.reduceMul, Int.reduceLT, Int.reduceLE, Int.reduceEq, Int.reduceNeg, Int.reduceToNat, reduceIte, reduceCtorEq, Int.reduceBEq, Int.reduceBNe, Bool.true_beq, Bool.false_beq, Bool.true_bne, Bool.false_bne, Bool.not_true, Bool.not_false, ht, ← hW0, hw'', e]
      · obtain ⟨r, rfl⟩ : ∃ r : Nat, l = 2600 + (r : Int) := ⟨(l - 2600).toNat, by omega⟩
        have hr : r ≤ 9007199254740992 := by omega
        obtain ⟨m, hm⟩ : ∃ m, m = r - r / 64 := ⟨_, rfl⟩
        obtain ⟨q, hq⟩ : ∃ q, q = r / 64 := ⟨_, rfl⟩
        have e1 : 2600 + (r : Int) - 2600 = (r : Int) := by omega
        have e2 : (r : Int).tdiv 64 = (q : Int) := by rw [hq]; rfl
        have e3 : (r : Int) - (q : Int) = (m : Int) := by omega
        have e4 : (r : Int) - (r : Int) / 64 = (m : Int) := by omega
        have ml : m ≤ 9007199254740992 := by omega
        have hw : gwithI (2600 + (r : Int)) 2600 9007199254740992 = 2600 + (r : Int) := by rw [gwithI_eq]; unfold maxZ minZ; split <;> split <;> omega
        rcases intW_cases w with hi | ⟨a, ha, hi⟩
        · have e : callI (2600 + (r : Int)) (intW w) false false new = (2600 + (m : Int), (m : Int), true) := by unfold callI; rw [hP, hi, if_neg h, e1, e4]; first | rfl | (unfold ownI; simp)
          rw [hi] at e
          simp only [push_cast, Nat.reduceAdd, Nat.reduceSub, Nat.reduceMul, Nat.reduceLT, Nat.reduceLeDiff, Nat.reduceEqDiff, Nat.reduceMod, Nat.reduceDiv, Int.reduceAdd, Int.reduceSub, Int.reduceMul, Int.reduceLT, Int.reduceLE, Int.reduceEq, Int.reduceNeg, Int.reduceToNat, reduceIte, reduceCtorEq, Int.reduceBEq, Int.reduceBNe, Bool.true_beq, Bool.false_beq, Bool.true_bne, Bool.false_bne, Bool.not_true, Bool.not_false, ht, hw, bne_self_eq_false, e1, wrap_i64' (show -9223372036854775808 ≤ (r : Int) ∧ (r : Int) ≤ 9223372036854775807 by omega), e2, wrap_i64' (show -9223372036854775808 ≤ (q : Int) ∧ (q : Int) ≤ 9223372036854775807 by omega), e3, wrap_i64' (show -9223372036854775808 ≤ (m : Int) ∧ (m : Int) ≤ 9223372036854775807 by omega), hi, Nat.lt_irrefl, Int.lt_irrefl, wrap_i64' (show -9223372036854775808 ≤ 2600 + (m : Int) ∧ 2600 + (m : Int) ≤ 9223372036854775807 by omega), wrap_i64' (show -9223372036854775808 ≤ (m : Int) ∧ (m : Int) ≤ 9223372036854775807 by omega), Int.add_zero, Int.zero_add, e]
        · by_cases hn : m < a
          · have hn' : (m : Int) < (a : Int) := by omega
            have e : callI (2600 + (r : Int)) (intW w) false false new = (2600 + (m : Int), (m : Int), true) := by unfold callI; rw [hP, hi, if_neg h, e1, e4]; unfold minZ; dsimp only; rw [if_pos rfl, if_pos hn']; first | rfl | (unfold ownI; simp)
            rw [hi] at e
            simp only [push_cast, Nat.reduceAdd, Nat.reduceSub, Nat.reduceMul, Nat.reduceLT, Nat.reduceLeDiff, Nat.reduceEqDiff, Nat.reduceMod, Nat.reduceDiv, Int.reduceAdd, Int.reduceSub, Int.reduceMul, Int.reduceLT, Int.reduceLE, Int.reduceEq, Int.reduceNeg, Int.reduceToNat, reduceIte, reduceCtorEq, Int.reduceBEq, Int.reduceBNe, Bool.true_beq, Bool.false_beq, Bool.true_bne, Bool.false_bne, Bool.not_true, Bool.not_false, ht, hw, bne_self_eq_false, e1, wrap_i64' (show -9223372036854775808 ≤ (r : Int) ∧ (r : Int) ≤ 9223372036854775807 by omega), e2, wrap_i64' (show -9223372036854775808 ≤ (q : Int) ∧ (q : Int) ≤ 9223372036854775807 by omega), e3, wrap_i64' (show -9223372036854775808 ≤ (m : Int) ∧ (m : Int) ≤ 9223372036854775807 by omega), hi, hn, wrap_i64' (show -9223372036854775808 ≤ 2600 + (m : Int) ∧ 2600 + (m : Int) ≤ 9223372036854775807 by omega), wrap_i64' (show -9223372036854775808 ≤ (m : Int) ∧ (m : Int) ≤ 9223372036854775807 by omega), Int.add_zero, Int.zero_add, e]
          · have hn' : ¬ (m : Int) < (a : Int) := by omega
            have e : callI (2600 + (r : Int)) (intW w) false false new = (2600 + (a : Int), (a : Int), true) := by unfold callI; rw [hP, hi, if_neg h, e1, e4]; unfold minZ; dsimp only; rw [if_pos rfl, if_neg hn']; first | rfl | (unfold ownI; simp)
            rw [hi] at e
            simp only [push_cast, Nat.reduceAdd, Nat.reduceSub, Nat.reduceMul, Nat.reduceLT, Nat.reduceLeDiff, Nat.reduceEqDiff, Nat.reduceMod, Nat.reduceDiv, Int.reduceAdd, Int.reduceSub, Int.reduceMul, Int.reduceLT, Int.reduceLE, Int.reduceEq, Int.reduceNeg, Int.reduceToNat, reduceIte, reduceCtorEq, Int.reduceBEq, Int.reduceBNe, Bool.true_beq, Bool.false_beq, Bool.true_bne, Bool.false_bne, Bool.not_true, Bool.not_false, ht, hw, bne_self_eq_false, e1, wrap_i64' (show -9223372036854775808 ≤ (r : Int) ∧ (r : Int) ≤ 9223372036854775807 by omega), e2, wrap_i64' (show -9223372036854775808 ≤ (q : Int) ∧ (q : Int) ≤ 9223372036854775807 by omega), e3, wrap_i64' (show -9223372036854775808 ≤ (m : Int) ∧ (m : Int) ≤ 9223372036854775807 by omega), hi, hn, wrap_i64' (show -9223372036854775808 ≤ 2600 + (a : Int) ∧ 2600 + (a : Int) ≤ 9223372036854775807 by omega), wrap_i64' (show -9223372036854775808 ≤ (a : Int) ∧ (a : Int) ≤ 9223372036854775807 by omega), Int.add_zero, Int.zero_add, e]
    · cases new
      · skip
        have hP : priceI false true false = 11600 := rfl
        have ht : gtouchI false false = 2600 := rfl
        by_cases h : l < 11600 ∨ 9007199254740992 < l
        · have e : callI l (intW w) false true false = (0, 0, false) := by unfold callI; rw [hP]; exact if_pos h
          have hw : gwithI l 11600 9007199254740992 ≠ l := by rw [gwithI_eq]; unfold maxZ minZ; split <;> split <;> omega
          obtain ⟨W0, hW0⟩ : ∃ z, z = gwithI l 11600 9007199254740992 := ⟨_, rfl⟩
          rw [← hW0] at hw
          have hw' : (l == W0) = false := beq_eq_false_iff_ne.2 (Ne.symm hw)
          have hw'' : (l != W0) = true := by rw [bne, hw']; rfl
          simp only [push_cast, Nat.reduceAdd, Nat.reduceSub, Nat.reduceMul, Nat.reduceLT, Nat.reduceLeDiff, Nat.reduceEqDiff, Nat.reduceMod, Nat.reduceDiv, Int.reduceAdd, Int.reduceSub, Int.reduceMul, Int.reduceLT, Int.reduceLE, Int.reduceEq, Int.reduceNeg, Int.reduceToNat, reduceIte, reduceCtorEq, Int.reduceBEq, Int.reduceBNe, Bool.true_beq, Bool.false_beq, Bool.true_bne, Bool.false_bne, Bool.not_true, Bool.not_false, ht, ← hW0, hw'', e]
        · obtain ⟨r, rfl⟩ : ∃ r : Nat, l = 11600 + (r : Int) := ⟨(l - 11600).toNat, by omega⟩
          have hr : r ≤ 9007199254740992 := by omega
          obtain ⟨m, hm⟩ : ∃ m, m = r - r / 64 := ⟨_, rfl⟩
          obtain ⟨q, hq⟩ : ∃ q, q = r / 64 := ⟨_, rfl⟩
          have e1 : 11600 + (r : Int) - 11600 = (r : Int) := by omega
          have e2 : (r : Int).tdiv 64 = (q : Int) := by rw [hq]; rfl
          have e3 : (r : Int) - (q : Int) = (m : Int) := by omega
          have e4 : (r : Int) - (r : Int) / 64 = (m : Int) := by omega
          have ml : m ≤ 9007199254740992 := by omega
          have hw : gwithI (11600 + (r : Int)) 11600 9007199254740992 = 11600 + (r : Int) := by rw [gwithI_eq]; unfold maxZ minZ; split <;> split <;> omega
          rcases intW_cases w with hi | ⟨a, ha, hi⟩
          · have e : callI (11600 + (r : Int)) (intW w) false true false = (11600 + (m : Int), 2300 + (m : Int), true) := by unfold callI; rw [hP, hi, if_neg h, e1, e4]; first | rfl | (unfold ownI; simp)
            rw [hi] at e
            simp only [push_cast, Nat.reduceAdd, Nat.reduceSub, Nat.reduceMul, Nat.reduceLT, Nat.reduceLeDiff, Nat.reduceEqDiff, Nat.reduceMod, Nat.reduceDiv, Int.reduceAdd, Int.reduceSub, Int.reduceMul, Int.reduceLT, Int.reduceLE, Int.reduceEq, Int.reduceNeg, Int.reduceToNat, reduceIte, reduceCtorEq, Int.reduceBEq, Int.reduceBNe, Bool.true_beq, Bool.false_beq, Bool.true_bne, Bool.false_bne, Bool.not_true, Bool.not_false, ht, hw, bne_self_eq_false, e1, wrap_i64' (show -9223372036854775808 ≤ (r : Int) ∧ (r : Int) ≤ 9223372036854775807 by omega), e2, wrap_i64' (show -9223372036854775808 ≤ (q : Int) ∧ (q : Int) ≤ 9223372036854775807 by omega), e3, wrap_i64' (show -9223372036854775808 ≤ (m : Int) ∧ (m : Int) ≤ 9223372036854775807 by omega), hi, Nat.lt_irrefl, Int.lt_irrefl, wrap_i64' (show -9223372036854775808 ≤ 11600 + (m : Int) ∧ 11600 + (m : Int) ≤ 9223372036854775807 by omega), wrap_i64' (show -9223372036854775808 ≤ 2300 + (m : Int) ∧ 2300 + (m : Int) ≤ 9223372036854775807 by omega), wrap_i64' (show -9223372036854775808 ≤ (m : Int) + 2300 ∧ (m : Int) + 2300 ≤ 9223372036854775807 by omega), Int.add_comm (m : Int) 2300, e]
          · by_cases hn : m < a
            · have hn' : (m : Int) < (a : Int) := by omega
              have e : callI (11600 + (r : Int)) (intW w) false true false = (11600 + (m : Int), 2300 + (m : Int), true) := by unfold callI; rw [hP, hi, if_neg h, e1, e4]; unfold minZ; dsimp only; rw [if_pos rfl, if_pos hn']; first | rfl | (unfold ownI; simp)
              rw [hi] at e
              simp only [push_cast, Nat.reduceAdd, Nat.reduceSub, Nat.reduceMul, Nat.reduceLT, Nat.reduceLeDiff, Nat.reduceEqDiff, Nat.reduceMod, Nat.reduceDiv, Int.reduceAdd, Int.reduceSub, Int.reduceMul, Int.reduceLT, Int.reduceLE, Int.reduceEq, Int.reduceNeg, Int.reduceToNat, reduceIte, reduceCtorEq, Int.reduceBEq, Int.reduceBNe, Bool.true_beq, Bool.false_beq, Bool.true_bne, Bool.false_bne, Bool.not_true, Bool.not_false, ht, hw, bne_self_eq_false, e1, wrap_i64' (show -9223372036854775808 ≤ (r : Int) ∧ (r : Int) ≤ 9223372036854775807 by omega), e2, wrap_i64' (show -9223372036854775808 ≤ (q : Int) ∧ (q : Int) ≤ 9223372036854775807 by omega), e3, wrap_i64' (show -9223372036854775808 ≤ (m : Int) ∧ (m : Int) ≤ 9223372036854775807 by omega), hi, hn, wrap_i64' (show -9223372036854775808 ≤ 11600 + (m : Int) ∧ 11600 + (m : Int) ≤ 9223372036854775807 by omega), wrap_i64' (show -9223372036854775808 ≤ 2300 + (m : Int) ∧ 2300 + (m : Int) ≤ 9223372036854775807 by omega), wrap_i64' (show -9223372036854775808 ≤ (m : Int) + 2300 ∧ (m : Int) + 2300 ≤ 9223372036854775807 by omega), Int.add_comm (m : Int) 2300, e]
            · have hn' : ¬ (m : Int) < (a : Int) := by omega
              have e : callI (11600 + (r : Int)) (intW w) false true false = (11600 + (a : Int), 2300 + (a : Int), true) := by unfold callI; rw [hP, hi, if_neg h, e1, e4]; unfold minZ; dsimp only; rw [if_pos rfl, if_neg hn']; first | rfl | (unfold ownI; simp)
              rw [hi] at e
              simp only [push_cast, Nat.reduceAdd, Nat.reduceSub, Nat.reduceMul, Nat.reduceLT, Nat.reduceLeDiff, Nat.reduceEqDiff, Nat.reduceMod, Nat.reduceDiv, Int.reduceAdd, Int.reduceSub, Int.reduceMul, Int.reduceLT, Int.reduceLE, Int.reduceEq, Int.reduceNeg, Int.reduceToNat, reduceIte, reduceCtorEq, Int.reduceBEq, Int.reduceBNe, Bool.true_beq, Bool.false_beq, Bool.true_bne, Bool.false_bne, Bool.not_true, Bool.not_false, ht, hw, bne_self_eq_false, e1, wrap_i64' (show -9223372036854775808 ≤ (r : Int) ∧ (r : Int) ≤ 9223372036854775807 by omega), e2, wrap_i64' (show -9223372036854775808 ≤ (q : Int) ∧ (q : Int) ≤ 9223372036854775807 by omega), e3, wrap_i64' (show -9223372036854775808 ≤ (m : Int) ∧ (m : Int) ≤ 9223372036854775807 by omega), hi, hn, wrap_i64' (show -9223372036854775808 ≤ 11600 + (a : Int) ∧ 11600 + (a : Int) ≤ 9223372036854775807 by omega), wrap_i64' (show -9223372036854775808 ≤ 2300 + (a : Int) ∧ 2300 + (a : Int) ≤ 9223372036854775807 by omega), wrap_i64' (show -9223372036854775808 ≤ (a : Int) + 2300 ∧ (a : Int) + 2300 ≤ 9223372036854775807 by omega), Int.add_comm (a : Int) 2300, e]
      · skip
        have hP : priceI false true true = 36600 := rfl
        have ht : gtouchI false false = 2600 := rfl
        by_cases h : l < 36600 ∨ 9007199254740992 < l
        · have e : callI l (intW w) false true true = (0, 0, false) := by unfold callI; rw [hP]; exact if_pos h
          have hw : gwithI l 36600 9007199254740992 ≠ l := by rw [gwithI_eq]; unfold maxZ minZ; split <;> split <;> omega
          obtain ⟨W0, hW0⟩ : ∃ z, z = gwithI l 36600 9007199254740992 := ⟨_, rfl⟩
          rw [← hW0] at hw
          have hw' : (l == W0) = false := beq_eq_false_iff_ne.2 (Ne.symm hw)
          have hw'' : (l != W0) = true := by rw [bne, hw']; rfl
          simp only [push_cast, Nat.reduceAdd, Nat.reduceSub, Nat.reduceMul, Nat.reduceLT, Nat.reduceLeDiff, Nat.reduceEqDiff, Nat.reduceMod, Nat.reduceDiv, Int.reduceAdd, Int.reduceSub, Int.reduceMul, Int.reduceLT, Int.reduceLE, Int.reduceEq, Int.reduceNeg, Int.reduceToNat, reduceIte, reduceCtorEq, Int.reduceBEq, Int.reduceBNe, Bool.true_beq, Bool.false_beq, Bool.true_bne, Bool.false_bne, Bool.not_true, Bool.not_false, ht, ← hW0, hw'', e]
        · obtain ⟨r, rfl⟩ : ∃ r : Nat, l = 36600 + (r : Int) := ⟨(l - 36600).toNat, by omega⟩
          have hr : r ≤ 9007199254740992 := by omega
          obtain ⟨m, hm⟩ : ∃ m, m = r - r / 64 := ⟨_, rfl⟩
          obtain ⟨q, hq⟩ : ∃ q, q = r / 64 := ⟨_, rfl⟩
          have e1 : 36600 + (r : Int) - 36600 = (r : Int) := by omega
          have e2 : (r : Int).tdiv 64 = (q : Int) := by rw [hq]; rfl
          have e3 : (r : Int) - (q : Int) = (m : Int) := by omega
          have e4 : (r : Int) - (r : Int) / 64 = (m : Int) := by omega
          have ml : m ≤ 9007199254740992 := by omega
          have hw : gwithI (36600 + (r : Int)) 36600 9007199254740992 = 36600 + (r : Int) := by rw [gwithI_eq]; unfold maxZ minZ; split <;> split <;> omega
          rcases intW_cases w with hi | ⟨a, ha, hi⟩
          · have e : callI (36600 + (r : Int)) (intW w) false true true = (36600 + (m : Int), 2300 + (m : Int), true) := by unfold callI; rw [hP, hi, if_neg h, e1, e4]; first | rfl | (unfold ownI; simp)
            rw [hi] at e
            simp only [push_cast, Nat.reduceAdd, Nat.reduceSub, Nat.reduceMul, Nat.reduceLT, Nat.reduceLeDiff, Nat.reduceEqDiff, Nat.reduceMod, Nat.reduceDiv, Int.reduceAdd, Int.reduceSub, Int.reduceMul, Int.reduceLT, Int.reduceLE, Int.reduceEq, Int.reduceNeg, Int.reduceToNat, reduceIte, reduceCtorEq, Int.reduceBEq, Int.reduceBNe, Bool.true_beq, Bool.false_beq, Bool.true_bne, Bool.false_bne, Bool.not_true, Bool.not_false, ht, hw, bne_self_eq_false, e1, wrap_i64' (show -9223372036854775808 ≤ (r : Int) ∧ (r : Int) ≤ 9223372036854775807 by omega), e2, wrap_i64' (show -9223372036854775808 ≤ (q : Int) ∧ (q : Int) ≤ 9223372036854775807 by omega), e3, wrap_i64' (show -9223372036854775808 ≤ (m : Int) ∧ (m : Int) ≤ 9223372036854775807 by omega), hi, Nat.lt_irrefl, Int.lt_irrefl, wrap_i64' (show -9223372036854775808 ≤ 36600 + (m : Int) ∧ 36600 + (m : Int) ≤ 9223372036854775807 by omega), wrap_i64' (show -9223372036854775808 ≤ 2300 + (m : Int) ∧ 2300 + (m : Int) ≤ 9223372036854775807 by omega), wrap_i64' (show -9223372036854775808 ≤ (m : Int) + 2300 ∧ (m : Int) + 2300 ≤ 9223372036854775807 by omega), Int.add_comm (m : Int) 2300, e]
          · by_cases hn : m < a
            · have hn' : (m : Int) < (a : Int) := by omega
              have e : callI (36600 + (r : Int)) (intW w) false true true = (36600 + (m : Int), 2300 + (m : Int), true) := by unfold callI; rw [hP, hi, if_neg h, e1, e4]; unfold minZ; dsimp only; rw [if_pos rfl, if_pos hn']; first | rfl | (unfold ownI; simp)
              rw [hi] at e
              simp only [push_cast, Nat.reduceAdd, Nat.reduceSub, Nat.reduceMul, Nat.reduceLT, Nat.reduceLeDiff, Nat.reduceEqDiff, Nat.reduceMod, Nat.reduceDiv, Int.reduceAdd, Int.reduceSub, Int.reduceMul, Int.reduceLT, Int.reduceLE, Int.reduceEq, Int.reduceNeg, Int.reduceToNat, reduceIte, reduceCtorEq, Int.reduceBEq, Int.reduceBNe, Bool.true_beq, Bool.false_beq, Bool.true_bne, Bool.false_bne, Bool.not_true, Bool.not_false, ht, hw, bne_self_eq_false, e1, wrap_i64' (show -9223372036854775808 ≤ (r : Int) ∧ (r : Int) ≤ 9223372036854775807 by omega), e2, wrap_i64' (show -9223372036854775808 ≤ (q : Int) ∧ (q : Int) ≤ 9223372036854775807 by omega), e3, wrap_i64' (show -9223372036854775808 ≤ (m : Int) ∧ (m : Int) ≤ 9223372036854775807 by omega), hi, hn, wrap_i64' (show -9223372036854775808 ≤ 36600 + (m : Int) ∧ 36600 + (m : Int) ≤ 9223372036854775807 by omega), wrap_i64' (show -9223372036854775808 ≤ 2300 + (m : Int) ∧ 2300 + (m : Int) ≤ 9223372036854775807 by omega), wrap_i64' (show -9223372036854775808 ≤ (m : Int) + 2300 ∧ (m : Int) + 2300 ≤ 9223372036854775807 by omega), Int.add_comm (m : Int) 2300, e]
            · have hn' : ¬ (m : Int) < (a : Int) := by omega
              have e : callI (36600 + (r : Int)) (intW w) false true true = (36600 + (a : Int), 2300 + (a : Int), true) := by unfold callI; rw [hP, hi, if_neg h, e1, e4]; unfold minZ; dsimp only; rw [if_pos rfl, if_neg hn']; first | rfl | (unfold ownI; simp)
              rw [hi] at e
              simp only [push_cast, Nat.reduceAdd, Nat.reduceSub, Nat.reduceMul, Nat.reduceLT, Nat.reduceLeDiff, Nat.reduceEqDiff, Nat.reduceMod, Nat.reduceDiv, Int.reduceAdd, Int.reduceSub, Int.reduceMul, Int.reduceLT, Int.reduceLE, Int.reduceEq, Int.reduceNeg, Int.reduceToNat, reduceIte, reduceCtorEq, Int.reduceBEq, Int.reduceBNe, Bool.true_beq, Bool.false_beq, Bool.true_bne, Bool.false_bne, Bool.not_true, Bool.not_false, ht, hw, bne_self_eq_false, e1, wrap_i64' (show -9223372036854775808 ≤ (r : Int) ∧ (r : Int) ≤ 9223372036854775807 by omega), e2, wrap_i64' (show -9223372036854775808 ≤ (q : Int) ∧ (q : Int) ≤ 9223372036854775807 by omega), e3, wrap_i64' (show -9223372036854775808 ≤ (m : Int) ∧ (m : Int) ≤ 9223372036854775807 by omega), hi, hn, wrap_i64' (show -9223372036854775808 ≤ 36600 + (a : Int) ∧ 36600 + (a : Int) ≤ 9223372036854775807 by omega), wrap_i64' (show -9223372036854775808 ≤ 2300 + (a : Int) ∧ 2300 + (a : Int) ≤ 9223372036854775807 by omega), wrap_i64' (show -9223372036854775808 ≤ (a : Int) + 2300 ∧ (a : Int) + 2300 ≤ 9223372036854775807 by omega), Int.add_comm (a : Int) 2300, e]
  · cases value
    · skip
      have hP : priceI true false new = 100 := rfl
      have ht : gtouchI false true = 100 := rfl
      by_cases h : l < 100 ∨ 9007199254740992 < l
      · have e : callI l (intW w) true false new = (0, 0, false) := by unfold callI; rw [hP]; exact if_pos h
        have hw : gwithI l 100 9007199254740992 ≠ l := by rw [gwithI_eq]; unfold maxZ minZ; split <;> split <;> omega
        obtain ⟨W0, hW0⟩ : ∃ z, z = gwithI l 100 9007199254740992 := ⟨_, rfl⟩
        rw [← hW0] at hw
        have hw' : (l == W0) = false := beq_eq_false_iff_ne.2 (Ne.symm hw)
        have hw'' : (l != W0) = true := by rw [bne, hw']; rfl
        simp only [push_cast, Nat.reduceAdd, Nat.reduceSub, Nat.reduceMul, Nat.reduceLT, Nat.reduceLeDiff, Nat.reduceEqDiff, Nat.reduceMod, Nat.reduceDiv, Int.reduceAdd, Int.reduceSub, Int.reduceMul, Int.reduceLT, Int.reduceLE, Int.reduceEq, Int.reduceNeg, Int.reduceToNat, reduceIte, reduceCtorEq, Int.reduceBEq, Int.reduceBNe, Bool.true_beq, Bool.false_beq, Bool.true_bne, Bool.false_bne, Bool.not_true, Bool.not_false, ht, ← hW0, hw'', e]
      · obtain ⟨r, rfl⟩ : ∃ r : Nat, l = 100 + (r : Int) := ⟨(l - 100).toNat, by omega⟩
        have hr : r ≤ 9007199254740992 := by omega
        obtain ⟨m, hm⟩ : ∃ m, m = r - r / 64 := ⟨_, rfl⟩
        obtain ⟨q, hq⟩ : ∃ q, q = r / 64 := ⟨_, rfl⟩
        have e1 : 100 + (r : Int) - 100 = (r : Int) := by omega
        have e2 : (r : Int).tdiv 64 = (q : Int) := by rw [hq]; rfl
        have e3 : (r : Int) - (q : Int) = (m : Int) := by omega
        have e4 : (r : Int) - (r : Int) / 64 = (m : Int) := by omega
        have ml : m ≤ 9007199254740992 := by omega
        have hw : gwithI (100 + (r : Int)) 100 9007199254740992 = 100 + (r : Int) := by rw [gwithI_eq]; unfold maxZ minZ; split <;> split <;> omega
        rcases intW_cases w with hi | ⟨a, ha, hi⟩
        · have e : callI (100 + (r : Int)) (intW w) true false new = (100 + (m : Int), (m : Int), true) := by unfold callI; rw [hP, hi, if_neg h, e1, e4]; first | rfl | (unfold ownI; simp)
          rw [hi] at e
          simp only [push_cast, Nat.reduceAdd, Nat.reduceSub, Nat.reduceMul, Nat.reduceLT, Nat.reduceLeDiff, Nat.reduceEqDiff, Nat.reduceMod, Nat.reduceDiv, Int.reduceAdd, Int.reduceSub, Int.reduceMul, Int.reduceLT, Int.reduceLE, Int.reduceEq, Int.reduceNeg, Int.reduceToNat, reduceIte, reduceCtorEq, Int.reduceBEq, Int.reduceBNe, Bool.true_beq, Bool.false_beq, Bool.true_bne, Bool.false_bne, Bool.not_true, Bool.not_false, ht, hw, bne_self_eq_false, e1, wrap_i64' (show -9223372036854775808 ≤ (r : Int) ∧ (r : Int) ≤ 9223372036854775807 by omega), e2, wrap_i64' (show -9223372036854775808 ≤ (q : Int) ∧ (q : Int) ≤ 9223372036854775807 by omega), e3, wrap_i64' (show -9223372036854775808 ≤ (m : Int) ∧ (m : Int) ≤ 9223372036854775807 by omega), hi, Nat.lt_irrefl, Int.lt_irrefl, wrap_i64' (show -9223372036854775808 ≤ 100 + (m : Int) ∧ 100 + (m : Int) ≤ 9223372036854775807 by omega), wrap_i64' (show -9223372036854775808 ≤ (m : Int) ∧ (m : Int) ≤ 9223372036854775807 by omega), Int.add_zero, Int.zero_add, e]
        · by_cases hn : m < a
          · have hn' : (m : Int) < (a : Int) := by omega
            have e : callI (100 + (r : Int)) (intW w) true false new = (100 + (m : Int), (m : Int), true) := by unfold callI; rw [hP, hi, if_neg h, e1, e4]; unfold minZ; dsimp only; rw [if_pos rfl, if_pos hn']; first | rfl | (unfold ownI; simp)
            rw [hi] at e
            simp only [push_cast, Nat.reduceAdd, Nat.reduceSub, Nat.reduceMul, Nat.reduceLT, Nat.reduceLeDiff, Nat.reduceEqDiff, Nat.reduceMod, Nat.reduceDiv, Int.reduceAdd, Int.reduceSub, Int.reduceMul, Int.reduceLT, Int.reduceLE, Int.reduceEq, Int.reduceNeg, Int.reduceToNat, reduceIte, reduceCtorEq, Int.reduceBEq, Int.reduceBNe, Bool.true_beq, Bool.false_beq, Bool.true_bne, Bool.false_bne, Bool.not_true, Bool.not_false, ht, hw, bne_self_eq_false, e1, wrap_i64' (show -9223372036854775808 ≤ (r : Int) ∧ (r : Int) ≤ 9223372036854775807 by omega), e2, wrap_i64' (show -9223372036854775808 ≤ (q : Int) ∧ (q : Int) ≤ 9223372036854775807 by omega), e3, wrap_i64' (show -9223372036854775808 ≤ (m : Int) ∧ (m : Int) ≤ 9223372036854775807 by omega), hi, hn, wrap_i64' (show -9223372036854775808 ≤ 100 + (m : Int) ∧ 100 + (m : Int) ≤ 9223372036854775807 by omega), wrap_i64' (show -9223372036854775808 ≤ (m : Int) ∧ (m : Int) ≤ 9223372036854775807 by omega), Int.add_zero, Int.zero_add, e]
          · have hn' : ¬ (m : Int) < (a : Int) := by omega
            have e : callI (100 + (r : Int)) (intW w) true false new = (100 + (a : Int), (a : Int), true) := by unfold callI; rw [hP, hi, if_neg h, e1, e4]; unfold minZ; dsimp only; rw [if_pos rfl, if_neg hn']; first | rfl | (unfold ownI; simp)
            rw [hi] at e
            simp only [push_cast, Nat.reduceAdd, Nat.reduceSub, Nat.reduceMul, Nat.reduceLT, Nat.reduceLeDiff, Nat.reduceEqDiff, Nat.reduceMod, Nat.reduceDiv, Int.reduceAdd, Int.reduceSub, Int.reduceMul, Int.reduceLT, Int.reduceLE, Int.reduceEq, Int.reduceNeg, Int.reduceToNat, reduceIte, reduceCtorEq, Int.reduceBEq, Int.reduceBNe, Bool.true_beq, Bool.false_beq, Bool.true_bne, Bool.false_bne, Bool.not_true, Bool.not_false, ht, hw, bne_self_eq_false, e1, wrap_i64' (show -9223372036854775808 ≤ (r : Int) ∧ (r : Int) ≤ 9223372036854775807 by omega), e2, wrap_i64' (show -9223372036854775808 ≤ (q : Int) ∧ (q : Int) ≤ 9223372036854775807 by omega), e3, wrap_i64' (show -9223372036854775808 ≤ (m : Int) ∧ (m : Int) ≤ 9223372036854775807 by omega), hi, hn, wrap_i64' (show -9223372036854775808 ≤ 100 + (a : Int) ∧ 100 + (a : Int) ≤ 9223372036854775807 by omega), wrap_i64' (show -9223372036854775808 ≤ (a : Int) ∧ (a : Int) ≤ 9223372036854775807 by omega), Int.add_zero, Int.zero_add, e]
    · cases new
      · skip
        have hP : priceI true true false = 9100 := rfl
        have ht : gtouchI false true = 100 := rfl
        by_cases h : l < 9100 ∨ 9007199254740992 < l
        · have e : callI l (intW w) true true false = (0, 0, false) := by unfold callI; rw [hP]; exact if_pos h
          have hw : gwithI l 9100 9007199254740992 ≠ l := by rw [gwithI_eq]; unfold maxZ minZ; split <;> split <;> omega
          obtain ⟨W0, hW0⟩ : ∃ z, z = gwithI l 9100 9007199254740992 := ⟨_, rfl⟩
          rw [← hW0] at hw
          have hw' : (l == W0) = false := beq_eq_false_iff_ne.2 (Ne.symm hw)
          have hw'' : (l != W0) = true := by rw [bne, hw']; rfl
          simp only [push_cast, Nat.reduceAdd, Nat.reduceSub, Nat.reduceMul, Nat.reduceLT, Nat.reduceLeDiff, Nat.reduceEqDiff, Nat.reduceMod, Nat.reduceDiv, Int.reduceAdd, Int.reduceSub, Int.reduceMul, Int.reduceLT, Int.reduceLE, Int.reduceEq, Int.reduceNeg, Int.reduceToNat, reduceIte, reduceCtorEq, Int.reduceBEq, Int.reduceBNe, Bool.true_beq, Bool.false_beq, Bool.true_bne, Bool.false_bne, Bool.not_true, Bool.not_false, ht, ← hW0, hw'', e]
        · obtain ⟨r, rfl⟩ : ∃ r : Nat, l = 9100 + (r : Int) := ⟨(l - 9100).toNat, by omega⟩
          have hr : r ≤ 9007199254740992 := by omega
          obtain ⟨m, hm⟩ : ∃ m, m = r - r / 64 := ⟨_, rfl⟩
          obtain ⟨q, hq⟩ : ∃ q, q = r / 64 := ⟨_, rfl⟩
          have e1 : 9100 + (r : Int) - 9100 = (r : Int) := by omega
          have e2 : (r : Int).tdiv 64 = (q : Int) := by rw [hq]; rfl
          have e3 : (r : Int) - (q : Int) = (m : Int) := by omega
          have e4 : (r : Int) - (r : Int) / 64 = (m : Int) := by omega
          have ml : m ≤ 9007199254740992 := by omega
          have hw : gwithI (9100 + (r : Int)) 9100 9007199254740992 = 9100 + (r : Int) := by rw [gwithI_eq]; unfold maxZ minZ; split <;> split <;> omega
          rcases intW_cases w with hi | ⟨a, ha, hi⟩
          · have e : callI (9100 + (r : Int)) (intW w) true true false = (9100 + (m : Int), 2300 + (m : Int), true) := by unfold callI; rw [hP, hi, if_neg h, e1, e4]; first | rfl | (unfold ownI; simp)
            rw [hi] at e
            simp only [push_cast, Nat.reduceAdd, Nat.reduceSub, Nat.reduceMul, Nat.reduceLT, Nat.reduceLeDiff, Nat.reduceEqDiff, Nat.reduceMod, Nat.reduceDiv, Int.reduceAdd, Int.reduceSub, Int.reduceMul, Int.reduceLT, Int.reduceLE, Int.reduceEq, Int.reduceNeg, Int.reduceToNat, reduceIte, reduceCtorEq, Int.reduceBEq, Int.reduceBNe, Bool.true_beq, Bool.false_beq, Bool.true_bne, Bool.false_bne, Bool.not_true, Bool.not_false, ht, hw, bne_self_eq_false, e1, wrap_i64' (show -9223372036854775808 ≤ (r : Int) ∧ (r : Int) ≤ 9223372036854775807 by omega), e2, wrap_i64' (show -9223372036854775808 ≤ (q : Int) ∧ (q : Int) ≤ 9223372036854775807 by omega), e3, wrap_i64' (show -9223372036854775808 ≤ (m : Int) ∧ (m : Int) ≤ 9223372036854775807 by omega), hi, Nat.lt_irrefl, Int.lt_irrefl, wrap_i64' (show -9223372036854775808 ≤ 9100 + (m : Int) ∧ 9100 + (m : Int) ≤ 9223372036854775807 by omega), wrap_i64' (show -9223372036854775808 ≤ 2300 + (m : Int) ∧ 2300 + (m : Int) ≤ 9223372036854775807 by omega), wrap_i64' (show -9223372036854775808 ≤ (m : Int) + 2300 ∧ (m : Int) + 2300 ≤ 9223372036854775807 by omega), Int.add_comm (m : Int) 2300, e]
          · by_cases hn : m < a
            · have hn' : (m : Int) < (a : Int) := by omega
              have e : callI (9100 + (r : Int)) (intW w) true true false = (9100 + (m : Int), 2300 + (m : Int), true) := by unfold callI; rw [hP, hi, if_neg h, e1, e4]; unfold minZ; dsimp only; rw [if_pos rfl, if_pos hn']; first | rfl | (unfold ownI; simp)
              rw [hi] at e
              simp only [push_cast, Nat.reduceAdd, Nat.reduceSub, Nat.reduceMul, Nat.reduceLT, Nat.reduceLeDiff, Nat.reduceEqDiff, Nat.reduceMod, Nat.reduceDiv, Int.reduceAdd, Int.reduceSub, Int.reduceMul, Int.reduceLT, Int.reduceLE, Int.reduceEq, Int.reduceNeg, Int.reduceToNat, reduceIte, reduceCtorEq, Int.reduceBEq, Int.reduceBNe, Bool.true_beq, Bool.false_beq, Bool.true_bne, Bool.false_bne, Bool.not_true, Bool.not_false, ht, hw, bne_self_eq_false, e1, wrap_i64' (show -9223372036854775808 ≤ (r : Int) ∧ (r : Int) ≤ 9223372036854775807 by omega), e2, wrap_i64' (show -9223372036854775808 ≤ (q : Int) ∧ (q : Int) ≤ 9223372036854775807 by omega), e3, wrap_i64' (show -9223372036854775808 ≤ (m : Int) ∧ (m : Int) ≤ 9223372036854775807 by omega), hi, hn, wrap_i64' (show -9223372036854775808 ≤ 9100 + (m : Int) ∧ 9100 + (m : Int) ≤ 9223372036854775807 by omega), wrap_i64' (show -9223372036854775808 ≤ 2300 + (m : Int) ∧ 2300 + (m : Int) ≤ 9223372036854775807 by omega), wrap_i64' (show -9223372036854775808 ≤ (m : Int) + 2300 ∧ (m : Int) + 2300 ≤ 9223372036854775807 by omega), Int.add_comm (m : Int) 2300, e]
            · have hn' : ¬ (m : Int) < (a : Int) := by omega
              have e : callI (9100 + (r : Int)) (intW w) true true false = (9100 + (a : Int), 2300 + (a : Int), true) := by unfold callI; rw [hP, hi, if_neg h, e1, e4]; unfold minZ; dsimp only; rw [if_pos rfl, if_neg hn']; first | rfl | (unfold ownI; simp)
              rw [hi] at e
              simp only [push_cast, Nat.reduceAdd, Nat.reduceSub, Nat.reduceMul, Nat.reduceLT, Nat.reduceLeDiff, Nat.reduceEqDiff, Nat.reduceMod, Nat.reduceDiv, Int.reduceAdd, Int.reduceSub, Int.reduceMul, Int.reduceLT, Int.reduceLE, Int.reduceEq, Int.reduceNeg, Int.reduceToNat, reduceIte, reduceCtorEq, Int.reduceBEq, Int.reduceBNe, Bool.true_beq, Bool.false_beq, Bool.true_bne, Bool.false_bne, Bool.not_true, Bool.not_false, ht, hw, bne_self_eq_false, e1, wrap_i64' (show -9223372036854775808 ≤ (r : Int) ∧ (r : Int) ≤ 9223372036854775807 by omega), e2, wrap_i64' (show -9223372036854775808 ≤ (q : Int) ∧ (q : Int) ≤ 9223372036854775807 by omega), e3, wrap_i64' (show -9223372036854775808 ≤ (m : Int) ∧ (m : Int) ≤ 9223372036854775807 by omega), hi, hn, wrap_i64' (show -9223372036854775808 ≤ 9100 + (a : Int) ∧ 9100 + (a : Int) ≤ 9223372036854775807 by omega), wrap_i64' (show -9223372036854775808 ≤ 2300 + (a : Int) ∧ 2300 + (a : Int) ≤ 9223372036854775807 by omega), wrap_i64' (show -9223372036854775808 ≤ (a : Int) + 2300 ∧ (a : Int) + 2300 ≤ 9223372036854775807 by omega), Int.add_comm (a : Int) 2300, e]
      · skip
        have hP : priceI true true true = 34100 := rfl
        have ht : gtouchI false true = 100 := rfl
        by_cases h : l < 34100 ∨ 9007199254740992 < l
        · have e : callI l (intW w) true true true = (0, 0, false) := by unfold callI; rw [hP]; exact if_pos h
          have hw : gwithI l 34100 9007199254740992 ≠ l := by rw [gwithI_eq]; unfold maxZ minZ; split <;> split <;> omega
          obtain ⟨W0, hW0⟩ : ∃ z, z = gwithI l 34100 9007199254740992 := ⟨_, rfl⟩
          rw [← hW0] at hw
          have hw' : (l == W0) = false := beq_eq_false_iff_ne.2 (Ne.symm hw)
          have hw'' : (l != W0) = true := by rw [bne, hw']; rfl
          simp only [push_cast, Nat.reduceAdd, Nat.reduceSub, Nat.reduceMul, Nat.reduceLT, Nat.reduceLeDiff, Nat.reduceEqDiff, Nat.reduceMod, Nat.reduceDiv, Int.reduceAdd, Int.reduceSub, Int.reduceMul, Int.reduceLT, Int.reduceLE, Int.reduceEq, Int.reduceNeg, Int.reduceToNat, reduceIte, reduceCtorEq, Int.reduceBEq, Int.reduceBNe, Bool.true_beq, Bool.false_beq, Bool.true_bne, Bool.false_bne, Bool.not_true, Bool.not_false, ht, ← hW0, hw'', e]
        · obtain ⟨r, rfl⟩ : ∃ r : Nat, l = 34100 + (r : Int) := ⟨(l - 34100).toNat, by omega⟩
          have hr : r ≤ 9007199254740992 := by omega
          obtain ⟨m, hm⟩ : ∃ m, m = r - r / 64 := ⟨_, rfl⟩
          obtain ⟨q, hq⟩ : ∃ q, q = r / 64 := ⟨_, rfl⟩
          have e1 : 34100 + (r : Int) - 34100 = (r : Int) := by omega
          have e2 : (r : Int).tdiv 64 = (q : Int) := by rw [hq]; rfl
          have e3 : (r : Int) - (q : Int) = (m : Int) := by omega
          have e4 : (r : Int) - (r : Int) / 64 = (m : Int) := by omega
          have ml : m ≤ 9007199254740992 := by omega
          have hw : gwithI (34100 + (r : Int)) 34100 9007199254740992 = 34100 + (r : Int) := by rw [gwithI_eq]; unfold maxZ minZ; split <;> split <;> omega
          rcases intW_cases w with hi | ⟨a, ha, hi⟩
          · have e : callI (34100 + (r : Int)) (intW w) true true true = (34100 + (m : Int), 2300 + (m : Int), true) := by unfold callI; rw [hP, hi, if_neg h, e1, e4]; first | rfl | (unfold ownI; simp)
            rw [hi] at e
            simp only [push_cast, Nat.reduceAdd, Nat.reduceSub, Nat.reduceMul, Nat.reduceLT, Nat.reduceLeDiff, Nat.reduceEqDiff, Nat.reduceMod, Nat.reduceDiv, Int.reduceAdd, Int.reduceSub, Int.reduceMul, Int.reduceLT, Int.reduceLE, Int.reduceEq, Int.reduceNeg, Int.reduceToNat, reduceIte, reduceCtorEq, Int.reduceBEq, Int.reduceBNe, Bool.true_beq, Bool.false_beq, Bool.true_bne, Bool.false_bne, Bool.not_true, Bool.not_false, ht, hw, bne_self_eq_false, e1, wrap_i64' (show -9223372036854775808 ≤ (r : Int) ∧ (r : Int) ≤ 9223372036854775807 by omega), e2, wrap_i64' (show -9223372036854775808 ≤ (q : Int) ∧ (q : Int) ≤ 9223372036854775807 by omega), e3, wrap_i64' (show -9223372036854775808 ≤ (m : Int) ∧ (m : Int) ≤ 9223372036854775807 by omega), hi, Nat.lt_irrefl, Int.lt_irrefl, wrap_i64' (show -9223372036854775808 ≤ 34100 + (m : Int) ∧ 34100 + (m : Int) ≤ 9223372036854775807 by omega), wrap_i64' (show -9223372036854775808 ≤ 2300 + (m : Int) ∧ 2300 + (m : Int) ≤ 9223372036854775807 by omega), wrap_i64' (show -9223372036854775808 ≤ (m : Int) + 2300 ∧ (m : Int) + 2300 ≤ 9223372036854775807 by omega), Int.add_comm (m : Int) 2300, e]
          · by_cases hn : m < a
            · have hn' : (m : Int) < (a : Int) := by omega
              have e : callI (34100 + (r : Int)) (intW w) true true true = (34100 + (m : Int), 2300 + (m : Int), true) := by unfold callI; rw [hP, hi, if_neg h, e1, e4]; unfold minZ; dsimp only; rw [if_pos rfl, if_pos hn']; first | rfl | (unfold ownI; simp)
              rw [hi] at e
              simp only [push_cast, Nat.reduceAdd, Nat.reduceSub, Nat.reduceMul, Nat.reduceLT, Nat.reduceLeDiff, Nat.reduceEqDiff, Nat.reduceMod, Nat.reduceDiv, Int.reduceAdd, Int.reduceSub, Int.reduceMul, Int.reduceLT, Int.reduceLE, Int.reduceEq, Int.reduceNeg, Int.reduceToNat, reduceIte, reduceCtorEq, Int.reduceBEq, Int.reduceBNe, Bool.true_beq, Bool.false_beq, Bool.true_bne, Bool.false_bne, Bool.not_true, Bool.not_false, ht, hw, bne_self_eq_false, e1, wrap_i64' (show -9223372036854775808 ≤ (r : Int) ∧ (r : Int) ≤ 9223372036854775807 by omega), e2, wrap_i64' (show -9223372036854775808 ≤ (q : Int) ∧ (q : Int) ≤ 9223372036854775807 by omega), e3, wrap_i64' (show -9223372036854775808 ≤ (m : Int) ∧ (m : Int) ≤ 9223372036854775807 by omega), hi, hn, wrap_i64' (show -9223372036854775808 ≤ 34100 + (m : Int) ∧ 34100 + (m : Int) ≤ 9223372036854775807 by omega), wrap_i64' (show -9223372036854775808 ≤ 2300 + (m : Int) ∧ 2300 + (m : Int) ≤ 9223372036854775807 by omega), wrap_i64' (show -9223372036854775808 ≤ (m : Int) + 2300 ∧ (m : Int) + 2300 ≤ 9223372036854775807 by omega), Int.add_comm (m : Int) 2300, e]
            · have hn' : ¬ (m : Int) < (a : Int) := by omega
              have e : callI (34100 + (r : Int)) (intW w) true true true = (34100 + (a : Int), 2300 + (a : Int), true) := by unfold callI; rw [hP, hi, if_neg h, e1, e4]; unfold minZ; dsimp only; rw [if_pos rfl, if_neg hn']; first | rfl | (unfold ownI; simp)
              rw [hi] at e
              simp only [push_cast, Nat.reduceAdd, Nat.reduceSub, Nat.reduceMul, Nat.reduceLT, Nat.reduceLeDiff, Nat.reduceEqDiff, Nat.reduceMod, Nat.reduceDiv, Int.reduceAdd, Int.reduceSub, Int.reduceMul, Int.reduceLT, Int.reduceLE, Int.reduceEq, Int.reduceNeg, Int.reduceToNat, reduceIte, reduceCtorEq, Int.reduceBEq, Int.reduceBNe, Bool.true_beq, Bool.false_beq, Bool.true_bne, Bool.false_bne, Bool.not_true, Bool.not_false, ht, hw, bne_self_eq_false, e1, wrap_i64' (show -9223372036854775808 ≤ (r : Int) ∧ (r : Int) ≤ 9223372036854775807 by omega), e2, wrap_i64' (show -9223372036854775808 ≤ (q : Int) ∧ (q : Int) ≤ 9223372036854775807 by omega), e3, wrap_i64' (show -9223372036854775808 ≤ (m : Int) ∧ (m : Int) ≤ 9223372036854775807 by omega), hi, hn, wrap_i64' (show -9223372036854775808 ≤ 34100 + (a : Int) ∧ 34100 + (a : Int) ≤ 9223372036854775807 by omega), wrap_i64' (show -9223372036854775808 ≤ 2300 + (a : Int) ∧ 2300 + (a : Int) ≤ 9223372036854775807 by omega), wrap_i64' (show -9223372036854775808 ≤ (a : Int) + 2300 ∧ (a : Int) + 2300 ≤ 9223372036854775807 by omega), Int.add_comm (a : Int) 2300, e]
theorem rcall_ok (l : Int) (w : W) (warm value new : Bool) (hl : i64In l) : CallsV Tryd.prog 25 [.int .i64 l, w.v, .bool warm, .bool value, .bool new] [] (Ret0 (.tuple #[.int .i64 (callP l w warm value new).1, .int .i64 (callP l w warm value new).2.1, .bool (callP l w warm value new).2.2])) := by
  rw [callP_eq]
  unfold i64In at hl
  refine callsO gG7_ok Tryd.mix (fun i => if i = 1 then [(0, 9)] else Tryd.pl25 i) Tryd.func25 rfl Tryd.ntmps25 Tryd.results25 rfl (by first | rfl | assumption) (Nat.le_of_ble_eq_true rfl) (by kernel_rfl) ?_
  simp only [push_cast, Nat.reduceAdd, Nat.reduceSub, Nat.reduceMul, Nat.reduceLT, Nat.reduceLeDiff, Nat.reduceEqDiff, Nat.reduceMod, Nat.reduceDiv, Int.reduceAdd, Int.reduceSub, Int.reduceMul, Int.reduceLT, Int.reduceLE, Int.reduceEq, Int.reduceNeg, Int.reduceToNat, reduceIte, reduceCtorEq, Int.reduceBEq, Int.reduceBNe, Bool.true_beq, Bool.false_beq, Bool.true_bne, Bool.false_bne, Bool.not_true, Bool.not_false]
  intro b6
  refine regO gG7_ok ?_
  cases warm
  · cases value
    · skip
      have hP : priceI false false new = 2600 := rfl
      have ht : gtouchI false false = 2600 := rfl
      by_cases h : l < 2600 ∨ 9007199254740992 < l
      · have e : callI l (intW w) false false new = (0, 0, false) := by unfold callI; rw [hP]; exact if_pos h
        rcases Int.lt_or_le l 2600 with h1 | h1
        · simp only [push_cast, Nat.reduceAdd, Nat.reduceSub, Nat.reduceMul, Nat.reduceLT, Nat.reduceLeDiff, Nat.reduceEqDiff, Nat.reduceMod, Nat.reduceDiv, Int.reduceAdd, Int.reduceSub, Int.reduceMul, Int.reduceLT, Int.reduceLE, Int.reduceEq, Int.reduceNeg, Int.reduceToNat, reduceIte, reduceCtorEq, Int.reduceBEq, Int.reduceBNe, Bool.true_beq, Bool.false_beq, Bool.true_bne, Bool.false_bne, Bool.not_true, Bool.not_false, ht, h1, e]
        · have h0 : ¬ l < 2600 := by omega
          have h2 : ¬ l < 0 := by omega
          have h3 : 9007199254740992 < l := by omega
          simp only [push_cast, Nat.reduceAdd, Nat.reduceSub, Nat.reduceMul, Nat.reduceLT, Nat.reduceLeDiff, Nat.reduceEqDiff, Nat.reduceMod, Nat.reduceDiv, Int.reduceAdd, Int.reduceSub, Int.reduceMul, Int.reduceLT, Int.reduceLE, Int.reduceEq, Int.reduceNeg, Int.reduceToNat, reduceIte, reduceCtorEq, Int.reduceBEq, Int.reduceBNe, Bool.true_beq, Bool.false_beq, Bool.true_bne, Bool.false_bne, Bool.not_true, Bool.not_false, ht, h0, h2, h3, e]
      · obtain ⟨r, rfl⟩ : ∃ r : Nat, l = 2600 + (r : Int) := ⟨(l - 2600).toNat, by omega⟩
        have hr : r ≤ 9007199254740992 := by omega
        obtain ⟨m, hm⟩ : ∃ m, m = r - r / 64 := ⟨_, rfl⟩
        obtain ⟨q, hq⟩ : ∃ q, q = r / 64 := ⟨_, rfl⟩
        have e1 : 2600 + (r : Int) - 2600 = (r : Int) := by omega
        have e2 : (r : Int).tdiv 64 = (q : Int) := by rw [hq]; rfl
        have e3 : (r : Int) - (q : Int) = (m : Int) := by omega
        have e4 : (r : Int) - (r : Int) / 64 = (m : Int) := by omega
        have ml : m ≤ 9007199254740992 := by omega
        have h0 : ¬ 2600 + (r : Int) < 2600 := by omega
        have h2 : ¬ 2600 + (r : Int) < 0 := by omega
        have h3 : ¬ 9007199254740992 < 2600 + (r : Int) := by omega
        rcases intW_cases w with hi | ⟨a, ha, hi⟩
        · have e : callI (2600 + (r : Int)) (intW w) false false new = (2600 + (m : Int), (m : Int), true) := by unfold callI; rw [hP, hi, if_neg h, e1, e4]; first | rfl | (unfold ownI; simp)
          rw [hi] at e
          simp only [push_cast, Nat.reduceAdd, Nat.reduceSub, Nat.reduceMul, Nat.reduceLT, Nat.reduceLeDiff, Nat.reduceEqDiff, Nat.reduceMod, Nat.reduceDiv, Int.reduceAdd, Int.reduceSub, Int.reduceMul, Int.reduceLT, Int.reduceLE, Int.reduceEq, Int.reduceNeg, Int.reduceToNat, reduceIte, reduceCtorEq, Int.reduceBEq, Int.reduceBNe, Bool.true_beq, Bool.false_beq, Bool.true_bne, Bool.false_bne, Bool.not_true, Bool.not_false, ht, h0, h2, h3, e1, wrap_i64' (show -9223372036854775808 ≤ (r : Int) ∧ (r : Int) ≤ 9223372036854775807 by omega), e2, wrap_i64' (show -9223372036854775808 ≤ (q : Int) ∧ (q : Int) ≤ 9223372036854775807 by omega), e3, wrap_i64' (show -9223372036854775808 ≤ (m : Int) ∧ (m : Int) ≤ 9223372036854775807 by omega), hi, Nat.lt_irrefl, Int.lt_irrefl, wrap_i64' (show -9223372036854775808 ≤ 2600 + (m : Int) ∧ 2600 + (m : Int) ≤ 9223372036854775807 by omega), wrap_i64' (show -9223372036854775808 ≤ (m : Int) ∧ (m : Int) ≤ 9223372036854775807 by omega), Int.add_zero, Int.zero_add, e]
        · by_cases hn : m < a
          · have hn' : (m : Int) < (a : Int) := by omega
            have e : callI (2600 + (r : Int)) (intW w) false false new = (2600 + (m : Int), (m : Int), true) := by unfold callI; rw [hP, hi, if_neg h, e1, e4]; unfold minZ; dsimp only; rw [if_pos rfl, if_pos hn']; first | rfl | (unfold ownI; simp)
            rw [hi] at e
            simp only [push_cast, Nat.reduceAdd, Nat.reduceSub, Nat.reduceMul, Nat.reduceLT, Nat.reduceLeDiff, Nat.reduceEqDiff, Nat.reduceMod, Nat.reduceDiv, Int.reduceAdd, Int.reduceSub, Int.reduceMul, Int.reduceLT, Int.reduceLE, Int.reduceEq, Int.reduceNeg, Int.reduceToNat, reduceIte, reduceCtorEq, Int.reduceBEq, Int.reduceBNe, Bool.true_beq, Bool.false_beq, Bool.true_bne, Bool.false_bne, Bool.not_true, Bool.not_false, ht, h0, h2, h3, e1, wrap_i64' (show -9223372036854775808 ≤ (r : Int) ∧ (r : Int) ≤ 9223372036854775807 by omega), e2, wrap_i64' (show -9223372036854775808 ≤ (q : Int) ∧ (q : Int) ≤ 9223372036854775807 by omega), e3, wrap_i64' (show -9223372036854775808 ≤ (m : Int) ∧ (m : Int) ≤ 9223372036854775807 by omega), hi, hn, wrap_i64' (show -9223372036854775808 ≤ 2600 + (m : Int) ∧ 2600 + (m : Int) ≤ 9223372036854775807 by omega), wrap_i64' (show -9223372036854775808 ≤ (m : Int) ∧ (m : Int) ≤ 9223372036854775807 by omega), Int.add_zero, Int.zero_add, e]
          · have hn' : ¬ (m : Int) < (a : Int) := by omega
            have e : callI (2600 + (r : Int)) (intW w) false false new = (2600 + (a : Int), (a : Int), true) := by unfold callI; rw [hP, hi, if_neg h, e1, e4]; unfold minZ; dsimp only; rw [if_pos rfl, if_neg hn']; first | rfl | (unfold ownI; simp)
            rw [hi] at e
            simp only [push_cast, Nat.reduceAdd, Nat.reduceSub, Nat.reduceMul, Nat.reduceLT, Nat.reduceLeDiff, Nat.reduceEqDiff, Nat.reduceMod, Nat.reduceDiv, Int.reduceAdd, Int.reduceSub, Int.reduceMul, Int.reduceLT, Int.reduceLE, Int.reduceEq, Int.reduceNeg, Int.reduceToNat, reduceIte, reduceCtorEq, Int.reduceBEq, Int.reduceBNe, Bool.true_beq, Bool.false_beq, Bool.true_bne, Bool.false_bne, Bool.not_true, Bool.not_false, ht, h0, h2, h3, e1, wrap_i64' (show -9223372036854775808 ≤ (r : Int) ∧ (r : Int) ≤ 9223372036854775807 by omega), e2, wrap_i64' (show -9223372036854775808 ≤ (q : Int) ∧ (q : Int) ≤ 9223372036854775807 by omega), e3, wrap_i64' (show -9223372036854775808 ≤ (m : Int) ∧ (m : Int) ≤ 9223372036854775807 by omega), hi, hn, wrap_i64' (show -9223372036854775808 ≤ 2600 + (a : Int) ∧ 2600 + (a : Int) ≤ 9223372036854775807 by omega), wrap_i64' (show -9223372036854775808 ≤ (a : Int) ∧ (a : Int) ≤ 9223372036854775807 by omega), Int.add_zero, Int.zero_add, e]
    · cases new
      · skip
        have hP : priceI false true false = 11600 := rfl
        have ht : gtouchI false false = 2600 := rfl
        by_cases h : l < 11600 ∨ 9007199254740992 < l
        · have e : callI l (intW w) false true false = (0, 0, false) := by unfold callI; rw [hP]; exact if_pos h
          rcases Int.lt_or_le l 11600 with h1 | h1
          · simp only [push_cast, Nat.reduceAdd, Nat.reduceSub, Nat.reduceMul, Nat.reduceLT, Nat.reduceLeDiff, Nat.reduceEqDiff, Nat.reduceMod, Nat.reduceDiv, Int.reduceAdd, Int.reduceSub, Int.reduceMul, Int.reduceLT, Int.reduceLE, Int.reduceEq, Int.reduceNeg, Int.reduceToNat, reduceIte, reduceCtorEq, Int.reduceBEq, Int.reduceBNe, Bool.true_beq, Bool.false_beq, Bool.true_bne, Bool.false_bne, Bool.not_true, Bool.not_false, ht, h1, e]
          · have h0 : ¬ l < 11600 := by omega
            have h2 : ¬ l < 0 := by omega
            have h3 : 9007199254740992 < l := by omega
            simp only [push_cast, Nat.reduceAdd, Nat.reduceSub, Nat.reduceMul, Nat.reduceLT, Nat.reduceLeDiff, Nat.reduceEqDiff, Nat.reduceMod, Nat.reduceDiv, Int.reduceAdd, Int.reduceSub, Int.reduceMul, Int.reduceLT, Int.reduceLE, Int.reduceEq, Int.reduceNeg, Int.reduceToNat, reduceIte, reduceCtorEq, Int.reduceBEq, Int.reduceBNe, Bool.true_beq, Bool.false_beq, Bool.true_bne, Bool.false_bne, Bool.not_true, Bool.not_false, ht, h0, h2, h3, e]
        · obtain ⟨r, rfl⟩ : ∃ r : Nat, l = 11600 + (r : Int) := ⟨(l - 11600).toNat, by omega⟩
          have hr : r ≤ 9007199254740992 := by omega
          obtain ⟨m, hm⟩ : ∃ m, m = r - r / 64 := ⟨_, rfl⟩
          obtain ⟨q, hq⟩ : ∃ q, q = r / 64 := ⟨_, rfl⟩
          have e1 : 11600 + (r : Int) - 11600 = (r : Int) := by omega
          have e2 : (r : Int).tdiv 64 = (q : Int) := by rw [hq]; rfl
          have e3 : (r : Int) - (q : Int) = (m : Int) := by omega
          have e4 : (r : Int) - (r : Int) / 64 = (m : Int) := by omega
          have ml : m ≤ 9007199254740992 := by omega
          have h0 : ¬ 11600 + (r : Int) < 11600 := by omega
          have h2 : ¬ 11600 + (r : Int) < 0 := by omega
          have h3 : ¬ 9007199254740992 < 11600 + (r : Int) := by omega
          rcases intW_cases w with hi | ⟨a, ha, hi⟩
          · have e : callI (11600 + (r : Int)) (intW w) false true false = (11600 + (m : Int), 2300 + (m : Int), true) := by unfold callI; rw [hP, hi, if_neg h, e1, e4]; first | rfl | (unfold ownI; simp)
            rw [hi] at e
            simp only [push_cast, Nat.reduceAdd, Nat.reduceSub, Nat.reduceMul, Nat.reduceLT, Nat.reduceLeDiff, Nat.reduceEqDiff, Nat.reduceMod, Nat.reduceDiv, Int.reduceAdd, Int.reduceSub, Int.reduceMul, Int.reduceLT, Int.reduceLE, Int.reduceEq, Int.reduceNeg, Int.reduceToNat, reduceIte, reduceCtorEq, Int.reduceBEq, Int.reduceBNe, Bool.true_beq, Bool.false_beq, Bool.true_bne, Bool.false_bne, Bool.not_true, Bool.not_false, ht, h0, h2, h3, e1, wrap_i64' (show -9223372036854775808 ≤ (r : Int) ∧ (r : Int) ≤ 9223372036854775807 by omega), e2, wrap_i64' (show -9223372036854775808 ≤ (q : Int) ∧ (q : Int) ≤ 9223372036854775807 by omega), e3, wrap_i64' (show -9223372036854775808 ≤ (m : Int) ∧ (m : Int) ≤ 9223372036854775807 by omega), hi, Nat.lt_irrefl, Int.lt_irrefl, wrap_i64' (show -9223372036854775808 ≤ 11600 + (m : Int) ∧ 11600 + (m : Int) ≤ 9223372036854775807 by omega), wrap_i64' (show -9223372036854775808 ≤ 2300 + (m : Int) ∧ 2300 + (m : Int) ≤ 9223372036854775807 by omega), wrap_i64' (show -9223372036854775808 ≤ (m : Int) + 2300 ∧ (m : Int) + 2300 ≤ 9223372036854775807 by omega), Int.add_comm (m : Int) 2300, e]
          · by_cases hn : m < a
            · have hn' : (m : Int) < (a : Int) := by omega
              have e : callI (11600 + (r : Int)) (intW w) false true false = (11600 + (m : Int), 2300 + (m : Int), true) := by unfold callI; rw [hP, hi, if_neg h, e1, e4]; unfold minZ; dsimp only; rw [if_pos rfl, if_pos hn']; first | rfl | (unfold ownI; simp)
              rw [hi] at e
              simp only [push_cast, Nat.reduceAdd, Nat.reduceSub, Nat.reduceMul, Nat.reduceLT, Nat.reduceLeDiff, Nat.reduceEqDiff, Nat.reduceMod, Nat.reduceDiv, Int.reduceAdd, Int.reduceSub, Int.reduceMul, Int.reduceLT, Int.reduceLE, Int.reduceEq, Int.reduceNeg, Int.reduceToNat, reduceIte, reduceCtorEq, Int.reduceBEq, Int.reduceBNe, Bool.true_beq, Bool.false_beq, Bool.true_bne, Bool.false_bne, Bool.not_true, Bool.not_false, ht, h0, h2, h3, e1, wrap_i64' (show -9223372036854775808 ≤ (r : Int) ∧ (r : Int) ≤ 9223372036854775807 by omega), e2, wrap_i64' (show -9223372036854775808 ≤ (q : Int) ∧ (q : Int) ≤ 9223372036854775807 by omega), e3, wrap_i64' (show -9223372036854775808 ≤ (m : Int) ∧ (m : Int) ≤ 9223372036854775807 by omega), hi, hn, wrap_i64' (show -9223372036854775808 ≤ 11600 + (m : Int) ∧ 11600 + (m : Int) ≤ 9223372036854775807 by omega), wrap_i64' (show -9223372036854775808 ≤ 2300 + (m : Int) ∧ 2300 + (m : Int) ≤ 9223372036854775807 by omega), wrap_i64' (show -9223372036854775808 ≤ (m : Int) + 2300 ∧ (m : Int) + 2300 ≤ 9223372036854775807 by omega), Int.add_comm (m : Int) 2300, e]
            · have hn' : ¬ (m : Int) < (a : Int) := by omega
              have e : callI (11600 + (r : Int)) (intW w) false true false = (11600 + (a : Int), 2300 + (a : Int), true) := by unfold callI; rw [hP, hi, if_neg h, e1, e4]; unfold minZ; dsimp only; rw [if_pos rfl, if_neg hn']; first | rfl | (unfold ownI; simp)
              rw [hi] at e
              simp only [push_cast, Nat.reduceAdd, Nat.reduceSub, Nat.reduceMul, Nat.reduceLT, Nat.reduceLeDiff, Nat.reduceEqDiff, Nat.reduceMod, Nat.reduceDiv, Int.reduceAdd, Int.reduceSub, Int.reduceMul, Int.reduceLT, Int.reduceLE, Int.reduceEq, Int.reduceNeg, Int.reduceToNat, reduceIte, reduceCtorEq, Int.reduceBEq, Int.reduceBNe, Bool.true_beq, Bool.false_beq, Bool.true_bne, Bool.false_bne, Bool.not_true, Bool.not_false, ht, h0, h2, h3, e1, wrap_i64' (show -9223372036854775808 ≤ (r : Int) ∧ (r : Int) ≤ 9223372036854775807 by omega), e2, wrap_i64' (show -9223372036854775808 ≤ (q : Int) ∧ (q : Int) ≤ 9223372036854775807 by omega), e3, wrap_i64' (show -9223372036854775808 ≤ (m : Int) ∧ (m : Int) ≤ 9223372036854775807 by omega), hi, hn, wrap_i64' (show -9223372036854775808 ≤ 11600 + (a : Int) ∧ 11600 + (a : Int) ≤ 9223372036854775807 by omega), wrap_i64' (show -9223372036854775808 ≤ 2300 + (a : Int) ∧ 2300 + (a : Int) ≤ 9223372036854775807 by omega), wrap_i64' (show -9223372036854775808 ≤ (a : Int) + 2300 ∧ (a : Int) + 2300 ≤ 9223372036854775807 by omega), Int.add_comm (a : Int) 2300, e]
      · skip
        have hP : priceI false true true = 36600 := rfl
        have ht : gtouchI false false = 2600 := rfl
        by_cases h : l < 36600 ∨ 9007199254740992 < l
        · have e : callI l (intW w) false true true = (0, 0, false) := by unfold callI; rw [hP]; exact if_pos h
          rcases Int.lt_or_le l 36600 with h1 | h1
          · simp only [push_cast, Nat.reduceAdd, Nat.reduceSub, Nat.reduceMul, Nat.reduceLT, Nat.reduceLeDiff, Nat.reduceEqDiff, Nat.reduceMod, Nat.reduceDiv, Int.reduceAdd, Int.reduceSub, Int.reduceMul, Int.reduceLT, Int.reduceLE, Int.reduceEq, Int.reduceNeg, Int.reduceToNat, reduceIte, reduceCtorEq, Int.reduceBEq, Int.reduceBNe, Bool.true_beq, Bool.false_beq, Bool.true_bne, Bool.false_bne, Bool.not_true, Bool.not_false, ht, h1, e]
          · have h0 : ¬ l < 36600 := by omega
            have h2 : ¬ l < 0 := by omega
            have h3 : 9007199254740992 < l := by omega
            simp only [push_cast, Nat.reduceAdd, Nat.reduceSub, Nat.reduceMul, Nat.reduceLT, Nat.reduceLeDiff, Nat.reduceEqDiff, Nat.reduceMod, Nat.reduceDiv, Int.reduceAdd, Int.reduceSub, Int.reduceMul, Int.reduceLT, Int.reduceLE, Int.reduceEq, Int.reduceNeg, Int.reduceToNat, reduceIte, reduceCtorEq, Int.reduceBEq, Int.reduceBNe, Bool.true_beq, Bool.false_beq, Bool.true_bne, Bool.false_bne, Bool.not_true, Bool.not_false, ht, h0, h2, h3, e]
        · obtain ⟨r, rfl⟩ : ∃ r : Nat, l = 36600 + (r : Int) := ⟨(l - 36600).toNat, by omega⟩
          have hr : r ≤ 9007199254740992 := by omega
          obtain ⟨m, hm⟩ : ∃ m, m = r - r / 64 := ⟨_, rfl⟩
          obtain ⟨q, hq⟩ : ∃ q, q = r / 64 := ⟨_, rfl⟩
          have e1 : 36600 + (r : Int) - 36600 = (r : Int) := by omega
          have e2 : (r : Int).tdiv 64 = (q : Int) := by rw [hq]; rfl
          have e3 : (r : Int) - (q : Int) = (m : Int) := by omega
          have e4 : (r : Int) - (r : Int) / 64 = (m : Int) := by omega
          have ml : m ≤ 9007199254740992 := by omega
          have h0 : ¬ 36600 + (r : Int) < 36600 := by omega
          have h2 : ¬ 36600 + (r : Int) < 0 := by omega
          have h3 : ¬ 9007199254740992 < 36600 + (r : Int) := by omega
          rcases intW_cases w with hi | ⟨a, ha, hi⟩
          · have e : callI (36600 + (r : Int)) (intW w) false true true = (36600 + (m : Int), 2300 + (m : Int), true) := by unfold callI; rw [hP, hi, if_neg h, e1, e4]; first | rfl | (unfold ownI; simp)
            rw [hi] at e
            simp only [push_cast, Nat.reduceAdd, Nat.reduceSub, Nat.reduceMul, Nat.reduceLT, Nat.reduceLeDiff, Nat.reduceEqDiff, Nat.reduceMod, Nat.reduceDiv, Int.reduceAdd, Int.reduceSub, Int.reduceMul, Int.reduceLT, Int.reduceLE, Int.reduceEq, Int.reduceNeg, Int.reduceToNat, reduceIte, reduceCtorEq, Int.reduceBEq, Int.reduceBNe, Bool.true_beq, Bool.false_beq, Bool.true_bne, Bool.false_bne, Bool.not_true, Bool.not_false, ht, h0, h2, h3, e1, wrap_i64' (show -9223372036854775808 ≤ (r : Int) ∧ (r : Int) ≤ 9223372036854775807 by omega), e2, wrap_i64' (show -9223372036854775808 ≤ (q : Int) ∧ (q : Int) ≤ 9223372036854775807 by omega), e3, wrap_i64' (show -9223372036854775808 ≤ (m : Int) ∧ (m : Int) ≤ 9223372036854775807 by omega), hi, Nat.lt_irrefl, Int.lt_irrefl, wrap_i64' (show -9223372036854775808 ≤ 36600 + (m : Int) ∧ 36600 + (m : Int) ≤ 9223372036854775807 by omega), wrap_i64' (show -9223372036854775808 ≤ 2300 + (m : Int) ∧ 2300 + (m : Int) ≤ 9223372036854775807 by omega), wrap_i64' (show -9223372036854775808 ≤ (m : Int) + 2300 ∧ (m : Int) + 2300 ≤ 9223372036854775807 by omega), Int.add_comm (m : Int) 2300, e]
          · by_cases hn : m < a
            · have hn' : (m : Int) < (a : Int) := by omega
              have e : callI (36600 + (r : Int)) (intW w) false true true = (36600 + (m : Int), 2300 + (m : Int), true) := by unfold callI; rw [hP, hi, if_neg h, e1, e4]; unfold minZ; dsimp only; rw [if_pos rfl, if_pos hn']; first | rfl | (unfold ownI; simp)
              rw [hi] at e
              simp only [push_cast, Nat.reduceAdd, Nat.reduceSub, Nat.reduceMul, Nat.reduceLT, Nat.reduceLeDiff, Nat.reduceEqDiff, Nat.reduceMod, Nat.reduceDiv, Int.reduceAdd, Int.reduceSub, Int.reduceMul, Int.reduceLT, Int.reduceLE, Int.reduceEq, Int.reduceNeg, Int.reduceToNat, reduceIte, reduceCtorEq, Int.reduceBEq, Int.reduceBNe, Bool.true_beq, Bool.false_beq, Bool.true_bne, Bool.false_bne, Bool.not_true, Bool.not_false, ht, h0, h2, h3, e1, wrap_i64' (show -9223372036854775808 ≤ (r : Int) ∧ (r : Int) ≤ 9223372036854775807 by omega), e2, wrap_i64' (show -9223372036854775808 ≤ (q : Int) ∧ (q : Int) ≤ 9223372036854775807 by omega), e3, wrap_i64' (show -9223372036854775808 ≤ (m : Int) ∧ (m : Int) ≤ 9223372036854775807 by omega), hi, hn, wrap_i64' (show -9223372036854775808 ≤ 36600 + (m : Int) ∧ 36600 + (m : Int) ≤ 9223372036854775807 by omega), wrap_i64' (show -9223372036854775808 ≤ 2300 + (m : Int) ∧ 2300 + (m : Int) ≤ 9223372036854775807 by omega), wrap_i64' (show -9223372036854775808 ≤ (m : Int) + 2300 ∧ (m : Int) + 2300 ≤ 9223372036854775807 by omega), Int.add_comm (m : Int) 2300, e]
            · have hn' : ¬ (m : Int) < (a : Int) := by omega
              have e : callI (36600 + (r : Int)) (intW w) false true true = (36600 + (a : Int), 2300 + (a : Int), true) := by unfold callI; rw [hP, hi, if_neg h, e1, e4]; unfold minZ; dsimp only; rw [if_pos rfl, if_neg hn']; first | rfl | (unfold ownI; simp)
              rw [hi] at e
              simp only [push_cast, Nat.reduceAdd, Nat.reduceSub, Nat.reduceMul, Nat.reduceLT, Nat.reduceLeDiff, Nat.reduceEqDiff, Nat.reduceMod, Nat.reduceDiv, Int.reduceAdd, Int.reduceSub, Int.reduceMul, Int.reduceLT, Int.reduceLE, Int.reduceEq, Int.reduceNeg, Int.reduceToNat, reduceIte, reduceCtorEq, Int.reduceBEq, Int.reduceBNe, Bool.true_beq, Bool.false_beq, Bool.true_bne, Bool.false_bne, Bool.not_true, Bool.not_false, ht, h0, h2, h3, e1, wrap_i64' (show -9223372036854775808 ≤ (r : Int) ∧ (r : Int) ≤ 9223372036854775807 by omega), e2, wrap_i64' (show -9223372036854775808 ≤ (q : Int) ∧ (q : Int) ≤ 9223372036854775807 by omega), e3, wrap_i64' (show -9223372036854775808 ≤ (m : Int) ∧ (m : Int) ≤ 9223372036854775807 by omega), hi, hn, wrap_i64' (show -9223372036854775808 ≤ 36600 + (a : Int) ∧ 36600 + (a : Int) ≤ 9223372036854775807 by omega), wrap_i64' (show -9223372036854775808 ≤ 2300 + (a : Int) ∧ 2300 + (a : Int) ≤ 9223372036854775807 by omega), wrap_i64' (show -9223372036854775808 ≤ (a : Int) + 2300 ∧ (a : Int) + 2300 ≤ 9223372036854775807 by omega), Int.add_comm (a : Int) 2300, e]
  · cases value
    · skip
      have hP : priceI true false new = 100 := rfl
      have ht : gtouchI false true = 100 := rfl
      by_cases h : l < 100 ∨ 9007199254740992 < l
      · have e : callI l (intW w) true false new = (0, 0, false) := by unfold callI; rw [hP]; exact if_pos h
        rcases Int.lt_or_le l 100 with h1 | h1
        · simp only [push_cast, Nat.reduceAdd, Nat.reduceSub, Nat.reduceMul, Nat.reduceLT, Nat.reduceLeDiff, Nat.reduceEqDiff, Nat.reduceMod, Nat.reduceDiv, Int.reduceAdd, Int.reduceSub, Int.reduceMul, Int.reduceLT, Int.reduceLE, Int.reduceEq, Int.reduceNeg, Int.reduceToNat, reduceIte, reduceCtorEq, Int.reduceBEq, Int.reduceBNe, Bool.true_beq, Bool.false_beq, Bool.true_bne, Bool.false_bne, Bool.not_true, Bool.not_false, ht, h1, e]
        · have h0 : ¬ l < 100 := by omega
          have h2 : ¬ l < 0 := by omega
          have h3 : 9007199254740992 < l := by omega
          simp only [push_cast, Nat.reduceAdd, Nat.reduceSub, Nat.reduceMul, Nat.reduceLT, Nat.reduceLeDiff, Nat.reduceEqDiff, Nat.reduceMod, Nat.reduceDiv, Int.reduceAdd, Int.reduceSub, Int.reduceMul, Int.reduceLT, Int.reduceLE, Int.reduceEq, Int.reduceNeg, Int.reduceToNat, reduceIte, reduceCtorEq, Int.reduceBEq, Int.reduceBNe, Bool.true_beq, Bool.false_beq, Bool.true_bne, Bool.false_bne, Bool.not_true, Bool.not_false, ht, h0, h2, h3, e]
      · obtain ⟨r, rfl⟩ : ∃ r : Nat, l = 100 + (r : Int) := ⟨(l - 100).toNat, by omega⟩
        have hr : r ≤ 9007199254740992 := by omega
        obtain ⟨m, hm⟩ : ∃ m, m = r - r / 64 := ⟨_, rfl⟩
        obtain ⟨q, hq⟩ : ∃ q, q = r / 64 := ⟨_, rfl⟩
        have e1 : 100 + (r : Int) - 100 = (r : Int) := by omega
        have e2 : (r : Int).tdiv 64 = (q : Int) := by rw [hq]; rfl
        have e3 : (r : Int) - (q : Int) = (m : Int) := by omega
        have e4 : (r : Int) - (r : Int) / 64 = (m : Int) := by omega
        have ml : m ≤ 9007199254740992 := by omega
        have h0 : ¬ 100 + (r : Int) < 100 := by omega
        have h2 : ¬ 100 + (r : Int) < 0 := by omega
        have h3 : ¬ 9007199254740992 < 100 + (r : Int) := by omega
        rcases intW_cases w with hi | ⟨a, ha, hi⟩
        · have e : callI (100 + (r : Int)) (intW w) true false new = (100 + (m : Int), (m : Int), true) := by unfold callI; rw [hP, hi, if_neg h, e1, e4]; first | rfl | (unfold ownI; simp)
          rw [hi] at e
          simp only [push_cast, Nat.reduceAdd, Nat.reduceSub, Nat.reduceMul, Nat.reduceLT, Nat.reduceLeDiff, Nat.reduceEqDiff, Nat.reduceMod, Nat.reduceDiv, Int.reduceAdd, Int.reduceSub, Int.reduceMul, Int.reduceLT, Int.reduceLE, Int.reduceEq, Int.reduceNeg, Int.reduceToNat, reduceIte, reduceCtorEq, Int.reduceBEq, Int.reduceBNe, Bool.true_beq, Bool.false_beq, Bool.true_bne, Bool.false_bne, Bool.not_true, Bool.not_false, ht, h0, h2, h3, e1, wrap_i64' (show -9223372036854775808 ≤ (r : Int) ∧ (r : Int) ≤ 9223372036854775807 by omega), e2, wrap_i64' (show -9223372036854775808 ≤ (q : Int) ∧ (q : Int) ≤ 9223372036854775807 by omega), e3, wrap_i64' (show -9223372036854775808 ≤ (m : Int) ∧ (m : Int) ≤ 9223372036854775807 by omega), hi, Nat.lt_irrefl, Int.lt_irrefl, wrap_i64' (show -9223372036854775808 ≤ 100 + (m : Int) ∧ 100 + (m : Int) ≤ 9223372036854775807 by omega), wrap_i64' (show -9223372036854775808 ≤ (m : Int) ∧ (m : Int) ≤ 9223372036854775807 by omega), Int.add_zero, Int.zero_add, e]
        · by_cases hn : m < a
          · have hn' : (m : Int) < (a : Int) := by omega
            have e : callI (100 + (r : Int)) (intW w) true false new = (100 + (m : Int), (m : Int), true) := by unfold callI; rw [hP, hi, if_neg h, e1, e4]; unfold minZ; dsimp only; rw [if_pos rfl, if_pos hn']; first | rfl | (unfold ownI; simp)
            rw [hi] at e
            simp only [push_cast, Nat.reduceAdd, Nat.reduceSub, Nat.reduceMul, Nat.reduceLT, Nat.reduceLeDiff, Nat.reduceEqDiff, Nat.reduceMod, Nat.reduceDiv, Int.reduceAdd, Int.reduceSub, Int.reduceMul, Int.reduceLT, Int.reduceLE, Int.reduceEq, Int.reduceNeg, Int.reduceToNat, reduceIte, reduceCtorEq, Int.reduceBEq, Int.reduceBNe, Bool.true_beq, Bool.false_beq, Bool.true_bne, Bool.false_bne, Bool.not_true, Bool.not_false, ht, h0, h2, h3, e1, wrap_i64' (show -9223372036854775808 ≤ (r : Int) ∧ (r : Int) ≤ 9223372036854775807 by omega), e2, wrap_i64' (show -9223372036854775808 ≤ (q : Int) ∧ (q : Int) ≤ 9223372036854775807 by omega), e3, wrap_i64' (show -9223372036854775808 ≤ (m : Int) ∧ (m : Int) ≤ 9223372036854775807 by omega), hi, hn, wrap_i64' (show -9223372036854775808 ≤ 100 + (m : Int) ∧ 100 + (m : Int) ≤ 9223372036854775807 by omega), wrap_i64' (show -9223372036854775808 ≤ (m : Int) ∧ (m : Int) ≤ 9223372036854775807 by omega), Int.add_zero, Int.zero_add, e]
          · have hn' : ¬ (m : Int) < (a : Int) := by omega
            have e : callI (100 + (r : Int)) (intW w) true false new = (100 + (a : Int), (a : Int), true) := by unfold callI; rw [hP, hi, if_neg h, e1, e4]; unfold minZ; dsimp only; rw [if_pos rfl, if_neg hn']; first | rfl | (unfold ownI; simp)
            rw [hi] at e
            simp only [push_cast, Nat.reduceAdd, Nat.reduceSub, Nat.reduceMul, Nat.reduceLT, Nat.reduceLeDiff, Nat.reduceEqDiff, Nat.reduceMod, Nat.reduceDiv, Int.reduceAdd, Int.reduceSub, Int.reduceMul, Int.reduceLT, Int.reduceLE, Int.reduceEq, Int.reduceNeg, Int.reduceToNat, reduceIte, reduceCtorEq, Int.reduceBEq, Int.reduceBNe, Bool.true_beq, Bool.false_beq, Bool.true_bne, Bool.false_bne, Bool.not_true, Bool.not_false, ht, h0, h2, h3, e1, wrap_i64' (show -9223372036854775808 ≤ (r : Int) ∧ (r : Int) ≤ 9223372036854775807 by omega), e2, wrap_i64' (show -9223372036854775808 ≤ (q : Int) ∧ (q : Int) ≤ 9223372036854775807 by omega), e3, wrap_i64' (show -9223372036854775808 ≤ (m : Int) ∧ (m : Int) ≤ 9223372036854775807 by omega), hi, hn, wrap_i64' (show -9223372036854775808 ≤ 100 + (a : Int) ∧ 100 + (a : Int) ≤ 9223372036854775807 by omega), wrap_i64' (show -9223372036854775808 ≤ (a : Int) ∧ (a : Int) ≤ 9223372036854775807 by omega), Int.add_zero, Int.zero_add, e]
    · cases new
      · skip
        have hP : priceI true true false = 9100 := rfl
        have ht : gtouchI false true = 100 := rfl
        by_cases h : l < 9100 ∨ 9007199254740992 < l
        · have e : callI l (intW w) true true false = (0, 0, false) := by unfold callI; rw [hP]; exact if_pos h
          rcases Int.lt_or_le l 9100 with h1 | h1
          · simp only [push_cast, Nat.reduceAdd, Nat.reduceSub, Nat.reduceMul, Nat.reduceLT, Nat.reduceLeDiff, Nat.reduceEqDiff, Nat.reduceMod, Nat.reduceDiv, Int.reduceAdd, Int.reduceSub, Int.reduceMul, Int.reduceLT, Int.reduceLE, Int.reduceEq, Int.reduceNeg, Int.reduceToNat, reduceIte, reduceCtorEq, Int.reduceBEq, Int.reduceBNe, Bool.true_beq, Bool.false_beq, Bool.true_bne, Bool.false_bne, Bool.not_true, Bool.not_false, ht, h1, e]
          · have h0 : ¬ l < 9100 := by omega
            have h2 : ¬ l < 0 := by omega
            have h3 : 9007199254740992 < l := by omega
            simp only [push_cast, Nat.reduceAdd, Nat.reduceSub, Nat.reduceMul, Nat.reduceLT, Nat.reduceLeDiff, Nat.reduceEqDiff, Nat.reduceMod, Nat.reduceDiv, Int.reduceAdd, Int.reduceSub, Int.reduceMul, Int.reduceLT, Int.reduceLE, Int.reduceEq, Int.reduceNeg, Int.reduceToNat, reduceIte, reduceCtorEq, Int.reduceBEq, Int.reduceBNe, Bool.true_beq, Bool.false_beq, Bool.true_bne, Bool.false_bne, Bool.not_true, Bool.not_false, ht, h0, h2, h3, e]
        · obtain ⟨r, rfl⟩ : ∃ r : Nat, l = 9100 + (r : Int) := ⟨(l - 9100).toNat, by omega⟩
          have hr : r ≤ 9007199254740992 := by omega
          obtain ⟨m, hm⟩ : ∃ m, m = r - r / 64 := ⟨_, rfl⟩
          obtain ⟨q, hq⟩ : ∃ q, q = r / 64 := ⟨_, rfl⟩
          have e1 : 9100 + (r : Int) - 9100 = (r : Int) := by omega
          have e2 : (r : Int).tdiv 64 = (q : Int) := by rw [hq]; rfl
          have e3 : (r : Int) - (q : Int) = (m : Int) := by omega
          have e4 : (r : Int) - (r : Int) / 64 = (m : Int) := by omega
          have ml : m ≤ 9007199254740992 := by omega
          have h0 : ¬ 9100 + (r : Int) < 9100 := by omega
          have h2 : ¬ 9100 + (r : Int) < 0 := by omega
          have h3 : ¬ 9007199254740992 < 9100 + (r : Int) := by omega
          rcases intW_cases w with hi | ⟨a, ha, hi⟩
          · have e : callI (9100 + (r : Int)) (intW w) true true false = (9100 + (m : Int), 2300 + (m : Int), true) := by unfold callI; rw [hP, hi, if_neg h, e1, e4]; first | rfl | (unfold ownI; simp)
            rw [hi] at e
            simp only [push_cast, Nat.reduceAdd, Nat.reduceSub, Nat.reduceMul, Nat.reduceLT, Nat.reduceLeDiff, Nat.reduceEqDiff, Nat.reduceMod, Nat.reduceDiv, Int.reduceAdd, Int.reduceSub, Int.reduceMul, Int.reduceLT, Int.reduceLE, Int.reduceEq, Int.reduceNeg, Int.reduceToNat, reduceIte, reduceCtorEq, Int.reduceBEq, Int.reduceBNe, Bool.true_beq, Bool.false_beq, Bool.true_bne, Bool.false_bne, Bool.not_true, Bool.not_false, ht, h0, h2, h3, e1, wrap_i64' (show -9223372036854775808 ≤ (r : Int) ∧ (r : Int) ≤ 9223372036854775807 by omega), e2, wrap_i64' (show -9223372036854775808 ≤ (q : Int) ∧ (q : Int) ≤ 9223372036854775807 by omega), e3, wrap_i64' (show -9223372036854775808 ≤ (m : Int) ∧ (m : Int) ≤ 9223372036854775807 by omega), hi, Nat.lt_irrefl, Int.lt_irrefl, wrap_i64' (show -9223372036854775808 ≤ 9100 + (m : Int) ∧ 9100 + (m : Int) ≤ 9223372036854775807 by omega), wrap_i64' (show -9223372036854775808 ≤ 2300 + (m : Int) ∧ 2300 + (m : Int) ≤ 9223372036854775807 by omega), wrap_i64' (show -9223372036854775808 ≤ (m : Int) + 2300 ∧ (m : Int) + 2300 ≤ 9223372036854775807 by omega), Int.add_comm (m : Int) 2300, e]
          · by_cases hn : m < a
            · have hn' : (m : Int) < (a : Int) := by omega
              have e : callI (9100 + (r : Int)) (intW w) true true false = (9100 + (m : Int), 2300 + (m : Int), true) := by unfold callI; rw [hP, hi, if_neg h, e1, e4]; unfold minZ; dsimp only; rw [if_pos rfl, if_pos hn']; first | rfl | (unfold ownI; simp)
              rw [hi] at e
              simp only [push_cast, Nat.reduceAdd, Nat.reduceSub, Nat.reduceMul, Nat.reduceLT, Nat.reduceLeDiff, Nat.reduceEqDiff, Nat.reduceMod, Nat.reduceDiv, Int.reduceAdd, Int.reduceSub, Int.reduceMul, Int.reduceLT, Int.reduceLE, Int.reduceEq, Int.reduceNeg, Int.reduceToNat, reduceIte, reduceCtorEq, Int.reduceBEq, Int.reduceBNe, Bool.true_beq, Bool.false_beq, Bool.true_bne, Bool.false_bne, Bool.not_true, Bool.not_false, ht, h0, h2, h3, e1, wrap_i64' (show -9223372036854775808 ≤ (r : Int) ∧ (r : Int) ≤ 9223372036854775807 by omega), e2, wrap_i64' (show -9223372036854775808 ≤ (q : Int) ∧ (q : Int) ≤ 9223372036854775807 by omega), e3, wrap_i64' (show -9223372036854775808 ≤ (m : Int) ∧ (m : Int) ≤ 9223372036854775807 by omega), hi, hn, wrap_i64' (show -9223372036854775808 ≤ 9100 + (m : Int) ∧ 9100 + (m : Int) ≤ 9223372036854775807 by omega), wrap_i64' (show -9223372036854775808 ≤ 2300 + (m : Int) ∧ 2300 + (m : Int) ≤ 9223372036854775807 by omega), wrap_i64' (show -9223372036854775808 ≤ (m : Int) + 2300 ∧ (m : Int) + 2300 ≤ 9223372036854775807 by omega), Int.add_comm (m : Int) 2300, e]
            · have hn' : ¬ (m : Int) < (a : Int) := by omega
              have e : callI (9100 + (r : Int)) (intW w) true true false = (9100 + (a : Int), 2300 + (a : Int), true) := by unfold callI; rw [hP, hi, if_neg h, e1, e4]; unfold minZ; dsimp only; rw [if_pos rfl, if_neg hn']; first | rfl | (unfold ownI; simp)
              rw [hi] at e
              simp only [push_cast, Nat.reduceAdd, Nat.reduceSub, Nat.reduceMul, Nat.reduceLT, Nat.reduceLeDiff, Nat.reduceEqDiff, Nat.reduceMod, Nat.reduceDiv, Int.reduceAdd, Int.reduceSub, Int.reduceMul, Int.reduceLT, Int.reduceLE, Int.reduceEq, Int.reduceNeg, Int.reduceToNat, reduceIte, reduceCtorEq, Int.reduceBEq, Int.reduceBNe, Bool.true_beq, Bool.false_beq, Bool.true_bne, Bool.false_bne, Bool.not_true, Bool.not_false, ht, h0, h2, h3, e1, wrap_i64' (show -9223372036854775808 ≤ (r : Int) ∧ (r : Int) ≤ 9223372036854775807 by omega), e2, wrap_i64' (show -9223372036854775808 ≤ (q : Int) ∧ (q : Int) ≤ 9223372036854775807 by omega), e3, wrap_i64' (show -9223372036854775808 ≤ (m : Int) ∧ (m : Int) ≤ 9223372036854775807 by omega), hi, hn, wrap_i64' (show -9223372036854775808 ≤ 9100 + (a : Int) ∧ 9100 + (a : Int) ≤ 9223372036854775807 by omega), wrap_i64' (show -9223372036854775808 ≤ 2300 + (a : Int) ∧ 2300 + (a : Int) ≤ 9223372036854775807 by omega), wrap_i64' (show -9223372036854775808 ≤ (a : Int) + 2300 ∧ (a : Int) + 2300 ≤ 9223372036854775807 by omega), Int.add_comm (a : Int) 2300, e]
      · skip
        have hP : priceI true true true = 34100 := rfl
        have ht : gtouchI false true = 100 := rfl
        by_cases h : l < 34100 ∨ 9007199254740992 < l
        · have e : callI l (intW w) true true true = (0, 0, false) := by unfold callI; rw [hP]; exact if_pos h
          rcases Int.lt_or_le l 34100 with h1 | h1
          · simp only [push_cast, Nat.reduceAdd, Nat.reduceSub, Nat.reduceMul, Nat.reduceLT, Nat.reduceLeDiff, Nat.reduceEqDiff, Nat.reduceMod, Nat.reduceDiv, Int.reduceAdd, Int.reduceSub, Int.reduceMul, Int.reduceLT, Int.reduceLE, Int.reduceEq, Int.reduceNeg, Int.reduceToNat, reduceIte, reduceCtorEq, Int.reduceBEq, Int.reduceBNe, Bool.true_beq, Bool.false_beq, Bool.true_bne, Bool.false_bne, Bool.not_true, Bool.not_false, ht, h1, e]
          · have h0 : ¬ l < 34100 := by omega
            have h2 : ¬ l < 0 := by omega
            have h3 : 9007199254740992 < l := by omega
            simp only [push_cast, Nat.reduceAdd, Nat.reduceSub, Nat.reduceMul, Nat.reduceLT, Nat.reduceLeDiff, Nat.reduceEqDiff, Nat.reduceMod, Nat.reduceDiv, Int.reduceAdd, Int.reduceSub, Int.reduceMul, Int.reduceLT, Int.reduceLE, Int.reduceEq, Int.reduceNeg, Int.reduceToNat, reduceIte, reduceCtorEq, Int.reduceBEq, Int.reduceBNe, Bool.true_beq, Bool.false_beq, Bool.true_bne, Bool.false_bne, Bool.not_true, Bool.not_false, ht, h0, h2, h3, e]
        · obtain ⟨r, rfl⟩ : ∃ r : Nat, l = 34100 + (r : Int) := ⟨(l - 34100).toNat, by omega⟩
          have hr : r ≤ 9007199254740992 := by omega
          obtain ⟨m, hm⟩ : ∃ m, m = r - r / 64 := ⟨_, rfl⟩
          obtain ⟨q, hq⟩ : ∃ q, q = r / 64 := ⟨_, rfl⟩
          have e1 : 34100 + (r : Int) - 34100 = (r : Int) := by omega
          have e2 : (r : Int).tdiv 64 = (q : Int) := by rw [hq]; rfl
          have e3 : (r : Int) - (q : Int) = (m : Int) := by omega
          have e4 : (r : Int) - (r : Int) / 64 = (m : Int) := by omega
          have ml : m ≤ 9007199254740992 := by omega
          have h0 : ¬ 34100 + (r : Int) < 34100 := by omega
          have h2 : ¬ 34100 + (r : Int) < 0 := by omega
          have h3 : ¬ 9007199254740992 < 34100 + (r : Int) := by omega
          rcases intW_cases w with hi | ⟨a, ha, hi⟩
          · have e : callI (34100 + (r : Int)) (intW w) true true true = (34100 + (m : Int), 2300 + (m : Int), true) := by unfold callI; rw [hP, hi, if_neg h, e1, e4]; first | rfl | (unfold ownI; simp)
            rw [hi] at e
            simp only [push_cast, Nat.reduceAdd, Nat.reduceSub, Nat.reduceMul, Nat.reduceLT, Nat.reduceLeDiff, Nat.reduceEqDiff, Nat.reduceMod, Nat.reduceDiv, Int.reduceAdd, Int.reduceSub, Int.reduceMul, Int.reduceLT, Int.reduceLE, Int.reduceEq, Int.reduceNeg, Int.reduceToNat, reduceIte, reduceCtorEq, Int.reduceBEq, Int.reduceBNe, Bool.true_beq, Bool.false_beq, Bool.true_bne, Bool.false_bne, Bool.not_true, Bool.not_false, ht, h0, h2, h3, e1, wrap_i64' (show -9223372036854775808 ≤ (r : Int) ∧ (r : Int) ≤ 9223372036854775807 by omega), e2, wrap_i64' (show -9223372036854775808 ≤ (q : Int) ∧ (q : Int) ≤ 9223372036854775807 by omega), e3, wrap_i64' (show -9223372036854775808 ≤ (m : Int) ∧ (m : Int) ≤ 9223372036854775807 by omega), hi, Nat.lt_irrefl, Int.lt_irrefl, wrap_i64' (show -9223372036854775808 ≤ 34100 + (m : Int) ∧ 34100 + (m : Int) ≤ 9223372036854775807 by omega), wrap_i64' (show -9223372036854775808 ≤ 2300 + (m : Int) ∧ 2300 + (m : Int) ≤ 9223372036854775807 by omega), wrap_i64' (show -9223372036854775808 ≤ (m : Int) + 2300 ∧ (m : Int) + 2300 ≤ 9223372036854775807 by omega), Int.add_comm (m : Int) 2300, e]
          · by_cases hn : m < a
            · have hn' : (m : Int) < (a : Int) := by omega
              have e : callI (34100 + (r : Int)) (intW w) true true true = (34100 + (m : Int), 2300 + (m : Int), true) := by unfold callI; rw [hP, hi, if_neg h, e1, e4]; unfold minZ; dsimp only; rw [if_pos rfl, if_pos hn']; first | rfl | (unfold ownI; simp)
              rw [hi] at e
              simp only [push_cast, Nat.reduceAdd, Nat.reduceSub, Nat.reduceMul, Nat.reduceLT, Nat.reduceLeDiff, Nat.reduceEqDiff, Nat.reduceMod, Nat.reduceDiv, Int.reduceAdd, Int.reduceSub, Int.reduceMul, Int.reduceLT, Int.reduceLE, Int.reduceEq, Int.reduceNeg, Int.reduceToNat, reduceIte, reduceCtorEq, Int.reduceBEq, Int.reduceBNe, Bool.true_beq, Bool.false_beq, Bool.true_bne, Bool.false_bne, Bool.not_true, Bool.not_false, ht, h0, h2, h3, e1, wrap_i64' (show -9223372036854775808 ≤ (r : Int) ∧ (r : Int) ≤ 9223372036854775807 by omega), e2, wrap_i64' (show -9223372036854775808 ≤ (q : Int) ∧ (q : Int) ≤ 9223372036854775807 by omega), e3, wrap_i64' (show -9223372036854775808 ≤ (m : Int) ∧ (m : Int) ≤ 9223372036854775807 by omega), hi, hn, wrap_i64' (show -9223372036854775808 ≤ 34100 + (m : Int) ∧ 34100 + (m : Int) ≤ 9223372036854775807 by omega), wrap_i64' (show -9223372036854775808 ≤ 2300 + (m : Int) ∧ 2300 + (m : Int) ≤ 9223372036854775807 by omega), wrap_i64' (show -9223372036854775808 ≤ (m : Int) + 2300 ∧ (m : Int) + 2300 ≤ 9223372036854775807 by omega), Int.add_comm (m : Int) 2300, e]
            · have hn' : ¬ (m : Int) < (a : Int) := by omega
              have e : callI (34100 + (r : Int)) (intW w) true true true = (34100 + (a : Int), 2300 + (a : Int), true) := by unfold callI; rw [hP, hi, if_neg h, e1, e4]; unfold minZ; dsimp only; rw [if_pos rfl, if_neg hn']; first | rfl | (unfold ownI; simp)
              rw [hi] at e
              simp only [push_cast, Nat.reduceAdd, Nat.reduceSub, Nat.reduceMul, Nat.reduceLT, Nat.reduceLeDiff, Nat.reduceEqDiff, Nat.reduceMod, Nat.reduceDiv, Int.reduceAdd, Int.reduceSub, Int.reduceMul, Int.reduceLT, Int.reduceLE, Int.reduceEq, Int.reduceNeg, Int.reduceToNat, reduceIte, reduceCtorEq, Int.reduceBEq, Int.reduceBNe, Bool.true_beq, Bool.false_beq, Bool.true_bne, Bool.false_bne, Bool.not_true, Bool.not_false, ht, h0, h2, h3, e1, wrap_i64' (show -9223372036854775808 ≤ (r : Int) ∧ (r : Int) ≤ 9223372036854775807 by omega), e2, wrap_i64' (show -9223372036854775808 ≤ (q : Int) ∧ (q : Int) ≤ 9223372036854775807 by omega), e3, wrap_i64' (show -9223372036854775808 ≤ (m : Int) ∧ (m : Int) ≤ 9223372036854775807 by omega), hi, hn, wrap_i64' (show -9223372036854775808 ≤ 34100 + (a : Int) ∧ 34100 + (a : Int) ≤ 9223372036854775807 by omega), wrap_i64' (show -9223372036854775808 ≤ 2300 + (a : Int) ∧ 2300 + (a : Int) ≤ 9223372036854775807 by omega), wrap_i64' (show -9223372036854775808 ≤ (a : Int) + 2300 ∧ (a : Int) + 2300 ≤ 9223372036854775807 by omega), Int.add_comm (a : Int) 2300, e]
theorem gcallG_ok (args : List Value) (v : Value) (h : callG5 args = some v) : CallsV Tryd.prog 24 args [] (Ret0 v) := by
  obtain ⟨l, w, a, b, c, hl, rfl, rfl⟩ := callG5_some h
  exact gcall_ok l w a b c hl
theorem rcallG_ok (args : List Value) (v : Value) (h : callG5 args = some v) : CallsV Tryd.prog 25 args [] (Ret0 v) := by
  obtain ⟨l, w, a, b, c, hl, rfl, rfl⟩ := callG5_some h
  exact rcall_ok l w a b c hl
end Go.Proofs.YtfioapldbajpmaaDoor
