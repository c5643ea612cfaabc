/- Gj: the table of all functions of chapter 15; awake. -/
import Derived.Test.YtfioapldbajpmaaDoorGi
import Derived.Test.YtfioapldbajpmaaDoorWl
set_option linter.unusedSimpArgs false
set_option linter.unusedVariables false
namespace Go.Ev
theorem l_append5 {α : Type} (a b : List α) : List.append a b = a ++ b := rfl
attribute [push_cast] l_append5
def w15M : W := ⟨18446744073709551615, 18446744073709551615, 18446744073709551615, 18446744073709551615, by decide, by decide, by decide, by decide⟩
theorem a15_0 : ofW 0 = W.zero := by rw [ofW_eq]; rfl
theorem a15_m : ofW (-1) = w15M := by rw [ofW_eq]; rfl
theorem a15_num1 : (ofW 1).num = 1 := of_nat 1 (by decide)
theorem a15_1z : decide (ofW 1 = W.zero) = false := decide_eq_false fun h => by
  have := congrArg W.num h
  rw [a15_num1] at this
  exact absurd this (by decide)
theorem a15_z1 : decide (W.zero = ofW 1) = false := decide_eq_false fun h => by
  have := congrArg W.num h
  rw [a15_num1] at this
  exact absurd this (by decide)
theorem a15_s1 : storeP W.zero W.zero (ofW 1) true = (20000, 0) := by
  rw [storeP_eq, a15_1z, a15_z1, decide_eq_true (rfl : W.zero = W.zero)]; rfl
theorem a15_s2 : storeP W.zero (ofW 1) W.zero true = (100, 19900) := by
  rw [storeP_eq, a15_1z, a15_z1, decide_eq_true (rfl : W.zero = W.zero)]; rfl
theorem a15_c1 : callP 6500 w15M true false false = (6400, 6300, true) := by
  rw [callP_eq, show intW w15M = (0, false) by rw [intW_eq, if_neg (by decide)]]; rfl
theorem a15_c2 : callP 99 (ofW 1) true false false = (0, 0, false) := by
  rw [callP_eq]; rfl
theorem a15_e : gexpI (ofW 256) = 100 := by
  rw [gexpI_eq, wbytes_eq, show (ofW 256).num = 256 from of_nat 256 (by decide)]; simp only [digN_eq]; decide +kernel
theorem a15_w33 : gwordsI 33 = 2 := by rw [gwordsI_eq, show gmanyI 33 = 33 from gmanyI_in (n := 33) (by decide)]
theorem a15_w1 : gwordsI 1 = 1 := by rw [gwordsI_eq, show gmanyI 1 = 1 from gmanyI_in (n := 1) (by decide)]
theorem a15_m5 : gmanyI 5 = 5 := gmanyI_in (n := 5) (by decide)
theorem a15_i : ginitI 32 true = 8 := by rw [ginitI_eq, gwordsI_eq, show gmanyI 32 = 32 from gmanyI_in (n := 32) (by decide)]; rfl
theorem a15_t : gtouchI true false = 2100 := rfl
theorem a15_st : startI [0, 97] true = 53022 := by
  rw [startI_eq, ginitI_eq, gwordsI_eq, show (([0, 97] : List UInt8).length : Int) = ((2 : Nat) : Int) from rfl, gmanyI_in (n := 2) (by decide)]; rfl
theorem a15_b : gbackI 100 50 = 20 := by rw [gbackI_eq]; rfl
theorem CallsV.onto {P : Program} {g : FuncId} {args : List Value} {v : Value} {H : Hp} (hc : CallsV P g args [] (Ret0 v)) (hm : marksOf H = []) : CallsV P g args H (Ret0 v) := by
  refine ⟨hc.1, fun w0 mu w hs => ?_⟩
  rw [hm]
  exact hc.2 w0 mu w (hs.weak (List.nil_sublist H))
def keyZ : KeyT := ⟨List.replicate 20 0, false, W.zero, rfl⟩
theorem a15_d : declI [keyZ] [] = 2400 := by rw [declI_eq]; rfl
end Go.Ev
namespace Go.Proofs.YtfioapldbajpmaaDoor
open Go Go.Ev Go.Proofs
set_option maxRecDepth 100000
set_option maxHeartbeats 4000000
noncomputable def gQ1 : Gam := (addG 10 pickG (addG 23 ofG (addG 32 startG (addG 31 startG (addG 25 callG5 (addG 24 callG5 (addG 28 gexpG (addG 27 gexpG (addG 22 storeG5 (addG 21 storeG5 gG4))))))))))
attribute [push_cast] gQ1
theorem gQ1_ok : GamOk Tryd.prog gQ1 := (addG_ok pickG_ok (addG_ok ofG_ok (addG_ok rstartG_ok (addG_ok gstartG_ok (addG_ok rcallG_ok (addG_ok gcallG_ok (addG_ok rexpG_ok (addG_ok gexpG_ok (addG_ok rstoreG5_ok (addG_ok gstoreG_ok gG4_ok))))))))))
def plA : Plans := fun i => if i = 2 then [(0, 9)] else if i = 3 then [(0, 9)] else if i = 4 then [(0, 9)] else if i = 5 then [(0, 9)] else if i = 6 then [(0, 9)] else Tryd.pl9 i
attribute [push_cast] plA
theorem awake_ok : CallsV Tryd.prog 9 [] [] (Ret0 (.bool true)) := by
  have j0 : i64B (-1) = true := i64B_in (by decide)
  have j1 : i64B 1 = true := i64B_in (by decide)
  have j2 : i64B 0 = true := i64B_in (by decide)
  have j3 : i64B 256 = true := i64B_in (by decide)
  have j4 : i64B 6500 = true := i64B_in (by decide)
  have j5 : i64B 99 = true := i64B_in (by decide)
  have j6 : i64B 100 = true := i64B_in (by decide)
  refine callsO gQ1_ok Tryd.mix plA Tryd.func9 rfl Tryd.ntmps9 Tryd.results9 rfl (by first | rfl | assumption) (Nat.le_of_ble_eq_true rfl) (by kernel_rfl) ?_
  simp only [push_cast, Nat.reduceAdd, Nat.reduceSub, Nat.reduceMul, Nat.reduceLT, Nat.reduceLeDiff, Nat.reduceEqDiff, Nat.reduceMod, Nat.reduceDiv, Int.reduceAdd, Int.reduceSub, Int.reduceMul, Int.reduceLT, Int.reduceLE, Int.reduceEq, Int.reduceNeg, Int.reduceToNat, reduceIte, reduceCtorEq, Int.reduceBEq, Int.reduceBNe, Bool.true_beq, Bool.false_beq, Bool.true_bne, Bool.false_bne, Bool.not_true, Bool.not_false]
  refine regO gQ1_ok ?_
  simp only [push_cast, Nat.reduceAdd, Nat.reduceSub, Nat.reduceMul, Nat.reduceLT, Nat.reduceLeDiff, Nat.reduceEqDiff, Nat.reduceMod, Nat.reduceDiv, Int.reduceAdd, Int.reduceSub, Int.reduceMul, Int.reduceLT, Int.reduceLE, Int.reduceEq, Int.reduceNeg, Int.reduceToNat, reduceIte, reduceCtorEq, Int.reduceBEq, Int.reduceBNe, Bool.true_beq, Bool.false_beq, Bool.true_bne, Bool.false_bne, Bool.not_true, Bool.not_false, j0, j1, j2, a15_0, a15_s1]
  refine regO gQ1_ok ?_
  simp only [push_cast, Nat.reduceAdd, Nat.reduceSub, Nat.reduceMul, Nat.reduceLT, Nat.reduceLeDiff, Nat.reduceEqDiff, Nat.reduceMod, Nat.reduceDiv, Int.reduceAdd, Int.reduceSub, Int.reduceMul, Int.reduceLT, Int.reduceLE, Int.reduceEq, Int.reduceNeg, Int.reduceToNat, reduceIte, reduceCtorEq, Int.reduceBEq, Int.reduceBNe, Bool.true_beq, Bool.false_beq, Bool.true_bne, Bool.false_bne, Bool.not_true, Bool.not_false, j0, j1, j2, a15_0, a15_s2]
  refine regO gQ1_ok ?_
  simp only [push_cast, Nat.reduceAdd, Nat.reduceSub, Nat.reduceMul, Nat.reduceLT, Nat.reduceLeDiff, Nat.reduceEqDiff, Nat.reduceMod, Nat.reduceDiv, Int.reduceAdd, Int.reduceSub, Int.reduceMul, Int.reduceLT, Int.reduceLE, Int.reduceEq, Int.reduceNeg, Int.reduceToNat, reduceIte, reduceCtorEq, Int.reduceBEq, Int.reduceBNe, Bool.true_beq, Bool.false_beq, Bool.true_bne, Bool.false_bne, Bool.not_true, Bool.not_false, j0, j1, j2, j4, a15_m, a15_c1]
  refine regO gQ1_ok ?_
  simp only [push_cast, Nat.reduceAdd, Nat.reduceSub, Nat.reduceMul, Nat.reduceLT, Nat.reduceLeDiff, Nat.reduceEqDiff, Nat.reduceMod, Nat.reduceDiv, Int.reduceAdd, Int.reduceSub, Int.reduceMul, Int.reduceLT, Int.reduceLE, Int.reduceEq, Int.reduceNeg, Int.reduceToNat, reduceIte, reduceCtorEq, Int.reduceBEq, Int.reduceBNe, Bool.true_beq, Bool.false_beq, Bool.true_bne, Bool.false_bne, Bool.not_true, Bool.not_false, j0, j1, j2, j3, j4, j5, j6, a15_c2, a15_e, a15_w33, a15_w1, a15_m5, a15_i, a15_t, a15_st, a15_b]
  refine regC gQ1_ok 29 ?_
  simp only [push_cast, Nat.reduceAdd, Nat.reduceSub, Nat.reduceMul, Nat.reduceLT, Nat.reduceLeDiff, Nat.reduceEqDiff, Nat.reduceMod, Nat.reduceDiv, Int.reduceAdd, Int.reduceSub, Int.reduceMul, Int.reduceLT, Int.reduceLE, Int.reduceEq, Int.reduceNeg, Int.reduceToNat, reduceIte, reduceCtorEq, Int.reduceBEq, Int.reduceBNe, Bool.true_beq, Bool.false_beq, Bool.true_bne, Bool.false_bne, Bool.not_true, Bool.not_false, j0, j1, j2, j3, j4, j5, j6, a15_c2]
  refine cutK 11 ?_
  simp only [push_cast, Nat.reduceAdd, Nat.reduceSub, Nat.reduceMul, Nat.reduceLT, Nat.reduceLeDiff, Nat.reduceEqDiff, Nat.reduceMod, Nat.reduceDiv, Int.reduceAdd, Int.reduceSub, Int.reduceMul, Int.reduceLT, Int.reduceLE, Int.reduceEq, Int.reduceNeg, Int.reduceToNat, reduceIte, reduceCtorEq, Int.reduceBEq, Int.reduceBNe, Bool.true_beq, Bool.false_beq, Bool.true_bne, Bool.false_bne, Bool.not_true, Bool.not_false, j0, j1, j2, j3, j4, j5, j6, a15_e, a15_w33]
  refine cutK 16 ?_
  simp only [push_cast, Nat.reduceAdd, Nat.reduceSub, Nat.reduceMul, Nat.reduceLT, Nat.reduceLeDiff, Nat.reduceEqDiff, Nat.reduceMod, Nat.reduceDiv, Int.reduceAdd, Int.reduceSub, Int.reduceMul, Int.reduceLT, Int.reduceLE, Int.reduceEq, Int.reduceNeg, Int.reduceToNat, reduceIte, reduceCtorEq, Int.reduceBEq, Int.reduceBNe, Bool.true_beq, Bool.false_beq, Bool.true_bne, Bool.false_bne, Bool.not_true, Bool.not_false, j0, j1, j2, j3, j4, j5, j6, a15_w1, a15_m5, a15_i, a15_t]
  obtain ⟨q, hq⟩ : ∃ q : ByteArray, q = { data := #[0, 97] } := ⟨_, rfl⟩
  have st : (startI q.data.toList true : Int) = 53022 := by rw [hq]; exact congrArg Nat.cast a15_st
  rw [← hq]
  clear hq
  refine cutK 8 ?_
  simp only [push_cast, Nat.reduceAdd, Nat.reduceSub, Nat.reduceMul, Nat.reduceLT, Nat.reduceLeDiff, Nat.reduceEqDiff, Nat.reduceMod, Nat.reduceDiv, Int.reduceAdd, Int.reduceSub, Int.reduceMul, Int.reduceLT, Int.reduceLE, Int.reduceEq, Int.reduceNeg, Int.reduceToNat, reduceIte, reduceCtorEq, Int.reduceBEq, Int.reduceBNe, Bool.true_beq, Bool.false_beq, Bool.true_bne, Bool.false_bne, Bool.not_true, Bool.not_false, j0, j1, j2, j3, j4, j5, j6, st, a15_b]
  refine cutO ?_
  simp only [push_cast, Nat.reduceAdd, Nat.reduceSub, Nat.reduceMul, Nat.reduceLT, Nat.reduceLeDiff, Nat.reduceEqDiff, Nat.reduceMod, Nat.reduceDiv, Int.reduceAdd, Int.reduceSub, Int.reduceMul, Int.reduceLT, Int.reduceLE, Int.reduceEq, Int.reduceNeg, Int.reduceToNat, reduceIte, reduceCtorEq, Int.reduceBEq, Int.reduceBNe, Bool.true_beq, Bool.false_beq, Bool.true_bne, Bool.false_bne, Bool.not_true, Bool.not_false]
  intro b
  obtain ⟨M, hM⟩ : ∃ M : Hp, M = [⟨b, 0, .vec 58 25 1, keyZ.cells⟩] := ⟨_, rfl⟩
  have hc : cellsAt M b 0 (1 * 25) = some keyZ.cells := by
    rw [hM]; simp only [cellsAt, findE, if_true]; rfl
  have hr : LiR KeyT.cells 25 M [keyZ] (.slice (some ⟨b, 0, none⟩) 1 1) := ⟨_, 1, rfl, .inr ⟨b, 0, rfl, by rw [List.length_singleton, hc]; rfl⟩⟩
  have hw : LiR KeyT.cells 25 M [] (.slice none 0 0) := LiR.nil _ _
  refine (show ∀ {K}, CallsV Tryd.prog _ _ M K → CallsV Tryd.prog _ _ _ K from fun h => by rw [hM] at h; exact h) ?_
  refine useP [] (gdecl_R hr hw (by decide) (by decide) (by simp)) trivial ?_
  rw [hM, a15_d]
  have e24 : ((2400 : Nat) : Int) = 2400 := rfl
  simp only [push_cast, Nat.reduceAdd, Nat.reduceSub, Nat.reduceMul, Nat.reduceLT, Nat.reduceLeDiff, Nat.reduceEqDiff, Nat.reduceMod, Nat.reduceDiv, Int.reduceAdd, Int.reduceSub, Int.reduceMul, Int.reduceLT, Int.reduceLE, Int.reduceEq, Int.reduceNeg, Int.reduceToNat, reduceIte, reduceCtorEq, Int.reduceBEq, Int.reduceBNe, Bool.true_beq, Bool.false_beq, Bool.true_bne, Bool.false_bne, Bool.not_true, Bool.not_false, e24]
def awakeG : List Value → Option Value
  | [] => some (.bool true)
  | _ => none
attribute [push_cast] awakeG
theorem awakeG_ok (args : List Value) (v : Value) (h : awakeG args = some v) : CallsV Tryd.prog 9 args [] (Ret0 v) := by
  unfold awakeG at h
  split at h
  · cases h; exact awake_ok
  · cases h
noncomputable def gQ2 : Gam := (addG 9 awakeG gQ1)
attribute [push_cast] gQ2
theorem gQ2_ok : GamOk Tryd.prog gQ2 := (addG_ok awakeG_ok gQ1_ok)
end Go.Proofs.YtfioapldbajpmaaDoor
