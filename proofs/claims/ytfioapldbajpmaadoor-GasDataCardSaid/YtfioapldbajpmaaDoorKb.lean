/- Kb: the document's Order, may, put, set, Make; raw keys. -/
import Derived.Test.YtfioapldbajpmaaDoorKa
set_option linter.unusedSimpArgs false
set_option linter.unusedVariables false
namespace Go.Ev
theorem ucmp_lt {x y : UInt8} : ((x.toNat : Int) < (y.toNat : Int)) ↔ x.toNat < y.toNat := by omega
theorem take_eq_succ {a b : List UInt8} {i : Nat} (h : a.take i = b.take i) (ha : i < a.length) (hb : i < b.length) (he : a[i].toNat = b[i].toNat) : a.take (i + 1) = b.take (i + 1) := by
  rw [List.take_succ_eq_append_getElem ha, List.take_succ_eq_append_getElem hb, h, UInt8.toNat_inj.1 he]
end Go.Ev
namespace Go.Proofs.YtfioapldbajpmaaDoor
open Go Go.Ev Go.Proofs
set_option maxRecDepth 100000
set_option maxHeartbeats 4000000
theorem ky_ty : tyI Tryd.prog 58 = some (25, true) := by kernel_rfl
theorem ky_gd : Tryd.prog.eqGuardType Tryd.prog.depth 58 = false := by kernel_rfl
theorem ky_fl : flatK Tryd.prog 12 58 = some keyK := by kernel_rfl
attribute [push_cast] ky_gd ky_fl
theorem refCmpK (args : List Value) (v : Value) (h : cmpWG args = some v) : CallsV Tryd.prog 80 args [] (Ret0 v) := by
  obtain ⟨x, y, rfl, rfl⟩ := cmpWG_some h; exact refCmp x y
noncomputable def gK0 : Gam := (addG 80 cmpWG noG)
attribute [push_cast] gK0
theorem gK0_ok : GamOk Tryd.prog gK0 := (addG_ok refCmpK (noG_ok _))
theorem rorder_ok (x y : KeyT) : CallsV Tryd.prog 76 [x.v, y.v] [] (Ret0 (.int .i64 (ordI x y))) := by
  refine callsO gK0_ok Tryd.mix (fun i => if i = 1 then [(0, 9)] else Tryd.pl76 i) Tryd.func76 rfl Tryd.ntmps76 Tryd.results76 rfl (by first | rfl | assumption) (Nat.le_of_ble_eq_true rfl) (by kernel_rfl) ?_
  simp only [push_cast, Nat.reduceAdd, Nat.reduceSub, Nat.reduceMul, Nat.reduceLT, Nat.reduceLeDiff, Nat.reduceEqDiff, Nat.reduceMod, Nat.reduceDiv, Int.reduceAdd, Int.reduceSub, Int.reduceMul, Int.reduceLT, Int.reduceLE, Int.reduceEq, Int.reduceNeg, Int.reduceToNat, reduceIte, reduceCtorEq, Int.reduceBEq, Int.reduceBNe, Bool.true_beq, Bool.false_beq, Bool.true_bne, Bool.false_bne, Bool.not_true, Bool.not_false]
  intro b2 b3 hb3
  refine regO gK0_ok ?_
  simp only [push_cast, Nat.reduceAdd, Nat.reduceSub, Nat.reduceMul, Nat.reduceLT, Nat.reduceLeDiff, Nat.reduceEqDiff, Nat.reduceMod, Nat.reduceDiv, Int.reduceAdd, Int.reduceSub, Int.reduceMul, Int.reduceLT, Int.reduceLE, Int.reduceEq, Int.reduceNeg, Int.reduceToNat, reduceIte, reduceCtorEq, Int.reduceBEq, Int.reduceBNe, Bool.true_beq, Bool.false_beq, Bool.true_bne, Bool.false_bne, Bool.not_true, Bool.not_false, hb3]
  refine loopO gK0_ok (pl := Tryd.pl76) Tryd.mix (X := Nat)
    (fun i => ([(2, .pointer (some ⟨b2, 0, none⟩)), (3, .pointer (some ⟨b3, 0, none⟩)), (5, .int .i64 i)],
      [⟨b3, 0, .cel 58, y.cells⟩, ⟨b2, 0, .cel 58, x.cells⟩]))
    (fun i => i ≤ 20 ∧ x.at_.take i = y.at_.take i) (fun i => 20 - i) 0 ?_ ?_ (by kernel_rfl) ?_
  · exact ⟨Nat.zero_le _, rfl⟩
  · simp only [push_cast, Nat.reduceAdd, Nat.reduceSub, Nat.reduceMul, Nat.reduceLT, Nat.reduceLeDiff, Nat.reduceEqDiff, Nat.reduceMod, Nat.reduceDiv, Int.reduceAdd, Int.reduceSub, Int.reduceMul, Int.reduceLT, Int.reduceLE, Int.reduceEq, Int.reduceNeg, Int.reduceToNat, reduceIte, reduceCtorEq, Int.reduceBEq, Int.reduceBNe, Bool.true_beq, Bool.false_beq, Bool.true_bne, Bool.false_bne, Bool.not_true, Bool.not_false, hb3]
  · rintro i ⟨hi, ht⟩
    dsimp only at hi ht ⊢
    rcases Nat.lt_or_ge i 20 with hlt | hge
    · have i1 : (i : Int) < 20 := by omega
      have i2 : i + 1 ≤ 25 := by omega
      have ax := x.at1 hlt
      have ay := y.at1 hlt
      have hx : i < x.at_.length := by rw [x.hl]; exact hlt
      have hy : i < y.at_.length := by rw [y.hl]; exact hlt
      rcases Nat.lt_trichotomy x.at_[i].toNat y.at_[i].toNat with h | h | h
      · rw [ordI_lt (KeyT.num_at hlt ht h)]
        simp only [push_cast, Nat.reduceAdd, Nat.reduceSub, Nat.reduceMul, Nat.reduceLT, Nat.reduceLeDiff, Nat.reduceEqDiff, Nat.reduceMod, Nat.reduceDiv, Int.reduceAdd, Int.reduceSub, Int.reduceMul, Int.reduceLT, Int.reduceLE, Int.reduceEq, Int.reduceNeg, Int.reduceToNat, reduceIte, reduceCtorEq, Int.reduceBEq, Int.reduceBNe, Bool.true_beq, Bool.false_beq, Bool.true_bne, Bool.false_bne, Bool.not_true, Bool.not_false, hb3, i1, i2, ax, ay, h]
      · have h1 : ¬ x.at_[i].toNat < y.at_[i].toNat := by omega
        have h2 : ¬ y.at_[i].toNat < x.at_[i].toNat := by omega
        simp only [push_cast, Nat.reduceAdd, Nat.reduceSub, Nat.reduceMul, Nat.reduceLT, Nat.reduceLeDiff, Nat.reduceEqDiff, Nat.reduceMod, Nat.reduceDiv, Int.reduceAdd, Int.reduceSub, Int.reduceMul, Int.reduceLT, Int.reduceLE, Int.reduceEq, Int.reduceNeg, Int.reduceToNat, reduceIte, reduceCtorEq, Int.reduceBEq, Int.reduceBNe, Bool.true_beq, Bool.false_beq, Bool.true_bne, Bool.false_bne, Bool.not_true, Bool.not_false, hb3, i1, i2, ax, ay, h1, h2, wrap_i64' (show -9223372036854775808 ≤ (i : Int) + 1 ∧ (i : Int) + 1 ≤ 9223372036854775807 by omega)]
        exact ⟨i + 1, ⟨by omega, take_eq_succ ht hx hy h⟩, by omega, rfl⟩
      · have h1 : ¬ x.at_[i].toNat < y.at_[i].toNat := by omega
        rw [ordI_gt (KeyT.num_at hlt ht.symm h)]
        simp only [push_cast, Nat.reduceAdd, Nat.reduceSub, Nat.reduceMul, Nat.reduceLT, Nat.reduceLeDiff, Nat.reduceEqDiff, Nat.reduceMod, Nat.reduceDiv, Int.reduceAdd, Int.reduceSub, Int.reduceMul, Int.reduceLT, Int.reduceLE, Int.reduceEq, Int.reduceNeg, Int.reduceToNat, reduceIte, reduceCtorEq, Int.reduceBEq, Int.reduceBNe, Bool.true_beq, Bool.false_beq, Bool.true_bne, Bool.false_bne, Bool.not_true, Bool.not_false, hb3, i1, i2, ax, ay, h1, h]
    · obtain rfl : i = 20 := by omega
      have ha : x.at_ = y.at_ := by
        rw [List.take_of_length_le (by rw [x.hl]; exact Nat.le_refl _), List.take_of_length_le (by rw [y.hl]; exact Nat.le_refl _)] at ht
        exact ht
      cases hx : x.slot <;> cases hy : y.slot
      · rw [ordI_key ha (by rw [hx, hy])]
        simp only [push_cast, Nat.reduceAdd, Nat.reduceSub, Nat.reduceMul, Nat.reduceLT, Nat.reduceLeDiff, Nat.reduceEqDiff, Nat.reduceMod, Nat.reduceDiv, Int.reduceAdd, Int.reduceSub, Int.reduceMul, Int.reduceLT, Int.reduceLE, Int.reduceEq, Int.reduceNeg, Int.reduceToNat, reduceIte, reduceCtorEq, Int.reduceBEq, Int.reduceBNe, Bool.true_beq, Bool.false_beq, Bool.true_bne, Bool.false_bne, Bool.not_true, Bool.not_false, hb3, hx, hy]
      · rw [ordI_lt (KeyT.num_slot ha hx hy)]
        simp only [push_cast, Nat.reduceAdd, Nat.reduceSub, Nat.reduceMul, Nat.reduceLT, Nat.reduceLeDiff, Nat.reduceEqDiff, Nat.reduceMod, Nat.reduceDiv, Int.reduceAdd, Int.reduceSub, Int.reduceMul, Int.reduceLT, Int.reduceLE, Int.reduceEq, Int.reduceNeg, Int.reduceToNat, reduceIte, reduceCtorEq, Int.reduceBEq, Int.reduceBNe, Bool.true_beq, Bool.false_beq, Bool.true_bne, Bool.false_bne, Bool.not_true, Bool.not_false, hb3, hx, hy]
      · rw [ordI_gt (KeyT.num_slot ha.symm hy hx)]
        simp only [push_cast, Nat.reduceAdd, Nat.reduceSub, Nat.reduceMul, Nat.reduceLT, Nat.reduceLeDiff, Nat.reduceEqDiff, Nat.reduceMod, Nat.reduceDiv, Int.reduceAdd, Int.reduceSub, Int.reduceMul, Int.reduceLT, Int.reduceLE, Int.reduceEq, Int.reduceNeg, Int.reduceToNat, reduceIte, reduceCtorEq, Int.reduceBEq, Int.reduceBNe, Bool.true_beq, Bool.false_beq, Bool.true_bne, Bool.false_bne, Bool.not_true, Bool.not_false, hb3, hx, hy]
      · rw [ordI_key ha (by rw [hx, hy])]
        simp only [push_cast, Nat.reduceAdd, Nat.reduceSub, Nat.reduceMul, Nat.reduceLT, Nat.reduceLeDiff, Nat.reduceEqDiff, Nat.reduceMod, Nat.reduceDiv, Int.reduceAdd, Int.reduceSub, Int.reduceMul, Int.reduceLT, Int.reduceLE, Int.reduceEq, Int.reduceNeg, Int.reduceToNat, reduceIte, reduceCtorEq, Int.reduceBEq, Int.reduceBNe, Bool.true_beq, Bool.false_beq, Bool.true_bne, Bool.false_bne, Bool.not_true, Bool.not_false, hb3, hx, hy]
theorem rordG_ok (args : List Value) (v : Value) (h : ordG args = some v) : CallsV Tryd.prog 76 args [] (Ret0 v) := by
  obtain ⟨x, y, rfl, rfl⟩ := kbin_some (g := fun a b => .int .i64 (ordI a b)) (by funext l; rfl) h
  exact rorder_ok x y
end Go.Proofs.YtfioapldbajpmaaDoor
