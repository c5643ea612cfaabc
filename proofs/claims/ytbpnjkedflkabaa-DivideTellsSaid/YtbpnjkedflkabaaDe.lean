/- De: Div, Mod, Sdiv, Smod. -/
import Derived.Test.YtbpnjkedflkabaaDd
set_option linter.unusedSimpArgs false
set_option linter.unusedVariables false
namespace Go.Ev
theorem W.zero_agg : Value.agg #[.int .u64 0, .int .u64 0, .int .u64 0, .int .u64 0] = W.zero.v := rfl
theorem W.ext_iff' {x y : W} : x = y ↔ x.a = y.a ∧ x.b = y.b ∧ x.c = y.c ∧ x.d = y.d := ⟨fun h => by subst h; exact ⟨rfl, rfl, rfl, rfl⟩, fun h => W.eq h.1 h.2.1 h.2.2.1 h.2.2.2⟩
theorem W.eqC (x y : W) : eqC [.i, .i, .i, .i] x.cells y.cells = some (decide (x = y)) := by
  simp only [W.cells, Go.Ev.eqC, if_true, Option.map_some, Option.some.injEq, Bool.and_true]
  rw [Bool.eq_iff_iff]
  simp only [Bool.and_eq_true, beq_iff_eq, decide_eq_true_eq, W.ext_iff', Int.ofNat_inj]
theorem W.eqV {P : Program} {t : TypeId} (x y : W) (h1 : tyI P t = some (4, true)) (h2 : P.eqGuardType P.depth t = false) (h3 : flatK P 12 t = some [.i, .i, .i, .i]) : eqV P t x.v y.v = some (decide (x = y)) := by
  unfold W.v Go.Ev.eqV
  simp only [h1, h2, h3, Option.bind_some, Bool.false_eq_true, if_false, List.toList_toArray, W.eqC]
theorem W.eql {P : Program} {t : TypeId} (x y : W) (h1 : tyI P t = some (4, true)) (h2 : P.eqGuardType P.depth t = false) (h3 : flatK P 12 t = some [.i, .i, .i, .i]) : binQ P .eql t x.v y.v = some (.bool (decide (x = y))) := by
  have := W.eqV x y h1 h2 h3
  unfold W.v at this ⊢
  simp only [binQ, this, Option.map_some]
theorem W.neq {P : Program} {t : TypeId} (x y : W) (h1 : tyI P t = some (4, true)) (h2 : P.eqGuardType P.depth t = false) (h3 : flatK P 12 t = some [.i, .i, .i, .i]) : binQ P .neq t x.v y.v = some (.bool (!decide (x = y))) := by
  have := W.eqV x y h1 h2 h3
  unfold W.v at this ⊢
  simp only [binQ, this, Option.map_some]
attribute [push_cast high] W.zero_agg W.eql W.neq
theorem one_some {args : List Value} {v : Value} {g : W → Value} {f : List Value → Option Value} (hf : f = fun l => match l with | [x] => (wOf x).bind fun a => some (g a) | _ => none) (h : f args = some v) : ∃ x : W, args = [x.v] ∧ v = g x := by
  subst hf
  dsimp only at h
  split at h
  · rename_i x
    cases hx : wOf x with
    | none => simp [hx] at h
    | some a => simp [hx] at h; exact ⟨a, by rw [wOf_some hx], h.symm⟩
  · cases h
theorem wb_some {args : List Value} {v : Value} {g : W → Bool → Value} {f : List Value → Option Value} (hf : f = fun l => match l with | [x, .bool b] => (wOf x).bind fun a => some (g a b) | _ => none) (h : f args = some v) : ∃ (x : W) (b : Bool), args = [x.v, .bool b] ∧ v = g x b := by
  subst hf
  dsimp only at h
  split at h
  · rename_i x b
    cases hx : wOf x with
    | none => simp [hx] at h
    | some a => simp [hx] at h; exact ⟨a, b, by rw [wOf_some hx], h.symm⟩
  · cases h
noncomputable def topB : Nat → Bool := hid fun x => decide (9223372036854775808 ≤ x)
theorem topB_eq (x : Nat) : topB x = decide (9223372036854775808 ≤ x) := by unfold topB; rw [hid_eq]
theorem bin_top (P : Program) (t : TypeId) (x : Nat) : binQ P .lss t (.int .u64 (x : Int)) (.int .u64 9223372036854775808) = some (.bool (!topB x)) := by
  rw [binQ_int]
  unfold binV
  simp only [topB_eq, if_true, Option.some.injEq, Value.bool.injEq]
  rw [Bool.eq_iff_iff]
  simp
  omega
theorem bin_top' (P : Program) (t : TypeId) (x : Nat) : binQ P .geq t (.int .u64 (x : Int)) (.int .u64 9223372036854775808) = some (.bool (topB x)) := by
  rw [binQ_int]
  unfold binV
  simp only [topB_eq, if_true, Option.some.injEq, Value.bool.injEq]
  rw [Bool.eq_iff_iff]
  simp
  omega
attribute [push_cast high] bin_top bin_top'
noncomputable def negW (w : W) : W := subW W.zero w
noncomputable def signedW (w : W) : W × Bool := if topB w.d then (negW w, true) else (w, false)
noncomputable def withW (w : W) (b : Bool) : W := if b then negW w else w
noncomputable def divW (a b : W) : W := W.of (a.num / b.num)
noncomputable def modW (a b : W) : W := if b = W.zero then W.zero else W.of (a.num % b.num)
noncomputable def sdivW (a b : W) : W := withW (divW (signedW a).1 (signedW b).1) (!(signedW a).2 == (signedW b).2)
noncomputable def smodW (a b : W) : W := withW (modW (signedW a).1 (signedW b).1) (signedW a).2
theorem W.pos {b : W} (h : ¬ b = W.zero) : 0 < b.num := by
  rcases Nat.eq_zero_or_pos b.num with h0 | h0
  · exact absurd (W.num_inj (h0.trans (by decide : (0 : Nat) = W.zero.num))) h
  · exact h0
noncomputable def divG : List Value → Option Value
  | [x, y] => (wOf x).bind fun a => (wOf y).bind fun b => some (divW a b).v
  | _ => none
noncomputable def modG : List Value → Option Value
  | [x, y] => (wOf x).bind fun a => (wOf y).bind fun b => some (modW a b).v
  | _ => none
noncomputable def sdivG : List Value → Option Value
  | [x, y] => (wOf x).bind fun a => (wOf y).bind fun b => some (sdivW a b).v
  | _ => none
noncomputable def smodG : List Value → Option Value
  | [x, y] => (wOf x).bind fun a => (wOf y).bind fun b => some (smodW a b).v
  | _ => none
noncomputable def signedG : List Value → Option Value
  | [x] => (wOf x).bind fun a => some (.tuple #[(signedW a).1.v, .bool (signedW a).2])
  | _ => none
noncomputable def withG : List Value → Option Value
  | [x, .bool b] => (wOf x).bind fun a => some (withW a b).v
  | _ => none
attribute [push_cast] divG modG sdivG smodG signedG withG
end Go.Ev
namespace Go.Proofs.Ytbpnjkedflkabaa
open Go Go.Ev Go.Proofs
set_option maxRecDepth 100000
set_option maxHeartbeats 4000000
theorem div_ok (a b : W) : CallsV Try.prog 10 [a.v, b.v] [] (Ret0 (divW a b).v) := by
  refine callsO gX_ok Try.mix Try.pl10 Try.func10 rfl Try.ntmps10 Try.results10 rfl (by first | rfl | assumption) (Nat.le_of_ble_eq_true rfl) (by kernel_rfl) ?_
  simp only [push_cast, Nat.reduceAdd, Nat.reduceSub, Nat.reduceMul, Nat.reduceLT, Nat.reduceLeDiff, Nat.reduceEqDiff, Nat.reduceMod, Nat.reduceDiv, Int.reduceAdd, Int.reduceSub, Int.reduceMul, Int.reduceLT, Int.reduceLE, Int.reduceEq, Int.reduceNeg, Int.reduceToNat, reduceIte, reduceCtorEq]
  intro b2 b3 hb3 b4 hb4
  by_cases h : b = W.zero
  · have e1 : decide (b = W.zero) = true := by simpa using h
    have e2 : divW a b = W.zero := by
      unfold divW
      rw [h, show W.zero.num = 0 from rfl, Nat.div_zero, W.of_zero]
    simp only [push_cast, Nat.reduceAdd, Nat.reduceSub, Nat.reduceMul, Nat.reduceLT, Nat.reduceLeDiff, Nat.reduceEqDiff, Nat.reduceMod, Nat.reduceDiv, Int.reduceAdd, Int.reduceSub, Int.reduceMul, Int.reduceLT, Int.reduceLE, Int.reduceEq, Int.reduceNeg, Int.reduceToNat, reduceIte, reduceCtorEq, hb3, hb4, e1, e2]
  · have e1 : decide (b = W.zero) = false := by simpa using h
    simp only [push_cast, Nat.reduceAdd, Nat.reduceSub, Nat.reduceMul, Nat.reduceLT, Nat.reduceLeDiff, Nat.reduceEqDiff, Nat.reduceMod, Nat.reduceDiv, Int.reduceAdd, Int.reduceSub, Int.reduceMul, Int.reduceLT, Int.reduceLE, Int.reduceEq, Int.reduceNeg, Int.reduceToNat, reduceIte, reduceCtorEq, hb3, hb4, e1]
    refine (divided1 ⟨a⟩ b (W.pos h)).pure trivial ?_
    simp only [push_cast, Nat.reduceAdd, Nat.reduceSub, Nat.reduceMul, Nat.reduceLT, Nat.reduceLeDiff, Nat.reduceEqDiff, Nat.reduceMod, Nat.reduceDiv, Int.reduceAdd, Int.reduceSub, Int.reduceMul, Int.reduceLT, Int.reduceLE, Int.reduceEq, Int.reduceNeg, Int.reduceToNat, reduceIte, reduceCtorEq, hb3, hb4, divW, W1.num]
theorem mod_ok (a b : W) : CallsV Try.prog 12 [a.v, b.v] [] (Ret0 (modW a b).v) := by
  refine callsO gX_ok Try.mix Try.pl12 Try.func12 rfl Try.ntmps12 Try.results12 rfl (by first | rfl | assumption) (Nat.le_of_ble_eq_true rfl) (by kernel_rfl) ?_
  simp only [push_cast, Nat.reduceAdd, Nat.reduceSub, Nat.reduceMul, Nat.reduceLT, Nat.reduceLeDiff, Nat.reduceEqDiff, Nat.reduceMod, Nat.reduceDiv, Int.reduceAdd, Int.reduceSub, Int.reduceMul, Int.reduceLT, Int.reduceLE, Int.reduceEq, Int.reduceNeg, Int.reduceToNat, reduceIte, reduceCtorEq]
  intro b2 b3 hb3 b4 hb4
  by_cases h : b = W.zero
  · have e1 : decide (b = W.zero) = true := by simpa using h
    have e2 : modW a b = W.zero := by unfold modW; rw [if_pos h]
    simp only [push_cast, Nat.reduceAdd, Nat.reduceSub, Nat.reduceMul, Nat.reduceLT, Nat.reduceLeDiff, Nat.reduceEqDiff, Nat.reduceMod, Nat.reduceDiv, Int.reduceAdd, Int.reduceSub, Int.reduceMul, Int.reduceLT, Int.reduceLE, Int.reduceEq, Int.reduceNeg, Int.reduceToNat, reduceIte, reduceCtorEq, hb3, hb4, e1, e2]
  · have e1 : decide (b = W.zero) = false := by simpa using h
    have e2 : modW a b = W.of (a.num % b.num) := by unfold modW; rw [if_neg h]
    simp only [push_cast, Nat.reduceAdd, Nat.reduceSub, Nat.reduceMul, Nat.reduceLT, Nat.reduceLeDiff, Nat.reduceEqDiff, Nat.reduceMod, Nat.reduceDiv, Int.reduceAdd, Int.reduceSub, Int.reduceMul, Int.reduceLT, Int.reduceLE, Int.reduceEq, Int.reduceNeg, Int.reduceToNat, reduceIte, reduceCtorEq, hb3, hb4, e1]
    refine (divided1 ⟨a⟩ b (W.pos h)).pure trivial ?_
    simp only [push_cast, Nat.reduceAdd, Nat.reduceSub, Nat.reduceMul, Nat.reduceLT, Nat.reduceLeDiff, Nat.reduceEqDiff, Nat.reduceMod, Nat.reduceDiv, Int.reduceAdd, Int.reduceSub, Int.reduceMul, Int.reduceLT, Int.reduceLE, Int.reduceEq, Int.reduceNeg, Int.reduceToNat, reduceIte, reduceCtorEq, hb3, hb4, e2, W1.num]
theorem signed_ok (a : W) : CallsV Try.prog 32 [a.v] [] (Ret0 (.tuple #[(signedW a).1.v, .bool (signedW a).2])) := by
  obtain ⟨R, hR⟩ : ∃ R, R = signedW a := ⟨_, rfl⟩
  rw [← hR]
  refine callsO gX_ok Try.mix (fun i => if i = 1 then [(0, 9)] else Try.pl32 i) Try.func32 rfl Try.ntmps32 Try.results32 rfl (by first | rfl | assumption) (Nat.le_of_ble_eq_true rfl) (by kernel_rfl) ?_
  simp only [push_cast, Nat.reduceAdd, Nat.reduceSub, Nat.reduceMul, Nat.reduceLT, Nat.reduceLeDiff, Nat.reduceEqDiff, Nat.reduceMod, Nat.reduceDiv, Int.reduceAdd, Int.reduceSub, Int.reduceMul, Int.reduceLT, Int.reduceLE, Int.reduceEq, Int.reduceNeg, Int.reduceToNat, reduceIte, reduceCtorEq]
  intro b2 b3 hb3
  refine regO gX_ok ?_
  cases h : topB a.d with
  | false =>
    have e2 : signedW a = (a, false) := by unfold signedW; rw [h]; rfl
    simp only [push_cast, Nat.reduceAdd, Nat.reduceSub, Nat.reduceMul, Nat.reduceLT, Nat.reduceLeDiff, Nat.reduceEqDiff, Nat.reduceMod, Nat.reduceDiv, Int.reduceAdd, Int.reduceSub, Int.reduceMul, Int.reduceLT, Int.reduceLE, Int.reduceEq, Int.reduceNeg, Int.reduceToNat, reduceIte, reduceCtorEq, hb3, h]
    rw [hR, e2]
  | true =>
    have e2 : signedW a = (negW a, true) := by unfold signedW; rw [h]; rfl
    simp only [push_cast, Nat.reduceAdd, Nat.reduceSub, Nat.reduceMul, Nat.reduceLT, Nat.reduceLeDiff, Nat.reduceEqDiff, Nat.reduceMod, Nat.reduceDiv, Int.reduceAdd, Int.reduceSub, Int.reduceMul, Int.reduceLT, Int.reduceLE, Int.reduceEq, Int.reduceNeg, Int.reduceToNat, reduceIte, reduceCtorEq, hb3, h]
    rw [hR, e2]
    rfl
theorem with_ok (a : W) (b : Bool) : CallsV Try.prog 33 [a.v, .bool b] [] (Ret0 (withW a b).v) := by
  refine callsO gX_ok Try.mix Try.pl33 Try.func33 rfl Try.ntmps33 Try.results33 rfl (by first | rfl | assumption) (Nat.le_of_ble_eq_true rfl) (by kernel_rfl) ?_
  simp only [push_cast, Nat.reduceAdd, Nat.reduceSub, Nat.reduceMul, Nat.reduceLT, Nat.reduceLeDiff, Nat.reduceEqDiff, Nat.reduceMod, Nat.reduceDiv, Int.reduceAdd, Int.reduceSub, Int.reduceMul, Int.reduceLT, Int.reduceLE, Int.reduceEq, Int.reduceNeg, Int.reduceToNat, reduceIte, reduceCtorEq]
  intro b2 b3 hb3
  cases b with
  | true => simp only [push_cast, Nat.reduceAdd, Nat.reduceSub, Nat.reduceMul, Nat.reduceLT, Nat.reduceLeDiff, Nat.reduceEqDiff, Nat.reduceMod, Nat.reduceDiv, Int.reduceAdd, Int.reduceSub, Int.reduceMul, Int.reduceLT, Int.reduceLE, Int.reduceEq, Int.reduceNeg, Int.reduceToNat, reduceIte, reduceCtorEq, hb3, withW, negW]
  | false => simp only [push_cast, Nat.reduceAdd, Nat.reduceSub, Nat.reduceMul, Nat.reduceLT, Nat.reduceLeDiff, Nat.reduceEqDiff, Nat.reduceMod, Nat.reduceDiv, Int.reduceAdd, Int.reduceSub, Int.reduceMul, Int.reduceLT, Int.reduceLE, Int.reduceEq, Int.reduceNeg, Int.reduceToNat, reduceIte, reduceCtorEq, hb3, withW]
noncomputable def gY : Gam := addG 10 divG (addG 12 modG (addG 32 signedG (addG 33 withG gX)))
attribute [push_cast] gY
theorem gY_ok : GamOk Try.prog gY := by
  refine addG_ok (fun args v h => ?_) (addG_ok (fun args v h => ?_) (addG_ok (fun args v h => ?_) (addG_ok (fun args v h => ?_) gX_ok)))
  · obtain ⟨x, y, rfl, rfl⟩ := two_some (g := fun a b => (divW a b).v) (by funext l; rfl) h
    exact div_ok x y
  · obtain ⟨x, y, rfl, rfl⟩ := two_some (g := fun a b => (modW a b).v) (by funext l; rfl) h
    exact mod_ok x y
  · obtain ⟨x, rfl, rfl⟩ := one_some (g := fun a => .tuple #[(signedW a).1.v, .bool (signedW a).2]) (by funext l; rfl) h
    exact signed_ok x
  · obtain ⟨x, b, rfl, rfl⟩ := wb_some (g := fun a b => (withW a b).v) (by funext l; rfl) h
    exact with_ok x b
theorem sdiv_ok (a b : W) : CallsV Try.prog 14 [a.v, b.v] [] (Ret0 (sdivW a b).v) := by
  refine callsO gY_ok Try.mix Try.pl14 Try.func14 rfl Try.ntmps14 Try.results14 rfl (by first | rfl | assumption) (Nat.le_of_ble_eq_true rfl) (by kernel_rfl) ?_
  simp only [push_cast, Nat.reduceAdd, Nat.reduceSub, Nat.reduceMul, Nat.reduceLT, Nat.reduceLeDiff, Nat.reduceEqDiff, Nat.reduceMod, Nat.reduceDiv, Int.reduceAdd, Int.reduceSub, Int.reduceMul, Int.reduceLT, Int.reduceLE, Int.reduceEq, Int.reduceNeg, Int.reduceToNat, reduceIte, reduceCtorEq]
  intro b2 b3 hb3 b4 hb4
  simp only [push_cast, Nat.reduceAdd, Nat.reduceSub, Nat.reduceMul, Nat.reduceLT, Nat.reduceLeDiff, Nat.reduceEqDiff, Nat.reduceMod, Nat.reduceDiv, Int.reduceAdd, Int.reduceSub, Int.reduceMul, Int.reduceLT, Int.reduceLE, Int.reduceEq, Int.reduceNeg, Int.reduceToNat, reduceIte, reduceCtorEq, hb3, hb4]
  intro b5 hb5
  simp only [push_cast, Nat.reduceAdd, Nat.reduceSub, Nat.reduceMul, Nat.reduceLT, Nat.reduceLeDiff, Nat.reduceEqDiff, Nat.reduceMod, Nat.reduceDiv, Int.reduceAdd, Int.reduceSub, Int.reduceMul, Int.reduceLT, Int.reduceLE, Int.reduceEq, Int.reduceNeg, Int.reduceToNat, reduceIte, reduceCtorEq, hb3, hb4, hb5]
  intro b7 hb7
  simp only [push_cast, Nat.reduceAdd, Nat.reduceSub, Nat.reduceMul, Nat.reduceLT, Nat.reduceLeDiff, Nat.reduceEqDiff, Nat.reduceMod, Nat.reduceDiv, Int.reduceAdd, Int.reduceSub, Int.reduceMul, Int.reduceLT, Int.reduceLE, Int.reduceEq, Int.reduceNeg, Int.reduceToNat, reduceIte, reduceCtorEq, hb3, hb4, hb5, hb7, sdivW]
theorem smod_ok (a b : W) : CallsV Try.prog 16 [a.v, b.v] [] (Ret0 (smodW a b).v) := by
  refine callsO gY_ok Try.mix Try.pl16 Try.func16 rfl Try.ntmps16 Try.results16 rfl (by first | rfl | assumption) (Nat.le_of_ble_eq_true rfl) (by kernel_rfl) ?_
  simp only [push_cast, Nat.reduceAdd, Nat.reduceSub, Nat.reduceMul, Nat.reduceLT, Nat.reduceLeDiff, Nat.reduceEqDiff, Nat.reduceMod, Nat.reduceDiv, Int.reduceAdd, Int.reduceSub, Int.reduceMul, Int.reduceLT, Int.reduceLE, Int.reduceEq, Int.reduceNeg, Int.reduceToNat, reduceIte, reduceCtorEq]
  intro b2 b3 hb3 b4 hb4
  simp only [push_cast, Nat.reduceAdd, Nat.reduceSub, Nat.reduceMul, Nat.reduceLT, Nat.reduceLeDiff, Nat.reduceEqDiff, Nat.reduceMod, Nat.reduceDiv, Int.reduceAdd, Int.reduceSub, Int.reduceMul, Int.reduceLT, Int.reduceLE, Int.reduceEq, Int.reduceNeg, Int.reduceToNat, reduceIte, reduceCtorEq, hb3, hb4]
  intro b5 hb5
  simp only [push_cast, Nat.reduceAdd, Nat.reduceSub, Nat.reduceMul, Nat.reduceLT, Nat.reduceLeDiff, Nat.reduceEqDiff, Nat.reduceMod, Nat.reduceDiv, Int.reduceAdd, Int.reduceSub, Int.reduceMul, Int.reduceLT, Int.reduceLE, Int.reduceEq, Int.reduceNeg, Int.reduceToNat, reduceIte, reduceCtorEq, hb3, hb4, hb5]
  intro b7 hb7
  simp only [push_cast, Nat.reduceAdd, Nat.reduceSub, Nat.reduceMul, Nat.reduceLT, Nat.reduceLeDiff, Nat.reduceEqDiff, Nat.reduceMod, Nat.reduceDiv, Int.reduceAdd, Int.reduceSub, Int.reduceMul, Int.reduceLT, Int.reduceLE, Int.reduceEq, Int.reduceNeg, Int.reduceToNat, reduceIte, reduceCtorEq, hb3, hb4, hb5, hb7, smodW]
end Go.Proofs.Ytbpnjkedflkabaa
