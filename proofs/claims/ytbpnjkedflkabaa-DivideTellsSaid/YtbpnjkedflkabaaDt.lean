/- Dt: the document's words, layer 2: Div, Mod, Sdiv, Smod, Addmod. -/
import Derived.Test.YtbpnjkedflkabaaDs
set_option linter.unusedSimpArgs false
set_option linter.unusedVariables false
namespace Go.Ev
noncomputable def dividedG : List Value → Option Value
  | [x, y] => (wOf x).bind fun a => (wOf y).bind fun b => if b = W.zero then none else some (.tuple #[(divW a b).v, (modW a b).v])
  | _ => none
attribute [push_cast] dividedG
theorem sgn_beq (a b : W) : (!(signedW a).2 == (signedW b).2) = (!(topB a.d == topB b.d)) := by
  have h1 : ∀ w : W, (signedW w).2 = topB w.d := fun w => by unfold signedW; cases topB w.d <;> rfl
  rw [h1, h1]
theorem signed_top (w : W) : (signedW w).2 = topB w.d := by unfold signedW; cases topB w.d <;> rfl
theorem addmod_less {a b n : W} (h : ¬ n = W.zero) : (lessW (addW (modW a n) (modW b n)) (decide ((addW (modW a n) (modW b n)).cmp (modW a n) < 0)) n).1 = addmodW a b n := by
  have hn := W.pos h
  have ha : (modW a n).num < n.num := by rw [mod_num h]; exact Nat.mod_lt _ hn
  have hb : (modW b n).num < n.num := by rw [mod_num h]; exact Nat.mod_lt _ hn
  have hl := n.num_lt
  have ho : overN (decide ((addW (modW a n) (modW b n)).cmp (modW a n) < 0)) (addW (modW a n) (modW b n)).num = (modW a n).num + (modW b n).num := by
    rw [overN_eq]
    have e : (addW (modW a n) (modW b n)).num = ((modW a n).num + (modW b n).num) % 115792089237316195423570985008687907853269984665640564039457584007913129639936 := by unfold addW; rw [W.num_of]
    by_cases hc : (addW (modW a n) (modW b n)).num < (modW a n).num
    · rw [decide_eq_true (W.cmp_neg.2 hc), if_pos rfl]; omega
    · rw [decide_eq_false (fun h => hc (W.cmp_neg.1 h)), if_neg (by simp)]; omega
  have := less_law (w := addW (modW a n) (modW b n)) (o := decide ((addW (modW a n) (modW b n)).cmp (modW a n) < 0)) (n := n) (by rw [ho]; omega)
  rw [ho] at this
  refine W.num_inj ?_
  rw [this.1]
  unfold addmodW
  rw [if_neg h, W.num_small (Nat.lt_trans (Nat.mod_lt _ hn) hl), mod_num h, mod_num h, ← Nat.add_mod]
end Go.Ev
namespace Go.Proofs.Ytbpnjkedflkabaa
open Go Go.Ev Go.Proofs
set_option maxRecDepth 100000
set_option maxHeartbeats 4000000
theorem dividedG_ok (args : List Value) (v : Value) (h : dividedG args = some v) : CallsV Try.prog 31 args [] (Ret0 v) := by
  unfold dividedG at h
  split at h
  · rename_i x y
    cases hx : wOf x with
    | none => simp [hx] at h
    | some a => cases hy : wOf y with
      | none => simp [hx, hy] at h
      | some b =>
        simp only [hx, hy, Option.bind_some] at h
        split at h
        · cases h
        · rename_i h0
          cases h
          rw [wOf_some hx, wOf_some hy]
          exact divided_ok a b h0
  · cases h
noncomputable def gU0 : Gam := (addG 31 dividedG gR)
attribute [push_cast] gU0
theorem gU0_ok : GamOk Try.prog gU0 := (addG_ok dividedG_ok gR_ok)
theorem refDiv (a b : W) : CallsV Try.prog 11 [a.v, b.v] [] (Ret0 (divW a b).v) := by
  refine callsO gU0_ok Try.mix Try.pl11 Try.func11 rfl Try.ntmps11 Try.results11 rfl (by first | rfl | assumption) (Nat.le_of_ble_eq_true rfl) (by kernel_rfl) ?_
  simp only [push_cast, Nat.reduceAdd, Nat.reduceSub, Nat.reduceMul, Nat.reduceLT, Nat.reduceLeDiff, Nat.reduceEqDiff, Nat.reduceMod, Nat.reduceDiv, Int.reduceAdd, Int.reduceSub, Int.reduceMul, Int.reduceLT, Int.reduceLE, Int.reduceEq, Int.reduceNeg, Int.reduceToNat, reduceIte, reduceCtorEq]
  intro b2 b3 hb3 b4 hb4
  by_cases h : b = W.zero
  · have e1 : decide (b = W.zero) = true := decide_eq_true h
    have e2 : divW a b = W.zero := by rw [h, div_zero]
    have e3 : divW a b = b := by rw [e2, h]
    simp only [push_cast, Nat.reduceAdd, Nat.reduceSub, Nat.reduceMul, Nat.reduceLT, Nat.reduceLeDiff, Nat.reduceEqDiff, Nat.reduceMod, Nat.reduceDiv, Int.reduceAdd, Int.reduceSub, Int.reduceMul, Int.reduceLT, Int.reduceLE, Int.reduceEq, Int.reduceNeg, Int.reduceToNat, reduceIte, reduceCtorEq, hb3, hb4, e1, e3]
  · have e1 : decide (b = W.zero) = false := decide_eq_false h
    simp only [push_cast, Nat.reduceAdd, Nat.reduceSub, Nat.reduceMul, Nat.reduceLT, Nat.reduceLeDiff, Nat.reduceEqDiff, Nat.reduceMod, Nat.reduceDiv, Int.reduceAdd, Int.reduceSub, Int.reduceMul, Int.reduceLT, Int.reduceLE, Int.reduceEq, Int.reduceNeg, Int.reduceToNat, reduceIte, reduceCtorEq, hb3, hb4, e1, h]
    intro b5 hb5 b6 hb6
    simp only [push_cast, Nat.reduceAdd, Nat.reduceSub, Nat.reduceMul, Nat.reduceLT, Nat.reduceLeDiff, Nat.reduceEqDiff, Nat.reduceMod, Nat.reduceDiv, Int.reduceAdd, Int.reduceSub, Int.reduceMul, Int.reduceLT, Int.reduceLE, Int.reduceEq, Int.reduceNeg, Int.reduceToNat, reduceIte, reduceCtorEq, hb3, hb4, hb5, hb6, h]
theorem refMod (a b : W) : CallsV Try.prog 13 [a.v, b.v] [] (Ret0 (modW a b).v) := by
  refine callsO gU0_ok Try.mix Try.pl13 Try.func13 rfl Try.ntmps13 Try.results13 rfl (by first | rfl | assumption) (Nat.le_of_ble_eq_true rfl) (by kernel_rfl) ?_
  simp only [push_cast, Nat.reduceAdd, Nat.reduceSub, Nat.reduceMul, Nat.reduceLT, Nat.reduceLeDiff, Nat.reduceEqDiff, Nat.reduceMod, Nat.reduceDiv, Int.reduceAdd, Int.reduceSub, Int.reduceMul, Int.reduceLT, Int.reduceLE, Int.reduceEq, Int.reduceNeg, Int.reduceToNat, reduceIte, reduceCtorEq]
  intro b2 b3 hb3 b4 hb4
  by_cases h : b = W.zero
  · have e1 : decide (b = W.zero) = true := decide_eq_true h
    have e3 : modW a b = b := by unfold modW; rw [if_pos h, h]
    simp only [push_cast, Nat.reduceAdd, Nat.reduceSub, Nat.reduceMul, Nat.reduceLT, Nat.reduceLeDiff, Nat.reduceEqDiff, Nat.reduceMod, Nat.reduceDiv, Int.reduceAdd, Int.reduceSub, Int.reduceMul, Int.reduceLT, Int.reduceLE, Int.reduceEq, Int.reduceNeg, Int.reduceToNat, reduceIte, reduceCtorEq, hb3, hb4, e1, e3]
  · have e1 : decide (b = W.zero) = false := decide_eq_false h
    simp only [push_cast, Nat.reduceAdd, Nat.reduceSub, Nat.reduceMul, Nat.reduceLT, Nat.reduceLeDiff, Nat.reduceEqDiff, Nat.reduceMod, Nat.reduceDiv, Int.reduceAdd, Int.reduceSub, Int.reduceMul, Int.reduceLT, Int.reduceLE, Int.reduceEq, Int.reduceNeg, Int.reduceToNat, reduceIte, reduceCtorEq, hb3, hb4, e1, h]
    intro b5 hb5 b6 hb6
    simp only [push_cast, Nat.reduceAdd, Nat.reduceSub, Nat.reduceMul, Nat.reduceLT, Nat.reduceLeDiff, Nat.reduceEqDiff, Nat.reduceMod, Nat.reduceDiv, Int.reduceAdd, Int.reduceSub, Int.reduceMul, Int.reduceLT, Int.reduceLE, Int.reduceEq, Int.reduceNeg, Int.reduceToNat, reduceIte, reduceCtorEq, hb3, hb4, hb5, hb6, h]
theorem refDivG (args : List Value) (v : Value) (h : divG args = some v) : CallsV Try.prog 11 args [] (Ret0 v) := by
  obtain ⟨x, y, rfl, rfl⟩ := two_some (g := fun a b => (divW a b).v) (by funext l; rfl) h
  exact refDiv x y
theorem refModG (args : List Value) (v : Value) (h : modG args = some v) : CallsV Try.prog 13 args [] (Ret0 v) := by
  obtain ⟨x, y, rfl, rfl⟩ := two_some (g := fun a b => (modW a b).v) (by funext l; rfl) h
  exact refMod x y
noncomputable def gU1 : Gam := (addG 13 modG (addG 11 divG gU0))
attribute [push_cast] gU1
theorem gU1_ok : GamOk Try.prog gU1 := (addG_ok refModG (addG_ok refDivG gU0_ok))
theorem refSdiv (a b : W) : CallsV Try.prog 15 [a.v, b.v] [] (Ret0 (sdivW a b).v) := by
  obtain ⟨q, hq⟩ : ∃ q, q = divW (signedW a).1 (signedW b).1 := ⟨_, rfl⟩
  have e : sdivW a b = withW q (!(topB a.d == topB b.d)) := by unfold sdivW; rw [sgn_beq, ← hq]
  rw [e]
  refine callsO gU1_ok Try.mix Try.pl15 Try.func15 rfl Try.ntmps15 Try.results15 rfl (by first | rfl | assumption) (Nat.le_of_ble_eq_true rfl) (by kernel_rfl) ?_
  simp only [push_cast, Nat.reduceAdd, Nat.reduceSub, Nat.reduceMul, Nat.reduceLT, Nat.reduceLeDiff, Nat.reduceEqDiff, Nat.reduceMod, Nat.reduceDiv, Int.reduceAdd, Int.reduceSub, Int.reduceMul, Int.reduceLT, Int.reduceLE, Int.reduceEq, Int.reduceNeg, Int.reduceToNat, reduceIte, reduceCtorEq]
  intro b2 b3 hb3 b4 hb4
  simp only [push_cast, Nat.reduceAdd, Nat.reduceSub, Nat.reduceMul, Nat.reduceLT, Nat.reduceLeDiff, Nat.reduceEqDiff, Nat.reduceMod, Nat.reduceDiv, Int.reduceAdd, Int.reduceSub, Int.reduceMul, Int.reduceLT, Int.reduceLE, Int.reduceEq, Int.reduceNeg, Int.reduceToNat, reduceIte, reduceCtorEq, hb3, hb4, ← hq]
  intro b5 hb5
  cases sa : topB a.d <;> cases sb : topB b.d
  all_goals
    simp only [push_cast, Nat.reduceAdd, Nat.reduceSub, Nat.reduceMul, Nat.reduceLT, Nat.reduceLeDiff, Nat.reduceEqDiff, Nat.reduceMod, Nat.reduceDiv, Int.reduceAdd, Int.reduceSub, Int.reduceMul, Int.reduceLT, Int.reduceLE, Int.reduceEq, Int.reduceNeg, Int.reduceToNat, reduceIte, reduceCtorEq, hb3, hb4, hb5, ← hq, sa, sb]
    try rfl
theorem refSmod (a b : W) : CallsV Try.prog 17 [a.v, b.v] [] (Ret0 (smodW a b).v) := by
  obtain ⟨q, hq⟩ : ∃ q, q = modW (signedW a).1 (signedW b).1 := ⟨_, rfl⟩
  have e : smodW a b = withW q (topB a.d) := by unfold smodW; rw [signed_top, ← hq]
  rw [e]
  refine callsO gU1_ok Try.mix Try.pl17 Try.func17 rfl Try.ntmps17 Try.results17 rfl (by first | rfl | assumption) (Nat.le_of_ble_eq_true rfl) (by kernel_rfl) ?_
  simp only [push_cast, Nat.reduceAdd, Nat.reduceSub, Nat.reduceMul, Nat.reduceLT, Nat.reduceLeDiff, Nat.reduceEqDiff, Nat.reduceMod, Nat.reduceDiv, Int.reduceAdd, Int.reduceSub, Int.reduceMul, Int.reduceLT, Int.reduceLE, Int.reduceEq, Int.reduceNeg, Int.reduceToNat, reduceIte, reduceCtorEq]
  intro b2 b3 hb3 b4 hb4
  simp only [push_cast, Nat.reduceAdd, Nat.reduceSub, Nat.reduceMul, Nat.reduceLT, Nat.reduceLeDiff, Nat.reduceEqDiff, Nat.reduceMod, Nat.reduceDiv, Int.reduceAdd, Int.reduceSub, Int.reduceMul, Int.reduceLT, Int.reduceLE, Int.reduceEq, Int.reduceNeg, Int.reduceToNat, reduceIte, reduceCtorEq, hb3, hb4, ← hq]
  intro b5 hb5
  cases sa : topB a.d
  all_goals
    simp only [push_cast, Nat.reduceAdd, Nat.reduceSub, Nat.reduceMul, Nat.reduceLT, Nat.reduceLeDiff, Nat.reduceEqDiff, Nat.reduceMod, Nat.reduceDiv, Int.reduceAdd, Int.reduceSub, Int.reduceMul, Int.reduceLT, Int.reduceLE, Int.reduceEq, Int.reduceNeg, Int.reduceToNat, reduceIte, reduceCtorEq, hb3, hb4, hb5, ← hq, sa]
    try rfl
def plT : Plans := fun i => if i = 4 then [(0, 9)] else if i = 5 then [(0, 9)] else Try.pl19 i
attribute [push_cast] plT
theorem refAddmod (a b n : W) : CallsV Try.prog 19 [a.v, b.v, n.v] [] (Ret0 (addmodW a b n).v) := by
  refine callsO gU1_ok Try.mix plT Try.func19 rfl Try.ntmps19 Try.results19 rfl (by first | rfl | assumption) (Nat.le_of_ble_eq_true rfl) (by kernel_rfl) ?_
  simp only [push_cast, Nat.reduceAdd, Nat.reduceSub, Nat.reduceMul, Nat.reduceLT, Nat.reduceLeDiff, Nat.reduceEqDiff, Nat.reduceMod, Nat.reduceDiv, Int.reduceAdd, Int.reduceSub, Int.reduceMul, Int.reduceLT, Int.reduceLE, Int.reduceEq, Int.reduceNeg, Int.reduceToNat, reduceIte, reduceCtorEq]
  intro b3 b4 hb4 b5 hb5 b6 hb6
  by_cases h : n = W.zero
  · have e1 : decide (n = W.zero) = true := decide_eq_true h
    have e3 : addmodW a b n = n := by unfold addmodW; rw [if_pos h, h]
    simp only [push_cast, Nat.reduceAdd, Nat.reduceSub, Nat.reduceMul, Nat.reduceLT, Nat.reduceLeDiff, Nat.reduceEqDiff, Nat.reduceMod, Nat.reduceDiv, Int.reduceAdd, Int.reduceSub, Int.reduceMul, Int.reduceLT, Int.reduceLE, Int.reduceEq, Int.reduceNeg, Int.reduceToNat, reduceIte, reduceCtorEq, hb4, hb5, hb6, e1, e3]
  · have e1 : decide (n = W.zero) = false := decide_eq_false h
    have e2 := addmod_less (a := a) (b := b) h
    simp only [push_cast, Nat.reduceAdd, Nat.reduceSub, Nat.reduceMul, Nat.reduceLT, Nat.reduceLeDiff, Nat.reduceEqDiff, Nat.reduceMod, Nat.reduceDiv, Int.reduceAdd, Int.reduceSub, Int.reduceMul, Int.reduceLT, Int.reduceLE, Int.reduceEq, Int.reduceNeg, Int.reduceToNat, reduceIte, reduceCtorEq, hb4, hb5, hb6, e1]
    intro b7 hb7
    refine regO gU1_ok ?_
    simp only [push_cast, Nat.reduceAdd, Nat.reduceSub, Nat.reduceMul, Nat.reduceLT, Nat.reduceLeDiff, Nat.reduceEqDiff, Nat.reduceMod, Nat.reduceDiv, Int.reduceAdd, Int.reduceSub, Int.reduceMul, Int.reduceLT, Int.reduceLE, Int.reduceEq, Int.reduceNeg, Int.reduceToNat, reduceIte, reduceCtorEq, hb4, hb5, hb6, hb7]
    intro b8 hb8
    refine regO gU1_ok ?_
    generalize hK : (thenK _ _ : Exit → Tm → Hp → Prop) = K0
    simp only [push_cast, Nat.reduceAdd, Nat.reduceSub, Nat.reduceMul, Nat.reduceLT, Nat.reduceLeDiff, Nat.reduceEqDiff, Nat.reduceMod, Nat.reduceDiv, Int.reduceAdd, Int.reduceSub, Int.reduceMul, Int.reduceLT, Int.reduceLE, Int.reduceEq, Int.reduceNeg, Int.reduceToNat, reduceIte, reduceCtorEq, hb4, hb5, hb6, hb7, hb8]
    intro b9 hb9
    rw [← hK]
    simp only [push_cast, Nat.reduceAdd, Nat.reduceSub, Nat.reduceMul, Nat.reduceLT, Nat.reduceLeDiff, Nat.reduceEqDiff, Nat.reduceMod, Nat.reduceDiv, Int.reduceAdd, Int.reduceSub, Int.reduceMul, Int.reduceLT, Int.reduceLE, Int.reduceEq, Int.reduceNeg, Int.reduceToNat, reduceIte, reduceCtorEq, hb4, hb5, hb6, hb7, hb8, hb9]
    intro b10 hb10
    simp only [push_cast, Nat.reduceAdd, Nat.reduceSub, Nat.reduceMul, Nat.reduceLT, Nat.reduceLeDiff, Nat.reduceEqDiff, Nat.reduceMod, Nat.reduceDiv, Int.reduceAdd, Int.reduceSub, Int.reduceMul, Int.reduceLT, Int.reduceLE, Int.reduceEq, Int.reduceNeg, Int.reduceToNat, reduceIte, reduceCtorEq, hb4, hb5, hb6, hb7, hb8, hb9, hb10, e2]
    done
end Go.Proofs.Ytbpnjkedflkabaa
