/- Texts of this claim, merged by program: Ar EvW. -/
import Derived.Test.YtkhpncfgimlleaaGreatZnAm
import Derived.Test.YtkhpncfgimlleaaGreatZnAk
set_option linter.unusedSimpArgs false
set_option linter.unusedVariables false
namespace Go.Ev
def DoO (e : Nat) (r : List Ac × Ch × Int) : Value → Hp → Hp → Prop := fun u N1 H => ∃ w, u = .tuple #[w, r.2.1.v, .int .i64 r.2.2] ∧ StO e r.1 w N1 H
theorem DoO.rd (e : Nat) (r : List Ac × Ch × Int) : RdOwn (DoO e r) := by
  rintro v N1 A B h ⟨w, rfl, h1⟩
  exact ⟨w, rfl, StO.rd _ _ _ _ _ _ h h1⟩
theorem subH_pick {e8 e7 e5 e3 : Ent} {N M : Hp} (h85 : ¬ e5.blk = e8.blk) (h75 : ¬ e5.blk = e7.blk) (h8 : fresh e8.blk M) (h7 : fresh e7.blk M) (h3 : fresh e3.blk M) (hN : freshN N M) : subH (e8 :: e7 :: e5 :: e3 :: (N ++ M)) (e5 :: M) := by
  refine ⟨by simp [findE, h85, h75], ?_⟩
  have : remE (e8 :: e7 :: e5 :: e3 :: (N ++ M)) e5.blk = [] ++ ((e8 :: e7 :: e3 :: N) ++ M) := by simp [remE, h85, h75]
  rw [this]
  exact subH_ins (A := e8 :: e7 :: e3 :: N) (B := M) ⟨h8, h7, h3, hN⟩ []
theorem freshN_appR {L N M : Hp} (h : freshN L (N ++ M)) : freshN L M := (freshN_mono h).2
theorem mergeR_len1 (l m : List Sl) : (mergeR l m).1.length ≤ 1000 := by
  unfold mergeR
  split
  · unfold limR
    split
    · simp
    · dsimp only; omega
  · simp
end Go.Ev
namespace Go.Proofs.YtkhpncfgimlleaaGreat
open Go Go.Ev Go.Proofs
set_option maxRecDepth 100000
set_option maxHeartbeats 4000000
def plRDo : Plans := fun i => if i = 1 then [(0, 9)] else if i = 4 then [(0, 9)] else if i = 8 then [(0, 9)] else if i = 21 then [(0, 9)] else if i = 23 then [(0, 9)] else Tryz.pl44 i
attribute [push_cast] plRDo
theorem refDo_ok {M : Hp} {s : List Ac} {v : Value} {c : Ch} (hv : StR s v M) (hn : s.length ≤ 1000000000) (hsl : ∀ y ∈ s, y.slots.length ≤ 2000) : CallsW Tryz.prog 44 [v, c.v] M (DoO 44 (doS s c)) := by
  intro M0 hr he
  have hm := hr.marks
  replace hv := StR.rd _ _ _ _ he.symm hv
  obtain ⟨p, k, hvv⟩ : ∃ p k, v = .slice p s.length k := by
    obtain ⟨L, h1, h2, -⟩ := hv
    obtain ⟨p, k, h3⟩ := h2.slice
    exact ⟨p, k, by rw [h3, ← h1, List.length_map]⟩
  subst hvv
  refine callsO gA1_ok Tryz.mix plRDo Tryz.func44 rfl Tryz.ntmps44 Tryz.results44 rfl (by first | rfl | assumption) (Nat.le_of_ble_eq_true rfl) (by kernel_rfl) ?_
  simp only [push_cast, Nat.reduceAdd, Nat.reduceSub, Nat.reduceMul, Nat.reduceLT, Nat.reduceLeDiff, Nat.reduceEqDiff, Nat.reduceMod, Nat.reduceDiv, Int.reduceAdd, Int.reduceSub, Int.reduceMul, Int.reduceLT, Int.reduceLE, Int.reduceEq, Int.reduceNeg, Int.reduceToNat, reduceIte, reduceCtorEq, Int.reduceBEq, Int.reduceBNe]
  intro b3 hb3 b5 hb5
  have f3 : fresh b3 M0 := hb3
  have f5 : fresh b5 M0 := hb5.2.2
  refine regO gA1_ok ?_
  simp only [push_cast, Nat.reduceAdd, Nat.reduceSub, Nat.reduceMul, Nat.reduceLT, Nat.reduceLeDiff, Nat.reduceEqDiff, Nat.reduceMod, Nat.reduceDiv, Int.reduceAdd, Int.reduceSub, Int.reduceMul, Int.reduceLT, Int.reduceLE, Int.reduceEq, Int.reduceNeg, Int.reduceToNat, reduceIte, reduceCtorEq, Int.reduceBEq, Int.reduceBNe, hb5]
  refine useP [_, _] (fun M1 hr1 he1 => refRightS_ok (StR.rd _ _ _ _ he1.symm hv) hr1.marks (by omega) (fun y hy => by have := hsl y hy; omega)) ⟨f5, f3, trivial⟩ ?_
  have hsl' : ∀ y ∈ s, y.slots.length ≤ 1000000000000 := fun y hy => by have := hsl y hy; omega
  cases hrs : rightS s
  case false =>
    have e : doS s c = (s, Ch.zero, 1) := by unfold doS; rw [if_pos hrs]
    rw [e]
    simp only [push_cast, Nat.reduceAdd, Nat.reduceSub, Nat.reduceMul, Nat.reduceLT, Nat.reduceLeDiff, Nat.reduceEqDiff, Nat.reduceMod, Nat.reduceDiv, Int.reduceAdd, Int.reduceSub, Int.reduceMul, Int.reduceLT, Int.reduceLE, Int.reduceEq, Int.reduceNeg, Int.reduceToNat, reduceIte, reduceCtorEq, Int.reduceBEq, Int.reduceBNe, hb5]
    refine useB [_, _] (refOwn_ok hv hn hsl') (StO.rd _ _) hm ⟨f5, f3, trivial⟩ fun w N M1 hg hf hL hw hmN hq => ?_
    simp only [push_cast, Nat.reduceAdd, Nat.reduceSub, Nat.reduceMul, Nat.reduceLT, Nat.reduceLeDiff, Nat.reduceEqDiff, Nat.reduceMod, Nat.reduceDiv, Int.reduceAdd, Int.reduceSub, Int.reduceMul, Int.reduceLT, Int.reduceLE, Int.reduceEq, Int.reduceNeg, Int.reduceToNat, reduceIte, reduceCtorEq, Int.reduceBEq, Int.reduceBNe, hb5]
    exact doneN [_, _] hg hw hmN hf (DoO.rd _ _) ⟨_, rfl, hq⟩
  have e1 : (decide (c.kind < 1)) = true ∨ decide (4 < c.kind) = true → doS s c = (s, Ch.zero, 1) := fun h => by
    simp only [decide_eq_true_eq] at h
    have : chA (findS s c.at_) c = (findS s c.at_, ⟨c.kind, c.at_, W.zero, W.zero, 0, .empty⟩, 1) := by
      unfold chA
      rw [if_neg (by omega), if_neg (by omega), if_neg (by omega), if_neg (by omega)]
    unfold doS
    rw [if_neg (by rw [hrs]; simp), this, if_pos (by simp)]
  by_cases h1 : c.kind < 1
  · rw [e1 (.inl (by simpa using h1))]
    simp only [push_cast, Nat.reduceAdd, Nat.reduceSub, Nat.reduceMul, Nat.reduceLT, Nat.reduceLeDiff, Nat.reduceEqDiff, Nat.reduceMod, Nat.reduceDiv, Int.reduceAdd, Int.reduceSub, Int.reduceMul, Int.reduceLT, Int.reduceLE, Int.reduceEq, Int.reduceNeg, Int.reduceToNat, reduceIte, reduceCtorEq, Int.reduceBEq, Int.reduceBNe, hb5, h1]
    refine useB [_, _] (refOwn_ok hv hn hsl') (StO.rd _ _) hm ⟨f5, f3, trivial⟩ fun w N M1 hg hf hL hw hmN hq => ?_
    simp only [push_cast, Nat.reduceAdd, Nat.reduceSub, Nat.reduceMul, Nat.reduceLT, Nat.reduceLeDiff, Nat.reduceEqDiff, Nat.reduceMod, Nat.reduceDiv, Int.reduceAdd, Int.reduceSub, Int.reduceMul, Int.reduceLT, Int.reduceLE, Int.reduceEq, Int.reduceNeg, Int.reduceToNat, reduceIte, reduceCtorEq, Int.reduceBEq, Int.reduceBNe, hb5]
    exact doneN [_, _] hg hw hmN hf (DoO.rd _ _) ⟨_, rfl, hq⟩
  by_cases h4 : 4 < c.kind
  · rw [e1 (.inr (by simpa using h4))]
    simp only [push_cast, Nat.reduceAdd, Nat.reduceSub, Nat.reduceMul, Nat.reduceLT, Nat.reduceLeDiff, Nat.reduceEqDiff, Nat.reduceMod, Nat.reduceDiv, Int.reduceAdd, Int.reduceSub, Int.reduceMul, Int.reduceLT, Int.reduceLE, Int.reduceEq, Int.reduceNeg, Int.reduceToNat, reduceIte, reduceCtorEq, Int.reduceBEq, Int.reduceBNe, hb5, h1, h4]
    refine useB [_, _] (refOwn_ok hv hn hsl') (StO.rd _ _) hm ⟨f5, f3, trivial⟩ fun w N M1 hg hf hL hw hmN hq => ?_
    simp only [push_cast, Nat.reduceAdd, Nat.reduceSub, Nat.reduceMul, Nat.reduceLT, Nat.reduceLeDiff, Nat.reduceEqDiff, Nat.reduceMod, Nat.reduceDiv, Int.reduceAdd, Int.reduceSub, Int.reduceMul, Int.reduceLT, Int.reduceLE, Int.reduceEq, Int.reduceNeg, Int.reduceToNat, reduceIte, reduceCtorEq, Int.reduceBEq, Int.reduceBNe, hb5]
    exact doneN [_, _] hg hw hmN hf (DoO.rd _ _) ⟨_, rfl, hq⟩
  simp only [push_cast, Nat.reduceAdd, Nat.reduceSub, Nat.reduceMul, Nat.reduceLT, Nat.reduceLeDiff, Nat.reduceEqDiff, Nat.reduceMod, Nat.reduceDiv, Int.reduceAdd, Int.reduceSub, Int.reduceMul, Int.reduceLT, Int.reduceLE, Int.reduceEq, Int.reduceNeg, Int.reduceToNat, reduceIte, reduceCtorEq, Int.reduceBEq, Int.reduceBNe, hb5, h1, h4]
  refine useL [_, _] (refFind_ok hv hn hsl') (AcR.rd _) hm ⟨f5, f3, trivial⟩ fun w M1 hg1 hL1 hq1 => ?_
  obtain ⟨sv, rfl, hsv⟩ := hq1
  have f31 : fresh b3 M1 := hL1.2.1
  have f51 : fresh b5 M1 := hL1.1
  obtain ⟨x, hx⟩ : ∃ x, x = findS s c.at_ := ⟨_, rfl⟩
  have hri := rightS_iff.1 hrs
  have hxm : mayA x = true := by rw [hx]; exact hri.findMay _
  have hxl := (mayA_slots hxm).len
  rw [← hx] at hsv
  obtain ⟨ps, ks, rfl⟩ := hsv.slice
  rw [← hx]
  simp only [push_cast, Nat.reduceAdd, Nat.reduceSub, Nat.reduceMul, Nat.reduceLT, Nat.reduceLeDiff, Nat.reduceEqDiff, Nat.reduceMod, Nat.reduceDiv, Int.reduceAdd, Int.reduceSub, Int.reduceMul, Int.reduceLT, Int.reduceLE, Int.reduceEq, Int.reduceNeg, Int.reduceToNat, reduceIte, reduceCtorEq, Int.reduceBEq, Int.reduceBNe]
  intro b7 hb7
  try simp only [push_cast, Nat.reduceAdd, Nat.reduceSub, Nat.reduceMul, Nat.reduceLT, Nat.reduceLeDiff, Nat.reduceEqDiff, Nat.reduceMod, Nat.reduceDiv, Int.reduceAdd, Int.reduceSub, Int.reduceMul, Int.reduceLT, Int.reduceLE, Int.reduceEq, Int.reduceNeg, Int.reduceToNat, reduceIte, reduceCtorEq, Int.reduceBEq, Int.reduceBNe, hb5, hb7]
  refine regO gA1_ok ?_
  simp only [push_cast, Nat.reduceAdd, Nat.reduceSub, Nat.reduceMul, Nat.reduceLT, Nat.reduceLeDiff, Nat.reduceEqDiff, Nat.reduceMod, Nat.reduceDiv, Int.reduceAdd, Int.reduceSub, Int.reduceMul, Int.reduceLT, Int.reduceLE, Int.reduceEq, Int.reduceNeg, Int.reduceToNat, reduceIte, reduceCtorEq, Int.reduceBEq, Int.reduceBNe, hb5, hb7]
  intro b8 hb8
  have hv1 : StR s (.slice p s.length k) M1 := hv.ext hg1.ext
  have f7 : fresh b7 M1 := hb7.2.2.2.2
  have f8 : fresh b8 M1 := hb8.2.2.2.2.2.2
  by_cases k1 : c.kind = 1
  · have e : chA x c = (⟨x.at_, c.val, x.nonce, x.code, x.slots⟩, ⟨c.kind, c.at_, W.zero, x.bal, 0, .empty⟩, 0) := by unfold chA; rw [if_pos k1]
    have e1 : (c.kind == 1) = true := by rw [k1]; rfl
    simp only [push_cast, Nat.reduceAdd, Nat.reduceSub, Nat.reduceMul, Nat.reduceLT, Nat.reduceLeDiff, Nat.reduceEqDiff, Nat.reduceMod, Nat.reduceDiv, Int.reduceAdd, Int.reduceSub, Int.reduceMul, Int.reduceLT, Int.reduceLE, Int.reduceEq, Int.reduceNeg, Int.reduceToNat, reduceIte, reduceCtorEq, Int.reduceBEq, Int.reduceBNe, hb5, hb7, hb8, e1]
    refine regO gA1_ok ?_
    simp only [push_cast, Nat.reduceAdd, Nat.reduceSub, Nat.reduceMul, Nat.reduceLT, Nat.reduceLeDiff, Nat.reduceEqDiff, Nat.reduceMod, Nat.reduceDiv, Int.reduceAdd, Int.reduceSub, Int.reduceMul, Int.reduceLT, Int.reduceLE, Int.reduceEq, Int.reduceNeg, Int.reduceToNat, reduceIte, reduceCtorEq, Int.reduceBEq, Int.reduceBNe, hb5, hb7, hb8]
    have hx3 : (chA (findS s c.at_) c).1 = ⟨x.at_, c.val, x.nonce, x.code, x.slots⟩ := by rw [← hx, e]
    have hu3 : (chA (findS s c.at_) c).2.1 = ⟨c.kind, c.at_, W.zero, x.bal, 0, .empty⟩ := by rw [← hx, e]
    have hc3 : (chA (findS s c.at_) c).2.2 = 0 := by rw [← hx, e]
    refine useB [_, _, _, _] (refSet_ok (x := ⟨x.at_, c.val, x.nonce, x.code, x.slots⟩) hv1 hsv hn (fun y hy => by have := hsl y hy; omega) (by dsimp only; omega)) (SetO.rd _ _) hg1.marks ⟨f8, f7, f51, f31, trivial⟩ fun w N9 M9 hg9 hf9 hL9 hw9 hm9 hq9 => ?_
    obtain ⟨w9, rfl, hst9⟩ := hq9
    obtain ⟨p9, k9, rfl⟩ : ∃ p k, w9 = .slice p (setS s ⟨x.at_, c.val, x.nonce, x.code, x.slots⟩).1.length k := by
      obtain ⟨L, h1, h2, -⟩ := hst9
      obtain ⟨p, k, h3⟩ := h2.slice
      exact ⟨p, k, by rw [h3, ← h1, List.length_map]⟩
    by_cases hz : (setS s ⟨x.at_, c.val, x.nonce, x.code, x.slots⟩).2 = 0
    · have hz1 : ((setS s ⟨x.at_, c.val, x.nonce, x.code, x.slots⟩).2 != 0) = false := by rw [hz]; rfl
      have hdo : doS s c = ((setS s ⟨x.at_, c.val, x.nonce, x.code, x.slots⟩).1, ⟨c.kind, c.at_, W.zero, x.bal, 0, .empty⟩, 0) := by
        unfold doS
        rw [if_neg (by rw [hrs]; simp), if_neg (by rw [hc3]; simp), hx3, if_neg (by simpa using hz), hu3]
      rw [hdo]
      simp only [push_cast, Nat.reduceAdd, Nat.reduceSub, Nat.reduceMul, Nat.reduceLT, Nat.reduceLeDiff, Nat.reduceEqDiff, Nat.reduceMod, Nat.reduceDiv, Int.reduceAdd, Int.reduceSub, Int.reduceMul, Int.reduceLT, Int.reduceLE, Int.reduceEq, Int.reduceNeg, Int.reduceToNat, reduceIte, reduceCtorEq, Int.reduceBEq, Int.reduceBNe, hb5, hb7, hb8, hz1]
      exact doneN [_, _, _, _] (hg1.trans hg9) hw9 hm9 hf9 (DoO.rd _ _) ⟨_, rfl, hst9⟩
    · have hz1 : ((setS s ⟨x.at_, c.val, x.nonce, x.code, x.slots⟩).2 != 0) = true := by rw [bne_iff_ne]; exact hz
      have hdo : doS s c = (s, Ch.zero, (setS s ⟨x.at_, c.val, x.nonce, x.code, x.slots⟩).2) := by
        unfold doS
        rw [if_neg (by rw [hrs]; simp), if_neg (by rw [hc3]; simp), hx3, if_pos (by simpa using hz)]
      rw [hdo]
      obtain ⟨e9, he9⟩ : ∃ e, e = (setS s ⟨x.at_, c.val, x.nonce, x.code, x.slots⟩).2 := ⟨_, rfl⟩
      rw [← he9]
      rw [← he9] at hz1
      simp only [push_cast, Nat.reduceAdd, Nat.reduceSub, Nat.reduceMul, Nat.reduceLT, Nat.reduceLeDiff, Nat.reduceEqDiff, Nat.reduceMod, Nat.reduceDiv, Int.reduceAdd, Int.reduceSub, Int.reduceMul, Int.reduceLT, Int.reduceLE, Int.reduceEq, Int.reduceNeg, Int.reduceToNat, reduceIte, reduceCtorEq, Int.reduceBEq, Int.reduceBNe, hb5, hb7, hb8, hz1]
      refine WpV.sub (s := ([(0, .slice p s.length k), (5, .pointer (some ⟨b5, 0, none⟩)), (12, .int .i64 e9)], ⟨b5, 0, .cel 31, Ch.zero.cells⟩ :: M9)) ⟨by simp only [push_cast, Nat.reduceAdd, Nat.reduceSub, Nat.reduceMul, Nat.reduceLT, Nat.reduceLeDiff, Nat.reduceEqDiff, Nat.reduceMod, Nat.reduceDiv, Int.reduceAdd, Int.reduceSub, Int.reduceMul, Int.reduceLT, Int.reduceLE, Int.reduceEq, Int.reduceNeg, Int.reduceToNat, reduceIte, reduceCtorEq, Int.reduceBEq, Int.reduceBNe], ?_, ?_⟩ ?_
      · have hL99 := freshN_appR hL9
        exact subH_pick (by exact hb8.2.2.2.1) (by exact hb7.2.1) (by exact hL99.1) (by exact hL99.2.1) (by exact hL99.2.2.2.1) hf9
      · simp [marks_append, marksOf, hm9]
      have hvE := StR.ext hg1.ext hv
      have f59 : fresh b5 M9 := (freshN_appR hL9).2.2.1
      refine regO gA1_ok ?_
      simp only [push_cast, Nat.reduceAdd, Nat.reduceSub, Nat.reduceMul, Nat.reduceLT, Nat.reduceLeDiff, Nat.reduceEqDiff, Nat.reduceMod, Nat.reduceDiv, Int.reduceAdd, Int.reduceSub, Int.reduceMul, Int.reduceLT, Int.reduceLE, Int.reduceEq, Int.reduceNeg, Int.reduceToNat, reduceIte, reduceCtorEq, Int.reduceBEq, Int.reduceBNe]
      refine useB [_] (refOwn_ok ((StR.ext (hg1.trans hg9).ext hv)) hn hsl') (StO.rd _ _) hg9.marks ⟨f59, trivial⟩ fun w N8 M8 hg8 hf8 hL8 hw8 hm8 hq8 => ?_
      simp only [push_cast, Nat.reduceAdd, Nat.reduceSub, Nat.reduceMul, Nat.reduceLT, Nat.reduceLeDiff, Nat.reduceEqDiff, Nat.reduceMod, Nat.reduceDiv, Int.reduceAdd, Int.reduceSub, Int.reduceMul, Int.reduceLT, Int.reduceLE, Int.reduceEq, Int.reduceNeg, Int.reduceToNat, reduceIte, reduceCtorEq, Int.reduceBEq, Int.reduceBNe]
      exact doneN [_] ((hg1.trans hg9).trans hg8) hw8 hm8 hf8 (DoO.rd _ _) ⟨_, rfl, hq8⟩
  have e1 : (c.kind == 1) = false := beq_eq_false_iff_ne.2 k1
  by_cases k2 : c.kind = 2
  · have e : chA x c = (⟨x.at_, x.bal, c.nonce, x.code, x.slots⟩, ⟨c.kind, c.at_, W.zero, W.zero, x.nonce, .empty⟩, 0) := by unfold chA; rw [if_neg k1, if_pos k2]
    have e2 : (c.kind == 2) = true := by rw [k2]; rfl
    simp only [push_cast, Nat.reduceAdd, Nat.reduceSub, Nat.reduceMul, Nat.reduceLT, Nat.reduceLeDiff, Nat.reduceEqDiff, Nat.reduceMod, Nat.reduceDiv, Int.reduceAdd, Int.reduceSub, Int.reduceMul, Int.reduceLT, Int.reduceLE, Int.reduceEq, Int.reduceNeg, Int.reduceToNat, reduceIte, reduceCtorEq, Int.reduceBEq, Int.reduceBNe, hb5, hb7, hb8, e1, e2]
    refine regO gA1_ok ?_
    simp only [push_cast, Nat.reduceAdd, Nat.reduceSub, Nat.reduceMul, Nat.reduceLT, Nat.reduceLeDiff, Nat.reduceEqDiff, Nat.reduceMod, Nat.reduceDiv, Int.reduceAdd, Int.reduceSub, Int.reduceMul, Int.reduceLT, Int.reduceLE, Int.reduceEq, Int.reduceNeg, Int.reduceToNat, reduceIte, reduceCtorEq, Int.reduceBEq, Int.reduceBNe, hb5, hb7, hb8]
    have hx3 : (chA (findS s c.at_) c).1 = ⟨x.at_, x.bal, c.nonce, x.code, x.slots⟩ := by rw [← hx, e]
    have hu3 : (chA (findS s c.at_) c).2.1 = ⟨c.kind, c.at_, W.zero, W.zero, x.nonce, .empty⟩ := by rw [← hx, e]
    have hc3 : (chA (findS s c.at_) c).2.2 = 0 := by rw [← hx, e]
    refine useB [_, _, _, _] (refSet_ok (x := ⟨x.at_, x.bal, c.nonce, x.code, x.slots⟩) hv1 hsv hn (fun y hy => by have := hsl y hy; omega) (by dsimp only; omega)) (SetO.rd _ _) hg1.marks ⟨f8, f7, f51, f31, trivial⟩ fun w N9 M9 hg9 hf9 hL9 hw9 hm9 hq9 => ?_
    obtain ⟨w9, rfl, hst9⟩ := hq9
    obtain ⟨p9, k9, rfl⟩ : ∃ p k, w9 = .slice p (setS s ⟨x.at_, x.bal, c.nonce, x.code, x.slots⟩).1.length k := by
      obtain ⟨L, h1, h2, -⟩ := hst9
      obtain ⟨p, k, h3⟩ := h2.slice
      exact ⟨p, k, by rw [h3, ← h1, List.length_map]⟩
    by_cases hz : (setS s ⟨x.at_, x.bal, c.nonce, x.code, x.slots⟩).2 = 0
    · have hz1 : ((setS s ⟨x.at_, x.bal, c.nonce, x.code, x.slots⟩).2 != 0) = false := by rw [hz]; rfl
      have hdo : doS s c = ((setS s ⟨x.at_, x.bal, c.nonce, x.code, x.slots⟩).1, ⟨c.kind, c.at_, W.zero, W.zero, x.nonce, .empty⟩, 0) := by
        unfold doS
        rw [if_neg (by rw [hrs]; simp), if_neg (by rw [hc3]; simp), hx3, if_neg (by simpa using hz), hu3]
      rw [hdo]
      simp only [push_cast, Nat.reduceAdd, Nat.reduceSub, Nat.reduceMul, Nat.reduceLT, Nat.reduceLeDiff, Nat.reduceEqDiff, Nat.reduceMod, Nat.reduceDiv, Int.reduceAdd, Int.reduceSub, Int.reduceMul, Int.reduceLT, Int.reduceLE, Int.reduceEq, Int.reduceNeg, Int.reduceToNat, reduceIte, reduceCtorEq, Int.reduceBEq, Int.reduceBNe, hb5, hb7, hb8, hz1]
      exact doneN [_, _, _, _] (hg1.trans hg9) hw9 hm9 hf9 (DoO.rd _ _) ⟨_, rfl, hst9⟩
    · have hz1 : ((setS s ⟨x.at_, x.bal, c.nonce, x.code, x.slots⟩).2 != 0) = true := by rw [bne_iff_ne]; exact hz
      have hdo : doS s c = (s, Ch.zero, (setS s ⟨x.at_, x.bal, c.nonce, x.code, x.slots⟩).2) := by
        unfold doS
        rw [if_neg (by rw [hrs]; simp), if_neg (by rw [hc3]; simp), hx3, if_pos (by simpa using hz)]
      rw [hdo]
      obtain ⟨e9, he9⟩ : ∃ e, e = (setS s ⟨x.at_, x.bal, c.nonce, x.code, x.slots⟩).2 := ⟨_, rfl⟩
      rw [← he9]
      rw [← he9] at hz1
      simp only [push_cast, Nat.reduceAdd, Nat.reduceSub, Nat.reduceMul, Nat.reduceLT, Nat.reduceLeDiff, Nat.reduceEqDiff, Nat.reduceMod, Nat.reduceDiv, Int.reduceAdd, Int.reduceSub, Int.reduceMul, Int.reduceLT, Int.reduceLE, Int.reduceEq, Int.reduceNeg, Int.reduceToNat, reduceIte, reduceCtorEq, Int.reduceBEq, Int.reduceBNe, hb5, hb7, hb8, hz1]
      refine WpV.sub (s := ([(0, .slice p s.length k), (5, .pointer (some ⟨b5, 0, none⟩)), (12, .int .i64 e9)], ⟨b5, 0, .cel 31, Ch.zero.cells⟩ :: M9)) ⟨by simp only [push_cast, Nat.reduceAdd, Nat.reduceSub, Nat.reduceMul, Nat.reduceLT, Nat.reduceLeDiff, Nat.reduceEqDiff, Nat.reduceMod, Nat.reduceDiv, Int.reduceAdd, Int.reduceSub, Int.reduceMul, Int.reduceLT, Int.reduceLE, Int.reduceEq, Int.reduceNeg, Int.reduceToNat, reduceIte, reduceCtorEq, Int.reduceBEq, Int.reduceBNe], ?_, ?_⟩ ?_
      · have hL99 := freshN_appR hL9
        exact subH_pick (by exact hb8.2.2.2.1) (by exact hb7.2.1) (by exact hL99.1) (by exact hL99.2.1) (by exact hL99.2.2.2.1) hf9
      · simp [marks_append, marksOf, hm9]
      have hvE := StR.ext hg1.ext hv
      have f59 : fresh b5 M9 := (freshN_appR hL9).2.2.1
      refine regO gA1_ok ?_
      simp only [push_cast, Nat.reduceAdd, Nat.reduceSub, Nat.reduceMul, Nat.reduceLT, Nat.reduceLeDiff, Nat.reduceEqDiff, Nat.reduceMod, Nat.reduceDiv, Int.reduceAdd, Int.reduceSub, Int.reduceMul, Int.reduceLT, Int.reduceLE, Int.reduceEq, Int.reduceNeg, Int.reduceToNat, reduceIte, reduceCtorEq, Int.reduceBEq, Int.reduceBNe]
      refine useB [_] (refOwn_ok ((StR.ext (hg1.trans hg9).ext hv)) hn hsl') (StO.rd _ _) hg9.marks ⟨f59, trivial⟩ fun w N8 M8 hg8 hf8 hL8 hw8 hm8 hq8 => ?_
      simp only [push_cast, Nat.reduceAdd, Nat.reduceSub, Nat.reduceMul, Nat.reduceLT, Nat.reduceLeDiff, Nat.reduceEqDiff, Nat.reduceMod, Nat.reduceDiv, Int.reduceAdd, Int.reduceSub, Int.reduceMul, Int.reduceLT, Int.reduceLE, Int.reduceEq, Int.reduceNeg, Int.reduceToNat, reduceIte, reduceCtorEq, Int.reduceBEq, Int.reduceBNe]
      exact doneN [_] ((hg1.trans hg9).trans hg8) hw8 hm8 hf8 (DoO.rd _ _) ⟨_, rfl, hq8⟩
  have e2 : (c.kind == 2) = false := beq_eq_false_iff_ne.2 k2
  by_cases k3 : c.kind = 3
  · have e : chA x c = (⟨x.at_, x.bal, x.nonce, c.code, x.slots⟩, ⟨c.kind, c.at_, W.zero, W.zero, 0, x.code⟩, 0) := by unfold chA; rw [if_neg k1, if_neg k2, if_pos k3]
    have e3 : (c.kind == 3) = true := by rw [k3]; rfl
    simp only [push_cast, Nat.reduceAdd, Nat.reduceSub, Nat.reduceMul, Nat.reduceLT, Nat.reduceLeDiff, Nat.reduceEqDiff, Nat.reduceMod, Nat.reduceDiv, Int.reduceAdd, Int.reduceSub, Int.reduceMul, Int.reduceLT, Int.reduceLE, Int.reduceEq, Int.reduceNeg, Int.reduceToNat, reduceIte, reduceCtorEq, Int.reduceBEq, Int.reduceBNe, hb5, hb7, hb8, e1, e2, e3]
    refine regO gA1_ok ?_
    simp only [push_cast, Nat.reduceAdd, Nat.reduceSub, Nat.reduceMul, Nat.reduceLT, Nat.reduceLeDiff, Nat.reduceEqDiff, Nat.reduceMod, Nat.reduceDiv, Int.reduceAdd, Int.reduceSub, Int.reduceMul, Int.reduceLT, Int.reduceLE, Int.reduceEq, Int.reduceNeg, Int.reduceToNat, reduceIte, reduceCtorEq, Int.reduceBEq, Int.reduceBNe, hb5, hb7, hb8]
    have hx3 : (chA (findS s c.at_) c).1 = ⟨x.at_, x.bal, x.nonce, c.code, x.slots⟩ := by rw [← hx, e]
    have hu3 : (chA (findS s c.at_) c).2.1 = ⟨c.kind, c.at_, W.zero, W.zero, 0, x.code⟩ := by rw [← hx, e]
    have hc3 : (chA (findS s c.at_) c).2.2 = 0 := by rw [← hx, e]
    refine useB [_, _, _, _] (refSet_ok (x := ⟨x.at_, x.bal, x.nonce, c.code, x.slots⟩) hv1 hsv hn (fun y hy => by have := hsl y hy; omega) (by dsimp only; omega)) (SetO.rd _ _) hg1.marks ⟨f8, f7, f51, f31, trivial⟩ fun w N9 M9 hg9 hf9 hL9 hw9 hm9 hq9 => ?_
    obtain ⟨w9, rfl, hst9⟩ := hq9
    obtain ⟨p9, k9, rfl⟩ : ∃ p k, w9 = .slice p (setS s ⟨x.at_, x.bal, x.nonce, c.code, x.slots⟩).1.length k := by
      obtain ⟨L, h1, h2, -⟩ := hst9
      obtain ⟨p, k, h3⟩ := h2.slice
      exact ⟨p, k, by rw [h3, ← h1, List.length_map]⟩
    by_cases hz : (setS s ⟨x.at_, x.bal, x.nonce, c.code, x.slots⟩).2 = 0
    · have hz1 : ((setS s ⟨x.at_, x.bal, x.nonce, c.code, x.slots⟩).2 != 0) = false := by rw [hz]; rfl
      have hdo : doS s c = ((setS s ⟨x.at_, x.bal, x.nonce, c.code, x.slots⟩).1, ⟨c.kind, c.at_, W.zero, W.zero, 0, x.code⟩, 0) := by
        unfold doS
        rw [if_neg (by rw [hrs]; simp), if_neg (by rw [hc3]; simp), hx3, if_neg (by simpa using hz), hu3]
      rw [hdo]
      simp only [push_cast, Nat.reduceAdd, Nat.reduceSub, Nat.reduceMul, Nat.reduceLT, Nat.reduceLeDiff, Nat.reduceEqDiff, Nat.reduceMod, Nat.reduceDiv, Int.reduceAdd, Int.reduceSub, Int.reduceMul, Int.reduceLT, Int.reduceLE, Int.reduceEq, Int.reduceNeg, Int.reduceToNat, reduceIte, reduceCtorEq, Int.reduceBEq, Int.reduceBNe, hb5, hb7, hb8, hz1]
      exact doneN [_, _, _, _] (hg1.trans hg9) hw9 hm9 hf9 (DoO.rd _ _) ⟨_, rfl, hst9⟩
    · have hz1 : ((setS s ⟨x.at_, x.bal, x.nonce, c.code, x.slots⟩).2 != 0) = true := by rw [bne_iff_ne]; exact hz
      have hdo : doS s c = (s, Ch.zero, (setS s ⟨x.at_, x.bal, x.nonce, c.code, x.slots⟩).2) := by
        unfold doS
        rw [if_neg (by rw [hrs]; simp), if_neg (by rw [hc3]; simp), hx3, if_pos (by simpa using hz)]
      rw [hdo]
      obtain ⟨e9, he9⟩ : ∃ e, e = (setS s ⟨x.at_, x.bal, x.nonce, c.code, x.slots⟩).2 := ⟨_, rfl⟩
      rw [← he9]
      rw [← he9] at hz1
      simp only [push_cast, Nat.reduceAdd, Nat.reduceSub, Nat.reduceMul, Nat.reduceLT, Nat.reduceLeDiff, Nat.reduceEqDiff, Nat.reduceMod, Nat.reduceDiv, Int.reduceAdd, Int.reduceSub, Int.reduceMul, Int.reduceLT, Int.reduceLE, Int.reduceEq, Int.reduceNeg, Int.reduceToNat, reduceIte, reduceCtorEq, Int.reduceBEq, Int.reduceBNe, hb5, hb7, hb8, hz1]
      refine WpV.sub (s := ([(0, .slice p s.length k), (5, .pointer (some ⟨b5, 0, none⟩)), (12, .int .i64 e9)], ⟨b5, 0, .cel 31, Ch.zero.cells⟩ :: M9)) ⟨by simp only [push_cast, Nat.reduceAdd, Nat.reduceSub, Nat.reduceMul, Nat.reduceLT, Nat.reduceLeDiff, Nat.reduceEqDiff, Nat.reduceMod, Nat.reduceDiv, Int.reduceAdd, Int.reduceSub, Int.reduceMul, Int.reduceLT, Int.reduceLE, Int.reduceEq, Int.reduceNeg, Int.reduceToNat, reduceIte, reduceCtorEq, Int.reduceBEq, Int.reduceBNe], ?_, ?_⟩ ?_
      · have hL99 := freshN_appR hL9
        exact subH_pick (by exact hb8.2.2.2.1) (by exact hb7.2.1) (by exact hL99.1) (by exact hL99.2.1) (by exact hL99.2.2.2.1) hf9
      · simp [marks_append, marksOf, hm9]
      have hvE := StR.ext hg1.ext hv
      have f59 : fresh b5 M9 := (freshN_appR hL9).2.2.1
      refine regO gA1_ok ?_
      simp only [push_cast, Nat.reduceAdd, Nat.reduceSub, Nat.reduceMul, Nat.reduceLT, Nat.reduceLeDiff, Nat.reduceEqDiff, Nat.reduceMod, Nat.reduceDiv, Int.reduceAdd, Int.reduceSub, Int.reduceMul, Int.reduceLT, Int.reduceLE, Int.reduceEq, Int.reduceNeg, Int.reduceToNat, reduceIte, reduceCtorEq, Int.reduceBEq, Int.reduceBNe]
      refine useB [_] (refOwn_ok ((StR.ext (hg1.trans hg9).ext hv)) hn hsl') (StO.rd _ _) hg9.marks ⟨f59, trivial⟩ fun w N8 M8 hg8 hf8 hL8 hw8 hm8 hq8 => ?_
      simp only [push_cast, Nat.reduceAdd, Nat.reduceSub, Nat.reduceMul, Nat.reduceLT, Nat.reduceLeDiff, Nat.reduceEqDiff, Nat.reduceMod, Nat.reduceDiv, Int.reduceAdd, Int.reduceSub, Int.reduceMul, Int.reduceLT, Int.reduceLE, Int.reduceEq, Int.reduceNeg, Int.reduceToNat, reduceIte, reduceCtorEq, Int.reduceBEq, Int.reduceBNe]
      exact doneN [_] ((hg1.trans hg9).trans hg8) hw8 hm8 hf8 (DoO.rd _ _) ⟨_, rfl, hq8⟩
  have e3 : (c.kind == 3) = false := beq_eq_false_iff_ne.2 k3
  have k4 : c.kind = 4 := by omega
  have e : chA x c = (⟨x.at_, x.bal, x.nonce, x.code, (mergeR x.slots [⟨c.key, c.val⟩]).1⟩, ⟨c.kind, c.at_, c.key, getW x.slots c.key, 0, .empty⟩, (mergeR x.slots [⟨c.key, c.val⟩]).2) := by unfold chA; rw [if_neg k1, if_neg k2, if_neg k3, if_pos k4]
  simp only [push_cast, Nat.reduceAdd, Nat.reduceSub, Nat.reduceMul, Nat.reduceLT, Nat.reduceLeDiff, Nat.reduceEqDiff, Nat.reduceMod, Nat.reduceDiv, Int.reduceAdd, Int.reduceSub, Int.reduceMul, Int.reduceLT, Int.reduceLE, Int.reduceEq, Int.reduceNeg, Int.reduceToNat, reduceIte, reduceCtorEq, Int.reduceBEq, Int.reduceBNe, hb5, hb7, hb8, e1, e2, e3]
  refine useP [_, _, _, _] (refGet_R (k := c.key) hsv (by omega)) ⟨f8, f7, f51, f31, trivial⟩ ?_
  simp only [push_cast, Nat.reduceAdd, Nat.reduceSub, Nat.reduceMul, Nat.reduceLT, Nat.reduceLeDiff, Nat.reduceEqDiff, Nat.reduceMod, Nat.reduceDiv, Int.reduceAdd, Int.reduceSub, Int.reduceMul, Int.reduceLT, Int.reduceLE, Int.reduceEq, Int.reduceNeg, Int.reduceToNat, reduceIte, reduceCtorEq, Int.reduceBEq, Int.reduceBNe, hb5, hb7, hb8]
  refine regO gA1_ok ?_
  simp only [push_cast, Nat.reduceAdd, Nat.reduceSub, Nat.reduceMul, Nat.reduceLT, Nat.reduceLeDiff, Nat.reduceEqDiff, Nat.reduceMod, Nat.reduceDiv, Int.reduceAdd, Int.reduceSub, Int.reduceMul, Int.reduceLT, Int.reduceLE, Int.reduceEq, Int.reduceNeg, Int.reduceToNat, reduceIte, reduceCtorEq, Int.reduceBEq, Int.reduceBNe, hb5, hb7, hb8]
  refine useL [_, _, _, _] (refPut_R (k := c.key) (w := c.val) hsv (by omega)) (PutQ.rd _) hg1.marks ⟨f8, f7, f51, f31, trivial⟩ fun w M2 hg2 hL2 hq2 => ?_
  obtain ⟨w2, rfl, hl2⟩ := hq2
  obtain ⟨ml, hml⟩ : ∃ m, m = (mergeR x.slots [⟨c.key, c.val⟩]).1 := ⟨_, rfl⟩
  obtain ⟨me, hme⟩ : ∃ m, m = (mergeR x.slots [⟨c.key, c.val⟩]).2 := ⟨_, rfl⟩
  have hmll : ml.length ≤ 1000 := by rw [hml]; exact mergeR_len1 _ _
  rw [← hml, ← hme] at e
  rw [← hml] at hl2
  rw [← hme]
  obtain ⟨p2, k2', rfl⟩ := hl2.slice
  by_cases hz0 : me = 0
  · have hz1 : (me != 0) = false := by rw [hz0]; rfl
    rw [hz0] at e
    simp only [push_cast, Nat.reduceAdd, Nat.reduceSub, Nat.reduceMul, Nat.reduceLT, Nat.reduceLeDiff, Nat.reduceEqDiff, Nat.reduceMod, Nat.reduceDiv, Int.reduceAdd, Int.reduceSub, Int.reduceMul, Int.reduceLT, Int.reduceLE, Int.reduceEq, Int.reduceNeg, Int.reduceToNat, reduceIte, reduceCtorEq, Int.reduceBEq, Int.reduceBNe, hb5, hb7, hb8, hz1]
    refine regO gA1_ok ?_
    simp only [push_cast, Nat.reduceAdd, Nat.reduceSub, Nat.reduceMul, Nat.reduceLT, Nat.reduceLeDiff, Nat.reduceEqDiff, Nat.reduceMod, Nat.reduceDiv, Int.reduceAdd, Int.reduceSub, Int.reduceMul, Int.reduceLT, Int.reduceLE, Int.reduceEq, Int.reduceNeg, Int.reduceToNat, reduceIte, reduceCtorEq, Int.reduceBEq, Int.reduceBNe, hb5, hb7, hb8]
    have hx3 : (chA (findS s c.at_) c).1 = ⟨x.at_, x.bal, x.nonce, x.code, ml⟩ := by rw [← hx, e]
    have hu3 : (chA (findS s c.at_) c).2.1 = ⟨c.kind, c.at_, c.key, getW x.slots c.key, 0, .empty⟩ := by rw [← hx, e]
    have hc3 : (chA (findS s c.at_) c).2.2 = 0 := by rw [← hx, e]
    refine useB [_, _, _, _] (refSet_ok (x := ⟨x.at_, x.bal, x.nonce, x.code, ml⟩) (hv1.ext hg2.ext) hl2 hn (fun y hy => by have := hsl y hy; omega) (by dsimp only; omega)) (SetO.rd _ _) (hg1.trans hg2).marks ⟨hL2.1, hL2.2.1, hL2.2.2.1, hL2.2.2.2.1, trivial⟩ fun w N9 M9 hg9 hf9 hL9 hw9 hm9 hq9 => ?_
    obtain ⟨w9, rfl, hst9⟩ := hq9
    obtain ⟨p9, k9, rfl⟩ : ∃ p k, w9 = .slice p (setS s ⟨x.at_, x.bal, x.nonce, x.code, ml⟩).1.length k := by
      obtain ⟨L, h1, h2, -⟩ := hst9
      obtain ⟨p, k, h3⟩ := h2.slice
      exact ⟨p, k, by rw [h3, ← h1, List.length_map]⟩
    by_cases hz : (setS s ⟨x.at_, x.bal, x.nonce, x.code, ml⟩).2 = 0
    · have hz1 : ((setS s ⟨x.at_, x.bal, x.nonce, x.code, ml⟩).2 != 0) = false := by rw [hz]; rfl
      have hdo : doS s c = ((setS s ⟨x.at_, x.bal, x.nonce, x.code, ml⟩).1, ⟨c.kind, c.at_, c.key, getW x.slots c.key, 0, .empty⟩, 0) := by
        unfold doS
        rw [if_neg (by rw [hrs]; simp), if_neg (by rw [hc3]; simp), hx3, if_neg (by simpa using hz), hu3]
      rw [hdo]
      simp only [push_cast, Nat.reduceAdd, Nat.reduceSub, Nat.reduceMul, Nat.reduceLT, Nat.reduceLeDiff, Nat.reduceEqDiff, Nat.reduceMod, Nat.reduceDiv, Int.reduceAdd, Int.reduceSub, Int.reduceMul, Int.reduceLT, Int.reduceLE, Int.reduceEq, Int.reduceNeg, Int.reduceToNat, reduceIte, reduceCtorEq, Int.reduceBEq, Int.reduceBNe, hb5, hb7, hb8, hz1]
      exact doneN [_, _, _, _] ((hg1.trans hg2).trans hg9) hw9 hm9 hf9 (DoO.rd _ _) ⟨_, rfl, hst9⟩
    · have hz1 : ((setS s ⟨x.at_, x.bal, x.nonce, x.code, ml⟩).2 != 0) = true := by rw [bne_iff_ne]; exact hz
      have hdo : doS s c = (s, Ch.zero, (setS s ⟨x.at_, x.bal, x.nonce, x.code, ml⟩).2) := by
        unfold doS
        rw [if_neg (by rw [hrs]; simp), if_neg (by rw [hc3]; simp), hx3, if_pos (by simpa using hz)]
      rw [hdo]
      obtain ⟨e9, he9⟩ : ∃ e, e = (setS s ⟨x.at_, x.bal, x.nonce, x.code, ml⟩).2 := ⟨_, rfl⟩
      rw [← he9]
      rw [← he9] at hz1
      simp only [push_cast, Nat.reduceAdd, Nat.reduceSub, Nat.reduceMul, Nat.reduceLT, Nat.reduceLeDiff, Nat.reduceEqDiff, Nat.reduceMod, Nat.reduceDiv, Int.reduceAdd, Int.reduceSub, Int.reduceMul, Int.reduceLT, Int.reduceLE, Int.reduceEq, Int.reduceNeg, Int.reduceToNat, reduceIte, reduceCtorEq, Int.reduceBEq, Int.reduceBNe, hb5, hb7, hb8, hz1]
      refine WpV.sub (s := ([(0, .slice p s.length k), (5, .pointer (some ⟨b5, 0, none⟩)), (12, .int .i64 e9)], ⟨b5, 0, .cel 31, Ch.zero.cells⟩ :: M9)) ⟨by simp only [push_cast, Nat.reduceAdd, Nat.reduceSub, Nat.reduceMul, Nat.reduceLT, Nat.reduceLeDiff, Nat.reduceEqDiff, Nat.reduceMod, Nat.reduceDiv, Int.reduceAdd, Int.reduceSub, Int.reduceMul, Int.reduceLT, Int.reduceLE, Int.reduceEq, Int.reduceNeg, Int.reduceToNat, reduceIte, reduceCtorEq, Int.reduceBEq, Int.reduceBNe], ?_, ?_⟩ ?_
      · have hL99 := freshN_appR hL9
        exact subH_pick (by exact hb8.2.2.2.1) (by exact hb7.2.1) (by exact hL99.1) (by exact hL99.2.1) (by exact hL99.2.2.2.1) hf9
      · simp [marks_append, marksOf, hm9]
      have hvE := StR.ext (hg1.trans hg2).ext hv
      have f59 : fresh b5 M9 := (freshN_appR hL9).2.2.1
      refine regO gA1_ok ?_
      simp only [push_cast, Nat.reduceAdd, Nat.reduceSub, Nat.reduceMul, Nat.reduceLT, Nat.reduceLeDiff, Nat.reduceEqDiff, Nat.reduceMod, Nat.reduceDiv, Int.reduceAdd, Int.reduceSub, Int.reduceMul, Int.reduceLT, Int.reduceLE, Int.reduceEq, Int.reduceNeg, Int.reduceToNat, reduceIte, reduceCtorEq, Int.reduceBEq, Int.reduceBNe]
      refine useB [_] (refOwn_ok ((StR.ext ((hg1.trans hg2).trans hg9).ext hv)) hn hsl') (StO.rd _ _) hg9.marks ⟨f59, trivial⟩ fun w N8 M8 hg8 hf8 hL8 hw8 hm8 hq8 => ?_
      simp only [push_cast, Nat.reduceAdd, Nat.reduceSub, Nat.reduceMul, Nat.reduceLT, Nat.reduceLeDiff, Nat.reduceEqDiff, Nat.reduceMod, Nat.reduceDiv, Int.reduceAdd, Int.reduceSub, Int.reduceMul, Int.reduceLT, Int.reduceLE, Int.reduceEq, Int.reduceNeg, Int.reduceToNat, reduceIte, reduceCtorEq, Int.reduceBEq, Int.reduceBNe]
      exact doneN [_] (((hg1.trans hg2).trans hg9).trans hg8) hw8 hm8 hf8 (DoO.rd _ _) ⟨_, rfl, hq8⟩
  · have hz1 : (me != 0) = true := by rw [bne_iff_ne]; exact hz0
    have hdo : doS s c = (s, Ch.zero, me) := by
      unfold doS
      rw [if_neg (by rw [hrs]; simp), ← hx, e, if_pos (by simpa using hz0)]
    rw [hdo]
    simp only [push_cast, Nat.reduceAdd, Nat.reduceSub, Nat.reduceMul, Nat.reduceLT, Nat.reduceLeDiff, Nat.reduceEqDiff, Nat.reduceMod, Nat.reduceDiv, Int.reduceAdd, Int.reduceSub, Int.reduceMul, Int.reduceLT, Int.reduceLE, Int.reduceEq, Int.reduceNeg, Int.reduceToNat, reduceIte, reduceCtorEq, Int.reduceBEq, Int.reduceBNe, hb5, hb7, hb8, hz1]
    refine useB [_, _, _, _] (refOwn_ok (hv1.ext hg2.ext) hn hsl') (StO.rd _ _) hg2.marks ⟨hL2.1, hL2.2.1, hL2.2.2.1, hL2.2.2.2.1, trivial⟩ fun w N8 M8 hg8 hf8 hL8 hw8 hm8 hq8 => ?_
    simp only [push_cast, Nat.reduceAdd, Nat.reduceSub, Nat.reduceMul, Nat.reduceLT, Nat.reduceLeDiff, Nat.reduceEqDiff, Nat.reduceMod, Nat.reduceDiv, Int.reduceAdd, Int.reduceSub, Int.reduceMul, Int.reduceLT, Int.reduceLE, Int.reduceEq, Int.reduceNeg, Int.reduceToNat, reduceIte, reduceCtorEq, Int.reduceBEq, Int.reduceBNe, hb5, hb7, hb8]
    exact doneN [_, _, _, _] ((hg1.trans hg2).trans hg8) hw8 hm8 hf8 (DoO.rd _ _) ⟨_, rfl, hq8⟩
end Go.Proofs.YtkhpncfgimlleaaGreat
set_option linter.unusedSimpArgs false
set_option linter.unusedVariables false
namespace Go.Ev
open Go.RowKit
theorem WpV.perm {P : Program} {r : Option Nat} {n : Nat} {c : Code} {K : Exit → Tm → Hp → Prop} {T : Tm} {H H' : Hp} (hp : H.Perm H') (hm : marksOf H' = marksOf H) (h : WpV P r n c K T H') : WpV P r n c K T H :=
  fun w0 mu a w hr ht hs hd => h w0 mu a w hr ht (hs.perm hp) (by rw [hd, defersOf, defersOf, hm])
theorem WpV.slots {P : Program} {r : Option Nat} {n : Nat} {c : Code} {K : Exit → Tm → Hp → Prop} {T : Tm} {H : Hp} (T' : Tm) (ht : subT T T') (h : WpV P r n c K T' H) : WpV P r n c K T H :=
  fun w0 mu a w hr hT hs hd => h w0 mu a w hr (hT.sub ht) hs hd
theorem freshN_sub {N Y M : Hp} (h : freshN N Y) (hd : ∀ b e, findE M b = some e → ∃ e', findE Y b = some e') : freshN N (roAll M) := freshN_iff.2 fun e he x hx => by
  have h2 := (roAll_mem hx).2
  rw [findE_roAll] at h2
  obtain ⟨e0, h3, -⟩ := Option.map_eq_some_iff.1 h2
  obtain ⟨e1, h4⟩ := hd _ _ h3
  obtain ⟨h5, h6⟩ := findE_mem h4
  rw [← h6]
  exact freshN_iff.1 h e he e1 h5
theorem derE_sub {M Y : Hp} (hd : ∀ b e, findE M b = some e → findE Y b = some e) : derE Y (roAll M) := by
  have : ∀ {R : Hp}, (∀ e ∈ R, e ∈ roAll M) → derE Y R := by
    intro R
    induction R with
    | nil => intro _; trivial
    | cons e r ih =>
      intro h
      obtain ⟨h1, h2⟩ := roAll_mem (h e (by simp))
      refine ⟨⟨h1, ?_⟩, ih fun x hx => h x (by simp [hx])⟩
      rw [findE_roAll] at h2
      obtain ⟨e0, h3, h4⟩ := Option.map_eq_some_iff.1 h2
      unfold cellsAt
      rw [hd _ _ h3, ← h4]
      simp [subL]
  exact this fun _ h => h
theorem cellsAt_app_ro (N M : Hp) : cellsAt (N ++ roAll M) = cellsAt (N ++ M) := by
  funext b o n
  unfold cellsAt
  rw [findE_app, findE_app, findE_roAll]
  cases findE N b with
  | some e => rfl
  | none => cases findE M b <;> rfl
theorem callS {P : Program} {g : FuncId} {args : List Value} {M Y : Hp} {Q : Value → Hp → Prop} {K' : Value → Hp → Prop} (hc : CallsR P g args M Q) (hQ : RdOnly Q) (hd : ∀ b e, findE M b = some e → findE Y b = some e)
    (hk : ∀ v N, allWr N → marksOf N = [] → freshN N Y → Q v (N ++ M) → K' v (N ++ Y)) : CallsV P g args Y K' := by
  refine (hc (roAll M) (roAll_ro M) (cellsAt_roAll M)).use (derE_sub hd) ?_
  rintro v N ⟨h1, h2, h3⟩
  exact ⟨h1, h2, fun hf => hk v N h1 h2 hf (hQ _ _ _ (cellsAt_app_ro N M) (h3 (freshN_sub hf fun b e h => ⟨e, hd b e h⟩)))⟩
theorem callSW {P : Program} {g : FuncId} {args : List Value} {M Y : Hp} {Q : Value → Hp → Hp → Prop} {K' : Value → Hp → Prop} (hc : CallsW P g args M Q) (hQ : RdOwn Q) (hd : ∀ b e, findE M b = some e → findE Y b = some e)
    (hk : ∀ v N1 N2, allWr N1 → marksOf N1 = [] → allWr N2 → marksOf N2 = [] → freshN N1 N2 → freshN N1 Y → freshN N2 Y → Q v N1 (N2 ++ M) → K' v ((N1 ++ N2) ++ Y)) : CallsV P g args Y K' := by
  refine (hc (roAll M) (roAll_ro M) (cellsAt_roAll M)).use (derE_sub hd) ?_
  rintro v N ⟨N1, N2, rfl, w1, m1, w2, m2, f12, h3⟩
  exact ⟨allWr_app w1 w2, by rw [marks_append, m1, m2]; rfl, fun hf => hk v N1 N2 w1 m1 w2 m2 f12 (freshN_appL.1 hf).1 (freshN_appL.1 hf).2 (hQ _ _ _ _ (cellsAt_app_ro N2 M) (h3 (freshN_sub hf fun b e h => ⟨e, hd b e h⟩)))⟩
theorem find_front {N A B : Hp} (h : ∀ b e, findE A b = some e → findE B b = some e) : ∀ b e, findE (N ++ A) b = some e → findE (N ++ B) b = some e := fun b e he => by
  rw [findE_app] at he ⊢
  cases hN : findE N b with
  | some x => rw [hN] at he; exact he
  | none => rw [hN] at he; exact h b e he
theorem find_behind {L M : Hp} (hL : freshN L M) : ∀ b e, findE M b = some e → findE (L ++ M) b = some e := fun b e he => by rw [findE_freshN hL he]; exact he
end Go.Ev
