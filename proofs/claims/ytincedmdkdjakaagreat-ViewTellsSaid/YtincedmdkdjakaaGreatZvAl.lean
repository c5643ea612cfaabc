/- Texts of this claim, merged by program: Ar EvW As Pb Ja Jb Jc Jd Je Jf Jg Jh EvX Ji Jj Jk Jl Jm Jn Jo Jp Va Vb Vc Vd Ve Vi Vj. -/
import Derived.Test.YtincedmdkdjakaaGreatZvAk
import Derived.Test.YtincedmdkdjakaaGreatZvAj
set_option linter.unusedSimpArgs false
set_option linter.unusedVariables false
namespace Go.Ev
def DoO (e : Nat) (r : List Ac × Ch × Int) : Value → Hp → Hp → Prop := fun u N1 H => ∃ w, u = .tuple #[w, r.2.1.v, .int .i64 r.2.2] ∧ StO e r.1 w N1 H
theorem DoO.rd (e : Nat) (r : List Ac × Ch × Int) : RdOwn (DoO e r) := by
  rintro v N1 A B h ⟨w, rfl, h1⟩
  exact ⟨w, rfl, StO.rd _ _ _ _ _ _ h h1⟩
theorem subH_pick {e8 e7 e5 e3 : Ent} {N M : Hp} (h85 : ¬ e5.blk = e8.blk) (h75 : ¬ e5.blk = e7.blk) (h8 : fresh e8.blk M) (h7 : fresh e7.blk M) (h3 : fresh e3.blk M) (hN : freshN N M) : subH (e8 :: e7 :: e5 :: e3 :: (N ++ M)) (e5 :: M) := by
  refine ⟨by simp [findE, h85, h75], ?_⟩
  have : remE (e8 :: e7 :: e5 :: e3 :: (N ++ M)) e5.blk = [] ++ ((e8 :: e7 :: e3 :: N) ++ M) := by simp [remE, h85, h75]
  rw [this]
  exact subH_ins (A := e8 :: e7 :: e3 :: N) (B := M) ⟨h8, h7, h3, hN⟩ []
theorem freshN_appR {L N M : Hp} (h : freshN L (N ++ M)) : freshN L M := (freshN_mono h).2
theorem mergeR_len1 (l m : List Sl) : (mergeR l m).1.length ≤ 1000 := by
  unfold mergeR
  split
  · unfold limR
    split
    · simp
    · dsimp only; omega
  · simp
end Go.Ev
namespace Go.Proofs.YtincedmdkdjakaaGreat
open Go Go.Ev Go.Proofs
set_option maxRecDepth 100000
set_option maxHeartbeats 4000000
def plRDo : Plans := fun i => if i = 1 then [(0, 9)] else if i = 4 then [(0, 9)] else if i = 8 then [(0, 9)] else if i = 21 then [(0, 9)] else if i = 23 then [(0, 9)] else Tryz.pl14 i
attribute [push_cast] plRDo
theorem refDo_ok {M : Hp} {s : List Ac} {v : Value} {c : Ch} (hv : StR s v M) (hn : s.length ≤ 1000000000) (hsl : ∀ y ∈ s, y.slots.length ≤ 2199023255551) : CallsW Tryz.prog 14 [v, c.v] M (DoO 53 (doS s c)) := by
  intro M0 hr he
  have hm := hr.marks
  replace hv := StR.rd _ _ _ _ he.symm hv
  obtain ⟨p, k, hvv⟩ : ∃ p k, v = .slice p s.length k := by
    obtain ⟨L, h1, h2, -⟩ := hv
    obtain ⟨p, k, h3⟩ := h2.slice
    exact ⟨p, k, by rw [h3, ← h1, List.length_map]⟩
  subst hvv
  refine callsO gA1_ok Tryz.mix plRDo Tryz.func14 rfl Tryz.ntmps14 Tryz.results14 rfl (by first | rfl | assumption) (Nat.le_of_ble_eq_true rfl) (by kernel_rfl) ?_
  simp only [push_cast, seval, reduceCtorEq]
  intro b3 hb3 b5 hb5
  have f3 : fresh b3 M0 := hb3
  have f5 : fresh b5 M0 := hb5.2.2
  refine regO gA1_ok ?_
  simp only [push_cast, seval, reduceCtorEq, hb5]
  refine useP [_, _] (fun M1 hr1 he1 => refRightS_ok (StR.rd _ _ _ _ he1.symm hv) hr1.marks (by omega) (fun y hy => by have := hsl y hy; omega)) ⟨f5, f3, trivial⟩ ?_
  have hsl' : ∀ y ∈ s, y.slots.length ≤ 2199023255551 := fun y hy => by have := hsl y hy; omega
  cases hrs : rightS s
  case false =>
    have e : doS s c = (s, Ch.zero, 1) := by unfold doS; rw [if_pos hrs]
    rw [e]
    simp only [push_cast, seval, reduceCtorEq, hb5]
    refine useB [_, _] (refOwn_ok hv hn hsl') (StO.rd _ _) hm ⟨f5, f3, trivial⟩ fun w N M1 hg hf hL hw hmN hq => ?_
    simp only [push_cast, seval, reduceCtorEq, hb5]
    exact doneN [_, _] hg hw hmN hf (DoO.rd _ _) ⟨_, rfl, hq⟩
  have e1 : (decide (c.kind < 1)) = true ∨ decide (4 < c.kind) = true → doS s c = (s, Ch.zero, 1) := fun h => by
    simp only [decide_eq_true_eq] at h
    have : chA (findS s c.at_) c = (findS s c.at_, ⟨c.kind, c.at_, W.zero, W.zero, 0, .empty⟩, 1) := by
      unfold chA
      rw [if_neg (by omega), if_neg (by omega), if_neg (by omega), if_neg (by omega)]
    unfold doS
    rw [if_neg (by rw [hrs]; simp), this, if_pos (by simp)]
  by_cases h1 : c.kind < 1
  · rw [e1 (.inl (by simpa using h1))]
    simp only [push_cast, seval, reduceCtorEq, hb5, h1]
    refine useB [_, _] (refOwn_ok hv hn hsl') (StO.rd _ _) hm ⟨f5, f3, trivial⟩ fun w N M1 hg hf hL hw hmN hq => ?_
    simp only [push_cast, seval, reduceCtorEq, hb5]
    exact doneN [_, _] hg hw hmN hf (DoO.rd _ _) ⟨_, rfl, hq⟩
  by_cases h4 : 4 < c.kind
  · rw [e1 (.inr (by simpa using h4))]
    simp only [push_cast, seval, reduceCtorEq, hb5, h1, h4]
    refine useB [_, _] (refOwn_ok hv hn hsl') (StO.rd _ _) hm ⟨f5, f3, trivial⟩ fun w N M1 hg hf hL hw hmN hq => ?_
    simp only [push_cast, seval, reduceCtorEq, hb5]
    exact doneN [_, _] hg hw hmN hf (DoO.rd _ _) ⟨_, rfl, hq⟩
  simp only [push_cast, seval, reduceCtorEq, hb5, h1, h4]
  refine useL [_, _] (refFind_ok hv hn hsl') (AcR.rd _) hm ⟨f5, f3, trivial⟩ fun w M1 hg1 hL1 hq1 => ?_
  obtain ⟨sv, rfl, hsv⟩ := hq1
  have f31 : fresh b3 M1 := hL1.2.1
  have f51 : fresh b5 M1 := hL1.1
  obtain ⟨x, hx⟩ : ∃ x, x = findS s c.at_ := ⟨_, rfl⟩
  have hri := rightS_iff.1 hrs
  have hxm : mayA x = true := by rw [hx]; exact hri.findMay _
  have hxl := (mayA_slots hxm).len
  rw [← hx] at hsv
  obtain ⟨ps, ks, rfl⟩ := hsv.slice
  rw [← hx]
  simp only [push_cast, seval, reduceCtorEq]
  intro b7 hb7
  try simp only [push_cast, seval, reduceCtorEq, hb5, hb7]
  refine regO gA1_ok ?_
  simp only [push_cast, seval, reduceCtorEq, hb5, hb7]
  intro b8 hb8
  have hv1 : StR s (.slice p s.length k) M1 := hv.ext hg1.ext
  have f7 : fresh b7 M1 := hb7.2.2.2.2
  have f8 : fresh b8 M1 := hb8.2.2.2.2.2.2
  by_cases k1 : c.kind = 1
  · have e : chA x c = (⟨x.at_, c.val, x.nonce, x.code, x.slots⟩, ⟨c.kind, c.at_, W.zero, x.bal, 0, .empty⟩, 0) := by unfold chA; rw [if_pos k1]
    have e1 : (c.kind == 1) = true := by rw [k1]; rfl
    simp only [push_cast, seval, reduceCtorEq, hb5, hb7, hb8, e1]
    refine regO gA1_ok ?_
    simp only [push_cast, seval, reduceCtorEq, hb5, hb7, hb8]
    have hx3 : (chA (findS s c.at_) c).1 = ⟨x.at_, c.val, x.nonce, x.code, x.slots⟩ := by rw [← hx, e]
    have hu3 : (chA (findS s c.at_) c).2.1 = ⟨c.kind, c.at_, W.zero, x.bal, 0, .empty⟩ := by rw [← hx, e]
    have hc3 : (chA (findS s c.at_) c).2.2 = 0 := by rw [← hx, e]
    refine useB [_, _, _, _] (refSet_ok (x := ⟨x.at_, c.val, x.nonce, x.code, x.slots⟩) hv1 hsv hn (fun y hy => by have := hsl y hy; omega) (by dsimp only; omega)) (SetO.rd _ _) hg1.marks ⟨f8, f7, f51, f31, trivial⟩ fun w N9 M9 hg9 hf9 hL9 hw9 hm9 hq9 => ?_
    obtain ⟨w9, rfl, hst9⟩ := hq9
    obtain ⟨p9, k9, rfl⟩ : ∃ p k, w9 = .slice p (setS s ⟨x.at_, c.val, x.nonce, x.code, x.slots⟩).1.length k := by
      obtain ⟨L, h1, h2, -⟩ := hst9
      obtain ⟨p, k, h3⟩ := h2.slice
      exact ⟨p, k, by rw [h3, ← h1, List.length_map]⟩
    by_cases hz : (setS s ⟨x.at_, c.val, x.nonce, x.code, x.slots⟩).2 = 0
    · have hz1 : ((setS s ⟨x.at_, c.val, x.nonce, x.code, x.slots⟩).2 != 0) = false := by rw [hz]; rfl
      have hdo : doS s c = ((setS s ⟨x.at_, c.val, x.nonce, x.code, x.slots⟩).1, ⟨c.kind, c.at_, W.zero, x.bal, 0, .empty⟩, 0) := by
        unfold doS
        rw [if_neg (by rw [hrs]; simp), if_neg (by rw [hc3]; simp), hx3, if_neg (by simpa using hz), hu3]
      rw [hdo]
      simp only [push_cast, seval, reduceCtorEq, hb5, hb7, hb8, hz1]
      exact doneN [_, _, _, _] (hg1.trans hg9) hw9 hm9 hf9 (DoO.rd _ _) ⟨_, rfl, hst9⟩
    · have hz1 : ((setS s ⟨x.at_, c.val, x.nonce, x.code, x.slots⟩).2 != 0) = true := by rw [bne_iff_ne]; exact hz
      have hdo : doS s c = (s, Ch.zero, (setS s ⟨x.at_, c.val, x.nonce, x.code, x.slots⟩).2) := by
        unfold doS
        rw [if_neg (by rw [hrs]; simp), if_neg (by rw [hc3]; simp), hx3, if_pos (by simpa using hz)]
      rw [hdo]
      obtain ⟨e9, he9⟩ : ∃ e, e = (setS s ⟨x.at_, c.val, x.nonce, x.code, x.slots⟩).2 := ⟨_, rfl⟩
      rw [← he9]
      rw [← he9] at hz1
      simp only [push_cast, seval, reduceCtorEq, hb5, hb7, hb8, hz1]
      refine WpV.sub (s := ([(0, .slice p s.length k), (5, .pointer (some ⟨b5, 0, none⟩)), (12, .int .i64 e9)], ⟨b5, 0, .cel 41, Ch.zero.cells⟩ :: M9)) ⟨by simp only [push_cast, seval, reduceCtorEq], ?_, ?_⟩ ?_
      · have hL99 := freshN_appR hL9
        exact subH_pick (by exact hb8.2.2.2.1) (by exact hb7.2.1) (by exact hL99.1) (by exact hL99.2.1) (by exact hL99.2.2.2.1) hf9
      · simp [marks_append, marksOf, hm9]
      have hvE := StR.ext hg1.ext hv
      have f59 : fresh b5 M9 := (freshN_appR hL9).2.2.1
      refine regO gA1_ok ?_
      simp only [push_cast, seval, reduceCtorEq]
      refine useB [_] (refOwn_ok ((StR.ext (hg1.trans hg9).ext hv)) hn hsl') (StO.rd _ _) hg9.marks ⟨f59, trivial⟩ fun w N8 M8 hg8 hf8 hL8 hw8 hm8 hq8 => ?_
      simp only [push_cast, seval, reduceCtorEq]
      exact doneN [_] ((hg1.trans hg9).trans hg8) hw8 hm8 hf8 (DoO.rd _ _) ⟨_, rfl, hq8⟩
  have e1 : (c.kind == 1) = false := beq_eq_false_iff_ne.2 k1
  by_cases k2 : c.kind = 2
  · have e : chA x c = (⟨x.at_, x.bal, c.nonce, x.code, x.slots⟩, ⟨c.kind, c.at_, W.zero, W.zero, x.nonce, .empty⟩, 0) := by unfold chA; rw [if_neg k1, if_pos k2]
    have e2 : (c.kind == 2) = true := by rw [k2]; rfl
    simp only [push_cast, seval, reduceCtorEq, hb5, hb7, hb8, e1, e2]
    refine regO gA1_ok ?_
    simp only [push_cast, seval, reduceCtorEq, hb5, hb7, hb8]
    have hx3 : (chA (findS s c.at_) c).1 = ⟨x.at_, x.bal, c.nonce, x.code, x.slots⟩ := by rw [← hx, e]
    have hu3 : (chA (findS s c.at_) c).2.1 = ⟨c.kind, c.at_, W.zero, W.zero, x.nonce, .empty⟩ := by rw [← hx, e]
    have hc3 : (chA (findS s c.at_) c).2.2 = 0 := by rw [← hx, e]
    refine useB [_, _, _, _] (refSet_ok (x := ⟨x.at_, x.bal, c.nonce, x.code, x.slots⟩) hv1 hsv hn (fun y hy => by have := hsl y hy; omega) (by dsimp only; omega)) (SetO.rd _ _) hg1.marks ⟨f8, f7, f51, f31, trivial⟩ fun w N9 M9 hg9 hf9 hL9 hw9 hm9 hq9 => ?_
    obtain ⟨w9, rfl, hst9⟩ := hq9
    obtain ⟨p9, k9, rfl⟩ : ∃ p k, w9 = .slice p (setS s ⟨x.at_, x.bal, c.nonce, x.code, x.slots⟩).1.length k := by
      obtain ⟨L, h1, h2, -⟩ := hst9
      obtain ⟨p, k, h3⟩ := h2.slice
      exact ⟨p, k, by rw [h3, ← h1, List.length_map]⟩
    by_cases hz : (setS s ⟨x.at_, x.bal, c.nonce, x.code, x.slots⟩).2 = 0
    · have hz1 : ((setS s ⟨x.at_, x.bal, c.nonce, x.code, x.slots⟩).2 != 0) = false := by rw [hz]; rfl
      have hdo : doS s c = ((setS s ⟨x.at_, x.bal, c.nonce, x.code, x.slots⟩).1, ⟨c.kind, c.at_, W.zero, W.zero, x.nonce, .empty⟩, 0) := by
        unfold doS
        rw [if_neg (by rw [hrs]; simp), if_neg (by rw [hc3]; simp), hx3, if_neg (by simpa using hz), hu3]
      rw [hdo]
      simp only [push_cast, seval, reduceCtorEq, hb5, hb7, hb8, hz1]
      exact doneN [_, _, _, _] (hg1.trans hg9) hw9 hm9 hf9 (DoO.rd _ _) ⟨_, rfl, hst9⟩
    · have hz1 : ((setS s ⟨x.at_, x.bal, c.nonce, x.code, x.slots⟩).2 != 0) = true := by rw [bne_iff_ne]; exact hz
      have hdo : doS s c = (s, Ch.zero, (setS s ⟨x.at_, x.bal, c.nonce, x.code, x.slots⟩).2) := by
        unfold doS
        rw [if_neg (by rw [hrs]; simp), if_neg (by rw [hc3]; simp), hx3, if_pos (by simpa using hz)]
      rw [hdo]
      obtain ⟨e9, he9⟩ : ∃ e, e = (setS s ⟨x.at_, x.bal, c.nonce, x.code, x.slots⟩).2 := ⟨_, rfl⟩
      rw [← he9]
      rw [← he9] at hz1
      simp only [push_cast, seval, reduceCtorEq, hb5, hb7, hb8, hz1]
      refine WpV.sub (s := ([(0, .slice p s.length k), (5, .pointer (some ⟨b5, 0, none⟩)), (12, .int .i64 e9)], ⟨b5, 0, .cel 41, Ch.zero.cells⟩ :: M9)) ⟨by simp only [push_cast, seval, reduceCtorEq], ?_, ?_⟩ ?_
      · have hL99 := freshN_appR hL9
        exact subH_pick (by exact hb8.2.2.2.1) (by exact hb7.2.1) (by exact hL99.1) (by exact hL99.2.1) (by exact hL99.2.2.2.1) hf9
      · simp [marks_append, marksOf, hm9]
      have hvE := StR.ext hg1.ext hv
      have f59 : fresh b5 M9 := (freshN_appR hL9).2.2.1
      refine regO gA1_ok ?_
      simp only [push_cast, seval, reduceCtorEq]
      refine useB [_] (refOwn_ok ((StR.ext (hg1.trans hg9).ext hv)) hn hsl') (StO.rd _ _) hg9.marks ⟨f59, trivial⟩ fun w N8 M8 hg8 hf8 hL8 hw8 hm8 hq8 => ?_
      simp only [push_cast, seval, reduceCtorEq]
      exact doneN [_] ((hg1.trans hg9).trans hg8) hw8 hm8 hf8 (DoO.rd _ _) ⟨_, rfl, hq8⟩
  have e2 : (c.kind == 2) = false := beq_eq_false_iff_ne.2 k2
  by_cases k3 : c.kind = 3
  · have e : chA x c = (⟨x.at_, x.bal, x.nonce, c.code, x.slots⟩, ⟨c.kind, c.at_, W.zero, W.zero, 0, x.code⟩, 0) := by unfold chA; rw [if_neg k1, if_neg k2, if_pos k3]
    have e3 : (c.kind == 3) = true := by rw [k3]; rfl
    simp only [push_cast, seval, reduceCtorEq, hb5, hb7, hb8, e1, e2, e3]
    refine regO gA1_ok ?_
    simp only [push_cast, seval, reduceCtorEq, hb5, hb7, hb8]
    have hx3 : (chA (findS s c.at_) c).1 = ⟨x.at_, x.bal, x.nonce, c.code, x.slots⟩ := by rw [← hx, e]
    have hu3 : (chA (findS s c.at_) c).2.1 = ⟨c.kind, c.at_, W.zero, W.zero, 0, x.code⟩ := by rw [← hx, e]
    have hc3 : (chA (findS s c.at_) c).2.2 = 0 := by rw [← hx, e]
    refine useB [_, _, _, _] (refSet_ok (x := ⟨x.at_, x.bal, x.nonce, c.code, x.slots⟩) hv1 hsv hn (fun y hy => by have := hsl y hy; omega) (by dsimp only; omega)) (SetO.rd _ _) hg1.marks ⟨f8, f7, f51, f31, trivial⟩ fun w N9 M9 hg9 hf9 hL9 hw9 hm9 hq9 => ?_
    obtain ⟨w9, rfl, hst9⟩ := hq9
    obtain ⟨p9, k9, rfl⟩ : ∃ p k, w9 = .slice p (setS s ⟨x.at_, x.bal, x.nonce, c.code, x.slots⟩).1.length k := by
      obtain ⟨L, h1, h2, -⟩ := hst9
      obtain ⟨p, k, h3⟩ := h2.slice
      exact ⟨p, k, by rw [h3, ← h1, List.length_map]⟩
    by_cases hz : (setS s ⟨x.at_, x.bal, x.nonce, c.code, x.slots⟩).2 = 0
    · have hz1 : ((setS s ⟨x.at_, x.bal, x.nonce, c.code, x.slots⟩).2 != 0) = false := by rw [hz]; rfl
      have hdo : doS s c = ((setS s ⟨x.at_, x.bal, x.nonce, c.code, x.slots⟩).1, ⟨c.kind, c.at_, W.zero, W.zero, 0, x.code⟩, 0) := by
        unfold doS
        rw [if_neg (by rw [hrs]; simp), if_neg (by rw [hc3]; simp), hx3, if_neg (by simpa using hz), hu3]
      rw [hdo]
      simp only [push_cast, seval, reduceCtorEq, hb5, hb7, hb8, hz1]
      exact doneN [_, _, _, _] (hg1.trans hg9) hw9 hm9 hf9 (DoO.rd _ _) ⟨_, rfl, hst9⟩
    · have hz1 : ((setS s ⟨x.at_, x.bal, x.nonce, c.code, x.slots⟩).2 != 0) = true := by rw [bne_iff_ne]; exact hz
      have hdo : doS s c = (s, Ch.zero, (setS s ⟨x.at_, x.bal, x.nonce, c.code, x.slots⟩).2) := by
        unfold doS
        rw [if_neg (by rw [hrs]; simp), if_neg (by rw [hc3]; simp), hx3, if_pos (by simpa using hz)]
      rw [hdo]
      obtain ⟨e9, he9⟩ : ∃ e, e = (setS s ⟨x.at_, x.bal, x.nonce, c.code, x.slots⟩).2 := ⟨_, rfl⟩
      rw [← he9]
      rw [← he9] at hz1
      simp only [push_cast, seval, reduceCtorEq, hb5, hb7, hb8, hz1]
      refine WpV.sub (s := ([(0, .slice p s.length k), (5, .pointer (some ⟨b5, 0, none⟩)), (12, .int .i64 e9)], ⟨b5, 0, .cel 41, Ch.zero.cells⟩ :: M9)) ⟨by simp only [push_cast, seval, reduceCtorEq], ?_, ?_⟩ ?_
      · have hL99 := freshN_appR hL9
        exact subH_pick (by exact hb8.2.2.2.1) (by exact hb7.2.1) (by exact hL99.1) (by exact hL99.2.1) (by exact hL99.2.2.2.1) hf9
      · simp [marks_append, marksOf, hm9]
      have hvE := StR.ext hg1.ext hv
      have f59 : fresh b5 M9 := (freshN_appR hL9).2.2.1
      refine regO gA1_ok ?_
      simp only [push_cast, seval, reduceCtorEq]
      refine useB [_] (refOwn_ok ((StR.ext (hg1.trans hg9).ext hv)) hn hsl') (StO.rd _ _) hg9.marks ⟨f59, trivial⟩ fun w N8 M8 hg8 hf8 hL8 hw8 hm8 hq8 => ?_
      simp only [push_cast, seval, reduceCtorEq]
      exact doneN [_] ((hg1.trans hg9).trans hg8) hw8 hm8 hf8 (DoO.rd _ _) ⟨_, rfl, hq8⟩
  have e3 : (c.kind == 3) = false := beq_eq_false_iff_ne.2 k3
  have k4 : c.kind = 4 := by omega
  have e : chA x c = (⟨x.at_, x.bal, x.nonce, x.code, (mergeR x.slots [⟨c.key, c.val⟩]).1⟩, ⟨c.kind, c.at_, c.key, getW x.slots c.key, 0, .empty⟩, (mergeR x.slots [⟨c.key, c.val⟩]).2) := by unfold chA; rw [if_neg k1, if_neg k2, if_neg k3, if_pos k4]
  simp only [push_cast, seval, reduceCtorEq, hb5, hb7, hb8, e1, e2, e3]
  refine useP [_, _, _, _] (refGet_R (k := c.key) hsv (by omega)) ⟨f8, f7, f51, f31, trivial⟩ ?_
  simp only [push_cast, seval, reduceCtorEq, hb5, hb7, hb8]
  refine regO gA1_ok ?_
  simp only [push_cast, seval, reduceCtorEq, hb5, hb7, hb8]
  refine useL [_, _, _, _] (refPut_R (k := c.key) (w := c.val) hsv (by omega)) (PutQ.rd _) hg1.marks ⟨f8, f7, f51, f31, trivial⟩ fun w M2 hg2 hL2 hq2 => ?_
  obtain ⟨w2, rfl, hl2⟩ := hq2
  obtain ⟨ml, hml⟩ : ∃ m, m = (mergeR x.slots [⟨c.key, c.val⟩]).1 := ⟨_, rfl⟩
  obtain ⟨me, hme⟩ : ∃ m, m = (mergeR x.slots [⟨c.key, c.val⟩]).2 := ⟨_, rfl⟩
  have hmll : ml.length ≤ 1000 := by rw [hml]; exact mergeR_len1 _ _
  rw [← hml, ← hme] at e
  rw [← hml] at hl2
  rw [← hme]
  obtain ⟨p2, k2', rfl⟩ := hl2.slice
  by_cases hz0 : me = 0
  · have hz1 : (me != 0) = false := by rw [hz0]; rfl
    rw [hz0] at e
    simp only [push_cast, seval, reduceCtorEq, hb5, hb7, hb8, hz1]
    refine regO gA1_ok ?_
    simp only [push_cast, seval, reduceCtorEq, hb5, hb7, hb8]
    have hx3 : (chA (findS s c.at_) c).1 = ⟨x.at_, x.bal, x.nonce, x.code, ml⟩ := by rw [← hx, e]
    have hu3 : (chA (findS s c.at_) c).2.1 = ⟨c.kind, c.at_, c.key, getW x.slots c.key, 0, .empty⟩ := by rw [← hx, e]
    have hc3 : (chA (findS s c.at_) c).2.2 = 0 := by rw [← hx, e]
    refine useB [_, _, _, _] (refSet_ok (x := ⟨x.at_, x.bal, x.nonce, x.code, ml⟩) (hv1.ext hg2.ext) hl2 hn (fun y hy => by have := hsl y hy; omega) (by dsimp only; omega)) (SetO.rd _ _) (hg1.trans hg2).marks ⟨hL2.1, hL2.2.1, hL2.2.2.1, hL2.2.2.2.1, trivial⟩ fun w N9 M9 hg9 hf9 hL9 hw9 hm9 hq9 => ?_
    obtain ⟨w9, rfl, hst9⟩ := hq9
    obtain ⟨p9, k9, rfl⟩ : ∃ p k, w9 = .slice p (setS s ⟨x.at_, x.bal, x.nonce, x.code, ml⟩).1.length k := by
      obtain ⟨L, h1, h2, -⟩ := hst9
      obtain ⟨p, k, h3⟩ := h2.slice
      exact ⟨p, k, by rw [h3, ← h1, List.length_map]⟩
    by_cases hz : (setS s ⟨x.at_, x.bal, x.nonce, x.code, ml⟩).2 = 0
    · have hz1 : ((setS s ⟨x.at_, x.bal, x.nonce, x.code, ml⟩).2 != 0) = false := by rw [hz]; rfl
      have hdo : doS s c = ((setS s ⟨x.at_, x.bal, x.nonce, x.code, ml⟩).1, ⟨c.kind, c.at_, c.key, getW x.slots c.key, 0, .empty⟩, 0) := by
        unfold doS
        rw [if_neg (by rw [hrs]; simp), if_neg (by rw [hc3]; simp), hx3, if_neg (by simpa using hz), hu3]
      rw [hdo]
      simp only [push_cast, seval, reduceCtorEq, hb5, hb7, hb8, hz1]
      exact doneN [_, _, _, _] ((hg1.trans hg2).trans hg9) hw9 hm9 hf9 (DoO.rd _ _) ⟨_, rfl, hst9⟩
    · have hz1 : ((setS s ⟨x.at_, x.bal, x.nonce, x.code, ml⟩).2 != 0) = true := by rw [bne_iff_ne]; exact hz
      have hdo : doS s c = (s, Ch.zero, (setS s ⟨x.at_, x.bal, x.nonce, x.code, ml⟩).2) := by
        unfold doS
        rw [if_neg (by rw [hrs]; simp), if_neg (by rw [hc3]; simp), hx3, if_pos (by simpa using hz)]
      rw [hdo]
      obtain ⟨e9, he9⟩ : ∃ e, e = (setS s ⟨x.at_, x.bal, x.nonce, x.code, ml⟩).2 := ⟨_, rfl⟩
      rw [← he9]
      rw [← he9] at hz1
      simp only [push_cast, seval, reduceCtorEq, hb5, hb7, hb8, hz1]
      refine WpV.sub (s := ([(0, .slice p s.length k), (5, .pointer (some ⟨b5, 0, none⟩)), (12, .int .i64 e9)], ⟨b5, 0, .cel 41, Ch.zero.cells⟩ :: M9)) ⟨by simp only [push_cast, seval, reduceCtorEq], ?_, ?_⟩ ?_
      · have hL99 := freshN_appR hL9
        exact subH_pick (by exact hb8.2.2.2.1) (by exact hb7.2.1) (by exact hL99.1) (by exact hL99.2.1) (by exact hL99.2.2.2.1) hf9
      · simp [marks_append, marksOf, hm9]
      have hvE := StR.ext (hg1.trans hg2).ext hv
      have f59 : fresh b5 M9 := (freshN_appR hL9).2.2.1
      refine regO gA1_ok ?_
      simp only [push_cast, seval, reduceCtorEq]
      refine useB [_] (refOwn_ok ((StR.ext ((hg1.trans hg2).trans hg9).ext hv)) hn hsl') (StO.rd _ _) hg9.marks ⟨f59, trivial⟩ fun w N8 M8 hg8 hf8 hL8 hw8 hm8 hq8 => ?_
      simp only [push_cast, seval, reduceCtorEq]
      exact doneN [_] (((hg1.trans hg2).trans hg9).trans hg8) hw8 hm8 hf8 (DoO.rd _ _) ⟨_, rfl, hq8⟩
  · have hz1 : (me != 0) = true := by rw [bne_iff_ne]; exact hz0
    have hdo : doS s c = (s, Ch.zero, me) := by
      unfold doS
      rw [if_neg (by rw [hrs]; simp), ← hx, e, if_pos (by simpa using hz0)]
    rw [hdo]
    simp only [push_cast, seval, reduceCtorEq, hb5, hb7, hb8, hz1]
    refine useB [_, _, _, _] (refOwn_ok (hv1.ext hg2.ext) hn hsl') (StO.rd _ _) hg2.marks ⟨hL2.1, hL2.2.1, hL2.2.2.1, hL2.2.2.2.1, trivial⟩ fun w N8 M8 hg8 hf8 hL8 hw8 hm8 hq8 => ?_
    simp only [push_cast, seval, reduceCtorEq, hb5, hb7, hb8]
    exact doneN [_, _, _, _] ((hg1.trans hg2).trans hg8) hw8 hm8 hf8 (DoO.rd _ _) ⟨_, rfl, hq8⟩
end Go.Proofs.YtincedmdkdjakaaGreat
set_option linter.unusedSimpArgs false
set_option linter.unusedVariables false
namespace Go.Ev
open Go.RowKit
theorem WpV.perm {P : Program} {r : Option Nat} {n : Nat} {c : Code} {K : Exit → Tm → Hp → Prop} {T : Tm} {H H' : Hp} (hp : H.Perm H') (hm : marksOf H' = marksOf H) (h : WpV P r n c K T H') : WpV P r n c K T H :=
  fun w0 mu a w hr ht hs hd => h w0 mu a w hr ht (hs.perm hp) (by rw [hd, defersOf, defersOf, hm])
theorem WpV.slots {P : Program} {r : Option Nat} {n : Nat} {c : Code} {K : Exit → Tm → Hp → Prop} {T : Tm} {H : Hp} (T' : Tm) (ht : subT T T') (h : WpV P r n c K T' H) : WpV P r n c K T H :=
  fun w0 mu a w hr hT hs hd => h w0 mu a w hr (hT.sub ht) hs hd
theorem freshN_sub {N Y M : Hp} (h : freshN N Y) (hd : ∀ b e, findE M b = some e → ∃ e', findE Y b = some e') : freshN N (roAll M) := freshN_iff.2 fun e he x hx => by
  have h2 := (roAll_mem hx).2
  rw [findE_roAll] at h2
  obtain ⟨e0, h3, -⟩ := Option.map_eq_some_iff.1 h2
  obtain ⟨e1, h4⟩ := hd _ _ h3
  obtain ⟨h5, h6⟩ := findE_mem h4
  rw [← h6]
  exact freshN_iff.1 h e he e1 h5
theorem derE_sub {M Y : Hp} (hd : ∀ b e, findE M b = some e → findE Y b = some e) : derE Y (roAll M) := by
  have : ∀ {R : Hp}, (∀ e ∈ R, e ∈ roAll M) → derE Y R := by
    intro R
    induction R with
    | nil => intro _; trivial
    | cons e r ih =>
      intro h
      obtain ⟨h1, h2⟩ := roAll_mem (h e (by simp))
      refine ⟨⟨h1, ?_⟩, ih fun x hx => h x (by simp [hx])⟩
      rw [findE_roAll] at h2
      obtain ⟨e0, h3, h4⟩ := Option.map_eq_some_iff.1 h2
      unfold cellsAt
      rw [hd _ _ h3, ← h4]
      simp [subL]
  exact this fun _ h => h
theorem cellsAt_app_ro (N M : Hp) : cellsAt (N ++ roAll M) = cellsAt (N ++ M) := by
  funext b o n
  unfold cellsAt
  rw [findE_app, findE_app, findE_roAll]
  cases findE N b with
  | some e => rfl
  | none => cases findE M b <;> rfl
theorem callS {P : Program} {g : FuncId} {args : List Value} {M Y : Hp} {Q : Value → Hp → Prop} {K' : Value → Hp → Prop} (hc : CallsR P g args M Q) (hQ : RdOnly Q) (hd : ∀ b e, findE M b = some e → findE Y b = some e)
    (hk : ∀ v N, allWr N → marksOf N = [] → freshN N Y → Q v (N ++ M) → K' v (N ++ Y)) : CallsV P g args Y K' := by
  refine (hc (roAll M) (roAll_ro M) (cellsAt_roAll M)).use (derE_sub hd) ?_
  rintro v N ⟨h1, h2, h3⟩
  exact ⟨h1, h2, fun hf => hk v N h1 h2 hf (hQ _ _ _ (cellsAt_app_ro N M) (h3 (freshN_sub hf fun b e h => ⟨e, hd b e h⟩)))⟩
theorem find_front {N A B : Hp} (h : ∀ b e, findE A b = some e → findE B b = some e) : ∀ b e, findE (N ++ A) b = some e → findE (N ++ B) b = some e := fun b e he => by
  rw [findE_app] at he ⊢
  cases hN : findE N b with
  | some x => rw [hN] at he; exact he
  | none => rw [hN] at he; exact h b e he
theorem find_behind {L M : Hp} (hL : freshN L M) : ∀ b e, findE M b = some e → findE (L ++ M) b = some e := fun b e he => by rw [findE_freshN hL he]; exact he
end Go.Ev
set_option linter.unusedSimpArgs false
set_option linter.unusedVariables false
namespace Go.Ev
theorem Ac.cells_sv {x : Ac} {sv sv' : Value} (h : x.cells sv = x.cells sv') : sv = sv' := by
  have h1 := x.slo26 sv
  rw [h, x.slo26 sv'] at h1
  simpa using h1.symm
end Go.Ev
namespace Go.Proofs.YtincedmdkdjakaaGreat
open Go Go.Ev Go.Proofs
set_option maxRecDepth 100000
set_option maxHeartbeats 4000000
end Go.Proofs.YtincedmdkdjakaaGreat
set_option linter.unusedSimpArgs false
set_option linter.unusedVariables false
namespace Go.Ev
end Go.Ev
set_option linter.unusedSimpArgs false
set_option linter.unusedVariables false
namespace Go.Ev
theorem Ac.ext {x y : Ac} (h1 : x.at_ = y.at_) (h2 : x.bal = y.bal) (h3 : x.nonce = y.nonce) (h4 : x.code = y.code) (h5 : x.slots = y.slots) : x = y := by
  cases x; cases y; cases h1; cases h2; cases h3; cases h4; cases h5; rfl
theorem code_eq {a b : ByteArray} : (a.toList == b.toList) = decide (a = b) := by
  rw [ByteArray.toList_eq, ByteArray.toList_eq, Bool.eq_iff_iff, beq_iff_eq, decide_eq_true_eq]
  constructor
  · intro h
    cases a with | mk x => cases b with | mk y => rw [show x = y from Array.toList_inj.1 h]
  · rintro rfl; rfl
instance : DecidableEq Jo := fun x y => if h : x.state = y.state ∧ x.undo = y.undo ∧ x.marks = y.marks then .isTrue (by cases x; cases y; obtain ⟨h1, h2, h3⟩ := h; cases h1; cases h2; cases h3; rfl) else .isFalse fun e => h (by rw [e]; exact ⟨rfl, rfl, rfl⟩)
def chK : List CK := .i :: (List.replicate 20 .i ++ ([.i, .i, .i, .i] ++ ([.i, .i, .i, .i] ++ [.i, .s])))
theorem Ch.ext {x y : Ch} (h1 : x.kind = y.kind) (h2 : x.at_ = y.at_) (h3 : x.key = y.key) (h4 : x.val = y.val) (h5 : x.nonce = y.nonce) (h6 : x.code = y.code) : x = y := by
  cases x; cases y; cases h1; cases h2; cases h3; cases h4; cases h5; cases h6; rfl
theorem Ch.eqC (x y : Ch) : eqC chK x.cells y.cells = some (decide (x = y)) := by
  have h1 := eqC_cat (Ad.eqC x.at_ y.at_) (eqC_cat (W.eqC x.key y.key) (eqC_cat (W.eqC x.val y.val) (show Ev.eqC [.i, .s] [.int .i64 x.nonce, .string x.code] [.int .i64 y.nonce, .string y.code] = some ((x.nonce == y.nonce) && ((x.code.toList == y.code.toList) && true)) from rfl)))
  unfold chK Ch.cells
  rw [Ev.eqC, if_pos rfl, h1, Option.map_some, code_eq]
  congr 1
  rw [Bool.eq_iff_iff, decide_eq_true_eq]
  simp only [Bool.and_eq_true, beq_iff_eq, decide_eq_true_eq, and_true]
  exact ⟨fun ⟨a1, a2, a3, a4, a5, a6⟩ => Ch.ext a1 a2 a3 a4 a5 a6, fun h => by rw [h]; exact ⟨rfl, rfl, rfl, rfl, rfl, rfl⟩⟩
theorem Ch.eqV {P : Program} {t : TypeId} (x y : Ch) (h1 : tyI P t = some (31, true)) (h2 : P.eqGuardType P.depth t = false) (h3 : flatK P 12 t = some chK) : eqV P t x.v y.v = some (decide (x = y)) := by
  unfold Ev.eqV Ch.v
  simp only [h1, h2, h3, Bool.false_eq_true, if_false, Option.bind_some]
  exact Ch.eqC x y
end Go.Ev
namespace Go.Proofs.YtincedmdkdjakaaGreat
open Go Go.Ev Go.Proofs
set_option maxRecDepth 100000
set_option maxHeartbeats 4000000
theorem ch_ty : tyI Tryz.prog 41 = some (31, true) := by kernel_rfl
theorem ch_eg : Program.eqGuardType Tryz.prog (Program.depth Tryz.prog) 41 = false := by kernel_rfl
theorem ch_fl : flatK Tryz.prog 12 41 = some chK := by kernel_rfl
theorem ch_neq (x y : Ch) : binQ Tryz.prog .neq 41 x.v y.v = some (.bool (!decide (x = y))) := by
  show (Ev.eqV Tryz.prog 41 x.v y.v).map (fun r => Value.bool !r) = _
  rw [Ch.eqV x y ch_ty ch_eg ch_fl]; rfl
theorem ch_eql (x y : Ch) : binQ Tryz.prog .eql 41 x.v y.v = some (.bool (decide (x = y))) := by
  show (Ev.eqV Tryz.prog 41 x.v y.v).map Value.bool = _
  rw [Ch.eqV x y ch_ty ch_eg ch_fl]; rfl
attribute [push_cast high] ch_neq ch_eql
theorem sameAc_ok {M : Hp} {x y : Ac} {sx sy : Value} (hx : LiR Sl.cells 8 M x.slots sx) (hy : LiR Sl.cells 8 M y.slots sy) (hm : marksOf M = []) (h1 : x.slots.length ≤ 2199023255551) (h2 : y.slots.length ≤ 2199023255551) : CallsV Tryz.prog 18 [.agg (x.cells sx).toArray, .agg (y.cells sy).toArray] M (Ret0 (.bool (decide (x = y)))) := by
  obtain ⟨p, k, rfl⟩ := hx.slice
  obtain ⟨q, n, rfl⟩ := hy.slice
  have va : ∀ w : W, Value.agg w.cells.toArray = w.v := fun _ => rfl
  refine callsO gA1_ok Tryz.mix (fun i => if i = 1 then [(0, 9)] else Tryz.pl18 i) Tryz.func18 rfl Tryz.ntmps18 Tryz.results18 rfl (by first | rfl | assumption) (Nat.le_of_ble_eq_true rfl) (by kernel_rfl) ?_
  simp only [push_cast, seval, reduceCtorEq]
  intro b2 hb2 b3 hb3
  refine regO gA1_ok ?_
  by_cases c1 : x.at_ = y.at_
  case neg =>
    have e : decide (x = y) = false := decide_eq_false fun h => c1 (by rw [h])
    simp only [push_cast, seval, reduceCtorEq, hb3, decide_eq_false c1, e]
  by_cases c2 : x.bal = y.bal
  case neg =>
    have e : decide (x = y) = false := decide_eq_false fun h => c2 (by rw [h])
    simp only [push_cast, seval, reduceCtorEq, hb3, va, decide_eq_true c1, decide_eq_false c2, e]
  by_cases c3 : x.nonce = y.nonce
  case neg =>
    have e : decide (x = y) = false := decide_eq_false fun h => c3 (by rw [h])
    have e3 : (x.nonce == y.nonce) = false := beq_eq_false_iff_ne.2 c3
    simp only [push_cast, seval, reduceCtorEq, hb3, va, decide_eq_true c1, decide_eq_true c2, e3, e]
  have e3 : (x.nonce == y.nonce) = true := by rw [c3]; exact beq_self_eq_true _
  by_cases c4 : x.code = y.code
  case neg =>
    have e : decide (x = y) = false := decide_eq_false fun h => c4 (by rw [h])
    have e4 : (x.code.toList == y.code.toList) = false := by rw [code_eq, decide_eq_false c4]
    simp only [push_cast, seval, reduceCtorEq, hb3, va, decide_eq_true c1, decide_eq_true c2, e3, e4, e]
  have e4 : (x.code.toList == y.code.toList) = true := by rw [code_eq, decide_eq_true c4]
  have e : decide (x = y) = decide (x.slots = y.slots) := by
    rw [decide_eq_decide]
    exact ⟨fun h => by rw [h], fun h => Ac.ext c1 c2 c3 c4 h⟩
  rw [e]
  simp only [push_cast, seval, reduceCtorEq, hb3, va, decide_eq_true c1, decide_eq_true c2, e3, e4]
  refine useP [_, _] (refSame_R hx hy (by omega) (by omega)) ⟨hb3.2.2, hb2, trivial⟩ ?_
  simp only [push_cast, seval, reduceCtorEq]
def plSm : Plans := fun i => if i = 6 then [] else Tryz.pl24 i
attribute [push_cast] plSm
theorem sameS_ok {M : Hp} {s t : List Ac} {v u : Value} (hv : StR s v M) (hu : StR t u M) (hm : marksOf M = []) (hn : s.length ≤ 2199023255551) (hn2 : t.length ≤ 2199023255551) (h1 : ∀ x ∈ s, x.slots.length ≤ 2199023255551) (h2 : ∀ x ∈ t, x.slots.length ≤ 2199023255551) : CallsV Tryz.prog 24 [v, u] M (Ret0 (.bool (decide (s = t)))) := by
  obtain ⟨L, rfl, hL, hLs⟩ := hv
  obtain ⟨R, rfl, hR, hRs⟩ := hu
  have hlen : (L.map (·.1)).length = L.length := List.length_map _
  have hlen2 : (R.map (·.1)).length = R.length := List.length_map _
  rw [hlen] at hn
  rw [hlen2] at hn2
  obtain ⟨p, k, rfl, hla⟩ := hL.openA
  obtain ⟨q, n, rfl, hra⟩ := hR.openA
  refine callsO gA1_ok Tryz.mix plSm Tryz.func24 rfl Tryz.ntmps24 Tryz.results24 rfl (by first | rfl | assumption) (Nat.le_of_ble_eq_true rfl) (by kernel_rfl) ?_
  by_cases hl : L.length = R.length
  case neg =>
    have e : decide (L.map (·.1) = R.map (·.1)) = false := decide_eq_false fun h => hl (by rw [← hlen, h, hlen2])
    have e1 : (((L.length : Nat) : Int) != ((R.length : Nat) : Int)) = true := by rw [bne_iff_ne]; omega
    simp only [push_cast, seval, reduceCtorEq, e, e1]
  have e1 : (((L.length : Nat) : Int) != ((R.length : Nat) : Int)) = false := by rw [hl]; exact bne_self_eq_false _
  simp only [push_cast, seval, reduceCtorEq, e1]
  refine loopO gA1_ok (pl := plSm) Tryz.mix (X := Nat)
    (fun i => ([(0, .slice p L.length k), (1, .slice q R.length n), (5, .int .i64 i)], M))
    (fun i => i ≤ L.length ∧ (L.take i).map (·.1) = (R.take i).map (·.1)) (fun i => L.length - i) 0 ?_ ?_ (by kernel_rfl) ?_
  · exact ⟨Nat.zero_le _, rfl⟩
  · simp only [push_cast, seval, reduceCtorEq]
  · rintro i ⟨hi, ht⟩
    dsimp only at hi ht ⊢
    rcases Nat.lt_or_ge i L.length with hlt | hge
    · obtain ⟨x, hx⟩ : ∃ x, L[i]? = some x := ⟨L[i], List.getElem?_eq_getElem hlt⟩
      obtain ⟨y, hy⟩ : ∃ y, R[i]? = some y := ⟨R[i]'(by omega), List.getElem?_eq_getElem (by omega)⟩
      rcases hla with rfl | ⟨b, f, d, kd, cs, rfl, he, hat⟩
      · simp at hx
      rcases hra with rfl | ⟨b', f', d', kd', cs', rfl, he', hat'⟩
      · simp at hy
      obtain ⟨-, a1, a2⟩ := hat i x hx
      obtain ⟨-, b1, b2⟩ := hat' i y hy
      have i1 : (i : Int) < (L.length : Int) := by omega
      have i2 : (i : Int) < (R.length : Int) := by omega
      have i3 : i < R.length := by omega
      simp only [push_cast, seval, reduceCtorEq, i1, hlt]
      refine drawO gA1_ok Tryz.mix (Tryz.pl24 6) (by kernel_rfl) ?_
      simp only [push_cast, seval, reduceCtorEq, i1, i2, i3, hlt, he, he', a1, a2, b1, b2]
      have hxm := List.mem_of_getElem? hx
      have hym := List.mem_of_getElem? hy
      refine takeL [] (fun M1 hr1 he1 => sameAc_ok ((hLs x hxm).congr he1.symm) ((hRs y hym).congr he1.symm) hr1.marks (h1 _ (List.mem_map_of_mem hxm)) (h2 _ (List.mem_map_of_mem hym))) trivial ?_
      by_cases hxy : x.1 = y.1
      · simp only [push_cast, seval, reduceCtorEq, decide_eq_true hxy, wrap_i64' (show -9223372036854775808 ≤ (i : Int) + 1 ∧ (i : Int) + 1 ≤ 9223372036854775807 by omega)]
        refine ⟨i + 1, ⟨hlt, ?_⟩, by omega, rfl⟩
        rw [List.take_add_one, List.take_add_one, hx, hy, List.map_append, List.map_append, ht]
        simp [hxy]
      · have e : decide (L.map (·.1) = R.map (·.1)) = false := decide_eq_false fun h => hxy (by
          have h1 : (L.map (·.1))[i]? = some x.1 := by rw [List.getElem?_map, hx]; rfl
          have h2 : (R.map (·.1))[i]? = some y.1 := by rw [List.getElem?_map, hy]; rfl
          rw [h, h2] at h1
          exact (Option.some.inj h1).symm)
        simp only [push_cast, seval, reduceCtorEq, decide_eq_false hxy, e]
    · obtain rfl : i = L.length := by omega
      have e : decide (L.map (·.1) = R.map (·.1)) = true := decide_eq_true (by
        rw [List.take_length, hl, List.take_length] at ht; exact ht)
      simp only [push_cast, seval, reduceCtorEq, Nat.lt_irrefl, Int.lt_irrefl, e]
end Go.Proofs.YtincedmdkdjakaaGreat
set_option linter.unusedSimpArgs false
set_option linter.unusedVariables false
namespace Go.Ev
end Go.Ev
namespace Go.Proofs.YtincedmdkdjakaaGreat
open Go Go.Ev Go.Proofs
set_option maxRecDepth 100000
set_option maxHeartbeats 4000000
end Go.Proofs.YtincedmdkdjakaaGreat
set_option linter.unusedSimpArgs false
set_option linter.unusedVariables false
namespace Go.Ev
theorem subH_turn {N : Hp} : ∀ {M : Hp}, (∀ e ∈ M, ∀ x ∈ N, ¬ e.blk = x.blk) → subH (N ++ M) (M ++ N)
  | [], _ => by rw [List.append_nil]; exact subH_self N
  | e :: r, h => by
    have h1 := h e (by simp)
    refine ⟨by rw [findE_A h1]; simp [findE], ?_⟩
    rw [remE_A h1]
    simp only [remE, if_true]
    exact subH_turn fun x hx => h x (by simp [hx])
theorem WpV.dup {P : Program} {r : Option Nat} {n : Nat} {c : Code} {K : Exit → Tm → Hp → Prop} {T : Tm} {L M : Hp} (hr : roM M) (hL : freshN L M) (h : WpV P r n c K T (M ++ (L ++ M))) : WpV P r n c K T (L ++ M) := by
  intro w0 mu a w hro ht hs hd
  have hder := derE_mem hr.der
  have hk : ∀ e ∈ M, ¬ e.wr := fun e he hw => by unfold Ent.wr at hw; rw [(hder e he).1] at hw; exact hw
  obtain ⟨p1, p2, p3⟩ := List.pairwise_append.1 hs.apart
  refine h w0 mu a w hro ht ⟨hs.os, hs.tape, hs.output, hs.size, hs.old, fun e he => ?_, fun e he hw => ?_, List.pairwise_append.2 ⟨p2, hs.apart, fun x hx y hy hw => ?_⟩⟩ (by rw [hd]; unfold defersOf; rw [marks_append M, hr.marks]; rfl)
  · rcases List.mem_append.1 he with he | he
    · exact hs.ents e (List.mem_append_right L he)
    · exact hs.ents e he
  · rcases List.mem_append.1 he with he | he
    · exact absurd hw (hk e he)
    · exact hs.own e he hw
  · rcases List.mem_append.1 hy with hy | hy
    · exact (p3 y hy x hx (hw.symm)).symm
    · exact absurd hw (fun hw => hw.elim (hk x hx) (hk y hy))
end Go.Ev
namespace Go.Proofs.YtincedmdkdjakaaGreat
open Go Go.Ev Go.Proofs
set_option maxRecDepth 100000
set_option maxHeartbeats 4000000
end Go.Proofs.YtincedmdkdjakaaGreat
set_option linter.unusedSimpArgs false
set_option linter.unusedVariables false
namespace Go.Ev
theorem subH_front (M : Hp) : ∀ (L : Hp), subH (L ++ M) L
  | [] => trivial
  | e :: r => by
    refine ⟨by simp [findE], ?_⟩
    simp only [List.cons_append, remE, if_true]
    exact subH_front M r
def UndR (r : List Ac × Int) : Value → Hp → Prop := fun v H => ∃ w, v = .tuple #[w, .int .i64 r.2] ∧ StR r.1 w H
theorem UndR.rd (r : List Ac × Int) : RdOnly (UndR r) := by
  rintro v A B h ⟨w, rfl, h1⟩
  exact ⟨w, rfl, StR.rd _ _ _ _ h h1⟩
end Go.Ev
namespace Go.Proofs.YtincedmdkdjakaaGreat
open Go Go.Ev Go.Proofs
set_option maxRecDepth 100000
set_option maxHeartbeats 4000000
end Go.Proofs.YtincedmdkdjakaaGreat
set_option linter.unusedSimpArgs false
set_option linter.unusedVariables false
namespace Go.Ev
noncomputable def nanIG : List Value → Option Value
  | [.int .i64 _] => some (.bool false)
  | _ => none
attribute [push_cast] nanIG
end Go.Ev
namespace Go.Proofs.YtincedmdkdjakaaGreat
open Go Go.Ev Go.Proofs
set_option maxRecDepth 100000
set_option maxHeartbeats 4000000
theorem nanIG_ok (args : List Value) (v : Value) (h : nanIG args = some v) : CallsV Tryz.prog 139 args [] (Ret0 v) := by
  unfold nanIG at h
  split at h
  case h_2 => cases h
  rename_i x
  cases h
  refine callsO gA1_ok Tryz.mix Tryz.pl139 Tryz.func139 rfl Tryz.ntmps139 Tryz.results139 rfl (by first | rfl | assumption) (Nat.le_of_ble_eq_true rfl) (by kernel_rfl) ?_
  have e : (x != x) = false := bne_self_eq_false x
  simp only [push_cast, seval, reduceCtorEq, e]
noncomputable def gJ0 : Gam := (addG 139 nanIG gA1)
attribute [push_cast] gJ0
theorem gJ0_ok : GamOk Tryz.prog gJ0 := (addG_ok nanIG_ok gA1_ok)
noncomputable def gJ1 : Gam := gJ0
attribute [push_cast] gJ1
theorem gJ1_ok : GamOk Tryz.prog gJ1 := gJ0_ok
end Go.Proofs.YtincedmdkdjakaaGreat
set_option linter.unusedSimpArgs false
set_option linter.unusedVariables false
namespace Go.Proofs.YtincedmdkdjakaaGreat
open Go Go.Ev Go.Proofs
set_option maxRecDepth 100000
set_option maxHeartbeats 4000000
end Go.Proofs.YtincedmdkdjakaaGreat
set_option linter.unusedSimpArgs false
set_option linter.unusedVariables false
namespace Go.Ev
end Go.Ev
namespace Go.Proofs.YtincedmdkdjakaaGreat
open Go Go.Ev Go.Proofs
set_option maxRecDepth 100000
set_option maxHeartbeats 4000000
end Go.Proofs.YtincedmdkdjakaaGreat
set_option linter.unusedSimpArgs false
set_option linter.unusedVariables false
namespace Go.Ev
theorem subH_mid {N X : Hp} : ∀ {M : Hp}, (∀ e ∈ M, ∀ x ∈ N, ¬ e.blk = x.blk) → subH (N ++ (M ++ X)) M
  | [], _ => trivial
  | e :: r, h => by
    have h1 := h e (by simp)
    refine ⟨by rw [findE_A h1]; simp [findE], ?_⟩
    rw [remE_A h1]
    simp only [List.cons_append, remE, if_true]
    exact subH_mid fun x hx => h x (by simp [hx])
theorem subH_gr {N M M' : Hp} (hf : freshN N M') (hg : Gr M M') : subH (N ++ M') M := by
  obtain ⟨-, X, rfl, -, -⟩ := hg
  exact subH_mid fun e he x hx h => freshN_iff.1 hf x hx e (List.mem_append_left _ he) h
end Go.Ev
namespace Go.Proofs.YtincedmdkdjakaaGreat
open Go Go.Ev Go.Proofs
set_option maxRecDepth 100000
set_option maxHeartbeats 4000000
theorem CallsV.toW {g : FuncId} {args : List Value} {M : Hp} {Q : Value → Hp → Prop} (hc : ∀ M0, roM M0 → cellsAt M0 = cellsAt M → CallsV Tryz.prog g args M0 Q) (h : ∀ v N, Q v N → allWr N ∧ marksOf N = []) : CallsW Tryz.prog g args M (fun v N _ => Q v N) := fun M0 hr he =>
  (hc M0 hr he).toK fun v N hq => ⟨N, [], (List.append_nil N).symm, (h v N hq).1, (h v N hq).2, trivial, rfl, freshN_nil N, fun _ => hq⟩
end Go.Proofs.YtincedmdkdjakaaGreat
set_option linter.unusedSimpArgs false
set_option linter.unusedVariables false
namespace Go.Ev
end Go.Ev
set_option linter.unusedSimpArgs false
set_option linter.unusedVariables false
namespace Go.Ev
end Go.Ev
namespace Go.Proofs.YtincedmdkdjakaaGreat
open Go Go.Ev Go.Proofs
set_option maxRecDepth 100000
set_option maxHeartbeats 4000000
attribute [-push_cast] evAppend_nil
theorem refOwn_R {M : Hp} {s : List Ac} {v : Value} (hv : StR s v M) (hn : s.length ≤ 1000000000) (hs : ∀ x ∈ s, x.slots.length ≤ 2199023255551) : CallsR Tryz.prog 47 [v] M (StR s) :=
  (refOwn_ok hv hn hs).toR fun v N1 A _ _ hf hq => hq.r hf
end Go.Proofs.YtincedmdkdjakaaGreat
set_option linter.unusedSimpArgs false
set_option linter.unusedVariables false
namespace Go.Ev
end Go.Ev
namespace Go.Proofs.YtincedmdkdjakaaGreat
open Go Go.Ev Go.Proofs
set_option maxRecDepth 100000
set_option maxHeartbeats 4000000
end Go.Proofs.YtincedmdkdjakaaGreat
set_option linter.unusedSimpArgs false
set_option linter.unusedVariables false
namespace Go.Ev
theorem append_gA {P : Program} {A X N : Hp} {st xt e sz by_ n m : Nat} {cs ys : List Value} {v x : Value} {K : Value → Hp → Prop} (ho : OutG e sz cs n v N) (hA : freshN A N) (hs : slI P st = some (e, sz, by_)) (hx : srcL P (A ++ (N ++ X)) xt x sz = some (ys, m)) (hl : ys.length = m * sz) (h1 : ys.all oneC = true) (hb : (n + m) * by_ ≤ two47)
    (hk : ∀ v' N', OutG e sz (cs ++ ys) (n + m) v' N' → freshN N' (A ++ X) → K v' (N' ++ (A ++ X))) : evAppend P (A ++ (N ++ X)) st xt v x K := by
  have hsz : 0 < sz := (slI_eq hs).2.elim fun _ h => h.elim fun _ h => h.2.2.2.2.2.1
  unfold evAppend
  rw [hs]
  dsimp only
  rw [hx]
  dsimp only
  rcases ho with ⟨rfl, rfl, rfl, rfl⟩ | ⟨b, c, rfl, hc, hcl, rfl⟩
  · refine ⟨⟨rfl, rfl⟩, fun hm => ?_, fun hm => ⟨by simpa using hb, fun b c' hf hc' => ?_⟩⟩
    · subst hm
      have : ys = [] := List.length_eq_zero_iff.1 (by simpa using hl)
      subst this
      exact hk _ [] (.inl ⟨rfl, rfl, rfl, rfl⟩) trivial
    · have := hk (.slice (some ⟨b, 0, none⟩) (0 + m) c') [⟨b, 0, .vec e sz c', [] ++ ys⟩] (.inr ⟨b, c', rfl, by omega, by simpa using hl, rfl⟩) ⟨hf, trivial⟩
      rw [Nat.zero_add] at this
      exact this
  · have hb' : ∀ a ∈ A, ¬ b = a.blk := fun a ha h => by
      have := freshN_iff.1 hA a ha _ (List.mem_singleton.2 rfl)
      exact this h
    have e1 : findE (A ++ ([⟨b, 0, .vec e sz c, cs⟩] ++ X)) b = some ⟨b, 0, .vec e sz c, cs⟩ := by rw [findE_A hb']; simp [findE]
    have e2 : remE (A ++ ([⟨b, 0, .vec e sz c, cs⟩] ++ X)) b = A ++ X := by rw [remE_A hb']; simp [remE]
    dsimp only
    rw [e1, e2]
    dsimp only
    rw [if_pos hcl]
    refine ⟨⟨rfl, rfl, rfl, rfl, hcl⟩, hb, h1, fun b' c' hf hc' => ?_⟩
    exact hk _ [⟨b', 0, .vec e sz c', cs ++ ys⟩] (.inr ⟨b', c', rfl, hc', by rw [List.length_append, hcl, hl, Nat.add_mul], rfl⟩) ⟨hf, trivial⟩
theorem push_gA {P : Program} {α : Type} {c : α → List Value} {e e' s' sz by_ st q : Nat} {ag : Bool} {l : List α} {x : α} {v : Value} (A : Hp) {N X : Hp} {b k : Nat} {K : Value → Hp → Prop} (ho : OutG e sz (l.flatMap c) l.length v N) (hA : freshN (⟨b, 0, .vec e' s' 1, c x⟩ :: A) N) (hs : slI P st = some (e, sz, by_)) (he : elemI P st = some (none, q, ag))
    (hl : (c x).length = sz) (h1 : (c x).all oneC = true) (hb : (l.length + 1) * by_ ≤ two47)
    (hk : ∀ v' N', OutG e sz ((l ++ [x]).flatMap c) (l ++ [x]).length v' N' → freshN N' (⟨b, 0, .vec e' s' 1, c x⟩ :: (A ++ X)) → K v' (N' ++ ⟨b, 0, .vec e' s' 1, c x⟩ :: (A ++ X))) : evAppend P (⟨b, 0, .vec e' s' 1, c x⟩ :: (A ++ (N ++ X))) st st v (.slice (some ⟨b, 0, none⟩) 1 k) K := by
  refine append_gA (A := ⟨b, 0, .vec e' s' 1, c x⟩ :: A) (e := e) (sz := sz) (by_ := by_) (n := l.length) (m := 1) (ys := c x) ho hA hs ?_ (by rw [hl, Nat.one_mul]) h1 hb fun v' N' ho' hf' => hk v' N' ?_ hf'
  · unfold srcL
    rw [he]
    dsimp only
    unfold cellsAt
    simp only [List.cons_append, findE, if_true, Nat.le_refl, Nat.sub_self, subL, Nat.zero_add, List.drop_zero, Nat.one_mul]
    rw [if_pos (Nat.le_of_eq hl.symm), List.take_of_length_le (Nat.le_of_eq hl)]
  · rw [List.flatMap_append, List.length_append, List.flatMap_cons, List.flatMap_nil, List.append_nil]
    exact ho'
end Go.Ev
namespace Go.Proofs.YtincedmdkdjakaaGreat
open Go Go.Ev Go.Proofs
set_option maxRecDepth 100000
set_option maxHeartbeats 4000000
end Go.Proofs.YtincedmdkdjakaaGreat
set_option linter.unusedSimpArgs false
set_option linter.unusedVariables false
namespace Go.Ev
end Go.Ev
namespace Go.Proofs.YtincedmdkdjakaaGreat
open Go Go.Ev Go.Proofs
set_option maxRecDepth 100000
set_option maxHeartbeats 4000000
end Go.Proofs.YtincedmdkdjakaaGreat
set_option linter.unusedSimpArgs false
set_option linter.unusedVariables false
namespace Go.Proofs.YtincedmdkdjakaaGreat
open Go Go.Ev Go.Proofs
set_option maxRecDepth 100000
set_option maxHeartbeats 4000000
end Go.Proofs.YtincedmdkdjakaaGreat
set_option linter.unusedSimpArgs false
set_option linter.unusedVariables false
namespace Go.Ev
end Go.Ev
namespace Go.Proofs.YtincedmdkdjakaaGreat
open Go Go.Ev Go.Proofs
set_option maxRecDepth 100000
set_option maxHeartbeats 4000000
end Go.Proofs.YtincedmdkdjakaaGreat
set_option linter.unusedSimpArgs false
set_option linter.unusedVariables false
namespace Go.Proofs.YtincedmdkdjakaaGreat
open Go Go.Ev Go.Proofs
set_option maxRecDepth 100000
set_option maxHeartbeats 4000000
end Go.Proofs.YtincedmdkdjakaaGreat
set_option linter.unusedSimpArgs false
set_option linter.unusedVariables false
namespace Go.Proofs.YtincedmdkdjakaaGreat
open Go Go.Ev Go.Proofs
set_option maxRecDepth 100000
set_option maxHeartbeats 4000000
end Go.Proofs.YtincedmdkdjakaaGreat
set_option linter.unusedSimpArgs false
set_option linter.unusedVariables false
namespace Go.Ev
def addrL (k : Nat) : List UInt8 := (if 5 < k then 1 else 0) :: (List.replicate 18 0 ++ [UInt8.ofNat k])
theorem addrL_len (k : Nat) : (addrL k).length = 20 := by simp [addrL]
noncomputable def addrA : Int → Ad := hid fun n => ⟨addrL (pickN n 9), addrL_len _⟩
theorem addrA_eq (n : Int) : addrA n = ⟨addrL (pickN n 9), addrL_len _⟩ := by unfold addrA; rw [hid_eq]
noncomputable def addrG : List Value → Option Value
  | [.int .i64 n] => if i64In n then some (addrA n).v else none
  | _ => none
attribute [push_cast] addrG
theorem addr_cells (k : Nat) (h : k < 9) : byteV (addrL k) = .int .u8 (if 5 < k then 1 else 0) :: (List.replicate 18 (.int .u8 0) ++ [.int .u8 k]) := by
  have : k = 0 ∨ k = 1 ∨ k = 2 ∨ k = 3 ∨ k = 4 ∨ k = 5 ∨ k = 6 ∨ k = 7 ∨ k = 8 := by omega
  rcases this with rfl | rfl | rfl | rfl | rfl | rfl | rfl | rfl | rfl <;> rfl
end Go.Ev
namespace Go.Proofs.YtincedmdkdjakaaGreat
open Go Go.Ev Go.Proofs
set_option maxRecDepth 100000
set_option maxHeartbeats 4000000
theorem pick08_ok (c n : Int) (hc : i64In c) (hn : 0 < n) (hn2 : i64In n) : CallsV Tryz.prog 44 [.int .i64 c, .int .i64 n] [] (Ret0 (.int .i64 (pickN c n))) := by
  have hn0 : ¬ n = 0 := by omega
  have h2 := pickN_lt c hn
  unfold i64In at hc hn2
  refine callsO (noG_ok _) Tryz.mix Tryz.pl44 Tryz.func44 rfl Tryz.ntmps44 Tryz.results44 rfl (by first | rfl | assumption) (Nat.le_of_ble_eq_true rfl) (by kernel_rfl) ?_
  rcases Int.lt_or_le c 0 with h | h
  · have e1 : pickN c n = (-(c + 1)).tmod n := by
      have := Int.emod_nonneg (-(c + 1)) hn0
      unfold pickN; rw [if_pos h, Int.tmod_eq_emod_of_nonneg (by omega)]; omega
    have e2 : (0 - (c + 1)) = -(c + 1) := by omega
    simp only [push_cast, seval, reduceCtorEq, h, wrap_i64' (show -9223372036854775808 ≤ c + 1 ∧ c + 1 ≤ 9223372036854775807 by omega), hn0, e2, wrap_i64' (show -9223372036854775808 ≤ -(c + 1) ∧ -(c + 1) ≤ 9223372036854775807 by omega), e1]
  · have h' : ¬ c < 0 := by omega
    have e1 : pickN c n = c.tmod n := by
      have := Int.emod_nonneg c hn0
      unfold pickN; rw [if_neg h', Int.tmod_eq_emod_of_nonneg (by omega)]; omega
    simp only [push_cast, seval, reduceCtorEq, h', hn0, e1]
theorem pick08G_ok (args : List Value) (v : Value) (h : pickG args = some v) : CallsV Tryz.prog 44 args [] (Ret0 v) := by
  unfold pickG at h
  split at h
  · split at h
    · rename_i c n hh; cases h; exact pick08_ok c n hh.1 hh.2.1 hh.2.2
    · cases h
  · cases h
theorem ofWG_ok (args : List Value) (v : Value) (h : ofG args = some v) : CallsV Tryz.prog 41 args [] (Ret0 v) := by
  unfold ofG at h
  split at h
  · split at h
    · rename_i n hh; cases h; exact refOf n hh
    · cases h
  · cases h
noncomputable def gV0 : Gam := (addG 41 ofG (addG 44 pickG gJ1))
attribute [push_cast] gV0
theorem gV0_ok : GamOk Tryz.prog gV0 := (addG_ok ofWG_ok (addG_ok pick08G_ok gJ1_ok))
theorem addr_ok (n : Int) (hn : i64In n) : CallsV Tryz.prog 45 [.int .i64 n] [] (Ret0 (addrA n).v) := by
  have j1 : i64In 9 := by decide
  have hp := pickN_lt n (show (0 : Int) < 9 by decide)
  rw [addrA_eq]
  obtain ⟨k, hk⟩ : ∃ k, k = pickN n 9 := ⟨_, rfl⟩
  have hk9 : k < 9 := by omega
  have hv : (⟨addrL (pickN n 9), addrL_len _⟩ : Ad).v = .agg (.int .u8 (if 5 < k then 1 else 0) :: (List.replicate 18 (.int .u8 0) ++ [.int .u8 k])).toArray := by
    unfold Ad.v Ad.cells
    dsimp only
    rw [← hk, addr_cells k hk9]
  rw [hv]
  refine callsO gV0_ok Tryz.mix Tryz.pl45 Tryz.func45 rfl Tryz.ntmps45 Tryz.results45 rfl (by first | rfl | assumption) (Nat.le_of_ble_eq_true rfl) (by kernel_rfl) ?_
  simp only [push_cast, seval, reduceCtorEq]
  intro b2 b3 hb3
  by_cases h5 : 5 < k
  · have i5 : (5 : Int) < (k : Int) := by omega
    rw [if_pos h5]
    simp only [push_cast, seval, reduceCtorEq, hb3, hn, j1, ← hk, i5, h5, wrap_u8' (n := (k : Int)) (by omega)]
    try rfl
  · have i5 : ¬ (5 : Int) < (k : Int) := by omega
    rw [if_neg h5]
    simp only [push_cast, seval, reduceCtorEq, hb3, hn, j1, ← hk, i5, h5, wrap_u8' (n := (k : Int)) (by omega)]
    try rfl
theorem addrG_ok (args : List Value) (v : Value) (h : addrG args = some v) : CallsV Tryz.prog 45 args [] (Ret0 v) := by
  unfold addrG at h
  split at h
  · split at h
    · rename_i n hh; cases h; exact addr_ok n hh
    · cases h
  · cases h
noncomputable def gV1 : Gam := (addG 45 addrG gV0)
attribute [push_cast] gV1
theorem gV1_ok : GamOk Tryz.prog gV1 := (addG_ok addrG_ok gV0_ok)
end Go.Proofs.YtincedmdkdjakaaGreat
set_option linter.unusedSimpArgs false
set_option linter.unusedVariables false
namespace Go.Ev
structure R4 where
  a : Int
  b : Int
  c : Int
  d : Int
def R4.cells (r : R4) : List Value := [.int .i64 r.a, .int .i64 r.b, .int .i64 r.c, .int .i64 r.d]
def R4.v (r : R4) : Value := .agg #[.int .i64 r.a, .int .i64 r.b, .int .i64 r.c, .int .i64 r.d]
def R4.In (r : R4) : Prop := i64In r.a ∧ i64In r.b ∧ i64In r.c ∧ i64In r.d
def codeN (n : Nat) : ByteArray := if n = 0 then ⟨#[]⟩ else if n = 1 then ⟨#[0]⟩ else if n = 2 then ⟨#[96, 1]⟩ else ⟨#[99, 111, 100, 101]⟩
noncomputable def chR (r : R4) : Ch :=
  if pickN r.a 4 = 0 then ⟨1, addrA r.b, W.zero, W.ofInt (pickN r.c 1000 : Nat), 0, .empty⟩
  else if pickN r.a 4 = 1 then ⟨2, addrA r.b, W.zero, W.zero, (pickN r.c 4 : Nat), .empty⟩
  else if pickN r.a 4 = 2 then ⟨3, addrA r.b, W.zero, W.zero, 0, codeN (pickN r.c 4)⟩
  else ⟨4, addrA r.b, W.ofInt (pickN r.c 5 : Nat), W.ofInt (pickN r.d 3 : Nat), 0, .empty⟩
end Go.Ev
namespace Go.Proofs.YtincedmdkdjakaaGreat
open Go Go.Ev Go.Proofs
set_option maxRecDepth 100000
set_option maxHeartbeats 4000000
theorem change_ok (r : R4) (hr : r.In) : CallsV Tryz.prog 12 [r.v] [] (Ret0 (chR r).v) := by
  obtain ⟨a, b, c, d⟩ := r
  obtain ⟨ia, ib, ic, id⟩ := hr
  dsimp only at ia ib ic id
  have j4 : i64In 4 := by decide
  have j5 : i64In 5 := by decide
  have j3 : i64In 3 := by decide
  have jk : i64In 1000 := by decide
  have pa := pickN_lt a (show (0 : Int) < 4 by decide)
  have pc := pickN_lt c (show (0 : Int) < 4 by decide)
  have pk := pickN_lt c (show (0 : Int) < 1000 by decide)
  have p5 := pickN_lt c (show (0 : Int) < 5 by decide)
  have p3 := pickN_lt d (show (0 : Int) < 3 by decide)
  unfold chR
  dsimp only
  obtain ⟨x, hx⟩ : ∃ x, x = pickN a 4 := ⟨_, rfl⟩
  rw [← hx] at pa ⊢
  show CallsV Tryz.prog _ [.agg #[.int .i64 a, .int .i64 b, .int .i64 c, .int .i64 d]] _ _
  have hx4 : x = 0 ∨ x = 1 ∨ x = 2 ∨ x = 3 := by omega
  refine callsO gV1_ok Tryz.mix Tryz.pl12 Tryz.func12 rfl Tryz.ntmps12 Tryz.results12 rfl (by first | rfl | assumption) (Nat.le_of_ble_eq_true rfl) (by kernel_rfl) ?_
  simp only [push_cast, seval, reduceCtorEq]
  intro b1 b2 hb2
  rcases hx4 with rfl | rfl | rfl | rfl
  · simp only [push_cast, seval, reduceCtorEq, hb2, ia, ib, ic, id, j4, j5, j3, jk, ← hx]
    intro b3 hb3
    have k1 : -9223372036854775808 ≤ ((pickN c 1000 : Nat) : Int) ∧ ((pickN c 1000 : Nat) : Int) ≤ 9223372036854775807 := by omega
    simp only [push_cast, seval, reduceCtorEq, hb2, hb3, ia, ib, ic, id, j4, j5, j3, jk, ← hx, k1.1, k1.2]
  · simp only [push_cast, seval, reduceCtorEq, hb2, ia, ib, ic, id, j4, j5, j3, jk, ← hx]
    intro b3 hb3
    simp only [push_cast, seval, reduceCtorEq, hb2, hb3, ia, ib, ic, id, j4, j5, j3, jk, ← hx]
  · simp only [push_cast, seval, reduceCtorEq, hb2, ia, ib, ic, id, j4, j5, j3, jk, ← hx]
    intro b3 hb3
    simp only [push_cast, seval, reduceCtorEq, hb2, hb3, ia, ib, ic, id, j4, j5, j3, jk, ← hx]
    intro b4 hb4
    obtain ⟨y, hy⟩ : ∃ y, y = pickN c 4 := ⟨_, rfl⟩
    rw [← hy]
    have hy4 : y = 0 ∨ y = 1 ∨ y = 2 ∨ y = 3 := by omega
    rcases hy4 with rfl | rfl | rfl | rfl <;> simp only [push_cast, seval, reduceCtorEq, hb2, hb3, hb4, ia, ib, ic, id, j4, j5, j3, jk, ← hx, ← hy, codeN]
    all_goals trace_state
  · simp only [push_cast, seval, reduceCtorEq, hb2, ia, ib, ic, id, j4, j5, j3, jk, ← hx]
    intro b3 hb3
    have k1 : -9223372036854775808 ≤ ((pickN c 5 : Nat) : Int) ∧ ((pickN c 5 : Nat) : Int) ≤ 9223372036854775807 := by omega
    have k2 : -9223372036854775808 ≤ ((pickN d 3 : Nat) : Int) ∧ ((pickN d 3 : Nat) : Int) ≤ 9223372036854775807 := by omega
    simp only [push_cast, seval, reduceCtorEq, hb2, hb3, ia, ib, ic, id, j4, j5, j3, jk, ← hx, k1.1, k1.2, k2.1, k2.2]
end Go.Proofs.YtincedmdkdjakaaGreat
set_option linter.unusedSimpArgs false
set_option linter.unusedVariables false
namespace Go.Ev
noncomputable def chG : List Value → Option Value
  | [.agg cs] => match cs.toList with
    | [.int .i64 a, .int .i64 b, .int .i64 c, .int .i64 d] => if i64In a ∧ i64In b ∧ i64In c ∧ i64In d then some (chR ⟨a, b, c, d⟩).v else none
    | _ => none
  | _ => none
attribute [push_cast] chG
theorem R4.len (r : R4) : r.cells.length = 4 := rfl
noncomputable def stepS (s : List Ac) (r : R4) : List Ac := if (doS s (chR r)).2.2 = 0 then (doS s (chR r)).1 else s
noncomputable def stateR (l : List R4) : List Ac := (l.take 30).foldl stepS []
theorem stepS_ri {s : List Ac} (h : RiS s) (r : R4) : RiS (stepS s r) := by
  unfold stepS
  split
  · rename_i hd; exact (doS_iff.1 hd).right
  · exact h
theorem foldS_ri : ∀ (l : List R4) {s : List Ac}, RiS s → RiS (l.foldl stepS s)
  | [], _, h => h
  | r :: l, s, h => by rw [List.foldl_cons]; exact foldS_ri l (stepS_ri h r)
theorem stateR_ri (l : List R4) : RiS (stateR l) := foldS_ri _ RiS.nil
end Go.Ev
namespace Go.Proofs.YtincedmdkdjakaaGreat
open Go Go.Ev Go.Proofs
set_option maxRecDepth 100000
set_option maxHeartbeats 4000000
theorem chG_ok (args : List Value) (v : Value) (h : chG args = some v) : CallsV Tryz.prog 12 args [] (Ret0 v) := by
  unfold chG at h
  split at h
  · rename_i cs
    split at h
    · rename_i a b c d hcs
      split at h
      · rename_i hh
        cases h
        have : cs = #[.int .i64 a, .int .i64 b, .int .i64 c, .int .i64 d] := Array.toList_inj.1 hcs
        subst this
        exact change_ok ⟨a, b, c, d⟩ hh
      · cases h
    · cases h
  · cases h
noncomputable def gV2 : Gam := (addG 12 chG gV1)
attribute [push_cast] gV2
theorem gV2_ok : GamOk Tryz.prog gV2 := (addG_ok chG_ok gV1_ok)
theorem state_ok {M : Hp} {l : List R4} {v : Value} (hl : LiR R4.cells 4 M l v) (hin : ∀ r ∈ l, r.In) : CallsR Tryz.prog 25 [v] M (StR (stateR l)) := by
  intro M0 hr he
  have hm := hr.marks
  replace hl := hl.congr he.symm
  obtain ⟨p, k, rfl, hla⟩ := hl.openC R4.len (by decide)
  refine callsO gV2_ok Tryz.mix Tryz.pl25 Tryz.func25 rfl Tryz.ntmps25 Tryz.results25 rfl (by first | rfl | assumption) (Nat.le_of_ble_eq_true rfl) (by kernel_rfl) ?_
  simp only [push_cast, seval, reduceCtorEq]
  refine loopO gV2_ok (pl := Tryz.pl25) Tryz.mix (X := {x : (Nat × Value) × Hp // Gr M0 x.2})
    (fun x => ([(0, .slice p l.length k), (2, .slice none 0 0), (3, x.1.1.2), (4, .int .i64 x.1.1.1)], x.1.2))
    (fun x => x.1.1.1 ≤ l.length ∧ x.1.1.1 ≤ 30 ∧ StR ((l.take x.1.1.1).foldl stepS []) x.1.1.2 x.1.2) (fun x => l.length - x.1.1.1) ⟨((0, .slice none 0 0), M0), Gr.refl hm⟩ ?_ ?_ (by kernel_rfl) ?_
  · exact ⟨Nat.zero_le _, Nat.zero_le _, StR.nil _ _⟩
  · simp only [push_cast, seval, reduceCtorEq]
  · rintro ⟨⟨⟨ix, w⟩, M1⟩, hg1⟩ ⟨hi, h30, hw⟩
    dsimp only at hi h30 hw hg1 ⊢
    have hri : RiS ((l.take ix).foldl stepS []) := foldS_ri _ RiS.nil
    obtain ⟨t, ht⟩ : ∃ t, t = (l.take ix).foldl stepS [] := ⟨_, rfl⟩
    rw [← ht] at hw hri
    obtain ⟨pw, kw, rfl⟩ := hw.slice
    by_cases hc : ix < l.length ∧ ix < 30
    · obtain ⟨hlt, hl30⟩ := hc
      obtain ⟨r, hr'⟩ : ∃ r, l[ix]? = some r := ⟨l[ix], List.getElem?_eq_getElem hlt⟩
      obtain ⟨ia, ib, ic, id⟩ := hin r (List.mem_of_getElem? hr')
      rcases hla with rfl | ⟨b, f, d, kd, cs, rfl, hfe, hat⟩
      · simp at hlt
      obtain ⟨a1, a2⟩ := hat ix r hr'
      rw [show r.cells = [.int .i64 r.a, .int .i64 r.b, .int .i64 r.c, .int .i64 r.d] from rfl] at a2
      have hee := hg1.find hfe
      have i1 : (ix : Int) < (l.length : Int) := by omega
      have i2 : (ix : Int) < 30 := by omega
      have hs1 : (l.take (ix + 1)).foldl stepS [] = stepS t r := by
        rw [List.take_add_one, hr', List.foldl_append, ← ht]; rfl
      have hrl := hri.len
      simp only [push_cast, seval, reduceCtorEq, i1, i2, hlt, hl30, hee, a1, a2, ia, ib, ic, id]
      refine useB [] (refDo_ok hw (by omega) (fun y hy => by have := (mayA_slots (hri.may y hy)).len; omega)) (DoO.rd _ _) hg1.marks trivial fun w' N1 M2 hg2 hf hL hwN hmN hq => ?_
      obtain ⟨w1, rfl, hq⟩ := hq
      obtain ⟨pw2, kw2, rfl⟩ : ∃ p k, w1 = .slice p (doS t (chR r)).1.length k := (hq.r hf).slice
      simp only [push_cast, seval, reduceCtorEq]
      intro b6 hb6
      have sw : ∀ {b}, fresh b (N1 ++ M2) → fresh b (M2 ++ N1) := fun h => fresh_appS (fresh_app_iff.1 h).2 (fresh_app_iff.1 h).1
      have hg3 : Gr M0 (M2 ++ N1) := hg1.trans (hg2.trans ⟨hg2.marks, N1, rfl, hwN, hmN⟩)
      have e3 : -9223372036854775808 ≤ (ix : Int) + 1 ∧ (ix : Int) + 1 ≤ 9223372036854775807 := by omega
      have hsub : subH (⟨b6, 0, .cel 41, (doS t (chR r)).2.1.cells⟩ :: (N1 ++ M2)) (M2 ++ N1) := by
        rw [subH_skip (e := ⟨b6, 0, .cel 41, (doS t (chR r)).2.1.cells⟩) (L := N1 ++ M2) (sw hb6)]
        exact subH_turn fun e he x hx h => freshN_iff.1 hf x hx e he h
      have hmk : marksOf (M2 ++ N1) = marksOf (N1 ++ M2) := by rw [marks_append, marks_append, hmN, hg2.marks]
      split
      · rename_i hd
        have hd : (doS t (chR r)).2.2 = 0 := eq_of_beq hd
        have hs2 : stepS t r = (doS t (chR r)).1 := by unfold stepS; rw [if_pos hd]
        exact ⟨⟨((ix + 1, .slice pw2 (doS t (chR r)).1.length kw2), M2 ++ N1), hg3⟩, ⟨hlt, by dsimp only; omega, by rw [hs1, hs2]; exact StR.rd _ _ _ _ (cellsAt_swap hf) (hq.r hf)⟩, by dsimp only; omega, ⟨rfl, by rw [wrap_i64' e3]; rfl⟩, hsub, hmk⟩
      · rename_i hd
        have hd : ¬ (doS t (chR r)).2.2 = 0 := fun h => by rw [beq_eq_false_iff_ne] at hd; exact hd h
        have hs2 : stepS t r = t := by unfold stepS; rw [if_neg hd]
        exact ⟨⟨((ix + 1, .slice pw t.length kw), M2 ++ N1), hg3⟩, ⟨hlt, by dsimp only; omega, by rw [hs1, hs2]; exact hw.ext (hg2.trans ⟨hg2.marks, N1, rfl, hwN, hmN⟩).ext⟩, by dsimp only; omega, ⟨rfl, by rw [wrap_i64' e3]; rfl⟩, hsub, hmk⟩
    · have hfin : (l.take ix).foldl stepS [] = stateR l := by
        unfold stateR
        rcases Nat.lt_or_ge ix 30 with h | h
        · obtain rfl : ix = l.length := by omega
          rw [List.take_length, List.take_of_length_le (by omega)]
        · obtain rfl : ix = 30 := by omega
          rfl
      rw [← ht] at hfin
      rw [hfin] at hw
      rw [hfin]
      by_cases hlt : ix < l.length
      · have i1 : (ix : Int) < (l.length : Int) := by omega
        have i2 : ¬ (ix : Int) < 30 := by omega
        have i3 : ¬ ix < 30 := by omega
        simp only [push_cast, seval, reduceCtorEq, i1, i2, hlt, i3]
        exact doneK2 [] hg1 (StR.rd _) hw
      · have i1 : ¬ (ix : Int) < (l.length : Int) := by omega
        simp only [push_cast, seval, reduceCtorEq, i1, hlt]
        exact doneK2 [] hg1 (StR.rd _) hw
end Go.Proofs.YtincedmdkdjakaaGreat
set_option linter.unusedSimpArgs false
set_option linter.unusedVariables false
namespace Go.Ev
structure R5 where
  a : Int
  b : Int
  c : Int
  d : Int
  e : Int
def R5.cells (r : R5) : List Value := [.int .i64 r.a, .int .i64 r.b, .int .i64 r.c, .int .i64 r.d, .int .i64 r.e]
def R5.v (r : R5) : Value := .agg #[.int .i64 r.a, .int .i64 r.b, .int .i64 r.c, .int .i64 r.d, .int .i64 r.e]
def R5.In (r : R5) : Prop := i64In r.a ∧ i64In r.b ∧ i64In r.c ∧ i64In r.d ∧ i64In r.e
def R5.ch (r : R5) : R4 := ⟨r.b, r.c, r.d, r.e⟩
theorem CallsV.pre {P : Program} {g : FuncId} {args : List Value} {H H' : Hp} {K : Value → Hp → Prop} (hp : H.Perm H') (hm : marksOf H' = marksOf H) (hc : CallsV P g args H' K) : CallsV P g args H K := by
  refine ⟨hc.1, fun w0 mu w hs => (hc.2 w0 mu w (hs.perm hp)).mono ?_⟩
  rintro e w' ⟨v, H'', h1, h2, h3, h4⟩
  exact ⟨v, H'', h1, h2, h3, h4.trans hm⟩
end Go.Ev
namespace Go.Proofs.YtincedmdkdjakaaGreat
open Go Go.Ev Go.Proofs
set_option maxRecDepth 100000
set_option maxHeartbeats 4000000
end Go.Proofs.YtincedmdkdjakaaGreat
set_option linter.unusedSimpArgs false
set_option linter.unusedVariables false
namespace Go.Proofs.YtincedmdkdjakaaGreat
open Go Go.Ev Go.Proofs
set_option maxRecDepth 100000
set_option maxHeartbeats 4000000
end Go.Proofs.YtincedmdkdjakaaGreat
set_option linter.unusedSimpArgs false
set_option linter.unusedVariables false
namespace Go.Ev
end Go.Ev
set_option linter.unusedSimpArgs false
set_option linter.unusedVariables false
namespace Go.Ev
theorem nodup_subN {α : Type} [DecidableEq α] : ∀ {l m : List α}, l.Nodup → (∀ x ∈ l, x ∈ m) → l.length ≤ m.length
  | [], _, _, _ => Nat.zero_le _
  | x :: r, m, h, hs => by
    obtain ⟨h1, h2⟩ := List.nodup_cons.1 h
    have hx := hs x (List.mem_cons_self ..)
    have := nodup_subN (l := r) (m := m.erase x) h2 fun y hy => (List.mem_erase_of_ne fun e => h1 (by rw [← e]; exact hy)).2 (hs y (List.mem_cons_of_mem _ hy))
    rw [List.length_erase_of_mem hx] at this
    have hpos := List.length_pos_of_mem hx
    rw [List.length_cons]; omega
theorem few_len {α : Type} {f : α → Nat} {l : List α} (hs : l.Pairwise fun x y => f x < f y) {m : List Nat} (hm : ∀ x ∈ l, f x ∈ m) : l.length ≤ m.length := by
  have h : (l.map f).Nodup := by
    rw [List.nodup_iff_pairwise_ne, List.pairwise_map]
    exact hs.imp fun h => Nat.ne_of_lt h
  have := nodup_subN h (m := m) fun x hx => by
    obtain ⟨y, hy, rfl⟩ := List.mem_map.1 hx
    exact hm y hy
  rwa [List.length_map] at this
def adK (k : Nat) : Ad := ⟨addrL k, addrL_len k⟩
def kyK (k : Nat) : W := W.ofInt (k : Int)
def InA (a : Ad) : Prop := ∃ k < 9, a = adK k
def InK (w : W) : Prop := ∃ k < 5, w = kyK k
def FewC (c : Ch) : Prop := InA c.at_ ∧ (c.kind = 4 → InK c.key)
structure FewS (s : List Ac) : Prop where
  ri : RiS s
  ad : ∀ x ∈ s, InA x.at_
  ky : ∀ x ∈ s, ∀ y ∈ x.slots, InK y.key
theorem FewS.len {s : List Ac} (h : FewS s) : s.length ≤ 9 := by
  have := few_len (m := (List.range 9).map fun k => (adK k).num) h.ri.srt fun x hx => by
    obtain ⟨k, hk, e⟩ := h.ad x hx
    exact List.mem_map.2 ⟨k, List.mem_range.2 hk, by rw [e]⟩
  simpa using this
theorem slots_len {l : List Sl} (h : Srt l) (hk : ∀ y ∈ l, InK y.key) : l.length ≤ 5 := by
  have := few_len (m := (List.range 5).map fun k => (kyK k).num) h fun x hx => by
    obtain ⟨k, hk, e⟩ := hk x hx
    exact List.mem_map.2 ⟨k, List.mem_range.2 hk, by rw [e]⟩
  simpa using this
theorem FewS.nil : FewS [] := ⟨RiS.nil, fun x hx => (by cases hx), fun x hx => (by cases hx)⟩
theorem FewS.find {s : List Ac} (h : FewS s) (a : Ad) : ∀ y ∈ (findS s a).slots, InK y.key := by
  rcases findS_cases s a with ⟨e, -⟩ | e
  · rw [e]; intro y hy; cases hy
  · exact h.ky _ e
theorem merge_in {l : List Sl} (h : Ri l) {k v : W} {P : W → Prop} (hl : ∀ y ∈ l, P y.key) (hk : P k) : ∀ y ∈ mergeL l [⟨k, v⟩], P y.key := by
  intro y hy
  have hs := mergeL_srt h.srt (srt_one (⟨k, v⟩ : Sl))
  have h1 := lk_of_mem hs hy
  rw [mergeL_lk h.srt (srt_one _) h.noz, lk_cons, lk_nil] at h1
  by_cases e : k = y.key
  · rw [← e]; exact hk
  · rw [if_neg e] at h1
    obtain ⟨x, h2, h3, -⟩ := lk_mem h1
    rw [← h3]; exact hl x h2
theorem chA_few {x : Ac} {c : Ch} (hx : Ri x.slots) (hk : ∀ y ∈ x.slots, InK y.key) (hc : FewC c) (h0 : (chA x c).2.2 = 0) : (∀ y ∈ (chA x c).1.slots, InK y.key) ∧ FewC (chA x c).2.1 := by
  unfold chA at h0 ⊢
  by_cases h1 : c.kind = 1
  · simp only [if_pos h1]; exact ⟨hk, hc.1, fun h => by simp [h1] at h⟩
  by_cases h2 : c.kind = 2
  · simp only [if_neg h1, if_pos h2]; exact ⟨hk, hc.1, fun h => by simp [h2] at h⟩
  by_cases h3 : c.kind = 3
  · simp only [if_neg h1, if_neg h2, if_pos h3]; exact ⟨hk, hc.1, fun h => by simp [h3] at h⟩
  by_cases h4 : c.kind = 4
  · simp only [if_neg h1, if_neg h2, if_neg h3, if_pos h4] at h0 ⊢
    refine ⟨?_, hc.1, fun _ => hc.2 h4⟩
    rw [mergeR_val hx] at h0 ⊢
    rw [(limR_ok h0).1]
    exact merge_in hx hk (hc.2 h4)
  · simp only [if_neg h1, if_neg h2, if_neg h3, if_neg h4] at h0; cases h0
theorem FewS.do_ {s : List Ac} (h : FewS s) {c : Ch} (hc : FewC c) (hd : Did s c) : FewS (doS s c).1 ∧ FewC (doS s c).2.1 := by
  have hr := hd.right
  rw [hd.val] at hr ⊢
  have hf := chA_few (mayA_slots (h.ri.findMay c.at_)) (h.find c.at_) hc hd.ch
  have ha := (chA_at (findS s c.at_) c).1
  rw [findS_at] at ha
  refine ⟨⟨hr, fun x hx => ?_, fun x hx => ?_⟩, hf.2⟩
  · rcases putS_mem hx with ⟨rfl, -⟩ | ⟨hx, -⟩
    · rw [ha]; exact hc.1
    · exact h.ad x hx
  · rcases putS_mem hx with ⟨rfl, -⟩ | ⟨hx, -⟩
    · exact hf.1
    · exact h.ky x hx
theorem chR_few (r : R4) : FewC (chR r) := by
  have ha : InA (addrA r.b) := ⟨pickN r.b 9, by have := pickN_lt r.b (show (0 : Int) < 9 by decide); omega, addrA_eq r.b⟩
  unfold chR
  split
  · exact ⟨ha, fun h => by simp at h⟩
  split
  · exact ⟨ha, fun h => by simp at h⟩
  split
  · exact ⟨ha, fun h => by simp at h⟩
  · exact ⟨ha, fun _ => ⟨pickN r.c 5, by have := pickN_lt r.c (show (0 : Int) < 5 by decide); omega, rfl⟩⟩
theorem codeN_size (n : Nat) : (codeN n).size ≤ 4 := by
  unfold codeN
  repeat' split
  all_goals decide
theorem mayA_iff {x : Ac} : mayA x = true ↔ 0 ≤ x.nonce ∧ x.nonce ≤ 9007199254740992 ∧ x.code.size ≤ 24576 ∧ Ri x.slots := by
  unfold mayA
  simp only [Bool.and_eq_true, decide_eq_true_eq, rightB_iff]
theorem chR_did {s : List Ac} (h : FewS s) (r : R4) : Did s (chR r) := by
  have hc := chR_few r
  have hm := mayA_iff.1 (h.ri.findMay (chR r).at_)
  have hk := h.find (chR r).at_
  obtain ⟨x, hx⟩ : ∃ x, x = findS s (chR r).at_ := ⟨_, rfl⟩
  rw [← hx] at hm hk
  obtain ⟨m1, m2, m3, m4⟩ := hm
  have hl5 := slots_len m4.srt hk
  have key : (chA x (chR r)).2.2 = 0 ∧ mayA (chA x (chR r)).1 = true := by
    rw [mayA_iff]
    unfold chR
    have p4 := pickN_lt r.c (show (0 : Int) < 4 by decide)
    split
    · unfold chA
      simp only [if_true]
      exact ⟨trivial, m1, m2, m3, m4⟩
    split
    · unfold chA
      dsimp only
      rw [if_neg (by decide : ¬ (2 : Int) = 1), if_pos rfl]
      dsimp only
      exact ⟨rfl, by omega, by omega, m3, m4⟩
    split
    · unfold chA
      dsimp only
      rw [if_neg (by decide : ¬ (3 : Int) = 1), if_neg (by decide : ¬ (3 : Int) = 2), if_pos rfl]
      dsimp only
      exact ⟨rfl, m1, m2, Nat.le_trans (codeN_size _) (by decide), m4⟩
    · unfold chA
      dsimp only
      rw [if_neg (by decide : ¬ (4 : Int) = 1), if_neg (by decide : ¬ (4 : Int) = 2), if_neg (by decide : ¬ (4 : Int) = 3), if_pos rfl]
      dsimp only
      rw [mergeR_val m4]
      have hs := mergeL_srt m4.srt (srt_one (⟨W.ofInt (pickN r.c 5 : Nat), W.ofInt (pickN r.d 3 : Nat)⟩ : Sl))
      have hl := slots_len hs (merge_in m4 hk ⟨pickN r.c 5, by have := pickN_lt r.c (show (0 : Int) < 5 by decide); omega, rfl⟩)
      have e : limR (mergeL x.slots [⟨W.ofInt (pickN r.c 5 : Nat), W.ofInt (pickN r.d 3 : Nat)⟩]) = (mergeL x.slots [⟨W.ofInt (pickN r.c 5 : Nat), W.ofInt (pickN r.d 3 : Nat)⟩], 0) := by
        unfold limR; rw [if_neg (by omega)]
      rw [e]
      exact ⟨rfl, m1, m2, m3, hs, mergeL_noz m4.srt (srt_one _) m4.noz, by dsimp only; omega⟩
  rw [hx] at key
  refine ⟨h.ri, key.1, key.2, ?_⟩
  unfold putS
  have l1 := List.length_filter_le (fun y : Ac => decide (y.at_.num < (chA (findS s (chR r).at_) (chR r)).1.at_.num)) s
  have l2 := List.length_filter_le (fun y : Ac => decide ((chA (findS s (chR r).at_) (chR r)).1.at_.num < y.at_.num)) s
  have l9 := h.len
  rw [List.length_append, List.length_append]
  split <;> simp only [List.length_nil, List.length_singleton] <;> omega
theorem stepS_few {s : List Ac} (h : FewS s) (r : R4) : FewS (stepS s r) := by
  unfold stepS
  rw [if_pos (doS_iff.2 (chR_did h r))]
  exact (h.do_ (chR_few r) (chR_did h r)).1
theorem foldS_few : ∀ (l : List R4) {s : List Ac}, FewS s → FewS (l.foldl stepS s)
  | [], _, h => h
  | r :: l, _, h => foldS_few l (stepS_few h r)
theorem stateR_few (s : List R4) : FewS (stateR s) := foldS_few _ FewS.nil
end Go.Ev
