/- Texts of this claim, merged by program: Jg Jh EvX Ji Jj. -/
import Derived.Test.YtkhpncfgimlleaaGreatZnAp
set_option linter.unusedSimpArgs false
set_option linter.unusedVariables false
namespace Go.Ev
end Go.Ev
namespace Go.Proofs.YtkhpncfgimlleaaGreat
open Go Go.Ev Go.Proofs
set_option maxRecDepth 100000
set_option maxHeartbeats 4000000
theorem refUndone_ok {M : Hp} {s : List Ac} {vs vu : Value} {undo : List Ch} {nm stay : Nat} {pm : Option Addr} {km : Nat} (hv : StR s vs M) (hu : LiR Ch.cells 31 M undo vu) (hn : s.length ≤ 1000000000) (hsl : ∀ y ∈ s, y.slots.length ≤ 2000) (hul : undo.length ≤ 1000000000000) (hst : stay ≤ undo.length) :
    CallsR Tryz.prog 40 [.agg #[vs, vu, .slice pm nm km], .int .i64 stay] M (UndR (undoE s (undo.drop stay).reverse)) := by
  intro M0 hr he
  have hm := hr.marks
  replace hv := StR.rd _ _ _ _ he.symm hv
  replace hu := hu.congr he.symm
  obtain ⟨R, hR⟩ : ∃ R, R = undoE s (undo.drop stay).reverse := ⟨_, rfl⟩
  rw [← hR]
  obtain ⟨ps, ks, rfl⟩ := hv.slice
  obtain ⟨pu, ku, rfl, hua⟩ := hu.openC Ch.len (by decide)
  refine callsO gA1_ok Tryz.mix Tryz.pl40 Tryz.func40 rfl Tryz.ntmps40 Tryz.results40 rfl (by first | rfl | assumption) (Nat.le_of_ble_eq_true rfl) (by kernel_rfl) ?_
  have e0 : -9223372036854775808 ≤ (undo.length : Int) - 1 ∧ (undo.length : Int) - 1 ≤ 9223372036854775807 := by omega
  simp only [push_cast, Nat.reduceAdd, Nat.reduceSub, Nat.reduceMul, Nat.reduceLT, Nat.reduceLeDiff, Nat.reduceEqDiff, Nat.reduceMod, Nat.reduceDiv, Int.reduceAdd, Int.reduceSub, Int.reduceMul, Int.reduceLT, Int.reduceLE, Int.reduceEq, Int.reduceNeg, Int.reduceToNat, reduceIte, reduceCtorEq, Int.reduceBEq, Int.reduceBNe, wrap_i64' e0]
  intro b2 hb2
  have f2 : fresh b2 M0 := hb2
  refine loopO gA1_ok (pl := Tryz.pl40) Tryz.mix (X := {x : (Nat × Value) × Hp // Gr M0 x.2 ∧ fresh b2 x.2})
    (fun x => ([(0, .agg #[.slice ps s.length ks, .slice pu undo.length ku, .slice pm nm km]), (1, .int .i64 stay), (2, .pointer (some ⟨b2, 0, none⟩)), (4, .slice none 0 0), (5, .int .i64 0), (6, x.1.1.2), (7, .int .i64 ((undo.length : Int) - 1 - (x.1.1.1 : Int)))], ⟨b2, 0, .cel 37, [.slice ps s.length ks, .slice pu undo.length ku, .slice pm nm km]⟩ :: x.1.2))
    (fun x => x.1.1.1 ≤ undo.length - stay ∧ (undoE s ((undo.drop stay).reverse.take x.1.1.1)).2 = 0 ∧ StR (undoE s ((undo.drop stay).reverse.take x.1.1.1)).1 x.1.1.2 x.1.2 ∧ (undoE s ((undo.drop stay).reverse.take x.1.1.1)).1.length ≤ 1000000000 ∧ ∀ y ∈ (undoE s ((undo.drop stay).reverse.take x.1.1.1)).1, y.slots.length ≤ 2000) (fun x => undo.length - stay - x.1.1.1) ⟨((0, .slice ps s.length ks), M0), Gr.refl hm, f2⟩ ?_ ?_ (by kernel_rfl) ?_
  · exact ⟨Nat.zero_le _, rfl, hv, hn, hsl⟩
  · simp only [push_cast, Nat.reduceAdd, Nat.reduceSub, Nat.reduceMul, Nat.reduceLT, Nat.reduceLeDiff, Nat.reduceEqDiff, Nat.reduceMod, Nat.reduceDiv, Int.reduceAdd, Int.reduceSub, Int.reduceMul, Int.reduceLT, Int.reduceLE, Int.reduceEq, Int.reduceNeg, Int.reduceToNat, reduceIte, reduceCtorEq, Int.reduceBEq, Int.reduceBNe, Int.sub_zero]
  · rintro ⟨⟨⟨i, w⟩, M1⟩, hg1, g2⟩ ⟨hi, hz, hw, hwn, hws⟩
    dsimp only at hi hz hw hwn hws g2 hg1 ⊢
    obtain ⟨pw, kw, rfl⟩ := hw.slice
    rcases Nat.lt_or_ge i (undo.length - stay) with hlt | hge
    · obtain ⟨j, hj⟩ : ∃ j : Nat, (undo.length : Int) - 1 - (i : Int) = (j : Int) := ⟨undo.length - 1 - i, by omega⟩
      obtain ⟨c, hc'⟩ : ∃ y, undo[j]? = some y := ⟨undo[j]'(by omega), List.getElem?_eq_getElem (by omega)⟩
      rcases hua with rfl | ⟨b, f, d, kd, cs, rfl, he', hat⟩
      · simp at hc'
      obtain ⟨a1, a2⟩ := hat j c hc'
      have hee := hg1.find he'
      have n2 := (fresh_findS g2 hee).2
      have i1 : (stay : Int) ≤ (j : Int) := by omega
      have i2 : j < undo.length := by omega
      have i3 : stay ≤ j := by omega
      have i4 : (j : Int) < (undo.length : Int) := by omega
      have hc : (undo.drop stay).reverse[i]? = some c := by
        rw [List.getElem?_reverse (by rw [List.length_drop]; exact hlt), List.getElem?_drop, List.length_drop, show stay + (undo.length - stay - 1 - i) = j by omega]
        exact hc'
      have hsn := undoE_snoc s _ c hz
      rw [show (undo.drop stay).reverse.take i ++ [c] = (undo.drop stay).reverse.take (i + 1) by rw [List.take_add_one, hc]; rfl] at hsn
      have herr := undoE_err s _ i c hc hz
      obtain ⟨t, ht⟩ : ∃ t, t = (undoE s ((undo.drop stay).reverse.take i)).1 := ⟨_, rfl⟩
      rw [← ht] at hw hwn hws hsn herr ⊢
      simp only [push_cast, Nat.reduceAdd, Nat.reduceSub, Nat.reduceMul, Nat.reduceLT, Nat.reduceLeDiff, Nat.reduceEqDiff, Nat.reduceMod, Nat.reduceDiv, Int.reduceAdd, Int.reduceSub, Int.reduceMul, Int.reduceLT, Int.reduceLE, Int.reduceEq, Int.reduceNeg, Int.reduceToNat, reduceIte, reduceCtorEq, Int.reduceBEq, Int.reduceBNe, hj, i1, i2, i3, i4, hee, a1, a2, n2]
      refine useB [_] (refDo_ok hw hwn hws) (DoO.rd _ _) hg1.marks ⟨g2, trivial⟩ fun w' N1 M2 hg2 hf hL hwN hmN hq => ?_
      obtain ⟨w1, rfl, hq⟩ := hq
      obtain ⟨pw1, kw1, rfl⟩ : ∃ p k, w1 = .slice p (doS t c).1.length k := (hq.r hf).slice
      simp only [push_cast, Nat.reduceAdd, Nat.reduceSub, Nat.reduceMul, Nat.reduceLT, Nat.reduceLeDiff, Nat.reduceEqDiff, Nat.reduceMod, Nat.reduceDiv, Int.reduceAdd, Int.reduceSub, Int.reduceMul, Int.reduceLT, Int.reduceLE, Int.reduceEq, Int.reduceNeg, Int.reduceToNat, reduceIte, reduceCtorEq, Int.reduceBEq, Int.reduceBNe]
      intro b9 hb9
      simp only [push_cast, Nat.reduceAdd, Nat.reduceSub, Nat.reduceMul, Nat.reduceLT, Nat.reduceLeDiff, Nat.reduceEqDiff, Nat.reduceMod, Nat.reduceDiv, Int.reduceAdd, Int.reduceSub, Int.reduceMul, Int.reduceLT, Int.reduceLE, Int.reduceEq, Int.reduceNeg, Int.reduceToNat, reduceIte, reduceCtorEq, Int.reduceBEq, Int.reduceBNe, hb9]
      obtain ⟨x2, -⟩ := hL
      have sw : ∀ {b}, fresh b (N1 ++ M2) → fresh b (M2 ++ N1) := fun h => fresh_appS (fresh_app_iff.1 h).2 (fresh_app_iff.1 h).1
      split
      · rename_i hd
        have herr := herr (bne_iff_ne.1 hd)
        rw [← hR] at herr
        exact ⟨[], List.nil_sublist _, trivial, rfl, fun _ => ⟨.slice none 0 0, by rw [herr], by rw [herr]; exact StR.nil _ _⟩⟩
      · rename_i hd
        have hd : (doS t c).2.2 = 0 := by simpa using hd
        rw [if_pos hd] at hsn
        have hri := (doS_iff.1 hd).right
        have hrl := hri.len
        have e3 : -9223372036854775808 ≤ (j : Int) - 1 ∧ (j : Int) - 1 ≤ 9223372036854775807 := by omega
        refine ⟨⟨((i + 1, .slice pw1 (doS t c).1.length kw1), M2 ++ N1), hg1.trans (hg2.trans ⟨hg2.marks, N1, rfl, hwN, hmN⟩), sw x2⟩, ⟨by dsimp only; omega, by rw [hsn], by rw [hsn]; exact StR.rd _ _ _ _ (cellsAt_swap hf) (hq.r hf), by rw [hsn]; dsimp only; omega, fun y hy => ?_⟩, by dsimp only; omega, ⟨rfl, ?_⟩, ?_, ?_⟩
        · rw [hsn] at hy
          have := (mayA_slots (hri.may y hy)).len
          omega
        · rw [wrap_i64' e3]
          congr 1
          dsimp only
          omega
        · dsimp only
          rw [subH_skip (e := ⟨b9, 0, .cel 31, (doS t c).2.1.cells⟩) (L := N1 ++ M2) (sw (show fresh b9 (N1 ++ M2) from hb9.2.2))]
          exact subH_turn fun e he x hx h => freshN_iff.1 hf x hx e he h
        · rw [marks_append, marks_append, hmN, hg2.marks]
    · obtain rfl : i = undo.length - stay := by omega
      have i1 : ¬ (stay : Int) ≤ (undo.length : Int) - 1 - ((undo.length - stay : Nat) : Int) := by omega
      have hl : (undo.drop stay).reverse.length = undo.length - stay := by rw [List.length_reverse, List.length_drop]
      have htk : (undo.drop stay).reverse.take (undo.length - stay) = (undo.drop stay).reverse := by rw [← hl, List.take_length]
      rw [htk, ← hR] at hz hw ⊢
      simp only [push_cast, Nat.reduceAdd, Nat.reduceSub, Nat.reduceMul, Nat.reduceLT, Nat.reduceLeDiff, Nat.reduceEqDiff, Nat.reduceMod, Nat.reduceDiv, Int.reduceAdd, Int.reduceSub, Int.reduceMul, Int.reduceLT, Int.reduceLE, Int.reduceEq, Int.reduceNeg, Int.reduceToNat, reduceIte, reduceCtorEq, Int.reduceBEq, Int.reduceBNe, i1]
      exact doneK2 [_] hg1 (UndR.rd _) ⟨_, by rw [hz], hw⟩
def plRJ : Plans := fun i => if i = 1 then [(0, 9)] else if i = 7 then [] else if i = 10 then [(0, 9)] else Tryz.pl17 i
attribute [push_cast] plRJ
theorem refJRight_ok {M : Hp} {j : Jo} {v : Value} (hv : JoR j v M) (hm : marksOf M = []) (hn : j.state.length ≤ 1000000000) (hu : j.undo.length ≤ 1000000000000) (hl : j.marks.length ≤ 1000000000000) (hsl : ∀ y ∈ j.state, y.slots.length ≤ 2000) : CallsV Tryz.prog 17 [v] M (Ret0 (.bool (rightJ j))) := by
  obtain ⟨vs, vu, vm, rfl, h1, h2, h3⟩ := hv
  obtain ⟨ps, ks, rfl⟩ := h1.slice
  obtain ⟨pu, ku, rfl⟩ := h2.slice
  obtain ⟨pm, km, rfl, hma⟩ := LiR.openI h3
  refine callsO gJ1_ok Tryz.mix plRJ Tryz.func17 rfl Tryz.ntmps17 Tryz.results17 rfl (by first | rfl | assumption) (Nat.le_of_ble_eq_true rfl) (by kernel_rfl) ?_
  simp only [push_cast, Nat.reduceAdd, Nat.reduceSub, Nat.reduceMul, Nat.reduceLT, Nat.reduceLeDiff, Nat.reduceEqDiff, Nat.reduceMod, Nat.reduceDiv, Int.reduceAdd, Int.reduceSub, Int.reduceMul, Int.reduceLT, Int.reduceLE, Int.reduceEq, Int.reduceNeg, Int.reduceToNat, reduceIte, reduceCtorEq, Int.reduceBEq, Int.reduceBNe]
  intro b1 hb1
  have f1 : fresh b1 M := hb1
  refine regO gJ1_ok ?_
  simp only [push_cast, Nat.reduceAdd, Nat.reduceSub, Nat.reduceMul, Nat.reduceLT, Nat.reduceLeDiff, Nat.reduceEqDiff, Nat.reduceMod, Nat.reduceDiv, Int.reduceAdd, Int.reduceSub, Int.reduceMul, Int.reduceLT, Int.reduceLE, Int.reduceEq, Int.reduceNeg, Int.reduceToNat, reduceIte, reduceCtorEq, Int.reduceBEq, Int.reduceBNe]
  refine useP [_] (fun M1 hr1 he1 => refRightS_ok (StR.rd _ _ _ _ he1.symm h1) hr1.marks (by omega) (fun y hy => by have := hsl y hy; omega)) ⟨f1, trivial⟩ ?_
  cases c5 : rightS j.state
  · have e : rightJ j = false := by unfold rightJ; rw [c5, Bool.false_and, Bool.and_false, Bool.and_false, Bool.and_false, Bool.and_false]
    simp only [push_cast, Nat.reduceAdd, Nat.reduceSub, Nat.reduceMul, Nat.reduceLT, Nat.reduceLeDiff, Nat.reduceEqDiff, Nat.reduceMod, Nat.reduceDiv, Int.reduceAdd, Int.reduceSub, Int.reduceMul, Int.reduceLT, Int.reduceLE, Int.reduceEq, Int.reduceNeg, Int.reduceToNat, reduceIte, reduceCtorEq, Int.reduceBEq, Int.reduceBNe, e]
  by_cases c1 : 2000 < j.undo.length
  · have e : rightJ j = false := by unfold rightJ; rw [decide_eq_false (by omega), Bool.false_and]
    have c1' : (2000 : Int) < (j.undo.length : Int) := by omega
    simp only [push_cast, Nat.reduceAdd, Nat.reduceSub, Nat.reduceMul, Nat.reduceLT, Nat.reduceLeDiff, Nat.reduceEqDiff, Nat.reduceMod, Nat.reduceDiv, Int.reduceAdd, Int.reduceSub, Int.reduceMul, Int.reduceLT, Int.reduceLE, Int.reduceEq, Int.reduceNeg, Int.reduceToNat, reduceIte, reduceCtorEq, Int.reduceBEq, Int.reduceBNe, c1, c1', e]
  have c1' : ¬ (2000 : Int) < (j.undo.length : Int) := by omega
  by_cases c2 : 1100 < j.marks.length
  · have e : rightJ j = false := by unfold rightJ; rw [decide_eq_false (show ¬ j.marks.length ≤ 1100 by omega), Bool.false_and, Bool.and_false]
    have c2' : (1100 : Int) < (j.marks.length : Int) := by omega
    simp only [push_cast, Nat.reduceAdd, Nat.reduceSub, Nat.reduceMul, Nat.reduceLT, Nat.reduceLeDiff, Nat.reduceEqDiff, Nat.reduceMod, Nat.reduceDiv, Int.reduceAdd, Int.reduceSub, Int.reduceMul, Int.reduceLT, Int.reduceLE, Int.reduceEq, Int.reduceNeg, Int.reduceToNat, reduceIte, reduceCtorEq, Int.reduceBEq, Int.reduceBNe, c1, c2, c1', c2', e]
  have c2' : ¬ (1100 : Int) < (j.marks.length : Int) := by omega
  simp only [push_cast, Nat.reduceAdd, Nat.reduceSub, Nat.reduceMul, Nat.reduceLT, Nat.reduceLeDiff, Nat.reduceEqDiff, Nat.reduceMod, Nat.reduceDiv, Int.reduceAdd, Int.reduceSub, Int.reduceMul, Int.reduceLT, Int.reduceLE, Int.reduceEq, Int.reduceNeg, Int.reduceToNat, reduceIte, reduceCtorEq, Int.reduceBEq, Int.reduceBNe, c1, c2, c1', c2']
  refine loopO gJ1_ok (pl := plRJ) Tryz.mix (X := Nat × Int)
    (fun x => ([(0, .agg #[.slice ps j.state.length ks, .slice pu j.undo.length ku, .slice pm j.marks.length km]), (1, .pointer (some ⟨b1, 0, none⟩)), (2, .bool false), (3, .int .i64 x.2), (4, .int .i64 x.1)], ⟨b1, 0, .cel 37, [.slice ps j.state.length ks, .slice pu j.undo.length ku, .slice pm j.marks.length km]⟩ :: M))
    (fun x => x.1 ≤ j.marks.length ∧ (upB 0 j.marks && j.marks.all (fun m => decide (m ≤ (j.undo.length : Int)))) = (upB x.2 (j.marks.drop x.1) && (j.marks.drop x.1).all (fun m => decide (m ≤ (j.undo.length : Int))))) (fun x => j.marks.length - x.1) (0, 0) ?_ ?_ (by kernel_rfl) ?_
  · exact ⟨Nat.zero_le _, rfl⟩
  · simp only [push_cast, Nat.reduceAdd, Nat.reduceSub, Nat.reduceMul, Nat.reduceLT, Nat.reduceLeDiff, Nat.reduceEqDiff, Nat.reduceMod, Nat.reduceDiv, Int.reduceAdd, Int.reduceSub, Int.reduceMul, Int.reduceLT, Int.reduceLE, Int.reduceEq, Int.reduceNeg, Int.reduceToNat, reduceIte, reduceCtorEq, Int.reduceBEq, Int.reduceBNe]
  · rintro ⟨i, a⟩ ⟨hi, hs⟩
    dsimp only at hi hs ⊢
    rcases Nat.lt_or_ge i j.marks.length with hlt | hge
    · obtain ⟨x, hx⟩ : ∃ x, j.marks[i]? = some x := ⟨j.marks[i], List.getElem?_eq_getElem hlt⟩
      rcases hma with h0 | ⟨b, f, d, kd, cs, rfl, he, hat⟩
      · rw [h0] at hx; simp at hx
      obtain ⟨a1, a2⟩ := hat i x hx
      have i1 : (i : Int) < (j.marks.length : Int) := by omega
      have n1 := (fresh_findS f1 he).2
      have hd : j.marks.drop i = x :: j.marks.drop (i + 1) := by
        obtain ⟨h1, h2⟩ := List.getElem?_eq_some_iff.1 hx
        rw [List.drop_eq_getElem_cons h1, h2]
      rw [hd, upB, List.all_cons] at hs
      simp only [push_cast, Nat.reduceAdd, Nat.reduceSub, Nat.reduceMul, Nat.reduceLT, Nat.reduceLeDiff, Nat.reduceEqDiff, Nat.reduceMod, Nat.reduceDiv, Int.reduceAdd, Int.reduceSub, Int.reduceMul, Int.reduceLT, Int.reduceLE, Int.reduceEq, Int.reduceNeg, Int.reduceToNat, reduceIte, reduceCtorEq, Int.reduceBEq, Int.reduceBNe, i1, hlt]
      refine drawO gJ1_ok Tryz.mix (Tryz.pl17 7) (by kernel_rfl) ?_
      by_cases l1 : x < a
      · simp only [push_cast, Nat.reduceAdd, Nat.reduceSub, Nat.reduceMul, Nat.reduceLT, Nat.reduceLeDiff, Nat.reduceEqDiff, Nat.reduceMod, Nat.reduceDiv, Int.reduceAdd, Int.reduceSub, Int.reduceMul, Int.reduceLT, Int.reduceLE, Int.reduceEq, Int.reduceNeg, Int.reduceToNat, reduceIte, reduceCtorEq, Int.reduceBEq, Int.reduceBNe, i1, hlt, he, n1, a1, a2, l1]
        rw [decide_eq_false (by omega), Bool.false_and, Bool.false_and] at hs
        have e : rightJ j = false := by unfold rightJ; rw [← Bool.and_assoc (upB 0 j.marks), hs, Bool.false_and, Bool.and_false, Bool.and_false]
        rw [e]
      by_cases l2 : (j.undo.length : Int) < x
      · simp only [push_cast, Nat.reduceAdd, Nat.reduceSub, Nat.reduceMul, Nat.reduceLT, Nat.reduceLeDiff, Nat.reduceEqDiff, Nat.reduceMod, Nat.reduceDiv, Int.reduceAdd, Int.reduceSub, Int.reduceMul, Int.reduceLT, Int.reduceLE, Int.reduceEq, Int.reduceNeg, Int.reduceToNat, reduceIte, reduceCtorEq, Int.reduceBEq, Int.reduceBNe, i1, hlt, he, n1, a1, a2, l1, l2]
        rw [decide_eq_false (show ¬ x ≤ (j.undo.length : Int) by omega), Bool.false_and, Bool.and_false] at hs
        have e : rightJ j = false := by unfold rightJ; rw [← Bool.and_assoc (upB 0 j.marks), hs, Bool.false_and, Bool.and_false, Bool.and_false]
        rw [e]
      simp only [push_cast, Nat.reduceAdd, Nat.reduceSub, Nat.reduceMul, Nat.reduceLT, Nat.reduceLeDiff, Nat.reduceEqDiff, Nat.reduceMod, Nat.reduceDiv, Int.reduceAdd, Int.reduceSub, Int.reduceMul, Int.reduceLT, Int.reduceLE, Int.reduceEq, Int.reduceNeg, Int.reduceToNat, reduceIte, reduceCtorEq, Int.reduceBEq, Int.reduceBNe, i1, hlt, he, n1, a1, a2, l1, l2, wrap_i64' (show -9223372036854775808 ≤ (i : Int) + 1 ∧ (i : Int) + 1 ≤ 9223372036854775807 by omega)]
      refine ⟨(i + 1, x), ⟨hlt, ?_⟩, by dsimp only; omega, rfl, rfl⟩
      rw [hs, decide_eq_true (by omega), decide_eq_true (show x ≤ (j.undo.length : Int) by omega), Bool.true_and, Bool.true_and]
    · obtain rfl : i = j.marks.length := by omega
      simp only [push_cast, Nat.reduceAdd, Nat.reduceSub, Nat.reduceMul, Nat.reduceLT, Nat.reduceLeDiff, Nat.reduceEqDiff, Nat.reduceMod, Nat.reduceDiv, Int.reduceAdd, Int.reduceSub, Int.reduceMul, Int.reduceLT, Int.reduceLE, Int.reduceEq, Int.reduceNeg, Int.reduceToNat, reduceIte, reduceCtorEq, Int.reduceBEq, Int.reduceBNe, Nat.lt_irrefl, Int.lt_irrefl]
      have e : rightJ j = decide ((undoE j.state j.undo.reverse).2 = 0) := by
        rw [List.drop_length] at hs
        unfold rightJ
        rw [decide_eq_true (show j.undo.length ≤ 2000 by omega), decide_eq_true (show j.marks.length ≤ 1100 by omega), Bool.true_and, Bool.true_and, c5, Bool.true_and, ← Bool.and_assoc, hs]
        rfl
      refine regO gJ1_ok ?_
      simp only [push_cast, Nat.reduceAdd, Nat.reduceSub, Nat.reduceMul, Nat.reduceLT, Nat.reduceLeDiff, Nat.reduceEqDiff, Nat.reduceMod, Nat.reduceDiv, Int.reduceAdd, Int.reduceSub, Int.reduceMul, Int.reduceLT, Int.reduceLE, Int.reduceEq, Int.reduceNeg, Int.reduceToNat, reduceIte, reduceCtorEq, Int.reduceBEq, Int.reduceBNe]
      refine useL [_] (refUndone_ok (stay := 0) h1 h2 hn hsl hu (Nat.zero_le _)) (UndR.rd _) hm ⟨f1, trivial⟩ fun w M1 hg1 hf2 hq => ?_
      obtain ⟨w1, rfl, hq⟩ := hq
      rw [List.drop_zero] at hq
      rw [List.drop_zero, e]
      simp only [push_cast, Nat.reduceAdd, Nat.reduceSub, Nat.reduceMul, Nat.reduceLT, Nat.reduceLeDiff, Nat.reduceEqDiff, Nat.reduceMod, Nat.reduceDiv, Int.reduceAdd, Int.reduceSub, Int.reduceMul, Int.reduceLT, Int.reduceLE, Int.reduceEq, Int.reduceNeg, Int.reduceToNat, reduceIte, reduceCtorEq, Int.reduceBEq, Int.reduceBNe]
      congr 1
end Go.Proofs.YtkhpncfgimlleaaGreat
set_option linter.unusedSimpArgs false
set_option linter.unusedVariables false
namespace Go.Ev
def JoO (eC eI : Nat) (j : Jo) : Value → Hp → Hp → Prop := fun v N1 H => ∃ vs vu vm Nu Nm, v = .agg #[vs, vu, vm] ∧ N1 = Nu ++ Nm ∧ freshN Nu Nm ∧ OutG eC 31 (j.undo.flatMap Ch.cells) j.undo.length vu Nu ∧ OutG eI 1 (j.marks.flatMap intC) j.marks.length vm Nm ∧ StR j.state vs H
theorem JoO.rd (eC eI : Nat) (j : Jo) : RdOwn (JoO eC eI j) := by
  rintro v N1 A B h ⟨vs, vu, vm, Nu, Nm, rfl, rfl, h0, h1, h2, h3⟩
  exact ⟨vs, vu, vm, Nu, Nm, rfl, rfl, h0, h1, h2, StR.rd _ _ _ _ h h3⟩
theorem subH_mid {N X : Hp} : ∀ {M : Hp}, (∀ e ∈ M, ∀ x ∈ N, ¬ e.blk = x.blk) → subH (N ++ (M ++ X)) M
  | [], _ => trivial
  | e :: r, h => by
    have h1 := h e (by simp)
    refine ⟨by rw [findE_A h1]; simp [findE], ?_⟩
    rw [remE_A h1]
    simp only [List.cons_append, remE, if_true]
    exact subH_mid fun x hx => h x (by simp [hx])
theorem subH_gr {N M M' : Hp} (hf : freshN N M') (hg : Gr M M') : subH (N ++ M') M := by
  obtain ⟨-, X, rfl, -, -⟩ := hg
  exact subH_mid fun e he x hx h => freshN_iff.1 hf x hx e (List.mem_append_left _ he) h
end Go.Ev
namespace Go.Proofs.YtkhpncfgimlleaaGreat
open Go Go.Ev Go.Proofs
set_option maxRecDepth 100000
set_option maxHeartbeats 4000000
theorem CallsV.toW {g : FuncId} {args : List Value} {M : Hp} {Q : Value → Hp → Prop} (hc : ∀ M0, roM M0 → cellsAt M0 = cellsAt M → CallsV Tryz.prog g args M0 Q) (h : ∀ v N, Q v N → allWr N ∧ marksOf N = []) : CallsW Tryz.prog g args M (fun v N _ => Q v N) := fun M0 hr he =>
  (hc M0 hr he).toK fun v N hq => ⟨N, [], (List.append_nil N).symm, (h v N hq).1, (h v N hq).2, trivial, rfl, freshN_nil N, fun _ => hq⟩
theorem cloneC_W {M : Hp} {l : List Ch} {v : Value} (hv : LiR Ch.cells 31 M l v) (hn : l.length ≤ 1000000000) : CallsW Tryz.prog 57 [v] M (fun v N _ => OutG 31 31 (l.flatMap Ch.cells) l.length v N) :=
  CallsV.toW (fun _ hr he => cloneC_ok (hv.congr he.symm) hr.marks hn) fun _ _ h => h.wr
theorem cloneI_W {M : Hp} {l : List Int} {v : Value} (hv : LiR intC 1 M l v) (hn : l.length ≤ 1000000000000) : CallsW Tryz.prog 58 [v] M (fun v N _ => OutG 3 1 (l.flatMap intC) l.length v N) :=
  CallsV.toW (fun _ hr he => cloneI_ok (hv.congr he.symm) hr.marks hn) fun _ _ h => h.wr
theorem copied_R {M : Hp} {s : List Ac} {v : Value} (hv : StR s v M) (hn : s.length ≤ 1000000000) (hs : ∀ x ∈ s, x.slots.length ≤ 1000000000000) : CallsR Tryz.prog 34 [v] M (StR s) :=
  (copied_ok hv hn hs).toR fun v N1 A _ _ hf hq => hq.r hf
theorem jown_ok {M : Hp} {j : Jo} {v : Value} (hv : JoR j v M) (hn : j.state.length ≤ 1000000000) (hu : j.undo.length ≤ 1000000000) (hl : j.marks.length ≤ 1000000000000) (hsl : ∀ y ∈ j.state, y.slots.length ≤ 1000000000000) : CallsW Tryz.prog 41 [v] M (JoO 31 3 j) := by
  intro M0 hr he
  have hm := hr.marks
  replace hv := JoR.rd _ _ _ _ he.symm hv
  obtain ⟨vs, vu, vm, rfl, h1, h2, h3⟩ := hv
  obtain ⟨ps, ks, rfl⟩ := h1.slice
  obtain ⟨pu, ku, rfl⟩ := h2.slice
  obtain ⟨pm, km, rfl⟩ := h3.slice
  refine callsO gJ1_ok Tryz.mix Tryz.pl41 Tryz.func41 rfl Tryz.ntmps41 Tryz.results41 rfl (by first | rfl | assumption) (Nat.le_of_ble_eq_true rfl) (by kernel_rfl) ?_
  simp only [push_cast, Nat.reduceAdd, Nat.reduceSub, Nat.reduceMul, Nat.reduceLT, Nat.reduceLeDiff, Nat.reduceEqDiff, Nat.reduceMod, Nat.reduceDiv, Int.reduceAdd, Int.reduceSub, Int.reduceMul, Int.reduceLT, Int.reduceLE, Int.reduceEq, Int.reduceNeg, Int.reduceToNat, reduceIte, reduceCtorEq, Int.reduceBEq, Int.reduceBNe]
  intro b1 hb1 b2 hb2
  have f1 : fresh b1 M0 := hb1
  have f2 : fresh b2 M0 := hb2.2.2
  simp only [push_cast, Nat.reduceAdd, Nat.reduceSub, Nat.reduceMul, Nat.reduceLT, Nat.reduceLeDiff, Nat.reduceEqDiff, Nat.reduceMod, Nat.reduceDiv, Int.reduceAdd, Int.reduceSub, Int.reduceMul, Int.reduceLT, Int.reduceLE, Int.reduceEq, Int.reduceNeg, Int.reduceToNat, reduceIte, reduceCtorEq, Int.reduceBEq, Int.reduceBNe, hb2]
  refine useL [_, _] (copied_R h1 hn hsl) (StR.rd _) hm ⟨f2, f1, trivial⟩ fun w M1 hg1 hL1 hq1 => ?_
  obtain ⟨pw, kw, rfl⟩ := hq1.slice
  simp only [push_cast, Nat.reduceAdd, Nat.reduceSub, Nat.reduceMul, Nat.reduceLT, Nat.reduceLeDiff, Nat.reduceEqDiff, Nat.reduceMod, Nat.reduceDiv, Int.reduceAdd, Int.reduceSub, Int.reduceMul, Int.reduceLT, Int.reduceLE, Int.reduceEq, Int.reduceNeg, Int.reduceToNat, reduceIte, reduceCtorEq, Int.reduceBEq, Int.reduceBNe, hb2]
  refine ⟨subH_gr (N := []) trivial hg1, ?_⟩
  refine useB [_, _] (cloneC_W (h2.ext hg1.ext) hu) (fun _ _ _ _ _ h => h) hg1.marks hL1 fun u Nu M2 hg2 hf2 hL2 hwU hmU ho2 => ?_
  obtain ⟨pn, kn, rfl⟩ := ho2.slice
  simp only [push_cast, Nat.reduceAdd, Nat.reduceSub, Nat.reduceMul, Nat.reduceLT, Nat.reduceLeDiff, Nat.reduceEqDiff, Nat.reduceMod, Nat.reduceDiv, Int.reduceAdd, Int.reduceSub, Int.reduceMul, Int.reduceLT, Int.reduceLE, Int.reduceEq, Int.reduceNeg, Int.reduceToNat, reduceIte, reduceCtorEq, Int.reduceBEq, Int.reduceBNe, hb2]
  have hg12 := hg1.trans hg2
  have g2 := fresh_app_iff.1 hL2.1
  have g1 := fresh_app_iff.1 hL2.2.1
  refine ⟨subH_gr hf2 hg2, ?_⟩
  refine useB (_ :: _ :: Nu) (cloneI_W (h3.ext hg12.ext) hl) (fun _ _ _ _ _ h => h) hg12.marks ⟨g2.2, g1.2, hf2⟩ fun m Nm M3 hg3 hf3 hL3 hwM hmM ho3 => ?_
  obtain ⟨pk, kk, rfl⟩ := ho3.slice
  simp only [push_cast, Nat.reduceAdd, Nat.reduceSub, Nat.reduceMul, Nat.reduceLT, Nat.reduceLeDiff, Nat.reduceEqDiff, Nat.reduceMod, Nat.reduceDiv, Int.reduceAdd, Int.reduceSub, Int.reduceMul, Int.reduceLT, Int.reduceLE, Int.reduceEq, Int.reduceNeg, Int.reduceToNat, reduceIte, reduceCtorEq, Int.reduceBEq, Int.reduceBNe, hb2]
  refine ⟨subH_pre (subH_gr hf3 hg3) Nu, ?_⟩
  have x3 := freshN_mono hL3.2.2
  have hz := doneN [⟨b2, 0, .cel 37, [.slice pw j.state.length kw, .slice pn j.undo.length kn, .slice pk j.marks.length kk]⟩, ⟨b1, 0, .cel 37, [.slice pw j.state.length kw, .slice pn j.undo.length kn, .slice pk j.marks.length kk]⟩] (hg12.trans hg3) (allWr_app hwU hwM) (by rw [marks_append, hmU, hmM]; rfl) (freshN_appL.2 ⟨x3.2, hf3⟩) (JoO.rd 31 3 j) ⟨_, _, _, Nu, Nm, rfl, rfl, x3.1, ho2, ho3, hq1.ext (hg2.trans hg3).ext⟩
  rw [List.append_assoc] at hz
  exact hz
end Go.Proofs.YtkhpncfgimlleaaGreat
set_option linter.unusedSimpArgs false
set_option linter.unusedVariables false
namespace Go.Ev
theorem drawZ {P : Program} {r : Option Nat} {n : Nat} {G : Gam} (hG : GamOk P G) (hmix : P.follows .mixedOrders = true) {id : Nat} {ops : Array Oper} {K : Exit → Tm → Hp → Prop} {T : Tm} {X : Hp} (Tb : Tm) (V : Nat → (Nat → Value) → Prop) (Q : Nat → (Nat → Value) → Hp → Prop) (used : Nat → List Nat) (F : List Nat) (Z : Hp) (z : Nat) (hzw : allWr Z) (hzm : marksOf Z = []) (hz : z < ops.size)
    (hb : backB ops = true) (hd : dstB n ops = true) (hu : usedB ops used = true) (hTb : subT T Tb) (hTd : (Tb.all fun x => !(ops.toList.filterMap (·.dst)).contains x.1) = true)
    (hF : F.Nodup) (hFs : (F.all fun i => decide (i < ops.size) && freeB ops used i) = true) (hFn : ∀ i, i < ops.size → i ∉ F → (∀ val N, Q i val N → N = []) ∨ freeB ops used i = false)
    (stabV : ∀ i o, ops[i]? = some o → ∀ val val' : Nat → Value, val' i = val i → (∀ j, (o.after.any fun e => Region.binds .any e && e.on == j) = true → val' j = val j) → V i val → V i val')
    (stabQ : ∀ i o, ops[i]? = some o → ∀ (val val' : Nat → Value) (N : Hp), val' i = val i → (∀ j, (o.after.any fun e => Region.binds .any e && e.on == j) = true → val' j = val j) → Q i val N → Q i val' N)
    (hop : ∀ (i : Nat) (o : Oper), ops[i]? = some o → ∀ (T' : Tm) (Y : Hp) (val : Nat → Value) (mem : Nat → Hp), subT T' Tb → (∀ j, (o.after.any fun e => Region.binds .any e && e.on == j) = true → V j val ∧ ∀ s, (ops[j]?).bind (·.dst) = some s → getT T' s = some (val j)) → (∀ j ∈ used i, Q j val (mem j)) →
      freshN ((used i).flatMap mem ++ (if i = z then Z else [])) Y → (∀ b e, findE X b = some e → findE Y b = some e) → marksOf Y = marksOf X → ApartE (((used i).flatMap mem ++ (if i = z then Z else [])) ++ Y) → evOp P G T' (((used i).flatMap mem ++ (if i = z then Z else [])) ++ Y) o.op (fun v H'' => ∃ N, H'' = N ++ Y ∧ allWr N ∧ marksOf N = [] ∧ V i (upd val i v) ∧ Q i (upd val i v) N))
    (fin : ∀ (val : Nat → Value) (mem : Nat → Hp), (∀ i, i < ops.size → V i val) → (∀ i ∈ F, Q i val (mem i)) → ApartE (F.flatMap mem ++ X) → allWr (F.flatMap mem) → K .normal (dstsL val Tb ops.toList 0) (F.flatMap mem ++ X)) : WpV P r n (.region id ops true) K T (Z ++ X) := by
  have hzz : ∀ b : Bool, allWr (if b = true then [] else Z) ∧ marksOf (if b = true then [] else Z) = [] := fun b => by cases b <;> simp [hzw, hzm, allWr, marksOf]
  have husd : ∀ {i : Nat}, i < ops.size → (used i).Nodup ∧ ∀ j ∈ used i, j < i ∧ (∃ o, ops[i]? = some o ∧ ∃ e ∈ o.after, Region.binds .any e = true ∧ e.on = j) ∧ ∀ k, k < ops.size → k ≠ i → j ∉ used k := by
    intro i hi
    have := List.all_eq_true.1 hu i (List.mem_range.2 hi)
    simp only [Bool.and_eq_true, decide_eq_true_eq, List.all_eq_true] at this
    refine ⟨this.1, fun j hj => ?_⟩
    obtain ⟨⟨h1, h2⟩, h3⟩ := this.2 j hj
    refine ⟨h1, ?_, fun k hk hki hmem => ?_⟩
    · cases ho : ops[i]? with
      | none => rw [ho] at h2; cases h2
      | some o =>
        rw [ho] at h2
        obtain ⟨e, he, heb⟩ := Array.any_eq_true'.1 h2
        simp only [Bool.and_eq_true, beq_iff_eq] at heb
        exact ⟨o, rfl, e, he, heb.1, heb.2⟩
    · have := h3 k (List.mem_range.2 hk)
      simp [hki, hmem] at this
  have hbase : ∀ {T' : Tm}, (∀ k v, (k, v) ∈ Tb → getT T' k = some v) → subT T' Tb := fun h => subT_of h
  have hbase' : ∀ {T' : Tm}, subT T' Tb → ∀ k v, (k, v) ∈ Tb → getT T' k = some v := fun h k v hm => subT_mem h hm
  refine drawI hG hmix (fun l T' H' => ∃ (val : Nat → Value) (mem : Nat → Hp) (ord : List Nat), ord.Nodup ∧ (∀ i ∈ ord, l i = true ∧ i < ops.size) ∧ (∀ i, l i = true → i < ops.size → i ∉ ord → ∃ j, j < ops.size ∧ l j = true ∧ i ∈ used j) ∧ (∀ i ∈ ord, ∀ j, j < ops.size → l j = true → i ∉ used j) ∧ H' = ord.flatMap mem ++ ((if l z = true then [] else Z) ++ X) ∧ (∀ i ∈ ord, allWr (mem i) ∧ marksOf (mem i) = []) ∧
    (∀ i o, ops[i]? = some o → l i = true → (∀ e ∈ o.after, Region.binds .any e = true → l e.on = true) ∧ V i val ∧ (i ∈ ord → Q i val (mem i)) ∧ ∀ s, o.dst = some s → getT T' s = some (val i)) ∧ subT T' Tb) hb ?_ ?_ ?_
  · exact ⟨fun _ => undef, fun _ => [], [], List.nodup_nil, by simp, by simp, by simp, rfl, by simp, by simp, hTb⟩
  · rintro l T' H' i o hap ⟨val, mem, ord, h1, h2, h3, h4, rfl, h6, h7, h8⟩ ho hli hdeps
    have hi := (Array.getElem?_eq_some_iff.1 ho).1
    obtain ⟨hun, hus⟩ := husd hi
    have hin : ∀ j ∈ used i, j ∈ ord := fun j hj => by
      obtain ⟨hji, ⟨o', ho', e, he, heb, rfl⟩, hk⟩ := hus j hj
      obtain rfl : o = o' := Option.some.inj (ho.symm.trans ho')
      have hlj := hdeps e he heb
      rcases Classical.em (e.on ∈ ord) with h | h
      · exact h
      · obtain ⟨k, hk1, hk2, hk3⟩ := h3 e.on hlj (by omega) h
        by_cases hki : k = i
        · rw [hki, hli] at hk2; cases hk2
        · exact absurd hk3 (hk k hk1 hki)
    obtain ⟨rest, hperm⟩ : ∃ rest, ord.Perm (used i ++ rest) := ⟨_, perm_part h1 hun hin⟩
    have hnd : (used i ++ rest).Nodup := hperm.nodup_iff.1 h1
    have hnr : rest.Nodup := (List.nodup_append.1 hnd).2.1
    have hio : i ∉ ord := fun h => by rw [(h2 i h).1] at hli; cases hli
    have hir : i ∉ rest := fun h => hio (hperm.mem_iff.2 (List.mem_append_right _ h))
    obtain ⟨W, hW⟩ : ∃ W, W = (if (z == i || l z) = true then [] else Z) := ⟨_, rfl⟩
    have hWw : allWr W ∧ marksOf W = [] := by rw [hW]; exact hzz _
    obtain ⟨Y0, hY0⟩ : ∃ Y0, Y0 = (if i = z then Z else []) := ⟨_, rfl⟩
    have hYw : allWr Y0 ∧ marksOf Y0 = [] := by
      rw [hY0]
      by_cases hiz : i = z
      · rw [if_pos hiz]; exact ⟨hzw, hzm⟩
      · rw [if_neg hiz]; exact ⟨trivial, rfl⟩
    have hzl : (if l z = true then [] else Z) = Y0 ++ W := by
      rw [hW, hY0]
      by_cases hiz : i = z
      · subst hiz; simp [hli]
      · have : (z == i) = false := beq_eq_false_iff_ne.2 fun h => hiz h.symm
        rw [if_neg hiz, this, Bool.false_or, List.nil_append]
    rw [hzl] at hap ⊢
    have hpm : (ord.flatMap mem ++ ((Y0 ++ W) ++ X)).Perm (((used i).flatMap mem ++ Y0) ++ (rest.flatMap mem ++ (W ++ X))) := by
      refine ((hperm.flatMap_right mem).append_right _).trans ?_
      rw [List.flatMap_append, List.append_assoc, List.append_assoc, List.append_assoc]
      exact List.Perm.append_left _ (List.perm_append_comm_assoc ..)
    have hm1 : marksOf (ord.flatMap mem) = [] := marks_flat fun j hj => (h6 j hj).2
    have hm2 : marksOf ((used i).flatMap mem) = [] := marks_flat fun j hj => (h6 j (hin j hj)).2
    have hro : ∀ j ∈ rest, j ∈ ord := fun j hj => hperm.mem_iff.2 (List.mem_append_right _ hj)
    have hm3 : marksOf (rest.flatMap mem) = [] := marks_flat fun j hj => (h6 j (hro j hj)).2
    have hap' : ApartE (((used i).flatMap mem ++ Y0) ++ (rest.flatMap mem ++ (W ++ X))) := (hpm.pairwise_iff (fun {x y} hxy hw => (hxy hw.symm).symm)).1 hap
    have hwr : ∀ {L : List Nat}, (∀ j ∈ L, j ∈ ord) → allWr (L.flatMap mem) := fun {L} hL => allWr_of fun e he => by
      obtain ⟨j, hj, hej⟩ := List.mem_flatMap.1 he
      exact allWr_mem (h6 j (hL j hj)).1 e hej
    have hap2 : ApartE (rest.flatMap mem ++ (W ++ X)) := (List.pairwise_append.1 hap').2.1
    have hopi := hop i o ho T' (rest.flatMap mem ++ (W ++ X)) val mem h8 (fun j hj => by
      obtain ⟨e, he, heb⟩ := Array.any_eq_true'.1 hj
      simp only [Bool.and_eq_true, beq_iff_eq] at heb
      obtain ⟨hbb, rfl⟩ := heb
      have hlt := (backB_spec hb ho).2 e he hbb
      have hp : ops[e.on]? = some ops[e.on] := Array.getElem?_eq_getElem (by omega)
      obtain ⟨_, g1, _, g2⟩ := h7 e.on _ hp (hdeps e he hbb)
      exact ⟨g1, fun s hs => g2 s (by rw [hp] at hs; exact hs)⟩) (fun j hj => by
      have hj2 := h2 j (hin j hj)
      exact (h7 j _ (Array.getElem?_eq_getElem hj2.2) hj2.1).2.2.1 (hin j hj))
    rw [← hY0] at hopi
    refine ⟨_, _, hpm, by simp only [marks_append, hm1, hm2, hm3, hYw.2, hWw.2, List.nil_append], hopi (freshN_apart hap' (allWr_app (hwr hin) hYw.1)) (fun b e hbe => ?_) (by rw [marks_append, marks_append, hm3, hWw.2]; rfl) hap', ?_⟩
    · rw [← List.append_assoc] at hap2 ⊢
      rw [findE_freshN (freshN_apart hap2 (allWr_app (hwr hro) hWw.1)) hbe]; exact hbe
    · rintro v H'' ⟨N, rfl, hN1, hN2, hV, hQ⟩
      have hl' : ∀ j, l j = true → (j == i || l j) = true := fun j hj => by rw [hj, Bool.or_true]
      have hni : ∀ j, l j = true → j ≠ i := fun j hj h => by rw [h, hli] at hj; cases hj
      have hlr : ∀ j ∈ rest, l j = true := fun j hj => (h2 j (hro j hj)).1
      refine ⟨upd val i v, upd mem i N, i :: rest, List.nodup_cons.2 ⟨hir, hnr⟩, ?_, ?_, ?_, ?_, ?_, ?_, ?_⟩
      · intro j hj
        rcases List.mem_cons.1 hj with rfl | hj
        · exact ⟨by simp, hi⟩
        · exact ⟨hl' j (hlr j hj), (h2 j (hro j hj)).2⟩
      · intro j hj hjs hjo
        have hji : j ≠ i := fun h => hjo (h ▸ List.mem_cons_self ..)
        have hjl : l j = true := by simpa [hji] using hj
        rcases Classical.em (j ∈ ord) with h | h
        · rcases List.mem_append.1 (hperm.mem_iff.1 h) with h | h
          · exact ⟨i, hi, by simp, h⟩
          · exact absurd (List.mem_cons_of_mem _ h) hjo
        · obtain ⟨k, k1, k2, k3⟩ := h3 j hjl hjs h
          exact ⟨k, k1, hl' k k2, k3⟩
      · intro j hj k hk hkl hjk
        rcases List.mem_cons.1 hj with rfl | hjr
        · obtain ⟨hk1, ⟨o', ho', e, he, heb, hej⟩, -⟩ := (husd hk).2 j hjk
          have hkj : k ≠ j := by omega
          have hkl' : l k = true := by simpa [hkj] using hkl
          have := (h7 k o' ho' hkl').1 e he heb
          rw [hej, hli] at this; cases this
        · by_cases hki : k = i
          · subst hki
            exact (List.nodup_append.1 hnd).2.2 j hjk j hjr rfl
          · exact h4 j (hro j hjr) k hk (by simpa [hki] using hkl) hjk
      · rw [List.flatMap_cons, upd_self, flat_upd hir, List.append_assoc, ← hW]
      · intro j hj
        rcases List.mem_cons.1 hj with rfl | hj
        · rw [upd_self]; exact ⟨hN1, hN2⟩
        · rw [upd_ne (hni j (hlr j hj))]; exact h6 j (hro j hj)
      · intro j p hp hj
        by_cases hji : j = i
        · subst hji
          obtain rfl : o = p := Option.some.inj (ho.symm.trans hp)
          refine ⟨fun e he hbb => hl' _ (hdeps e he hbb), hV, fun _ => by rw [upd_self]; exact hQ, fun s hs => ?_⟩
          rw [hs, getT_put (dstB_spec hd ho hs).1, if_pos rfl, upd_self]
        · have hjl : l j = true := by simpa [hji] using hj
          obtain ⟨g1, g2, g3, g4⟩ := h7 j p hp hjl
          have hv : upd val i v j = val j := upd_ne hji
          have hve : ∀ k, (p.after.any fun e => Region.binds .any e && e.on == k) = true → upd val i v k = val k := fun k hk => by
            obtain ⟨e, he, heb⟩ := Array.any_eq_true'.1 hk
            simp only [Bool.and_eq_true, beq_iff_eq] at heb
            obtain ⟨hbb, rfl⟩ := heb
            exact upd_ne (hni _ (g1 e he hbb))
          refine ⟨fun e he hbb => hl' _ (g1 e he hbb), stabV j p hp val _ hv hve g2, fun hjo => ?_, fun s hs => ?_⟩
          · have hjr : j ∈ rest := (List.mem_cons.1 hjo).resolve_left hji
            rw [upd_ne hji]
            exact stabQ j p hp val _ _ hv hve (g3 (hro j hjr))
          · rw [hv]
            cases hod : o.dst with
            | none => exact g4 s hs
            | some s' =>
              rw [getT_put (dstB_spec hd ho hod).1, if_neg (fun hss => hji ((dstB_spec hd hp hs).2 i o ho (by rw [hod, hss])))]
              exact g4 s hs
      · refine hbase fun k u hm => ?_
        have h9 := hbase' h8 k u hm
        cases hod : o.dst with
        | none => exact h9
        | some s' =>
          rw [getT_put (dstB_spec hd ho hod).1, if_neg (fun hks => ?_)]
          · exact h9
          · have := List.all_eq_true.1 hTd (k, u) hm
            simp only [Bool.not_eq_true', List.contains_eq_mem, decide_eq_false_iff_not] at this
            exact this (List.mem_filterMap.2 ⟨o, List.mem_of_getElem? (by simpa using ho), by rw [hod, hks]⟩)
  · rintro l T' H' hall hap ⟨val, mem, ord, h1, h2, h3, h4, rfl, h6, h7, h8⟩
    rw [if_pos (hall z hz), List.nil_append] at hap ⊢
    have hFs' : ∀ i ∈ F, i < ops.size ∧ freeB ops used i = true := fun i hi => by
      have := List.all_eq_true.1 hFs i hi
      simpa using this
    have hFo : ∀ i ∈ F, i ∈ ord := fun i hi => by
      obtain ⟨k1, k2⟩ := hFs' i hi
      rcases Classical.em (i ∈ ord) with h | h
      · exact h
      · obtain ⟨k, k3, k4, k5⟩ := h3 i (hall i k1) k1 h
        have := List.all_eq_true.1 k2 k (List.mem_range.2 k3)
        simp [k5] at this
    have hperm := perm_part h1 hF hFo
    have hnil : (ord.filter fun x => !F.contains x).flatMap mem = [] := by
      rw [List.flatMap_eq_nil_iff]
      intro i hi
      obtain ⟨hio, hiF⟩ := List.mem_filter.1 hi
      have hiF' : i ∉ F := by simpa using hiF
      have hsz := (h2 i hio).2
      rcases hFn i hsz hiF' with h | h
      · exact h val _ ((h7 i _ (Array.getElem?_eq_getElem hsz) (hall i hsz)).2.2.1 hio)
      · have : freeB ops used i = true := List.all_eq_true.2 fun k hk => by
          have := h4 i hio k (List.mem_range.1 hk) (hall k (List.mem_range.1 hk))
          simpa using this
        rw [this] at h; cases h
    have hpm : (ord.flatMap mem ++ X).Perm (F.flatMap mem ++ X) := by
      have := (hperm.flatMap_right mem).append_right X
      rw [List.flatMap_append, hnil, List.append_nil] at this
      exact this
    have hm1 : marksOf (ord.flatMap mem) = [] := marks_flat fun j hj => (h6 j hj).2
    have hm2 : marksOf (F.flatMap mem) = [] := marks_flat fun j hj => (h6 j (hFo j hj)).2
    refine ⟨_, _, hpm, by simp only [marks_append, hm1, hm2], ?_, fin val mem (fun i hi => (h7 i _ (Array.getElem?_eq_getElem hi) (hall i hi)).2.1) (fun i hi => (h7 i _ (Array.getElem?_eq_getElem (hFs' i hi).1) (hall i (hFs' i hi).1)).2.2.1 (hFo i hi)) ((hpm.pairwise_iff (fun {x y} hxy hw => (hxy hw.symm).symm)).1 hap) (allWr_of fun e he => ?_)⟩
    · refine subT_of fun k u hm => ?_
      rcases dstsL_mem hm with hm | ⟨j, o, hj, hs, rfl⟩
      · exact hbase' h8 k u hm
      · have ho : ops[j]? = some o := by simpa using hj
        have hi := (Array.getElem?_eq_some_iff.1 ho).1
        rw [Nat.zero_add]
        exact (h7 j o ho (hall j hi)).2.2.2 k hs
    · obtain ⟨j, hj, hej⟩ := List.mem_flatMap.1 he
      exact allWr_mem (h6 j (hFo j hj)).1 e hej
end Go.Ev
set_option linter.unusedSimpArgs false
set_option linter.unusedVariables false
namespace Go.Ev
def JoO' (eC eI : Nat) (j : Jo) : Value → Hp → Hp → Prop := fun v N1 H => ∃ vs vu vm Nu Nm, v = .agg #[vs, vu, vm] ∧ N1 = Nm ++ Nu ∧ freshN Nu Nm ∧ OutG eC 31 (j.undo.flatMap Ch.cells) j.undo.length vu Nu ∧ OutG eI 1 (j.marks.flatMap intC) j.marks.length vm Nm ∧ StR j.state vs H
theorem JoO'.rd (eC eI : Nat) (j : Jo) : RdOwn (JoO' eC eI j) := by
  rintro v N1 A B h ⟨vs, vu, vm, Nu, Nm, rfl, rfl, h0, h1, h2, h3⟩
  exact ⟨vs, vu, vm, Nu, Nm, rfl, rfl, h0, h1, h2, StR.rd _ _ _ _ h h3⟩
end Go.Ev
namespace Go.Proofs.YtkhpncfgimlleaaGreat
open Go Go.Ev Go.Proofs
set_option maxRecDepth 100000
set_option maxHeartbeats 4000000
attribute [-push_cast] evAppend_nil
theorem refOwn_R {M : Hp} {s : List Ac} {v : Value} (hv : StR s v M) (hn : s.length ≤ 1000000000) (hs : ∀ x ∈ s, x.slots.length ≤ 1000000000000) : CallsR Tryz.prog 10 [v] M (StR s) :=
  (refOwn_ok hv hn hs).toR fun v N1 A _ _ hf hq => hq.r hf
def plRO : Plans := fun _ => []
attribute [push_cast] plRO
theorem refJown'_ok {M : Hp} {j : Jo} {v : Value} (hv : JoR j v M) (hn : j.state.length ≤ 1000000000) (hu : j.undo.length ≤ 1000000000) (hl : j.marks.length ≤ 1000000000000) (hsl : ∀ y ∈ j.state, y.slots.length ≤ 1000000000000) : CallsW Tryz.prog 43 [v] M (JoO' 31 3 j) := by
  intro M0 hr he
  have hm := hr.marks
  replace hv := JoR.rd _ _ _ _ he.symm hv
  obtain ⟨vs, vu, vm, rfl, h1, h2, h3⟩ := hv
  obtain ⟨ps, ks, rfl⟩ := h1.slice
  obtain ⟨pu, ku, rfl⟩ := h2.slice
  obtain ⟨pm, km, rfl⟩ := h3.slice
  refine callsO gJ1_ok Tryz.mix plRO Tryz.func43 rfl Tryz.ntmps43 Tryz.results43 rfl (by first | rfl | assumption) (Nat.le_of_ble_eq_true rfl) (by kernel_rfl) ?_
  simp only [push_cast, Nat.reduceAdd, Nat.reduceSub, Nat.reduceMul, Nat.reduceLT, Nat.reduceLeDiff, Nat.reduceEqDiff, Nat.reduceMod, Nat.reduceDiv, Int.reduceAdd, Int.reduceSub, Int.reduceMul, Int.reduceLT, Int.reduceLE, Int.reduceEq, Int.reduceNeg, Int.reduceToNat, reduceIte, reduceCtorEq, Int.reduceBEq, Int.reduceBNe]
  intro b1 hb1 b2 hb2
  have f1 : fresh b1 M0 := hb1
  have f2 : fresh b2 M0 := hb2.2.2
  refine drawO gJ1_ok Tryz.mix [(0, 0), (1, 0), (3, 0), (4, 0), (6, 0), (7, 0), (2, 2), (5, 2), (8, 2), (9, 0), (10, 1)] (by kernel_rfl) ?_
  simp only [push_cast, Nat.reduceAdd, Nat.reduceSub, Nat.reduceMul, Nat.reduceLT, Nat.reduceLeDiff, Nat.reduceEqDiff, Nat.reduceMod, Nat.reduceDiv, Int.reduceAdd, Int.reduceSub, Int.reduceMul, Int.reduceLT, Int.reduceLE, Int.reduceEq, Int.reduceNeg, Int.reduceToNat, reduceIte, reduceCtorEq, Int.reduceBEq, Int.reduceBNe, hb2]
  refine useL [_, _] (refOwn_R h1 hn hsl) (StR.rd _) hm ⟨f2, f1, trivial⟩ fun w M1 hg1 hL1 hq1 => ?_
  obtain ⟨pw, kw, rfl⟩ := hq1.slice
  simp only [push_cast, Nat.reduceAdd, Nat.reduceSub, Nat.reduceMul, Nat.reduceLT, Nat.reduceLeDiff, Nat.reduceEqDiff, Nat.reduceMod, Nat.reduceDiv, Int.reduceAdd, Int.reduceSub, Int.reduceMul, Int.reduceLT, Int.reduceLE, Int.reduceEq, Int.reduceNeg, Int.reduceToNat, reduceIte, reduceCtorEq, Int.reduceBEq, Int.reduceBNe, hb2]
  refine ⟨subH_gr (N := []) trivial hg1, ?_⟩
  have hMM : ∀ b e, findE M1 b = some e → findE ([⟨b2, 0, .cel 37, [.slice none 0 0, .slice none 0 0, .slice none 0 0]⟩, ⟨b1, 0, .cel 37, [.slice ps j.state.length ks, .slice pu j.undo.length ku, .slice pm j.marks.length km]⟩] ++ M1) b = some e := find_behind hL1
  refine append_g (P := Tryz.prog) (e := 31) (sz := 31) (N := []) (cs := []) (n := 0) (ys := j.undo.flatMap Ch.cells) (m := j.undo.length) (by_ := 120) (.inl ⟨rfl, rfl, rfl, rfl⟩) ?_ (((h2.ext hg1.ext).find hMM).src (P := Tryz.prog) (xt := 34) (q := 31) (ag := true) (by simp only [push_cast, Nat.reduceAdd, Nat.reduceSub, Nat.reduceMul, Nat.reduceLT, Nat.reduceLeDiff, Nat.reduceEqDiff, Nat.reduceMod, Nat.reduceDiv, Int.reduceAdd, Int.reduceSub, Int.reduceMul, Int.reduceLT, Int.reduceLE, Int.reduceEq, Int.reduceNeg, Int.reduceToNat, reduceIte, reduceCtorEq, Int.reduceBEq, Int.reduceBNe])) (flatMap_len (fun y => y.len) _) (chAll _) ?_ fun u Nu ho2 hf2 => ?_
  · simp only [push_cast, Nat.reduceAdd, Nat.reduceSub, Nat.reduceMul, Nat.reduceLT, Nat.reduceLeDiff, Nat.reduceEqDiff, Nat.reduceMod, Nat.reduceDiv, Int.reduceAdd, Int.reduceSub, Int.reduceMul, Int.reduceLT, Int.reduceLE, Int.reduceEq, Int.reduceNeg, Int.reduceToNat, reduceIte, reduceCtorEq, Int.reduceBEq, Int.reduceBNe]
  · unfold two47; omega
  rw [List.nil_append, Nat.zero_add] at ho2
  obtain ⟨pn, kn, hun⟩ := ho2.slice
  subst hun
  simp only [push_cast, Nat.reduceAdd, Nat.reduceSub, Nat.reduceMul, Nat.reduceLT, Nat.reduceLeDiff, Nat.reduceEqDiff, Nat.reduceMod, Nat.reduceDiv, Int.reduceAdd, Int.reduceSub, Int.reduceMul, Int.reduceLT, Int.reduceLE, Int.reduceEq, Int.reduceNeg, Int.reduceToNat, reduceIte, reduceCtorEq, Int.reduceBEq, Int.reduceBNe, hb2]
  have hs2 := subH_new (⟨b2, 0, .cel 37, [.slice none 0 0, .slice none 0 0, .slice none 0 0]⟩ :: ⟨b1, 0, .cel 37, [.slice ps j.state.length ks, .slice pu j.undo.length ku, .slice pm j.marks.length km]⟩ :: M1) Nu fun e he x hx h => freshN_iff.1 hf2 e he x hx h
  refine ⟨hs2, ?_⟩
  have hMM2 : ∀ b e, findE M1 b = some e → findE (Nu ++ ([⟨b2, 0, .cel 37, [.slice none 0 0, .slice none 0 0, .slice none 0 0]⟩, ⟨b1, 0, .cel 37, [.slice ps j.state.length ks, .slice pu j.undo.length ku, .slice pm j.marks.length km]⟩] ++ M1)) b = some e := fun b e h => find_behind hf2 b e (hMM b e h)
  refine append_g (P := Tryz.prog) (e := 3) (sz := 1) (N := []) (cs := []) (n := 0) (ys := j.marks.flatMap intC) (m := j.marks.length) (by_ := 8) (.inl ⟨rfl, rfl, rfl, rfl⟩) ?_ (((h3.ext hg1.ext).find hMM2).src (P := Tryz.prog) (xt := 35) (q := 1) (ag := false) (by simp only [push_cast, Nat.reduceAdd, Nat.reduceSub, Nat.reduceMul, Nat.reduceLT, Nat.reduceLeDiff, Nat.reduceEqDiff, Nat.reduceMod, Nat.reduceDiv, Int.reduceAdd, Int.reduceSub, Int.reduceMul, Int.reduceLT, Int.reduceLE, Int.reduceEq, Int.reduceNeg, Int.reduceToNat, reduceIte, reduceCtorEq, Int.reduceBEq, Int.reduceBNe])) (flatMap_len (c := intC) (s := 1) (fun y => rfl) _) (intAll _) ?_ fun m Nm ho3 hf3 => ?_
  · simp only [push_cast, Nat.reduceAdd, Nat.reduceSub, Nat.reduceMul, Nat.reduceLT, Nat.reduceLeDiff, Nat.reduceEqDiff, Nat.reduceMod, Nat.reduceDiv, Int.reduceAdd, Int.reduceSub, Int.reduceMul, Int.reduceLT, Int.reduceLE, Int.reduceEq, Int.reduceNeg, Int.reduceToNat, reduceIte, reduceCtorEq, Int.reduceBEq, Int.reduceBNe]
  · unfold two47; omega
  rw [List.nil_append, Nat.zero_add] at ho3
  obtain ⟨pk, kk, hun⟩ := ho3.slice
  subst hun
  have hz := fun A hs => doneS (M := M0) (A := A) hg1 (allWr_app ho3.wr.1 ho2.wr.1) (by rw [marks_append, ho3.wr.2, ho2.wr.2]; rfl) (N1 := Nm ++ Nu) (v := .agg #[.slice pw j.state.length kw, .slice pn j.undo.length kn, .slice pk j.marks.length kk]) ?_ (JoO'.rd 31 3 j) ⟨_, _, _, Nu, Nm, rfl, rfl, freshN_sym (freshN_mono hf3).1, ho2, ho3, hq1⟩ hs
  rotate_left
  · exact freshN_appL.2 ⟨(freshN_mono (A := [_, _]) (freshN_mono hf3).2).2, (freshN_mono (A := [_, _]) hf2).2⟩
  have hs3 := subH_new (Nu ++ (⟨b2, 0, .cel 37, [.slice none 0 0, .slice none 0 0, .slice none 0 0]⟩ :: ⟨b1, 0, .cel 37, [.slice ps j.state.length ks, .slice pu j.undo.length ku, .slice pm j.marks.length km]⟩ :: M1)) Nm fun e he x hx h => freshN_iff.1 hf3 e he x hx h
  refine ⟨hs3, ?_⟩
  rcases ho2 with ⟨x1, x2, x3, rfl⟩ | ⟨bu, cu, x3, x1, x2, rfl⟩
  · rcases ho3 with ⟨y1, y2, y3, rfl⟩ | ⟨bm, cm, y3, y1, y2, rfl⟩
    · simp only [push_cast, Nat.reduceAdd, Nat.reduceSub, Nat.reduceMul, Nat.reduceLT, Nat.reduceLeDiff, Nat.reduceEqDiff, Nat.reduceMod, Nat.reduceDiv, Int.reduceAdd, Int.reduceSub, Int.reduceMul, Int.reduceLT, Int.reduceLE, Int.reduceEq, Int.reduceNeg, Int.reduceToNat, reduceIte, reduceCtorEq, Int.reduceBEq, Int.reduceBNe, hb2, List.append_eq, List.nil_append, List.cons_append]
      exact hz _ (((List.Sublist.refl (dropM M1)).cons _).cons _)
    · have g3 := hf3.1
      simp only [push_cast, Nat.reduceAdd, Nat.reduceSub, Nat.reduceMul, Nat.reduceLT, Nat.reduceLeDiff, Nat.reduceEqDiff, Nat.reduceMod, Nat.reduceDiv, Int.reduceAdd, Int.reduceSub, Int.reduceMul, Int.reduceLT, Int.reduceLE, Int.reduceEq, Int.reduceNeg, Int.reduceToNat, reduceIte, reduceCtorEq, Int.reduceBEq, Int.reduceBNe, List.append_eq, List.nil_append, List.cons_append] at g3
      simp only [push_cast, Nat.reduceAdd, Nat.reduceSub, Nat.reduceMul, Nat.reduceLT, Nat.reduceLeDiff, Nat.reduceEqDiff, Nat.reduceMod, Nat.reduceDiv, Int.reduceAdd, Int.reduceSub, Int.reduceMul, Int.reduceLT, Int.reduceLE, Int.reduceEq, Int.reduceNeg, Int.reduceToNat, reduceIte, reduceCtorEq, Int.reduceBEq, Int.reduceBNe, hb2, List.append_eq, List.nil_append, List.cons_append, g3]
      exact hz _ ((((List.Sublist.refl (dropM M1)).cons _).cons _).cons_cons _)
  · have g2 := hf2.1
    simp only [push_cast, Nat.reduceAdd, Nat.reduceSub, Nat.reduceMul, Nat.reduceLT, Nat.reduceLeDiff, Nat.reduceEqDiff, Nat.reduceMod, Nat.reduceDiv, Int.reduceAdd, Int.reduceSub, Int.reduceMul, Int.reduceLT, Int.reduceLE, Int.reduceEq, Int.reduceNeg, Int.reduceToNat, reduceIte, reduceCtorEq, Int.reduceBEq, Int.reduceBNe, List.append_eq, List.nil_append, List.cons_append] at g2
    rcases ho3 with ⟨y1, y2, y3, rfl⟩ | ⟨bm, cm, y3, y1, y2, rfl⟩
    · simp only [push_cast, Nat.reduceAdd, Nat.reduceSub, Nat.reduceMul, Nat.reduceLT, Nat.reduceLeDiff, Nat.reduceEqDiff, Nat.reduceMod, Nat.reduceDiv, Int.reduceAdd, Int.reduceSub, Int.reduceMul, Int.reduceLT, Int.reduceLE, Int.reduceEq, Int.reduceNeg, Int.reduceToNat, reduceIte, reduceCtorEq, Int.reduceBEq, Int.reduceBNe, hb2, List.append_eq, List.nil_append, List.cons_append, g2]
      exact hz _ ((((List.Sublist.refl (dropM M1)).cons _).cons _).cons_cons _)
    · have g3 := hf3.1
      simp only [push_cast, Nat.reduceAdd, Nat.reduceSub, Nat.reduceMul, Nat.reduceLT, Nat.reduceLeDiff, Nat.reduceEqDiff, Nat.reduceMod, Nat.reduceDiv, Int.reduceAdd, Int.reduceSub, Int.reduceMul, Int.reduceLT, Int.reduceLE, Int.reduceEq, Int.reduceNeg, Int.reduceToNat, reduceIte, reduceCtorEq, Int.reduceBEq, Int.reduceBNe, List.append_eq, List.nil_append, List.cons_append] at g3
      simp only [push_cast, Nat.reduceAdd, Nat.reduceSub, Nat.reduceMul, Nat.reduceLT, Nat.reduceLeDiff, Nat.reduceEqDiff, Nat.reduceMod, Nat.reduceDiv, Int.reduceAdd, Int.reduceSub, Int.reduceMul, Int.reduceLT, Int.reduceLE, Int.reduceEq, Int.reduceNeg, Int.reduceToNat, reduceIte, reduceCtorEq, Int.reduceBEq, Int.reduceBNe, hb2, List.append_eq, List.nil_append, List.cons_append, g2, g3]
      exact hz _ (((((List.Sublist.refl (dropM M1)).cons _).cons _).cons_cons _).cons_cons _)
theorem refJown_ok {M : Hp} {j : Jo} {v : Value} (hv : JoR j v M) (hn : j.state.length ≤ 1000000000) (hu : j.undo.length ≤ 1000000000) (hl : j.marks.length ≤ 1000000000000) (hsl : ∀ y ∈ j.state, y.slots.length ≤ 1000000000000) : CallsW Tryz.prog 43 [v] M (JoO 31 3 j) := fun M0 hr he =>
  (refJown'_ok hv hn hu hl hsl M0 hr he).perm fun v H' h => by
    obtain ⟨N1, N2, rfl, w1, m1, w2, m2, f12, hq⟩ := h
    by_cases hf : freshN (N1 ++ N2) M0
    · obtain ⟨vs, vu, vm, Nu, Nm, rfl, rfl, h0, h1, h2, h3⟩ := hq hf
      have hp : ((Nu ++ Nm) ++ N2).Perm ((Nm ++ Nu) ++ N2) := List.perm_append_comm.append_right N2
      have f3 := freshN_appL.1 f12
      exact ⟨(Nu ++ Nm) ++ N2, hp, by simp only [marks_append, h1.wr.2, h2.wr.2, List.nil_append], Nu ++ Nm, N2, rfl, allWr_app h1.wr.1 h2.wr.1, by rw [marks_append, h1.wr.2, h2.wr.2]; rfl, w2, m2, freshN_appL.2 ⟨f3.2, f3.1⟩, fun _ => ⟨vs, vu, vm, Nu, Nm, rfl, rfl, h0, h1, h2, h3⟩⟩
    · exact ⟨N1 ++ N2, List.Perm.refl _, rfl, N1, N2, rfl, w1, m1, w2, m2, f12, fun h => absurd h hf⟩
end Go.Proofs.YtkhpncfgimlleaaGreat
set_option linter.unusedSimpArgs false
set_option linter.unusedVariables false
namespace Go.Ev
def JeR (r : Jo × Int) : Value → Hp → Prop := fun v H => ∃ w, v = .tuple #[w, .int .i64 r.2] ∧ JoR r.1 w H
theorem JeR.rd (r : Jo × Int) : RdOnly (JeR r) := by
  rintro v A B h ⟨w, rfl, h1⟩
  exact ⟨w, rfl, JoR.rd _ _ _ _ h h1⟩
theorem StR.app {N M : Hp} {s : List Ac} {v : Value} (h : StR s v M) (hf : freshN N M) : StR s v (N ++ M) := by
  obtain ⟨L, h1, h2, h3⟩ := h
  exact ⟨L, h1, h2.app hf, fun x hx => (h3 x hx).app hf⟩
theorem JoO.r {eC eI : Nat} {j : Jo} {v : Value} {N1 H : Hp} (hf : freshN N1 H) (h : JoO eC eI j v N1 H) : JoR j v (N1 ++ H) := by
  obtain ⟨vs, vu, vm, Nu, Nm, rfl, rfl, h0, h1, h2, h3⟩ := h
  have hf' := freshN_appL.1 hf
  refine ⟨vs, vu, vm, rfl, h3.app hf, ?_, ?_⟩
  · rw [List.append_assoc]; exact h1.liR rfl rfl _
  · rw [List.append_assoc]; exact (h2.liR rfl rfl _).app (freshN_comb h0 hf'.1)
end Go.Ev
namespace Go.Proofs.YtkhpncfgimlleaaGreat
open Go Go.Ev Go.Proofs
set_option maxRecDepth 100000
set_option maxHeartbeats 4000000
theorem jopen_ok {M : Hp} {s : List Ac} {v : Value} (hv : StR s v M) (hn : s.length ≤ 1000000000) (hsl : ∀ y ∈ s, y.slots.length ≤ 1000000000000) : CallsR Tryz.prog 13 [v] M (JeR (openJ s)) := by
  intro M0 hr he
  have hm := hr.marks
  replace hv := StR.rd _ _ _ _ he.symm hv
  obtain ⟨ps, ks, rfl⟩ := hv.slice
  refine callsO gJ1_ok Tryz.mix Tryz.pl13 Tryz.func13 rfl Tryz.ntmps13 Tryz.results13 rfl (by first | rfl | assumption) (Nat.le_of_ble_eq_true rfl) (by kernel_rfl) ?_
  simp only [push_cast, Nat.reduceAdd, Nat.reduceSub, Nat.reduceMul, Nat.reduceLT, Nat.reduceLeDiff, Nat.reduceEqDiff, Nat.reduceMod, Nat.reduceDiv, Int.reduceAdd, Int.reduceSub, Int.reduceMul, Int.reduceLT, Int.reduceLE, Int.reduceEq, Int.reduceNeg, Int.reduceToNat, reduceIte, reduceCtorEq, Int.reduceBEq, Int.reduceBNe]
  intro b2 hb2
  have f2 : fresh b2 M0 := hb2
  refine useP [_] (fun M1 hr1 he1 => sright_ok (StR.rd _ _ _ _ he1.symm hv) hr1.marks (by omega)) ⟨f2, trivial⟩ ?_
  cases hrs : rightS s
  · have e : openJ s = (⟨[], [], []⟩, 1) := by unfold openJ; rw [if_neg (by rw [hrs]; simp)]
    rw [e]
    simp only [push_cast, Nat.reduceAdd, Nat.reduceSub, Nat.reduceMul, Nat.reduceLT, Nat.reduceLeDiff, Nat.reduceEqDiff, Nat.reduceMod, Nat.reduceDiv, Int.reduceAdd, Int.reduceSub, Int.reduceMul, Int.reduceLT, Int.reduceLE, Int.reduceEq, Int.reduceNeg, Int.reduceToNat, reduceIte, reduceCtorEq, Int.reduceBEq, Int.reduceBNe]
    exact doneK2 [_] (Gr.refl hm) (JeR.rd _) ⟨_, rfl, _, _, _, rfl, StR.nil _ _, LiR.nil _ _, LiR.nil _ _⟩
  · have e : openJ s = (⟨s, [], []⟩, 0) := by unfold openJ; rw [if_pos hrs]
    rw [e]
    simp only [push_cast, Nat.reduceAdd, Nat.reduceSub, Nat.reduceMul, Nat.reduceLT, Nat.reduceLeDiff, Nat.reduceEqDiff, Nat.reduceMod, Nat.reduceDiv, Int.reduceAdd, Int.reduceSub, Int.reduceMul, Int.reduceLT, Int.reduceLE, Int.reduceEq, Int.reduceNeg, Int.reduceToNat, reduceIte, reduceCtorEq, Int.reduceBEq, Int.reduceBNe]
    refine useL [_] (copied_R hv hn hsl) (StR.rd _) hm ⟨f2, trivial⟩ fun w M1 hg1 hL1 hq1 => ?_
    obtain ⟨pw, kw, rfl⟩ := hq1.slice
    simp only [push_cast, Nat.reduceAdd, Nat.reduceSub, Nat.reduceMul, Nat.reduceLT, Nat.reduceLeDiff, Nat.reduceEqDiff, Nat.reduceMod, Nat.reduceDiv, Int.reduceAdd, Int.reduceSub, Int.reduceMul, Int.reduceLT, Int.reduceLE, Int.reduceEq, Int.reduceNeg, Int.reduceToNat, reduceIte, reduceCtorEq, Int.reduceBEq, Int.reduceBNe]
    exact doneK2 [_] hg1 (JeR.rd _) ⟨_, rfl, _, _, _, rfl, hq1, LiR.nil _ _, LiR.nil _ _⟩
theorem refJopen_ok {M : Hp} {s : List Ac} {v : Value} (hv : StR s v M) (hn : s.length ≤ 1000000000) (hsl : ∀ y ∈ s, y.slots.length ≤ 2000) : CallsR Tryz.prog 14 [v] M (JeR (openJ s)) := by
  intro M0 hr he
  have hm := hr.marks
  replace hv := StR.rd _ _ _ _ he.symm hv
  obtain ⟨ps, ks, rfl⟩ := hv.slice
  have hsl' : ∀ y ∈ s, y.slots.length ≤ 1000000000000 := fun y hy => by have := hsl y hy; omega
  refine callsO gJ1_ok Tryz.mix Tryz.pl14 Tryz.func14 rfl Tryz.ntmps14 Tryz.results14 rfl (by first | rfl | assumption) (Nat.le_of_ble_eq_true rfl) (by kernel_rfl) ?_
  simp only [push_cast, Nat.reduceAdd, Nat.reduceSub, Nat.reduceMul, Nat.reduceLT, Nat.reduceLeDiff, Nat.reduceEqDiff, Nat.reduceMod, Nat.reduceDiv, Int.reduceAdd, Int.reduceSub, Int.reduceMul, Int.reduceLT, Int.reduceLE, Int.reduceEq, Int.reduceNeg, Int.reduceToNat, reduceIte, reduceCtorEq, Int.reduceBEq, Int.reduceBNe]
  intro b2 hb2
  have f2 : fresh b2 M0 := hb2
  refine useP [_] (fun M1 hr1 he1 => refRightS_ok (StR.rd _ _ _ _ he1.symm hv) hr1.marks (by omega) (fun y hy => by have := hsl y hy; omega)) ⟨f2, trivial⟩ ?_
  cases hrs : rightS s
  · have e : openJ s = (⟨[], [], []⟩, 1) := by unfold openJ; rw [if_neg (by rw [hrs]; simp)]
    rw [e]
    simp only [push_cast, Nat.reduceAdd, Nat.reduceSub, Nat.reduceMul, Nat.reduceLT, Nat.reduceLeDiff, Nat.reduceEqDiff, Nat.reduceMod, Nat.reduceDiv, Int.reduceAdd, Int.reduceSub, Int.reduceMul, Int.reduceLT, Int.reduceLE, Int.reduceEq, Int.reduceNeg, Int.reduceToNat, reduceIte, reduceCtorEq, Int.reduceBEq, Int.reduceBNe]
    exact doneK2 [_] (Gr.refl hm) (JeR.rd _) ⟨_, rfl, _, _, _, rfl, StR.nil _ _, LiR.nil _ _, LiR.nil _ _⟩
  · have e : openJ s = (⟨s, [], []⟩, 0) := by unfold openJ; rw [if_pos hrs]
    rw [e]
    simp only [push_cast, Nat.reduceAdd, Nat.reduceSub, Nat.reduceMul, Nat.reduceLT, Nat.reduceLeDiff, Nat.reduceEqDiff, Nat.reduceMod, Nat.reduceDiv, Int.reduceAdd, Int.reduceSub, Int.reduceMul, Int.reduceLT, Int.reduceLE, Int.reduceEq, Int.reduceNeg, Int.reduceToNat, reduceIte, reduceCtorEq, Int.reduceBEq, Int.reduceBNe]
    refine useL [_] (refOwn_R hv hn hsl') (StR.rd _) hm ⟨f2, trivial⟩ fun w M1 hg1 hL1 hq1 => ?_
    obtain ⟨pw, kw, rfl⟩ := hq1.slice
    simp only [push_cast, Nat.reduceAdd, Nat.reduceSub, Nat.reduceMul, Nat.reduceLT, Nat.reduceLeDiff, Nat.reduceEqDiff, Nat.reduceMod, Nat.reduceDiv, Int.reduceAdd, Int.reduceSub, Int.reduceMul, Int.reduceLT, Int.reduceLE, Int.reduceEq, Int.reduceNeg, Int.reduceToNat, reduceIte, reduceCtorEq, Int.reduceBEq, Int.reduceBNe]
    exact doneK2 [_] hg1 (JeR.rd _) ⟨_, rfl, _, _, _, rfl, hq1, LiR.nil _ _, LiR.nil _ _⟩
theorem jown_R {M : Hp} {j : Jo} {v : Value} (hv : JoR j v M) (hn : j.state.length ≤ 1000000000) (hu : j.undo.length ≤ 1000000000) (hl : j.marks.length ≤ 1000000000000) (hsl : ∀ y ∈ j.state, y.slots.length ≤ 1000000000000) : CallsR Tryz.prog 41 [v] M (JoR j) :=
  (jown_ok hv hn hu hl hsl).toR fun v N1 A _ _ hf hq => hq.r hf
theorem refJown_R {M : Hp} {j : Jo} {v : Value} (hv : JoR j v M) (hn : j.state.length ≤ 1000000000) (hu : j.undo.length ≤ 1000000000) (hl : j.marks.length ≤ 1000000000000) (hsl : ∀ y ∈ j.state, y.slots.length ≤ 1000000000000) : CallsR Tryz.prog 43 [v] M (JoR j) :=
  (refJown_ok hv hn hu hl hsl).toR fun v N1 A _ _ hf hq => hq.r hf
end Go.Proofs.YtkhpncfgimlleaaGreat
