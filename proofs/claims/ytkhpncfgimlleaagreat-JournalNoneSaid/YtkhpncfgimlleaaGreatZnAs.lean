/- Texts of this claim, merged by program: Jn Jo. -/
import Derived.Test.YtkhpncfgimlleaaGreatZnAr
set_option linter.unusedSimpArgs false
set_option linter.unusedVariables false
namespace Go.Ev
def JmR (r : Jo × Int × Int) : Value → Hp → Prop := fun v H => ∃ w, v = .tuple #[w, .int .i64 r.2.1, .int .i64 r.2.2] ∧ JoR r.1 w H
theorem JmR.rd (r : Jo × Int × Int) : RdOnly (JmR r) := by
  rintro v A B h ⟨w, rfl, h1⟩
  exact ⟨w, rfl, JoR.rd _ _ _ _ h h1⟩
theorem JmR.own (r : Jo × Int × Int) : RdOwn (fun v N1 H => JmR r v (N1 ++ H)) := fun _ N1 _ _ h hq => JmR.rd _ _ _ _ (cellsAt_front N1 h) hq
end Go.Ev
namespace Go.Proofs.YtkhpncfgimlleaaGreat
open Go Go.Ev Go.Proofs
set_option maxRecDepth 100000
set_option maxHeartbeats 4000000
def plMk : Plans := fun i => if i = 1 then [] else if i = 2 then [(0, 9)] else if i = 6 then [(0, 9)] else Tryz.pl20 i
attribute [push_cast] plMk
theorem jmark_ok {M : Hp} {j : Jo} {v : Value} (hv : JoR j v M) (hn : j.state.length ≤ 1000000000) (hu : j.undo.length ≤ 1000000000) (hma : j.marks.length ≤ 1000000000000) (hsl : ∀ y ∈ j.state, y.slots.length ≤ 1000000000000) : CallsW Tryz.prog 20 [v] M (fun u N1 H => JmR (markJ j) u (N1 ++ H)) := by
  intro M0 hr he
  have hm := hr.marks
  replace hv := JoR.rd _ _ _ _ he.symm hv
  have hv0 := hv
  obtain ⟨vs, vu, vm, rfl, h1, h2, h3⟩ := hv
  obtain ⟨ps, ks, rfl⟩ := h1.slice
  obtain ⟨pu, ku, rfl⟩ := h2.slice
  obtain ⟨pm, km, rfl⟩ := h3.slice
  obtain ⟨R, hR⟩ : ∃ R, R = markJ j := ⟨_, rfl⟩
  rw [← hR]
  unfold markJ at hR
  refine callsO gJ1_ok Tryz.mix plMk Tryz.func20 rfl Tryz.ntmps20 Tryz.results20 rfl (by first | rfl | assumption) (Nat.le_of_ble_eq_true rfl) (by kernel_rfl) ?_
  simp only [push_cast, Nat.reduceAdd, Nat.reduceSub, Nat.reduceMul, Nat.reduceLT, Nat.reduceLeDiff, Nat.reduceEqDiff, Nat.reduceMod, Nat.reduceDiv, Int.reduceAdd, Int.reduceSub, Int.reduceMul, Int.reduceLT, Int.reduceLE, Int.reduceEq, Int.reduceNeg, Int.reduceToNat, reduceIte, reduceCtorEq, Int.reduceBEq, Int.reduceBNe]
  intro b1 hb1 b2 hb2
  have f1 : fresh b1 M0 := hb1
  have f2 : fresh b2 M0 := hb2.2.2
  have fE1 : findE (⟨b2, 0, .cel 37, [.slice none 0 0, .slice none 0 0, .slice none 0 0]⟩ :: ⟨b1, 0, .cel 37, [.slice ps j.state.length ks, .slice pu j.undo.length ku, .slice pm j.marks.length km]⟩ :: M0) b1 = some ⟨b1, 0, .cel 37, [.slice ps j.state.length ks, .slice pu j.undo.length ku, .slice pm j.marks.length km]⟩ := by
    simp only [push_cast, Nat.reduceAdd, Nat.reduceSub, Nat.reduceMul, Nat.reduceLT, Nat.reduceLeDiff, Nat.reduceEqDiff, Nat.reduceMod, Nat.reduceDiv, Int.reduceAdd, Int.reduceSub, Int.reduceMul, Int.reduceLT, Int.reduceLE, Int.reduceEq, Int.reduceNeg, Int.reduceToNat, reduceIte, reduceCtorEq, Int.reduceBEq, Int.reduceBNe, hb2]
  refine drawS gJ1_ok Tryz.mix [(1, .pointer (some ⟨b1, 0, none⟩)), (2, .pointer (some ⟨b2, 0, none⟩)), (3, .int .i64 0), (4, .int .i64 0)]
      (fun i val => match i with
        | 0 => val 0 = .agg #[.slice ps j.state.length ks, .slice pu j.undo.length ku, .slice pm j.marks.length km]
        | 1 => ∃ p k p' k' p'' k'', val 1 = .agg #[.slice p j.state.length k, .slice p' j.undo.length k', .slice p'' j.marks.length k'']
        | 2 => val 2 = .pointer (some ⟨b1, 2, none⟩)
        | 3 => val 3 = .slice pm j.marks.length km
        | 4 => val 4 = .int .i64 j.marks.length
        | 5 => ∃ b, val 5 = .pointer (some ⟨b, 0, none⟩)
        | 7 => val 7 = .int .i64 j.marks.length
        | _ => True)
      (fun i val N => match i with
        | 1 => ∃ N1 N2, N = N1 ++ N2 ∧ allWr N1 ∧ marksOf N1 = [] ∧ allWr N2 ∧ marksOf N2 = [] ∧ freshN N1 N2 ∧ JoO 31 3 j (val 1) N1 (N2 ++ M0)
        | 5 => ∃ b, val 5 = .pointer (some ⟨b, 0, none⟩) ∧ N = [⟨b, 0, .cel 37, [.slice none 0 0, .slice none 0 0, .slice none 0 0]⟩]
        | 6 => ∃ b p k p' k' p'' k'', val 5 = .pointer (some ⟨b, 0, none⟩) ∧ val 1 = .agg #[.slice p j.state.length k, .slice p' j.undo.length k', .slice p'' j.marks.length k''] ∧ N = [⟨b, 0, .cel 37, [.slice p j.state.length k, .slice p' j.undo.length k', .slice p'' j.marks.length k'']⟩]
        | _ => N = []) (fun i => if i = 6 then [5] else []) [1, 6] (by kernel_rfl) (by kernel_rfl) (by kernel_rfl) ?_ (by rfl) (by decide) (by kernel_rfl) ?_ ?_ ?_ ?_ ?_
  · simp only [push_cast, Nat.reduceAdd, Nat.reduceSub, Nat.reduceMul, Nat.reduceLT, Nat.reduceLeDiff, Nat.reduceEqDiff, Nat.reduceMod, Nat.reduceDiv, Int.reduceAdd, Int.reduceSub, Int.reduceMul, Int.reduceLT, Int.reduceLE, Int.reduceEq, Int.reduceNeg, Int.reduceToNat, reduceIte, reduceCtorEq, Int.reduceBEq, Int.reduceBNe, subT]
  · intro i hi hiF
    replace hi : i < 8 := hi
    obtain rfl | rfl | rfl | rfl | rfl | rfl | rfl | rfl : i = 0 ∨ i = 1 ∨ i = 2 ∨ i = 3 ∨ i = 4 ∨ i = 5 ∨ i = 6 ∨ i = 7 := by omega
    all_goals first
      | exact .inl fun _ _ h => h
      | exact absurd (by decide) hiF
      | exact .inr (by kernel_rfl)
  · intro i o ho val val' h1 h2 hV
    have hi := (Array.getElem?_eq_some_iff.1 ho).1
    replace hi : i < 8 := hi
    obtain rfl | rfl | rfl | rfl | rfl | rfl | rfl | rfl : i = 0 ∨ i = 1 ∨ i = 2 ∨ i = 3 ∨ i = 4 ∨ i = 5 ∨ i = 6 ∨ i = 7 := by omega
    · first
        | exact trivial
        | exact hV
        | exact h1.trans hV
        | (rw [h1]; exact hV)
    · first
        | exact trivial
        | exact hV
        | exact h1.trans hV
        | (rw [h1]; exact hV)
    · first
        | exact trivial
        | exact hV
        | exact h1.trans hV
        | (rw [h1]; exact hV)
    · first
        | exact trivial
        | exact hV
        | exact h1.trans hV
        | (rw [h1]; exact hV)
    · first
        | exact trivial
        | exact hV
        | exact h1.trans hV
        | (rw [h1]; exact hV)
    · first
        | exact trivial
        | exact hV
        | exact h1.trans hV
        | (rw [h1]; exact hV)
    · first
        | exact trivial
        | exact hV
        | exact h1.trans hV
        | (rw [h1]; exact hV)
    · first
        | exact trivial
        | exact hV
        | exact h1.trans hV
        | (rw [h1]; exact hV)
  · intro i o ho val val' N h1 h2 hQ
    have hi := (Array.getElem?_eq_some_iff.1 ho).1
    replace hi : i < 8 := hi
    obtain rfl | rfl | rfl | rfl | rfl | rfl | rfl | rfl : i = 0 ∨ i = 1 ∨ i = 2 ∨ i = 3 ∨ i = 4 ∨ i = 5 ∨ i = 6 ∨ i = 7 := by omega
    · first
        | exact trivial
        | exact hQ
        | exact h1.trans hQ
        | (rw [h1]; exact hQ)
    · first
        | exact trivial
        | exact hQ
        | exact h1.trans hQ
        | (rw [h1]; exact hQ)
    · first
        | exact trivial
        | exact hQ
        | exact h1.trans hQ
        | (rw [h1]; exact hQ)
    · first
        | exact trivial
        | exact hQ
        | exact h1.trans hQ
        | (rw [h1]; exact hQ)
    · first
        | exact trivial
        | exact hQ
        | exact h1.trans hQ
        | (rw [h1]; exact hQ)
    · first
        | exact trivial
        | exact hQ
        | exact h1.trans hQ
        | (rw [h1]; exact hQ)
    · simp only [List.getElem?_toArray, List.getElem?_cons_zero, List.getElem?_cons_succ, Option.some.injEq] at ho; subst ho
      have e1 := h2 1 (by kernel_rfl)
      have e5 := h2 5 (by kernel_rfl)
      rw [e1, e5]
      exact hQ
    · first
        | exact trivial
        | exact hQ
        | exact h1.trans hQ
        | (rw [h1]; exact hQ)
  · intro i o ho T' Y val mem hT hdep hus hfr hY hmY hapY
    have hi := (Array.getElem?_eq_some_iff.1 ho).1
    replace hi : i < 8 := hi
    have y1 := hY _ _ fE1
    have hM0Y : ∀ b e, findE M0 b = some e → findE Y b = some e := fun b e h => hY b e (find_behind (L := [_, _]) ⟨f2, f1, trivial⟩ b e h)
    have t1 : getT T' 1 = some (.pointer (some ⟨b1, 0, none⟩)) := hT.1
    obtain rfl | rfl | rfl | rfl | rfl | rfl | rfl | rfl : i = 0 ∨ i = 1 ∨ i = 2 ∨ i = 3 ∨ i = 4 ∨ i = 5 ∨ i = 6 ∨ i = 7 := by omega
    · simp only [List.getElem?_toArray, List.getElem?_cons_zero, List.getElem?_cons_succ, Option.some.injEq] at ho; subst ho
      simp only [push_cast, Nat.reduceAdd, Nat.reduceSub, Nat.reduceMul, Nat.reduceLT, Nat.reduceLeDiff, Nat.reduceEqDiff, Nat.reduceMod, Nat.reduceDiv, Int.reduceAdd, Int.reduceSub, Int.reduceMul, Int.reduceLT, Int.reduceLE, Int.reduceEq, Int.reduceNeg, Int.reduceToNat, reduceIte, reduceCtorEq, Int.reduceBEq, Int.reduceBNe, List.flatMap_nil, List.flatMap_cons, List.append_nil, List.nil_append, t1, y1]
      exact ⟨[], rfl, trivial, rfl, upd_self _ _ _, rfl⟩
    · simp only [List.getElem?_toArray, List.getElem?_cons_zero, List.getElem?_cons_succ, Option.some.injEq] at ho; subst ho
      obtain ⟨v0, g0⟩ := hdep 0 (by kernel_rfl)
      replace g0 := g0 7 rfl
      rw [show val 0 = _ from v0] at g0
      simp only [push_cast, Nat.reduceAdd, Nat.reduceSub, Nat.reduceMul, Nat.reduceLT, Nat.reduceLeDiff, Nat.reduceEqDiff, Nat.reduceMod, Nat.reduceDiv, Int.reduceAdd, Int.reduceSub, Int.reduceMul, Int.reduceLT, Int.reduceLE, Int.reduceEq, Int.reduceNeg, Int.reduceToNat, reduceIte, reduceCtorEq, Int.reduceBEq, Int.reduceBNe, List.flatMap_nil, List.flatMap_cons, List.append_nil, List.nil_append, g0]
      refine callSW (M := M0) (jown_ok hv0 hn hu hma hsl) (JoO.rd _ _ _) hM0Y fun w N1 N2 w1 m1 w2 m2 f12 f1 f2 hq => ⟨N1 ++ N2, rfl, allWr_app w1 w2, by rw [marks_append, m1, m2]; rfl, ?_, ?_⟩
      · obtain ⟨vs, vu, vm, Nu, Nm, rfl, -, -, o2, o3, o1⟩ := hq
        obtain ⟨p, k, rfl⟩ := o1.slice
        obtain ⟨p', k', rfl⟩ := o2.slice
        obtain ⟨p'', k'', rfl⟩ := o3.slice
        exact ⟨p, k, p', k', p'', k'', by rw [upd_self]⟩
      · rw [upd_self]; exact ⟨N1, N2, rfl, w1, m1, w2, m2, f12, hq⟩
    · simp only [List.getElem?_toArray, List.getElem?_cons_zero, List.getElem?_cons_succ, Option.some.injEq] at ho; subst ho
      simp only [push_cast, Nat.reduceAdd, Nat.reduceSub, Nat.reduceMul, Nat.reduceLT, Nat.reduceLeDiff, Nat.reduceEqDiff, Nat.reduceMod, Nat.reduceDiv, Int.reduceAdd, Int.reduceSub, Int.reduceMul, Int.reduceLT, Int.reduceLE, Int.reduceEq, Int.reduceNeg, Int.reduceToNat, reduceIte, reduceCtorEq, Int.reduceBEq, Int.reduceBNe, List.flatMap_nil, List.flatMap_cons, List.append_nil, List.nil_append, t1]
      exact ⟨[], rfl, trivial, rfl, upd_self _ _ _, rfl⟩
    · simp only [List.getElem?_toArray, List.getElem?_cons_zero, List.getElem?_cons_succ, Option.some.injEq] at ho; subst ho
      obtain ⟨v2, g2⟩ := hdep 2 (by kernel_rfl)
      replace g2 := g2 9 rfl
      rw [show val 2 = _ from v2] at g2
      simp only [push_cast, Nat.reduceAdd, Nat.reduceSub, Nat.reduceMul, Nat.reduceLT, Nat.reduceLeDiff, Nat.reduceEqDiff, Nat.reduceMod, Nat.reduceDiv, Int.reduceAdd, Int.reduceSub, Int.reduceMul, Int.reduceLT, Int.reduceLE, Int.reduceEq, Int.reduceNeg, Int.reduceToNat, reduceIte, reduceCtorEq, Int.reduceBEq, Int.reduceBNe, List.flatMap_nil, List.flatMap_cons, List.append_nil, List.nil_append, g2, y1]
      exact ⟨[], rfl, trivial, rfl, upd_self _ _ _, rfl⟩
    · simp only [List.getElem?_toArray, List.getElem?_cons_zero, List.getElem?_cons_succ, Option.some.injEq] at ho; subst ho
      obtain ⟨v3, g3⟩ := hdep 3 (by kernel_rfl)
      replace g3 := g3 10 rfl
      rw [show val 3 = _ from v3] at g3
      simp only [push_cast, Nat.reduceAdd, Nat.reduceSub, Nat.reduceMul, Nat.reduceLT, Nat.reduceLeDiff, Nat.reduceEqDiff, Nat.reduceMod, Nat.reduceDiv, Int.reduceAdd, Int.reduceSub, Int.reduceMul, Int.reduceLT, Int.reduceLE, Int.reduceEq, Int.reduceNeg, Int.reduceToNat, reduceIte, reduceCtorEq, Int.reduceBEq, Int.reduceBNe, List.flatMap_nil, List.flatMap_cons, List.append_nil, List.nil_append, g3]
      exact ⟨[], rfl, trivial, rfl, upd_self _ _ _, rfl⟩
    · simp only [List.getElem?_toArray, List.getElem?_cons_zero, List.getElem?_cons_succ, Option.some.injEq] at ho; subst ho
      simp only [push_cast, Nat.reduceAdd, Nat.reduceSub, Nat.reduceMul, Nat.reduceLT, Nat.reduceLeDiff, Nat.reduceEqDiff, Nat.reduceMod, Nat.reduceDiv, Int.reduceAdd, Int.reduceSub, Int.reduceMul, Int.reduceLT, Int.reduceLE, Int.reduceEq, Int.reduceNeg, Int.reduceToNat, reduceIte, reduceCtorEq, Int.reduceBEq, Int.reduceBNe, List.flatMap_nil, List.flatMap_cons, List.append_nil, List.nil_append]
      intro b hf
      exact ⟨[_], rfl, ⟨trivial, trivial⟩, rfl, ⟨b, upd_self _ _ _⟩, b, upd_self _ _ _, rfl⟩
    · simp only [List.getElem?_toArray, List.getElem?_cons_zero, List.getElem?_cons_succ, Option.some.injEq] at ho; subst ho
      obtain ⟨v1, g1⟩ := hdep 1 (by kernel_rfl)
      replace g1 := g1 8 rfl
      obtain ⟨v5, g5⟩ := hdep 5 (by kernel_rfl)
      replace g5 := g5 5 rfl
      obtain ⟨p, k, p', k', p'', k'', v1⟩ := v1
      have v1 : val 1 = _ := v1
      rw [v1] at g1
      obtain ⟨b5, v5, hN⟩ := hus 5 (List.mem_singleton.2 rfl)
      have v5 : val 5 = _ := v5
      rw [v5] at g5
      simp only [push_cast, Nat.reduceAdd, Nat.reduceSub, Nat.reduceMul, Nat.reduceLT, Nat.reduceLeDiff, Nat.reduceEqDiff, Nat.reduceMod, Nat.reduceDiv, Int.reduceAdd, Int.reduceSub, Int.reduceMul, Int.reduceLT, Int.reduceLE, Int.reduceEq, Int.reduceNeg, Int.reduceToNat, reduceIte, reduceCtorEq, Int.reduceBEq, Int.reduceBNe, List.flatMap_nil, List.flatMap_cons, List.append_nil, List.nil_append, g1, g5, hN, List.cons_append]
      exact ⟨[_], rfl, ⟨trivial, trivial⟩, rfl, b5, p, k, p', k', p'', k'', by simp [upd, v5], by simp [upd, v1], rfl⟩
    · simp only [List.getElem?_toArray, List.getElem?_cons_zero, List.getElem?_cons_succ, Option.some.injEq] at ho; subst ho
      obtain ⟨v4, g4⟩ := hdep 4 (by kernel_rfl)
      replace g4 := g4 11 rfl
      rw [show val 4 = _ from v4] at g4
      simp only [push_cast, Nat.reduceAdd, Nat.reduceSub, Nat.reduceMul, Nat.reduceLT, Nat.reduceLeDiff, Nat.reduceEqDiff, Nat.reduceMod, Nat.reduceDiv, Int.reduceAdd, Int.reduceSub, Int.reduceMul, Int.reduceLT, Int.reduceLE, Int.reduceEq, Int.reduceNeg, Int.reduceToNat, reduceIte, reduceCtorEq, Int.reduceBEq, Int.reduceBNe, List.flatMap_nil, List.flatMap_cons, List.append_nil, List.nil_append, g4]
      exact ⟨[], rfl, trivial, rfl, upd_self _ _ _, rfl⟩
  · intro val mem hV hQ hap hwr
    obtain ⟨N1, N2, h1m, w1, m1, w2, m2, f12, hq1⟩ := hQ 1 (by decide)
    obtain ⟨b5, p, k, p', k', p'', k'', v5, v1, hN6⟩ := hQ 6 (by decide)
    have v7 : val 7 = .int .i64 j.marks.length := hV 7 (by decide)
    have v1 : val 1 = _ := v1
    have v5 : val 5 = _ := v5
    rw [v1] at hq1
    have hMM : List.flatMap mem [1, 6] ++ (⟨b2, 0, .cel 37, [.slice none 0 0, .slice none 0 0, .slice none 0 0]⟩ :: ⟨b1, 0, .cel 37, [.slice ps j.state.length ks, .slice pu j.undo.length ku, .slice pm j.marks.length km]⟩ :: M0) = N1 ++ (N2 ++ (⟨b5, 0, .cel 37, [.slice p j.state.length k, .slice p' j.undo.length k', .slice p'' j.marks.length k'']⟩ :: ⟨b2, 0, .cel 37, [.slice none 0 0, .slice none 0 0, .slice none 0 0]⟩ :: ⟨b1, 0, .cel 37, [.slice ps j.state.length ks, .slice pu j.undo.length ku, .slice pm j.marks.length km]⟩ :: M0)) := by
      simp only [List.flatMap_cons, List.flatMap_nil, List.append_nil, h1m, hN6, List.append_assoc, List.cons_append, List.nil_append]
    rw [hMM] at hap ⊢
    have a1 := freshN_apart hap w1
    have hap2 := (List.pairwise_append.1 hap).2.1
    have a2 := freshN_apart hap2 w2
    have hap3 := (List.pairwise_append.1 hap2).2.1
    have a5 := freshN_apart (A := [⟨b5, 0, .cel 37, [.slice p j.state.length k, .slice p' j.undo.length k', .slice p'' j.marks.length k'']⟩]) hap3 ⟨trivial, trivial⟩
    have hb5 := a5.1
    simp only [push_cast, Nat.reduceAdd, Nat.reduceSub, Nat.reduceMul, Nat.reduceLT, Nat.reduceLeDiff, Nat.reduceEqDiff, Nat.reduceMod, Nat.reduceDiv, Int.reduceAdd, Int.reduceSub, Int.reduceMul, Int.reduceLT, Int.reduceLE, Int.reduceEq, Int.reduceNeg, Int.reduceToNat, reduceIte, reduceCtorEq, Int.reduceBEq, Int.reduceBNe] at hb5
    have q2 := freshN_sym a2
    have q1 := freshN_sym (freshN_mono a1).2
    simp only [push_cast, Nat.reduceAdd, Nat.reduceSub, Nat.reduceMul, Nat.reduceLT, Nat.reduceLeDiff, Nat.reduceEqDiff, Nat.reduceMod, Nat.reduceDiv, Int.reduceAdd, Int.reduceSub, Int.reduceMul, Int.reduceLT, Int.reduceLE, Int.reduceEq, Int.reduceNeg, Int.reduceToNat, reduceIte, reduceCtorEq, Int.reduceBEq, Int.reduceBNe, v1, v5, v7]
    refine WpV.perm (H' := ⟨b5, 0, .cel 37, [.slice p j.state.length k, .slice p' j.undo.length k', .slice p'' j.marks.length k'']⟩ :: ⟨b2, 0, .cel 37, [.slice none 0 0, .slice none 0 0, .slice none 0 0]⟩ :: ⟨b1, 0, .cel 37, [.slice ps j.state.length ks, .slice pu j.undo.length ku, .slice pm j.marks.length km]⟩ :: (N1 ++ (M0 ++ N2))) ?_ ?_ ?_
    · refine (List.Perm.append_left N1 (List.perm_append_comm (l₁ := N2))).trans ?_
      exact List.perm_append_comm_assoc N1 [_, _, _] (M0 ++ N2)
    · simp [marksOf, marks_append, m1, m2, hm]
    refine WpV.slots [(1, .pointer (some ⟨b1, 0, none⟩)), (2, .pointer (some ⟨b2, 0, none⟩)), (3, .int .i64 0), (4, .int .i64 0), (5, .pointer (some ⟨b5, 0, none⟩)), (6, .int .i64 j.marks.length)] (by simp only [push_cast, Nat.reduceAdd, Nat.reduceSub, Nat.reduceMul, Nat.reduceLT, Nat.reduceLeDiff, Nat.reduceEqDiff, Nat.reduceMod, Nat.reduceDiv, Int.reduceAdd, Int.reduceSub, Int.reduceMul, Int.reduceLT, Int.reduceLE, Int.reduceEq, Int.reduceNeg, Int.reduceToNat, reduceIte, reduceCtorEq, Int.reduceBEq, Int.reduceBNe]) ?_
    obtain ⟨M1, hM1⟩ : ∃ M1, M1 = M0 ++ N2 := ⟨_, rfl⟩
    have hg1 : Gr M0 M1 := ⟨hm, N2, hM1, w2, m2⟩
    have hf1 : freshN N1 M1 := by rw [hM1]; exact freshN_comb (freshN_cons (freshN_cons (freshN_cons (freshN_mono a1).2))) f12
    rw [← hM1]
    have e02 := freshN_cons (freshN_cons (freshN_cons a2))
    have hq1 : JoO 31 3 j (.agg #[.slice p j.state.length k, .slice p' j.undo.length k', .slice p'' j.marks.length k'']) N1 M1 := by rw [hM1]; exact JoO.rd _ _ _ _ _ _ _ (cellsAt_swap e02) hq1
    have hq1r := hq1.r hf1
    have z5 : fresh b5 M1 := by rw [hM1]; exact fresh_appS hb5.2.2.2.2 q2.1
    have z2 : fresh b2 M1 := by rw [hM1]; exact fresh_appS f2 q2.2.1
    have z1 : fresh b1 M1 := by rw [hM1]; exact fresh_appS f1 q2.2.2.1
    have hvb := hv0.ext hg1.ext
    refine regO gJ1_ok ?_
    simp only [push_cast, Nat.reduceAdd, Nat.reduceSub, Nat.reduceMul, Nat.reduceLT, Nat.reduceLeDiff, Nat.reduceEqDiff, Nat.reduceMod, Nat.reduceDiv, Int.reduceAdd, Int.reduceSub, Int.reduceMul, Int.reduceLT, Int.reduceLE, Int.reduceEq, Int.reduceNeg, Int.reduceToNat, reduceIte, reduceCtorEq, Int.reduceBEq, Int.reduceBNe, hb5, hb2]
    refine useP (_ :: _ :: _ :: N1) (fun M2 hr2 he2 => jright_ok (JoR.rd _ _ _ _ he2.symm hvb) hr2.marks hn (by omega) hma hsl) ⟨z5, z2, z1, hf1⟩ ?_
    cases hrj : rightJ j
    · rw [if_neg (by rw [hrj]; simp)] at hR
      simp only [push_cast, Nat.reduceAdd, Nat.reduceSub, Nat.reduceMul, Nat.reduceLT, Nat.reduceLeDiff, Nat.reduceEqDiff, Nat.reduceMod, Nat.reduceDiv, Int.reduceAdd, Int.reduceSub, Int.reduceMul, Int.reduceLT, Int.reduceLE, Int.reduceEq, Int.reduceNeg, Int.reduceToNat, reduceIte, reduceCtorEq, Int.reduceBEq, Int.reduceBNe, hb5, hb2]
      exact doneN [_, _, _] hg1 w1 m1 hf1 (JmR.own R) ⟨_, by rw [hR], by rw [hR]; exact hq1r⟩
    rw [if_pos hrj] at hR
    have hri := rightJ_iff.1 hrj
    have hml := hri.ml
    by_cases hk : j.marks.length = 1100
    · rw [if_pos (by omega)] at hR
      have e2 : ((j.marks.length : Int) == 1100) = true := by rw [beq_iff_eq]; omega
      simp only [push_cast, Nat.reduceAdd, Nat.reduceSub, Nat.reduceMul, Nat.reduceLT, Nat.reduceLeDiff, Nat.reduceEqDiff, Nat.reduceMod, Nat.reduceDiv, Int.reduceAdd, Int.reduceSub, Int.reduceMul, Int.reduceLT, Int.reduceLE, Int.reduceEq, Int.reduceNeg, Int.reduceToNat, reduceIte, reduceCtorEq, Int.reduceBEq, Int.reduceBNe, hb5, hb2, e2]
      exact doneN [_, _, _] hg1 w1 m1 hf1 (JmR.own R) ⟨_, by rw [hR], by rw [hR]; exact hq1r⟩
    rw [if_neg (by omega)] at hR
    have e2 : ((j.marks.length : Int) == 1100) = false := by rw [beq_eq_false_iff_ne]; omega
    simp only [push_cast, Nat.reduceAdd, Nat.reduceSub, Nat.reduceMul, Nat.reduceLT, Nat.reduceLeDiff, Nat.reduceEqDiff, Nat.reduceMod, Nat.reduceDiv, Int.reduceAdd, Int.reduceSub, Int.reduceMul, Int.reduceLT, Int.reduceLE, Int.reduceEq, Int.reduceNeg, Int.reduceToNat, reduceIte, reduceCtorEq, Int.reduceBEq, Int.reduceBNe, hb5, hb2, e2]
    obtain ⟨vs4, vu4, vm4, Nu, Nm, hve, rfl, hum, ho2, ho3, ho1⟩ := hq1
    injection hve with hve
    injection hve with hve
    simp only [List.cons.injEq, and_true] at hve
    obtain ⟨rfl, rfl, rfl⟩ := hve
    refine WpV.perm (H' := ⟨b5, 0, .cel 37, [.slice p j.state.length k, .slice p' j.undo.length k', .slice p'' j.marks.length k'']⟩ :: ⟨b2, 0, .cel 37, [.slice none 0 0, .slice none 0 0, .slice none 0 0]⟩ :: ⟨b1, 0, .cel 37, [.slice ps j.state.length ks, .slice pu j.undo.length ku, .slice pm j.marks.length km]⟩ :: (Nm ++ (M1 ++ Nu))) ?_ ?_ ?_
    · refine (((?_ : List.Perm _ _).cons _).cons _).cons _
      rw [List.append_assoc]
      exact List.perm_append_comm.trans (by rw [List.append_assoc])
    · simp [marksOf, marks_append, ho2.wr.2, ho3.wr.2, hg1.marks]
    have hfs := freshN_appL.1 hf1
    obtain ⟨M2, hM2⟩ : ∃ M2, M2 = M1 ++ Nu := ⟨_, rfl⟩
    have hg2 : Gr M1 M2 := ⟨hg1.marks, Nu, hM2, ho2.wr.1, ho2.wr.2⟩
    rw [← hM2]
    refine regO gJ1_ok ?_
    simp only [push_cast, Nat.reduceAdd, Nat.reduceSub, Nat.reduceMul, Nat.reduceLT, Nat.reduceLeDiff, Nat.reduceEqDiff, Nat.reduceMod, Nat.reduceDiv, Int.reduceAdd, Int.reduceSub, Int.reduceMul, Int.reduceLT, Int.reduceLE, Int.reduceEq, Int.reduceNeg, Int.reduceToNat, reduceIte, reduceCtorEq, Int.reduceBEq, Int.reduceBNe, hb5, hb2]
    intro bs hbs
    have zs := fresh_app_iff.1 hbs.2.2.2.2.2.2
    refine push_gA (P := Tryz.prog) (c := intC) (x := (j.undo.length : Int)) [_, _, _] (by_ := 8) (q := 1) (ag := false) ho3 ⟨zs.1, (fresh_app_iff.1 q1.1).2, (fresh_app_iff.1 q1.2.1).2, (fresh_app_iff.1 q1.2.2.1).2, trivial⟩ (by simp only [push_cast, Nat.reduceAdd, Nat.reduceSub, Nat.reduceMul, Nat.reduceLT, Nat.reduceLeDiff, Nat.reduceEqDiff, Nat.reduceMod, Nat.reduceDiv, Int.reduceAdd, Int.reduceSub, Int.reduceMul, Int.reduceLT, Int.reduceLE, Int.reduceEq, Int.reduceNeg, Int.reduceToNat, reduceIte, reduceCtorEq, Int.reduceBEq, Int.reduceBNe]) (by simp only [push_cast, Nat.reduceAdd, Nat.reduceSub, Nat.reduceMul, Nat.reduceLT, Nat.reduceLeDiff, Nat.reduceEqDiff, Nat.reduceMod, Nat.reduceDiv, Int.reduceAdd, Int.reduceSub, Int.reduceMul, Int.reduceLT, Int.reduceLE, Int.reduceEq, Int.reduceNeg, Int.reduceToNat, reduceIte, reduceCtorEq, Int.reduceBEq, Int.reduceBNe]) rfl rfl (by unfold two47; omega) fun v3 N3 ho4 hf4 => ?_
    obtain ⟨p3, k3, hv3⟩ := ho4.slice
    subst hv3
    have ho5 := ho4
    rcases ho4 with ⟨r1, -⟩ | ⟨bu, cu, r3, r4, r5, hN3⟩
    · rw [List.length_append] at r1; simp at r1
    obtain ⟨hq3, -⟩ := (show freshN [⟨bu, 0, .vec 3 1 cu, (j.marks ++ [(j.undo.length : Int)]).flatMap intC⟩] _ from hN3 ▸ hf4)
    have hfM2 : freshN N3 M2 := (freshN_mono (A := [_, _, _, _]) hf4).2
    have hfin : JmR R (.tuple #[.agg #[.slice p j.state.length k, .slice p' j.undo.length k', .slice p3 (j.marks ++ [(j.undo.length : Int)]).length k3], .int .i64 j.marks.length, .int .i64 0]) (N3 ++ M2) := by
      rw [hR]
      have hu2 : LiR Ch.cells 31 M2 j.undo (.slice p' j.undo.length k') := by rw [hM2]; exact (ho2.liR rfl rfl M1).congr (cellsAt_swap hfs.1)
      exact ⟨_, rfl, _, _, _, rfl, (ho1.ext hg2.ext).app hfM2, hu2.app hfM2, ho5.liR rfl rfl M2⟩
    rw [hN3]
    have hbu := hq3
    simp only [push_cast, Nat.reduceAdd, Nat.reduceSub, Nat.reduceMul, Nat.reduceLT, Nat.reduceLeDiff, Nat.reduceEqDiff, Nat.reduceMod, Nat.reduceDiv, Int.reduceAdd, Int.reduceSub, Int.reduceMul, Int.reduceLT, Int.reduceLE, Int.reduceEq, Int.reduceNeg, Int.reduceToNat, reduceIte, reduceCtorEq, Int.reduceBEq, Int.reduceBNe] at hbu
    have hl5 : (j.marks ++ [(j.undo.length : Int)]).length = j.marks.length + 1 := by simp
    rw [hl5] at hfin
    simp only [push_cast, Nat.reduceAdd, Nat.reduceSub, Nat.reduceMul, Nat.reduceLT, Nat.reduceLeDiff, Nat.reduceEqDiff, Nat.reduceMod, Nat.reduceDiv, Int.reduceAdd, Int.reduceSub, Int.reduceMul, Int.reduceLT, Int.reduceLE, Int.reduceEq, Int.reduceNeg, Int.reduceToNat, reduceIte, reduceCtorEq, Int.reduceBEq, Int.reduceBNe, hb5, hb2, hbs, hbu, hl5]
    trace_state
    refine doneS (hg1.trans hg2) ho5.wr.1 ho5.wr.2 hfM2 (JmR.own R) hfin ?_
    rw [hN3]
    exact ((((List.Sublist.refl _).cons _).cons _).cons _).cons _ |>.cons_cons _
end Go.Proofs.YtkhpncfgimlleaaGreat
set_option linter.unusedSimpArgs false
set_option linter.unusedVariables false
namespace Go.Proofs.YtkhpncfgimlleaaGreat
open Go Go.Ev Go.Proofs
set_option maxRecDepth 100000
set_option maxHeartbeats 4000000
def plRM : Plans := fun i => if i = 1 then [(0, 9)] else if i = 6 then [(0, 9)] else if i = 7 then [] else Tryz.pl21 i
attribute [push_cast] plRM
theorem refJmark_ok {M : Hp} {j : Jo} {v : Value} (hv : JoR j v M) (hn : j.state.length ≤ 1000000000) (hu : j.undo.length ≤ 1000000000) (hma : j.marks.length ≤ 1000000000000) (hsl : ∀ y ∈ j.state, y.slots.length ≤ 2000) : CallsW Tryz.prog 21 [v] M (fun u N1 H => JmR (markJ j) u (N1 ++ H)) := by
  intro M0 hr he
  have hm := hr.marks
  have hsl' : ∀ y ∈ j.state, y.slots.length ≤ 1000000000000 := fun y hy => by have := hsl y hy; omega
  replace hv := JoR.rd _ _ _ _ he.symm hv
  have hv0 := hv
  obtain ⟨vs, vu, vm, rfl, h1, h2, h3⟩ := hv
  obtain ⟨ps, ks, rfl⟩ := h1.slice
  obtain ⟨pu, ku, rfl⟩ := h2.slice
  obtain ⟨pm, km, rfl⟩ := h3.slice
  obtain ⟨R, hR⟩ : ∃ R, R = markJ j := ⟨_, rfl⟩
  rw [← hR]
  unfold markJ at hR
  refine callsO gJ1_ok Tryz.mix plRM Tryz.func21 rfl Tryz.ntmps21 Tryz.results21 rfl (by first | rfl | assumption) (Nat.le_of_ble_eq_true rfl) (by kernel_rfl) ?_
  simp only [push_cast, Nat.reduceAdd, Nat.reduceSub, Nat.reduceMul, Nat.reduceLT, Nat.reduceLeDiff, Nat.reduceEqDiff, Nat.reduceMod, Nat.reduceDiv, Int.reduceAdd, Int.reduceSub, Int.reduceMul, Int.reduceLT, Int.reduceLE, Int.reduceEq, Int.reduceNeg, Int.reduceToNat, reduceIte, reduceCtorEq, Int.reduceBEq, Int.reduceBNe]
  intro b1 hb1 b2 hb2
  have f1 : fresh b1 M0 := hb1
  have f2 : fresh b2 M0 := hb2.2.2
  refine regO gJ1_ok ?_
  simp only [push_cast, Nat.reduceAdd, Nat.reduceSub, Nat.reduceMul, Nat.reduceLT, Nat.reduceLeDiff, Nat.reduceEqDiff, Nat.reduceMod, Nat.reduceDiv, Int.reduceAdd, Int.reduceSub, Int.reduceMul, Int.reduceLT, Int.reduceLE, Int.reduceEq, Int.reduceNeg, Int.reduceToNat, reduceIte, reduceCtorEq, Int.reduceBEq, Int.reduceBNe, hb2]
  refine useP [_, _] (fun M2 hr2 he2 => refJRight_ok (JoR.rd _ _ _ _ he2.symm hv0) hr2.marks hn (by omega) hma hsl) ⟨f2, f1, trivial⟩ ?_
  cases hrj : rightJ j
  · rw [if_neg (by rw [hrj]; simp)] at hR
    simp only [push_cast, Nat.reduceAdd, Nat.reduceSub, Nat.reduceMul, Nat.reduceLT, Nat.reduceLeDiff, Nat.reduceEqDiff, Nat.reduceMod, Nat.reduceDiv, Int.reduceAdd, Int.reduceSub, Int.reduceMul, Int.reduceLT, Int.reduceLE, Int.reduceEq, Int.reduceNeg, Int.reduceToNat, reduceIte, reduceCtorEq, Int.reduceBEq, Int.reduceBNe, hb2]
    refine useB [_, _] (refJown_ok hv0 hn hu hma hsl') (JoO.rd _ _ _) hm ⟨f2, f1, trivial⟩ fun w Nj M1 hg1 hf1 hL1 w1 m1 hq1 => ?_
    have hq1r := hq1.r hf1
    have hq0 := hq1
    obtain ⟨vs4, vu4, vm4, Nu, Nm, rfl, hNj, hum, ho2, ho3, ho1⟩ := hq1
    obtain ⟨p, k, rfl⟩ := ho1.slice
    obtain ⟨p', k', rfl⟩ := ho2.slice
    obtain ⟨p'', k'', rfl⟩ := ho3.slice
    simp only [push_cast, Nat.reduceAdd, Nat.reduceSub, Nat.reduceMul, Nat.reduceLT, Nat.reduceLeDiff, Nat.reduceEqDiff, Nat.reduceMod, Nat.reduceDiv, Int.reduceAdd, Int.reduceSub, Int.reduceMul, Int.reduceLT, Int.reduceLE, Int.reduceEq, Int.reduceNeg, Int.reduceToNat, reduceIte, reduceCtorEq, Int.reduceBEq, Int.reduceBNe, hb2]
    exact doneN [_, _] hg1 w1 m1 hf1 (JmR.own R) ⟨_, by rw [hR], by rw [hR]; exact hq1r⟩
  rw [if_pos hrj] at hR
  by_cases hk : 1100 ≤ j.marks.length
  · rw [if_pos hk] at hR
    have hk' : (1100 : Int) ≤ (j.marks.length : Int) := by omega
    simp only [push_cast, Nat.reduceAdd, Nat.reduceSub, Nat.reduceMul, Nat.reduceLT, Nat.reduceLeDiff, Nat.reduceEqDiff, Nat.reduceMod, Nat.reduceDiv, Int.reduceAdd, Int.reduceSub, Int.reduceMul, Int.reduceLT, Int.reduceLE, Int.reduceEq, Int.reduceNeg, Int.reduceToNat, reduceIte, reduceCtorEq, Int.reduceBEq, Int.reduceBNe, hb2, hk, hk']
    refine useB [_, _] (refJown_ok hv0 hn hu hma hsl') (JoO.rd _ _ _) hm ⟨f2, f1, trivial⟩ fun w Nj M1 hg1 hf1 hL1 w1 m1 hq1 => ?_
    have hq1r := hq1.r hf1
    have hq0 := hq1
    obtain ⟨vs4, vu4, vm4, Nu, Nm, rfl, hNj, hum, ho2, ho3, ho1⟩ := hq1
    obtain ⟨p, k, rfl⟩ := ho1.slice
    obtain ⟨p', k', rfl⟩ := ho2.slice
    obtain ⟨p'', k'', rfl⟩ := ho3.slice
    simp only [push_cast, Nat.reduceAdd, Nat.reduceSub, Nat.reduceMul, Nat.reduceLT, Nat.reduceLeDiff, Nat.reduceEqDiff, Nat.reduceMod, Nat.reduceDiv, Int.reduceAdd, Int.reduceSub, Int.reduceMul, Int.reduceLT, Int.reduceLE, Int.reduceEq, Int.reduceNeg, Int.reduceToNat, reduceIte, reduceCtorEq, Int.reduceBEq, Int.reduceBNe, hb2]
    exact doneN [_, _] hg1 w1 m1 hf1 (JmR.own R) ⟨_, by rw [hR], by rw [hR]; exact hq1r⟩
  rw [if_neg hk] at hR
  have hk' : ¬ (1100 : Int) ≤ (j.marks.length : Int) := by omega
  simp only [push_cast, Nat.reduceAdd, Nat.reduceSub, Nat.reduceMul, Nat.reduceLT, Nat.reduceLeDiff, Nat.reduceEqDiff, Nat.reduceMod, Nat.reduceDiv, Int.reduceAdd, Int.reduceSub, Int.reduceMul, Int.reduceLT, Int.reduceLE, Int.reduceEq, Int.reduceNeg, Int.reduceToNat, reduceIte, reduceCtorEq, Int.reduceBEq, Int.reduceBNe, hb2, hk, hk']
  refine useB [_, _] (refJown_ok hv0 hn hu hma hsl') (JoO.rd _ _ _) hm ⟨f2, f1, trivial⟩ fun w Nj M1 hg1 hf1 hL1 w1 m1 hq1 => ?_
  have hq1r := hq1.r hf1
  have hq0 := hq1
  obtain ⟨vs4, vu4, vm4, Nu, Nm, rfl, hNj, hum, ho2, ho3, ho1⟩ := hq1
  obtain ⟨p, k, rfl⟩ := ho1.slice
  obtain ⟨p', k', rfl⟩ := ho2.slice
  obtain ⟨p'', k'', rfl⟩ := ho3.slice
  simp only [push_cast, Nat.reduceAdd, Nat.reduceSub, Nat.reduceMul, Nat.reduceLT, Nat.reduceLeDiff, Nat.reduceEqDiff, Nat.reduceMod, Nat.reduceDiv, Int.reduceAdd, Int.reduceSub, Int.reduceMul, Int.reduceLT, Int.reduceLE, Int.reduceEq, Int.reduceNeg, Int.reduceToNat, reduceIte, reduceCtorEq, Int.reduceBEq, Int.reduceBNe, hb2]
  intro b5 hb5
  have x5 := fresh_app_iff.1 hb5.2.2.2.2
  have x2 := fresh_app_iff.1 hL1.1
  have x1 := fresh_app_iff.1 hL1.2.1
  have hfs := freshN_appL.1 (hNj ▸ hf1)
  rw [hNj] at x5 x2 x1 ⊢
  refine WpV.perm (H' := ⟨b5, 0, .cel 37, [.slice p j.state.length k, .slice p' j.undo.length k', .slice p'' j.marks.length k'']⟩ :: ⟨b2, 0, .cel 37, [.slice none 0 0, .slice none 0 0, .slice none 0 0]⟩ :: ⟨b1, 0, .cel 37, [.slice ps j.state.length ks, .slice pu j.undo.length ku, .slice pm j.marks.length km]⟩ :: (Nm ++ (M1 ++ Nu))) ?_ ?_ ?_
  · refine (((?_ : List.Perm _ _).cons _).cons _).cons _
    rw [List.append_assoc]
    exact List.perm_append_comm.trans (by rw [List.append_assoc])
  · simp [marksOf, marks_append, ho2.wr.2, ho3.wr.2, hg1.marks]
  obtain ⟨M2, hM2⟩ : ∃ M2, M2 = M1 ++ Nu := ⟨_, rfl⟩
  have hg2 : Gr M1 M2 := ⟨hg1.marks, Nu, hM2, ho2.wr.1, ho2.wr.2⟩
  rw [← hM2]
  refine regO gJ1_ok ?_
  simp only [push_cast, Nat.reduceAdd, Nat.reduceSub, Nat.reduceMul, Nat.reduceLT, Nat.reduceLeDiff, Nat.reduceEqDiff, Nat.reduceMod, Nat.reduceDiv, Int.reduceAdd, Int.reduceSub, Int.reduceMul, Int.reduceLT, Int.reduceLE, Int.reduceEq, Int.reduceNeg, Int.reduceToNat, reduceIte, reduceCtorEq, Int.reduceBEq, Int.reduceBNe, hb5, hb2]
  intro bs hbs
  have zs := fresh_app_iff.1 hbs.2.2.2.2.2.2
  refine push_gA (P := Tryz.prog) (c := intC) (x := (j.undo.length : Int)) [_, _, _] (by_ := 8) (q := 1) (ag := false) ho3 ⟨zs.1, (fresh_app_iff.1 x5.1).2, (fresh_app_iff.1 x2.1).2, (fresh_app_iff.1 x1.1).2, trivial⟩ (by simp only [push_cast, Nat.reduceAdd, Nat.reduceSub, Nat.reduceMul, Nat.reduceLT, Nat.reduceLeDiff, Nat.reduceEqDiff, Nat.reduceMod, Nat.reduceDiv, Int.reduceAdd, Int.reduceSub, Int.reduceMul, Int.reduceLT, Int.reduceLE, Int.reduceEq, Int.reduceNeg, Int.reduceToNat, reduceIte, reduceCtorEq, Int.reduceBEq, Int.reduceBNe]) (by simp only [push_cast, Nat.reduceAdd, Nat.reduceSub, Nat.reduceMul, Nat.reduceLT, Nat.reduceLeDiff, Nat.reduceEqDiff, Nat.reduceMod, Nat.reduceDiv, Int.reduceAdd, Int.reduceSub, Int.reduceMul, Int.reduceLT, Int.reduceLE, Int.reduceEq, Int.reduceNeg, Int.reduceToNat, reduceIte, reduceCtorEq, Int.reduceBEq, Int.reduceBNe]) rfl rfl (by unfold two47; omega) fun v3 N3 ho4 hf4 => ?_
  obtain ⟨p3, k3, hv3⟩ := ho4.slice
  subst hv3
  have ho5 := ho4
  rcases ho4 with ⟨r1, -⟩ | ⟨bu, cu, r3, r4, r5, hN3⟩
  · rw [List.length_append] at r1; simp at r1
  obtain ⟨hq3, -⟩ := (show freshN [⟨bu, 0, .vec 3 1 cu, (j.marks ++ [(j.undo.length : Int)]).flatMap intC⟩] _ from hN3 ▸ hf4)
  have hfM2 : freshN N3 M2 := (freshN_mono (A := [_, _, _, _]) hf4).2
  have hfin : JmR R (.tuple #[.agg #[.slice p j.state.length k, .slice p' j.undo.length k', .slice p3 (j.marks ++ [(j.undo.length : Int)]).length k3], .int .i64 j.marks.length, .int .i64 0]) (N3 ++ M2) := by
    rw [hR]
    have hu2 : LiR Ch.cells 31 M2 j.undo (.slice p' j.undo.length k') := by rw [hM2]; exact (ho2.liR rfl rfl M1).congr (cellsAt_swap hfs.1)
    exact ⟨_, rfl, _, _, _, rfl, (ho1.ext hg2.ext).app hfM2, hu2.app hfM2, ho5.liR rfl rfl M2⟩
  rw [hN3]
  have hbu := hq3
  simp only [push_cast, Nat.reduceAdd, Nat.reduceSub, Nat.reduceMul, Nat.reduceLT, Nat.reduceLeDiff, Nat.reduceEqDiff, Nat.reduceMod, Nat.reduceDiv, Int.reduceAdd, Int.reduceSub, Int.reduceMul, Int.reduceLT, Int.reduceLE, Int.reduceEq, Int.reduceNeg, Int.reduceToNat, reduceIte, reduceCtorEq, Int.reduceBEq, Int.reduceBNe] at hbu
  have hl5 : (j.marks ++ [(j.undo.length : Int)]).length = j.marks.length + 1 := by simp
  rw [hl5] at hfin
  simp only [push_cast, Nat.reduceAdd, Nat.reduceSub, Nat.reduceMul, Nat.reduceLT, Nat.reduceLeDiff, Nat.reduceEqDiff, Nat.reduceMod, Nat.reduceDiv, Int.reduceAdd, Int.reduceSub, Int.reduceMul, Int.reduceLT, Int.reduceLE, Int.reduceEq, Int.reduceNeg, Int.reduceToNat, reduceIte, reduceCtorEq, Int.reduceBEq, Int.reduceBNe, hb5, hb2, hbs, hbu, hl5]
  refine WpV.perm (H' := [⟨b2, 0, .cel 37, [.slice none 0 0, .slice none 0 0, .slice none 0 0]⟩] ++ (⟨bu, 0, .vec 3 1 cu, (j.marks ++ [(j.undo.length : Int)]).flatMap intC⟩ :: ⟨bs, 0, .vec 3 1 1, intC (j.undo.length : Int)⟩ :: ⟨b5, 0, .cel 37, [.slice p j.state.length k, .slice p' j.undo.length k', .slice p3 (j.marks.length + 1) k3]⟩ :: ⟨b1, 0, .cel 37, [.slice ps j.state.length ks, .slice pu j.undo.length ku, .slice pm j.marks.length km]⟩ :: M2)) ?_ ?_ ?_
  · exact List.perm_middle (l₁ := [⟨bu, 0, .vec 3 1 cu, (j.marks ++ [(j.undo.length : Int)]).flatMap intC⟩, ⟨bs, 0, .vec 3 1 1, intC (j.undo.length : Int)⟩, ⟨b5, 0, .cel 37, [.slice p j.state.length k, .slice p' j.undo.length k', .slice p3 (j.marks.length + 1) k3]⟩]) (l₂ := ⟨b1, 0, .cel 37, [.slice ps j.state.length ks, .slice pu j.undo.length ku, .slice pm j.marks.length km]⟩ :: M2)
  · simp [marksOf]
  have fE1 : findE (⟨bu, 0, .vec 3 1 cu, (j.marks ++ [(j.undo.length : Int)]).flatMap intC⟩ :: ⟨bs, 0, .vec 3 1 1, intC (j.undo.length : Int)⟩ :: ⟨b5, 0, .cel 37, [.slice p j.state.length k, .slice p' j.undo.length k', .slice p3 (j.marks.length + 1) k3]⟩ :: ⟨b1, 0, .cel 37, [.slice ps j.state.length ks, .slice pu j.undo.length ku, .slice pm j.marks.length km]⟩ :: M2) b1 = some ⟨b1, 0, .cel 37, [.slice ps j.state.length ks, .slice pu j.undo.length ku, .slice pm j.marks.length km]⟩ := by
    simp only [push_cast, Nat.reduceAdd, Nat.reduceSub, Nat.reduceMul, Nat.reduceLT, Nat.reduceLeDiff, Nat.reduceEqDiff, Nat.reduceMod, Nat.reduceDiv, Int.reduceAdd, Int.reduceSub, Int.reduceMul, Int.reduceLT, Int.reduceLE, Int.reduceEq, Int.reduceNeg, Int.reduceToNat, reduceIte, reduceCtorEq, Int.reduceBEq, Int.reduceBNe, hb2, hb5, hbs, hbu]
  have fE5 : findE (⟨bu, 0, .vec 3 1 cu, (j.marks ++ [(j.undo.length : Int)]).flatMap intC⟩ :: ⟨bs, 0, .vec 3 1 1, intC (j.undo.length : Int)⟩ :: ⟨b5, 0, .cel 37, [.slice p j.state.length k, .slice p' j.undo.length k', .slice p3 (j.marks.length + 1) k3]⟩ :: ⟨b1, 0, .cel 37, [.slice ps j.state.length ks, .slice pu j.undo.length ku, .slice pm j.marks.length km]⟩ :: M2) b5 = some ⟨b5, 0, .cel 37, [.slice p j.state.length k, .slice p' j.undo.length k', .slice p3 (j.marks.length + 1) k3]⟩ := by
    simp only [push_cast, Nat.reduceAdd, Nat.reduceSub, Nat.reduceMul, Nat.reduceLT, Nat.reduceLeDiff, Nat.reduceEqDiff, Nat.reduceMod, Nat.reduceDiv, Int.reduceAdd, Int.reduceSub, Int.reduceMul, Int.reduceLT, Int.reduceLE, Int.reduceEq, Int.reduceNeg, Int.reduceToNat, reduceIte, reduceCtorEq, Int.reduceBEq, Int.reduceBNe, hb2, hb5, hbs, hbu]
  refine drawZ gJ1_ok Tryz.mix [(1, .pointer (some ⟨b1, 0, none⟩)), (2, .pointer (some ⟨b2, 0, none⟩)), (5, .pointer (some ⟨b5, 0, none⟩))]
      (fun i val => match i with
        | 0 => val 0 = .agg #[.slice p j.state.length k, .slice p' j.undo.length k', .slice p3 (j.marks.length + 1) k3]
        | 1 => val 1 = .pointer (some ⟨b1, 2, none⟩)
        | 2 => val 2 = .slice pm j.marks.length km
        | 3 => val 3 = .int .i64 j.marks.length
        | 5 => val 5 = .int .i64 j.marks.length
        | 6 => val 6 = .int .i64 0
        | _ => True)
      (fun i val N => match i with
        | 4 => N = [⟨b2, 0, .cel 37, [.slice p j.state.length k, .slice p' j.undo.length k', .slice p3 (j.marks.length + 1) k3]⟩]
        | _ => N = []) (fun i => []) [4] [⟨b2, 0, .cel 37, [.slice none 0 0, .slice none 0 0, .slice none 0 0]⟩] 4 ⟨trivial, trivial⟩ rfl (by decide) (by kernel_rfl) (by kernel_rfl) (by kernel_rfl) ?_ (by rfl) (by decide) (by kernel_rfl) ?_ ?_ ?_ ?_ ?_
  · simp only [push_cast, Nat.reduceAdd, Nat.reduceSub, Nat.reduceMul, Nat.reduceLT, Nat.reduceLeDiff, Nat.reduceEqDiff, Nat.reduceMod, Nat.reduceDiv, Int.reduceAdd, Int.reduceSub, Int.reduceMul, Int.reduceLT, Int.reduceLE, Int.reduceEq, Int.reduceNeg, Int.reduceToNat, reduceIte, reduceCtorEq, Int.reduceBEq, Int.reduceBNe, subT]
  · intro i hi hiF
    replace hi : i < 7 := hi
    obtain rfl | rfl | rfl | rfl | rfl | rfl | rfl : i = 0 ∨ i = 1 ∨ i = 2 ∨ i = 3 ∨ i = 4 ∨ i = 5 ∨ i = 6 := by omega
    all_goals first
      | exact .inl fun _ _ h => h
      | exact absurd (by decide) hiF
      | exact .inr (by kernel_rfl)
  · intro i o ho val val' h1 h2 hV
    have hi := (Array.getElem?_eq_some_iff.1 ho).1
    replace hi : i < 7 := hi
    obtain rfl | rfl | rfl | rfl | rfl | rfl | rfl : i = 0 ∨ i = 1 ∨ i = 2 ∨ i = 3 ∨ i = 4 ∨ i = 5 ∨ i = 6 := by omega
    · first
        | exact trivial
        | exact hV
        | exact h1.trans hV
        | (rw [h1]; exact hV)
    · first
        | exact trivial
        | exact hV
        | exact h1.trans hV
        | (rw [h1]; exact hV)
    · first
        | exact trivial
        | exact hV
        | exact h1.trans hV
        | (rw [h1]; exact hV)
    · first
        | exact trivial
        | exact hV
        | exact h1.trans hV
        | (rw [h1]; exact hV)
    · first
        | exact trivial
        | exact hV
        | exact h1.trans hV
        | (rw [h1]; exact hV)
    · first
        | exact trivial
        | exact hV
        | exact h1.trans hV
        | (rw [h1]; exact hV)
    · first
        | exact trivial
        | exact hV
        | exact h1.trans hV
        | (rw [h1]; exact hV)
  · intro i o ho val val' N h1 h2 hQ
    have hi := (Array.getElem?_eq_some_iff.1 ho).1
    replace hi : i < 7 := hi
    obtain rfl | rfl | rfl | rfl | rfl | rfl | rfl : i = 0 ∨ i = 1 ∨ i = 2 ∨ i = 3 ∨ i = 4 ∨ i = 5 ∨ i = 6 := by omega
    · first
        | exact trivial
        | exact hQ
        | exact h1.trans hQ
        | (rw [h1]; exact hQ)
    · first
        | exact trivial
        | exact hQ
        | exact h1.trans hQ
        | (rw [h1]; exact hQ)
    · first
        | exact trivial
        | exact hQ
        | exact h1.trans hQ
        | (rw [h1]; exact hQ)
    · first
        | exact trivial
        | exact hQ
        | exact h1.trans hQ
        | (rw [h1]; exact hQ)
    · first
        | exact trivial
        | exact hQ
        | exact h1.trans hQ
        | (rw [h1]; exact hQ)
    · first
        | exact trivial
        | exact hQ
        | exact h1.trans hQ
        | (rw [h1]; exact hQ)
    · first
        | exact trivial
        | exact hQ
        | exact h1.trans hQ
        | (rw [h1]; exact hQ)
  · intro i o ho T' Y val mem hT hdep hus hfr hY hmY hapY
    have hi := (Array.getElem?_eq_some_iff.1 ho).1
    replace hi : i < 7 := hi
    have y1 := hY _ _ fE1
    have y5 := hY _ _ fE5
    have t1 : getT T' 1 = some (.pointer (some ⟨b1, 0, none⟩)) := hT.1
    have t2 : getT T' 2 = some (.pointer (some ⟨b2, 0, none⟩)) := hT.2.1
    have t5 : getT T' 5 = some (.pointer (some ⟨b5, 0, none⟩)) := hT.2.2.1
    obtain rfl | rfl | rfl | rfl | rfl | rfl | rfl : i = 0 ∨ i = 1 ∨ i = 2 ∨ i = 3 ∨ i = 4 ∨ i = 5 ∨ i = 6 := by omega
    · simp only [List.getElem?_toArray, List.getElem?_cons_zero, List.getElem?_cons_succ, Option.some.injEq] at ho; subst ho
      simp only [push_cast, Nat.reduceAdd, Nat.reduceSub, Nat.reduceMul, Nat.reduceLT, Nat.reduceLeDiff, Nat.reduceEqDiff, Nat.reduceMod, Nat.reduceDiv, Int.reduceAdd, Int.reduceSub, Int.reduceMul, Int.reduceLT, Int.reduceLE, Int.reduceEq, Int.reduceNeg, Int.reduceToNat, reduceIte, reduceCtorEq, Int.reduceBEq, Int.reduceBNe, List.flatMap_nil, List.flatMap_cons, List.append_nil, List.nil_append, t5, y5]
      exact ⟨[], rfl, trivial, rfl, upd_self _ _ _, rfl⟩
    · simp only [List.getElem?_toArray, List.getElem?_cons_zero, List.getElem?_cons_succ, Option.some.injEq] at ho; subst ho
      simp only [push_cast, Nat.reduceAdd, Nat.reduceSub, Nat.reduceMul, Nat.reduceLT, Nat.reduceLeDiff, Nat.reduceEqDiff, Nat.reduceMod, Nat.reduceDiv, Int.reduceAdd, Int.reduceSub, Int.reduceMul, Int.reduceLT, Int.reduceLE, Int.reduceEq, Int.reduceNeg, Int.reduceToNat, reduceIte, reduceCtorEq, Int.reduceBEq, Int.reduceBNe, List.flatMap_nil, List.flatMap_cons, List.append_nil, List.nil_append, t1]
      exact ⟨[], rfl, trivial, rfl, upd_self _ _ _, rfl⟩
    · simp only [List.getElem?_toArray, List.getElem?_cons_zero, List.getElem?_cons_succ, Option.some.injEq] at ho; subst ho
      obtain ⟨v1, g1⟩ := hdep 1 (by kernel_rfl)
      replace g1 := g1 28 rfl
      rw [show val 1 = _ from v1] at g1
      simp only [push_cast, Nat.reduceAdd, Nat.reduceSub, Nat.reduceMul, Nat.reduceLT, Nat.reduceLeDiff, Nat.reduceEqDiff, Nat.reduceMod, Nat.reduceDiv, Int.reduceAdd, Int.reduceSub, Int.reduceMul, Int.reduceLT, Int.reduceLE, Int.reduceEq, Int.reduceNeg, Int.reduceToNat, reduceIte, reduceCtorEq, Int.reduceBEq, Int.reduceBNe, List.flatMap_nil, List.flatMap_cons, List.append_nil, List.nil_append, g1, y1]
      exact ⟨[], rfl, trivial, rfl, upd_self _ _ _, rfl⟩
    · simp only [List.getElem?_toArray, List.getElem?_cons_zero, List.getElem?_cons_succ, Option.some.injEq] at ho; subst ho
      obtain ⟨v2, g2⟩ := hdep 2 (by kernel_rfl)
      replace g2 := g2 29 rfl
      rw [show val 2 = _ from v2] at g2
      simp only [push_cast, Nat.reduceAdd, Nat.reduceSub, Nat.reduceMul, Nat.reduceLT, Nat.reduceLeDiff, Nat.reduceEqDiff, Nat.reduceMod, Nat.reduceDiv, Int.reduceAdd, Int.reduceSub, Int.reduceMul, Int.reduceLT, Int.reduceLE, Int.reduceEq, Int.reduceNeg, Int.reduceToNat, reduceIte, reduceCtorEq, Int.reduceBEq, Int.reduceBNe, List.flatMap_nil, List.flatMap_cons, List.append_nil, List.nil_append, g2]
      exact ⟨[], rfl, trivial, rfl, upd_self _ _ _, rfl⟩
    · simp only [List.getElem?_toArray, List.getElem?_cons_zero, List.getElem?_cons_succ, Option.some.injEq] at ho; subst ho
      obtain ⟨v0, g0⟩ := hdep 0 (by kernel_rfl)
      replace g0 := g0 27 rfl
      rw [show val 0 = _ from v0] at g0
      simp only [push_cast, Nat.reduceAdd, Nat.reduceSub, Nat.reduceMul, Nat.reduceLT, Nat.reduceLeDiff, Nat.reduceEqDiff, Nat.reduceMod, Nat.reduceDiv, Int.reduceAdd, Int.reduceSub, Int.reduceMul, Int.reduceLT, Int.reduceLE, Int.reduceEq, Int.reduceNeg, Int.reduceToNat, reduceIte, reduceCtorEq, Int.reduceBEq, Int.reduceBNe, List.flatMap_nil, List.flatMap_cons, List.append_nil, List.nil_append, g0, t2]
      exact ⟨[_], rfl, ⟨trivial, trivial⟩, rfl, rfl⟩
    · simp only [List.getElem?_toArray, List.getElem?_cons_zero, List.getElem?_cons_succ, Option.some.injEq] at ho; subst ho
      obtain ⟨v3, g3⟩ := hdep 3 (by kernel_rfl)
      replace g3 := g3 30 rfl
      rw [show val 3 = _ from v3] at g3
      simp only [push_cast, Nat.reduceAdd, Nat.reduceSub, Nat.reduceMul, Nat.reduceLT, Nat.reduceLeDiff, Nat.reduceEqDiff, Nat.reduceMod, Nat.reduceDiv, Int.reduceAdd, Int.reduceSub, Int.reduceMul, Int.reduceLT, Int.reduceLE, Int.reduceEq, Int.reduceNeg, Int.reduceToNat, reduceIte, reduceCtorEq, Int.reduceBEq, Int.reduceBNe, List.flatMap_nil, List.flatMap_cons, List.append_nil, List.nil_append, g3]
      exact ⟨[], rfl, trivial, rfl, upd_self _ _ _, rfl⟩
    · simp only [List.getElem?_toArray, List.getElem?_cons_zero, List.getElem?_cons_succ, Option.some.injEq] at ho; subst ho
      simp only [push_cast, Nat.reduceAdd, Nat.reduceSub, Nat.reduceMul, Nat.reduceLT, Nat.reduceLeDiff, Nat.reduceEqDiff, Nat.reduceMod, Nat.reduceDiv, Int.reduceAdd, Int.reduceSub, Int.reduceMul, Int.reduceLT, Int.reduceLE, Int.reduceEq, Int.reduceNeg, Int.reduceToNat, reduceIte, reduceCtorEq, Int.reduceBEq, Int.reduceBNe, List.flatMap_nil, List.flatMap_cons, List.append_nil, List.nil_append]
      exact ⟨[], rfl, trivial, rfl, upd_self _ _ _, rfl⟩
  · intro val mem hV hQ hap hwr
    have hN : mem 4 = [⟨b2, 0, .cel 37, [.slice p j.state.length k, .slice p' j.undo.length k', .slice p3 (j.marks.length + 1) k3]⟩] := hQ 4 (by decide)
    have v5 : val 5 = .int .i64 j.marks.length := hV 5 (by decide)
    have v6 : val 6 = .int .i64 0 := hV 6 (by decide)
    have hMM : List.flatMap mem [4] ++ (⟨bu, 0, .vec 3 1 cu, (j.marks ++ [(j.undo.length : Int)]).flatMap intC⟩ :: ⟨bs, 0, .vec 3 1 1, intC (j.undo.length : Int)⟩ :: ⟨b5, 0, .cel 37, [.slice p j.state.length k, .slice p' j.undo.length k', .slice p3 (j.marks.length + 1) k3]⟩ :: ⟨b1, 0, .cel 37, [.slice ps j.state.length ks, .slice pu j.undo.length ku, .slice pm j.marks.length km]⟩ :: M2) = ⟨b2, 0, .cel 37, [.slice p j.state.length k, .slice p' j.undo.length k', .slice p3 (j.marks.length + 1) k3]⟩ :: ⟨bu, 0, .vec 3 1 cu, (j.marks ++ [(j.undo.length : Int)]).flatMap intC⟩ :: ⟨bs, 0, .vec 3 1 1, intC (j.undo.length : Int)⟩ :: ⟨b5, 0, .cel 37, [.slice p j.state.length k, .slice p' j.undo.length k', .slice p3 (j.marks.length + 1) k3]⟩ :: ⟨b1, 0, .cel 37, [.slice ps j.state.length ks, .slice pu j.undo.length ku, .slice pm j.marks.length km]⟩ :: M2 := by
      simp only [List.flatMap_cons, List.flatMap_nil, List.append_nil, hN, List.cons_append, List.nil_append]
    rw [hMM]
    simp only [push_cast, Nat.reduceAdd, Nat.reduceSub, Nat.reduceMul, Nat.reduceLT, Nat.reduceLeDiff, Nat.reduceEqDiff, Nat.reduceMod, Nat.reduceDiv, Int.reduceAdd, Int.reduceSub, Int.reduceMul, Int.reduceLT, Int.reduceLE, Int.reduceEq, Int.reduceNeg, Int.reduceToNat, reduceIte, reduceCtorEq, Int.reduceBEq, Int.reduceBNe, v5, v6, hb5, hb2, hbs, hbu, hl5]
    refine doneS (hg1.trans hg2) ho5.wr.1 ho5.wr.2 hfM2 (JmR.own R) hfin ?_
    rw [hN3]
    exact (((((List.Sublist.refl _).cons _).cons _).cons _).cons_cons _).cons _
end Go.Proofs.YtkhpncfgimlleaaGreat
