/- Texts of this claim, merged by program: Jn Jo Jp Va Vb Vc Vd Rn Ve Vf Vg. -/
import Derived.Test.YtkhpncfgimlleaaZaAq
import Derived.Test.YtkhpncfgimlleaaZaAh
set_option linter.unusedSimpArgs false
set_option linter.unusedVariables false
namespace Go.Ev
def JmR (r : Jo × Int × Int) : Value → Hp → Prop := fun v H => ∃ w, v = .tuple #[w, .int .i64 r.2.1, .int .i64 r.2.2] ∧ JoR r.1 w H
theorem JmR.rd (r : Jo × Int × Int) : RdOnly (JmR r) := by
  rintro v A B h ⟨w, rfl, h1⟩
  exact ⟨w, rfl, JoR.rd _ _ _ _ h h1⟩
theorem JmR.own (r : Jo × Int × Int) : RdOwn (fun v N1 H => JmR r v (N1 ++ H)) := fun _ N1 _ _ h hq => JmR.rd _ _ _ _ (cellsAt_front N1 h) hq
end Go.Ev
namespace Go.Proofs.Ytkhpncfgimlleaa
open Go Go.Ev Go.Proofs
set_option maxRecDepth 100000
set_option maxHeartbeats 4000000
def plMk : Plans := fun i => if i = 1 then [] else if i = 2 then [(0, 9)] else if i = 6 then [(0, 9)] else Try.pl7 i
attribute [push_cast] plMk
theorem jmark_ok {M : Hp} {j : Jo} {v : Value} (hv : JoR j v M) (hn : j.state.length ≤ 1000000000) (hu : j.undo.length ≤ 1000000000) (hma : j.marks.length ≤ 1000000000000) (hsl : ∀ y ∈ j.state, y.slots.length ≤ 1000000000000) : CallsW Try.prog 7 [v] M (fun u N1 H => JmR (markJ j) u (N1 ++ H)) := by
  intro M0 hr he
  have hm := hr.marks
  replace hv := JoR.rd _ _ _ _ he.symm hv
  have hv0 := hv
  obtain ⟨vs, vu, vm, rfl, h1, h2, h3⟩ := hv
  obtain ⟨ps, ks, rfl⟩ := h1.slice
  obtain ⟨pu, ku, rfl⟩ := h2.slice
  obtain ⟨pm, km, rfl⟩ := h3.slice
  obtain ⟨R, hR⟩ : ∃ R, R = markJ j := ⟨_, rfl⟩
  rw [← hR]
  unfold markJ at hR
  refine callsO gJ1_ok Try.mix plMk Try.func7 rfl Try.ntmps7 Try.results7 rfl (by first | rfl | assumption) (Nat.le_of_ble_eq_true rfl) (by kernel_rfl) ?_
  simp only [push_cast, Nat.reduceAdd, Nat.reduceSub, Nat.reduceMul, Nat.reduceLT, Nat.reduceLeDiff, Nat.reduceEqDiff, Nat.reduceMod, Nat.reduceDiv, Int.reduceAdd, Int.reduceSub, Int.reduceMul, Int.reduceLT, Int.reduceLE, Int.reduceEq, Int.reduceNeg, Int.reduceToNat, reduceIte, reduceCtorEq, Int.reduceBEq, Int.reduceBNe]
  intro b1 hb1 b2 hb2
  have f1 : fresh b1 M0 := hb1
  have f2 : fresh b2 M0 := hb2.2.2
  have fE1 : findE (⟨b2, 0, .cel 29, [.slice none 0 0, .slice none 0 0, .slice none 0 0]⟩ :: ⟨b1, 0, .cel 29, [.slice ps j.state.length ks, .slice pu j.undo.length ku, .slice pm j.marks.length km]⟩ :: M0) b1 = some ⟨b1, 0, .cel 29, [.slice ps j.state.length ks, .slice pu j.undo.length ku, .slice pm j.marks.length km]⟩ := by
    simp only [push_cast, Nat.reduceAdd, Nat.reduceSub, Nat.reduceMul, Nat.reduceLT, Nat.reduceLeDiff, Nat.reduceEqDiff, Nat.reduceMod, Nat.reduceDiv, Int.reduceAdd, Int.reduceSub, Int.reduceMul, Int.reduceLT, Int.reduceLE, Int.reduceEq, Int.reduceNeg, Int.reduceToNat, reduceIte, reduceCtorEq, Int.reduceBEq, Int.reduceBNe, hb2]
  refine drawS gJ1_ok Try.mix [(1, .pointer (some ⟨b1, 0, none⟩)), (2, .pointer (some ⟨b2, 0, none⟩)), (3, .int .i64 0), (4, .int .i64 0)]
      (fun i val => match i with
        | 0 => val 0 = .agg #[.slice ps j.state.length ks, .slice pu j.undo.length ku, .slice pm j.marks.length km]
        | 1 => ∃ p k p' k' p'' k'', val 1 = .agg #[.slice p j.state.length k, .slice p' j.undo.length k', .slice p'' j.marks.length k'']
        | 2 => val 2 = .pointer (some ⟨b1, 2, none⟩)
        | 3 => val 3 = .slice pm j.marks.length km
        | 4 => val 4 = .int .i64 j.marks.length
        | 5 => ∃ b, val 5 = .pointer (some ⟨b, 0, none⟩)
        | 7 => val 7 = .int .i64 j.marks.length
        | _ => True)
      (fun i val N => match i with
        | 1 => ∃ N1 N2, N = N1 ++ N2 ∧ allWr N1 ∧ marksOf N1 = [] ∧ allWr N2 ∧ marksOf N2 = [] ∧ freshN N1 N2 ∧ JoO 42 3 j (val 1) N1 (N2 ++ M0)
        | 5 => ∃ b, val 5 = .pointer (some ⟨b, 0, none⟩) ∧ N = [⟨b, 0, .cel 29, [.slice none 0 0, .slice none 0 0, .slice none 0 0]⟩]
        | 6 => ∃ b p k p' k' p'' k'', val 5 = .pointer (some ⟨b, 0, none⟩) ∧ val 1 = .agg #[.slice p j.state.length k, .slice p' j.undo.length k', .slice p'' j.marks.length k''] ∧ N = [⟨b, 0, .cel 29, [.slice p j.state.length k, .slice p' j.undo.length k', .slice p'' j.marks.length k'']⟩]
        | _ => N = []) (fun i => if i = 6 then [5] else []) [1, 6] (by kernel_rfl) (by kernel_rfl) (by kernel_rfl) ?_ (by rfl) (by decide) (by kernel_rfl) ?_ ?_ ?_ ?_ ?_
  · simp only [push_cast, Nat.reduceAdd, Nat.reduceSub, Nat.reduceMul, Nat.reduceLT, Nat.reduceLeDiff, Nat.reduceEqDiff, Nat.reduceMod, Nat.reduceDiv, Int.reduceAdd, Int.reduceSub, Int.reduceMul, Int.reduceLT, Int.reduceLE, Int.reduceEq, Int.reduceNeg, Int.reduceToNat, reduceIte, reduceCtorEq, Int.reduceBEq, Int.reduceBNe, subT]
  · intro i hi hiF
    replace hi : i < 8 := hi
    obtain rfl | rfl | rfl | rfl | rfl | rfl | rfl | rfl : i = 0 ∨ i = 1 ∨ i = 2 ∨ i = 3 ∨ i = 4 ∨ i = 5 ∨ i = 6 ∨ i = 7 := by omega
    all_goals first
      | exact .inl fun _ _ h => h
      | exact absurd (by decide) hiF
      | exact .inr (by kernel_rfl)
  · intro i o ho val val' h1 h2 hV
    have hi := (Array.getElem?_eq_some_iff.1 ho).1
    replace hi : i < 8 := hi
    obtain rfl | rfl | rfl | rfl | rfl | rfl | rfl | rfl : i = 0 ∨ i = 1 ∨ i = 2 ∨ i = 3 ∨ i = 4 ∨ i = 5 ∨ i = 6 ∨ i = 7 := by omega
    · first
        | exact trivial
        | exact hV
        | exact h1.trans hV
        | (rw [h1]; exact hV)
    · first
        | exact trivial
        | exact hV
        | exact h1.trans hV
        | (rw [h1]; exact hV)
    · first
        | exact trivial
        | exact hV
        | exact h1.trans hV
        | (rw [h1]; exact hV)
    · first
        | exact trivial
        | exact hV
        | exact h1.trans hV
        | (rw [h1]; exact hV)
    · first
        | exact trivial
        | exact hV
        | exact h1.trans hV
        | (rw [h1]; exact hV)
    · first
        | exact trivial
        | exact hV
        | exact h1.trans hV
        | (rw [h1]; exact hV)
    · first
        | exact trivial
        | exact hV
        | exact h1.trans hV
        | (rw [h1]; exact hV)
    · first
        | exact trivial
        | exact hV
        | exact h1.trans hV
        | (rw [h1]; exact hV)
  · intro i o ho val val' N h1 h2 hQ
    have hi := (Array.getElem?_eq_some_iff.1 ho).1
    replace hi : i < 8 := hi
    obtain rfl | rfl | rfl | rfl | rfl | rfl | rfl | rfl : i = 0 ∨ i = 1 ∨ i = 2 ∨ i = 3 ∨ i = 4 ∨ i = 5 ∨ i = 6 ∨ i = 7 := by omega
    · first
        | exact trivial
        | exact hQ
        | exact h1.trans hQ
        | (rw [h1]; exact hQ)
    · first
        | exact trivial
        | exact hQ
        | exact h1.trans hQ
        | (rw [h1]; exact hQ)
    · first
        | exact trivial
        | exact hQ
        | exact h1.trans hQ
        | (rw [h1]; exact hQ)
    · first
        | exact trivial
        | exact hQ
        | exact h1.trans hQ
        | (rw [h1]; exact hQ)
    · first
        | exact trivial
        | exact hQ
        | exact h1.trans hQ
        | (rw [h1]; exact hQ)
    · first
        | exact trivial
        | exact hQ
        | exact h1.trans hQ
        | (rw [h1]; exact hQ)
    · simp only [List.getElem?_toArray, List.getElem?_cons_zero, List.getElem?_cons_succ, Option.some.injEq] at ho; subst ho
      have e1 := h2 1 (by kernel_rfl)
      have e5 := h2 5 (by kernel_rfl)
      rw [e1, e5]
      exact hQ
    · first
        | exact trivial
        | exact hQ
        | exact h1.trans hQ
        | (rw [h1]; exact hQ)
  · intro i o ho T' Y val mem hT hdep hus hfr hY hmY hapY
    have hi := (Array.getElem?_eq_some_iff.1 ho).1
    replace hi : i < 8 := hi
    have y1 := hY _ _ fE1
    have hM0Y : ∀ b e, findE M0 b = some e → findE Y b = some e := fun b e h => hY b e (find_behind (L := [_, _]) ⟨f2, f1, trivial⟩ b e h)
    have t1 : getT T' 1 = some (.pointer (some ⟨b1, 0, none⟩)) := hT.1
    obtain rfl | rfl | rfl | rfl | rfl | rfl | rfl | rfl : i = 0 ∨ i = 1 ∨ i = 2 ∨ i = 3 ∨ i = 4 ∨ i = 5 ∨ i = 6 ∨ i = 7 := by omega
    · simp only [List.getElem?_toArray, List.getElem?_cons_zero, List.getElem?_cons_succ, Option.some.injEq] at ho; subst ho
      simp only [push_cast, Nat.reduceAdd, Nat.reduceSub, Nat.reduceMul, Nat.reduceLT, Nat.reduceLeDiff, Nat.reduceEqDiff, Nat.reduceMod, Nat.reduceDiv, Int.reduceAdd, Int.reduceSub, Int.reduceMul, Int.reduceLT, Int.reduceLE, Int.reduceEq, Int.reduceNeg, Int.reduceToNat, reduceIte, reduceCtorEq, Int.reduceBEq, Int.reduceBNe, List.flatMap_nil, List.flatMap_cons, List.append_nil, List.nil_append, t1, y1]
      exact ⟨[], rfl, trivial, rfl, upd_self _ _ _, rfl⟩
    · simp only [List.getElem?_toArray, List.getElem?_cons_zero, List.getElem?_cons_succ, Option.some.injEq] at ho; subst ho
      obtain ⟨v0, g0⟩ := hdep 0 (by kernel_rfl)
      replace g0 := g0 7 rfl
      rw [show val 0 = _ from v0] at g0
      simp only [push_cast, Nat.reduceAdd, Nat.reduceSub, Nat.reduceMul, Nat.reduceLT, Nat.reduceLeDiff, Nat.reduceEqDiff, Nat.reduceMod, Nat.reduceDiv, Int.reduceAdd, Int.reduceSub, Int.reduceMul, Int.reduceLT, Int.reduceLE, Int.reduceEq, Int.reduceNeg, Int.reduceToNat, reduceIte, reduceCtorEq, Int.reduceBEq, Int.reduceBNe, List.flatMap_nil, List.flatMap_cons, List.append_nil, List.nil_append, g0]
      refine callSW (M := M0) (jown_ok hv0 hn hu hma hsl) (JoO.rd _ _ _) hM0Y fun w N1 N2 w1 m1 w2 m2 f12 f1 f2 hq => ⟨N1 ++ N2, rfl, allWr_app w1 w2, by rw [marks_append, m1, m2]; rfl, ?_, ?_⟩
      · obtain ⟨vs, vu, vm, Nu, Nm, rfl, -, -, o2, o3, o1⟩ := hq
        obtain ⟨p, k, rfl⟩ := o1.slice
        obtain ⟨p', k', rfl⟩ := o2.slice
        obtain ⟨p'', k'', rfl⟩ := o3.slice
        exact ⟨p, k, p', k', p'', k'', by rw [upd_self]⟩
      · rw [upd_self]; exact ⟨N1, N2, rfl, w1, m1, w2, m2, f12, hq⟩
    · simp only [List.getElem?_toArray, List.getElem?_cons_zero, List.getElem?_cons_succ, Option.some.injEq] at ho; subst ho
      simp only [push_cast, Nat.reduceAdd, Nat.reduceSub, Nat.reduceMul, Nat.reduceLT, Nat.reduceLeDiff, Nat.reduceEqDiff, Nat.reduceMod, Nat.reduceDiv, Int.reduceAdd, Int.reduceSub, Int.reduceMul, Int.reduceLT, Int.reduceLE, Int.reduceEq, Int.reduceNeg, Int.reduceToNat, reduceIte, reduceCtorEq, Int.reduceBEq, Int.reduceBNe, List.flatMap_nil, List.flatMap_cons, List.append_nil, List.nil_append, t1]
      exact ⟨[], rfl, trivial, rfl, upd_self _ _ _, rfl⟩
    · simp only [List.getElem?_toArray, List.getElem?_cons_zero, List.getElem?_cons_succ, Option.some.injEq] at ho; subst ho
      obtain ⟨v2, g2⟩ := hdep 2 (by kernel_rfl)
      replace g2 := g2 9 rfl
      rw [show val 2 = _ from v2] at g2
      simp only [push_cast, Nat.reduceAdd, Nat.reduceSub, Nat.reduceMul, Nat.reduceLT, Nat.reduceLeDiff, Nat.reduceEqDiff, Nat.reduceMod, Nat.reduceDiv, Int.reduceAdd, Int.reduceSub, Int.reduceMul, Int.reduceLT, Int.reduceLE, Int.reduceEq, Int.reduceNeg, Int.reduceToNat, reduceIte, reduceCtorEq, Int.reduceBEq, Int.reduceBNe, List.flatMap_nil, List.flatMap_cons, List.append_nil, List.nil_append, g2, y1]
      exact ⟨[], rfl, trivial, rfl, upd_self _ _ _, rfl⟩
    · simp only [List.getElem?_toArray, List.getElem?_cons_zero, List.getElem?_cons_succ, Option.some.injEq] at ho; subst ho
      obtain ⟨v3, g3⟩ := hdep 3 (by kernel_rfl)
      replace g3 := g3 10 rfl
      rw [show val 3 = _ from v3] at g3
      simp only [push_cast, Nat.reduceAdd, Nat.reduceSub, Nat.reduceMul, Nat.reduceLT, Nat.reduceLeDiff, Nat.reduceEqDiff, Nat.reduceMod, Nat.reduceDiv, Int.reduceAdd, Int.reduceSub, Int.reduceMul, Int.reduceLT, Int.reduceLE, Int.reduceEq, Int.reduceNeg, Int.reduceToNat, reduceIte, reduceCtorEq, Int.reduceBEq, Int.reduceBNe, List.flatMap_nil, List.flatMap_cons, List.append_nil, List.nil_append, g3]
      exact ⟨[], rfl, trivial, rfl, upd_self _ _ _, rfl⟩
    · simp only [List.getElem?_toArray, List.getElem?_cons_zero, List.getElem?_cons_succ, Option.some.injEq] at ho; subst ho
      simp only [push_cast, Nat.reduceAdd, Nat.reduceSub, Nat.reduceMul, Nat.reduceLT, Nat.reduceLeDiff, Nat.reduceEqDiff, Nat.reduceMod, Nat.reduceDiv, Int.reduceAdd, Int.reduceSub, Int.reduceMul, Int.reduceLT, Int.reduceLE, Int.reduceEq, Int.reduceNeg, Int.reduceToNat, reduceIte, reduceCtorEq, Int.reduceBEq, Int.reduceBNe, List.flatMap_nil, List.flatMap_cons, List.append_nil, List.nil_append]
      intro b hf
      exact ⟨[_], rfl, ⟨trivial, trivial⟩, rfl, ⟨b, upd_self _ _ _⟩, b, upd_self _ _ _, rfl⟩
    · simp only [List.getElem?_toArray, List.getElem?_cons_zero, List.getElem?_cons_succ, Option.some.injEq] at ho; subst ho
      obtain ⟨v1, g1⟩ := hdep 1 (by kernel_rfl)
      replace g1 := g1 8 rfl
      obtain ⟨v5, g5⟩ := hdep 5 (by kernel_rfl)
      replace g5 := g5 5 rfl
      obtain ⟨p, k, p', k', p'', k'', v1⟩ := v1
      have v1 : val 1 = _ := v1
      rw [v1] at g1
      obtain ⟨b5, v5, hN⟩ := hus 5 (List.mem_singleton.2 rfl)
      have v5 : val 5 = _ := v5
      rw [v5] at g5
      simp only [push_cast, Nat.reduceAdd, Nat.reduceSub, Nat.reduceMul, Nat.reduceLT, Nat.reduceLeDiff, Nat.reduceEqDiff, Nat.reduceMod, Nat.reduceDiv, Int.reduceAdd, Int.reduceSub, Int.reduceMul, Int.reduceLT, Int.reduceLE, Int.reduceEq, Int.reduceNeg, Int.reduceToNat, reduceIte, reduceCtorEq, Int.reduceBEq, Int.reduceBNe, List.flatMap_nil, List.flatMap_cons, List.append_nil, List.nil_append, g1, g5, hN, List.cons_append]
      exact ⟨[_], rfl, ⟨trivial, trivial⟩, rfl, b5, p, k, p', k', p'', k'', by simp [upd, v5], by simp [upd, v1], rfl⟩
    · simp only [List.getElem?_toArray, List.getElem?_cons_zero, List.getElem?_cons_succ, Option.some.injEq] at ho; subst ho
      obtain ⟨v4, g4⟩ := hdep 4 (by kernel_rfl)
      replace g4 := g4 11 rfl
      rw [show val 4 = _ from v4] at g4
      simp only [push_cast, Nat.reduceAdd, Nat.reduceSub, Nat.reduceMul, Nat.reduceLT, Nat.reduceLeDiff, Nat.reduceEqDiff, Nat.reduceMod, Nat.reduceDiv, Int.reduceAdd, Int.reduceSub, Int.reduceMul, Int.reduceLT, Int.reduceLE, Int.reduceEq, Int.reduceNeg, Int.reduceToNat, reduceIte, reduceCtorEq, Int.reduceBEq, Int.reduceBNe, List.flatMap_nil, List.flatMap_cons, List.append_nil, List.nil_append, g4]
      exact ⟨[], rfl, trivial, rfl, upd_self _ _ _, rfl⟩
  · intro val mem hV hQ hap hwr
    obtain ⟨N1, N2, h1m, w1, m1, w2, m2, f12, hq1⟩ := hQ 1 (by decide)
    obtain ⟨b5, p, k, p', k', p'', k'', v5, v1, hN6⟩ := hQ 6 (by decide)
    have v7 : val 7 = .int .i64 j.marks.length := hV 7 (by decide)
    have v1 : val 1 = _ := v1
    have v5 : val 5 = _ := v5
    rw [v1] at hq1
    have hMM : List.flatMap mem [1, 6] ++ (⟨b2, 0, .cel 29, [.slice none 0 0, .slice none 0 0, .slice none 0 0]⟩ :: ⟨b1, 0, .cel 29, [.slice ps j.state.length ks, .slice pu j.undo.length ku, .slice pm j.marks.length km]⟩ :: M0) = N1 ++ (N2 ++ (⟨b5, 0, .cel 29, [.slice p j.state.length k, .slice p' j.undo.length k', .slice p'' j.marks.length k'']⟩ :: ⟨b2, 0, .cel 29, [.slice none 0 0, .slice none 0 0, .slice none 0 0]⟩ :: ⟨b1, 0, .cel 29, [.slice ps j.state.length ks, .slice pu j.undo.length ku, .slice pm j.marks.length km]⟩ :: M0)) := by
      simp only [List.flatMap_cons, List.flatMap_nil, List.append_nil, h1m, hN6, List.append_assoc, List.cons_append, List.nil_append]
    rw [hMM] at hap ⊢
    have a1 := freshN_apart hap w1
    have hap2 := (List.pairwise_append.1 hap).2.1
    have a2 := freshN_apart hap2 w2
    have hap3 := (List.pairwise_append.1 hap2).2.1
    have a5 := freshN_apart (A := [⟨b5, 0, .cel 29, [.slice p j.state.length k, .slice p' j.undo.length k', .slice p'' j.marks.length k'']⟩]) hap3 ⟨trivial, trivial⟩
    have hb5 := a5.1
    simp only [push_cast, Nat.reduceAdd, Nat.reduceSub, Nat.reduceMul, Nat.reduceLT, Nat.reduceLeDiff, Nat.reduceEqDiff, Nat.reduceMod, Nat.reduceDiv, Int.reduceAdd, Int.reduceSub, Int.reduceMul, Int.reduceLT, Int.reduceLE, Int.reduceEq, Int.reduceNeg, Int.reduceToNat, reduceIte, reduceCtorEq, Int.reduceBEq, Int.reduceBNe] at hb5
    have q2 := freshN_sym a2
    have q1 := freshN_sym (freshN_mono a1).2
    simp only [push_cast, Nat.reduceAdd, Nat.reduceSub, Nat.reduceMul, Nat.reduceLT, Nat.reduceLeDiff, Nat.reduceEqDiff, Nat.reduceMod, Nat.reduceDiv, Int.reduceAdd, Int.reduceSub, Int.reduceMul, Int.reduceLT, Int.reduceLE, Int.reduceEq, Int.reduceNeg, Int.reduceToNat, reduceIte, reduceCtorEq, Int.reduceBEq, Int.reduceBNe, v1, v5, v7]
    refine WpV.perm (H' := ⟨b5, 0, .cel 29, [.slice p j.state.length k, .slice p' j.undo.length k', .slice p'' j.marks.length k'']⟩ :: ⟨b2, 0, .cel 29, [.slice none 0 0, .slice none 0 0, .slice none 0 0]⟩ :: ⟨b1, 0, .cel 29, [.slice ps j.state.length ks, .slice pu j.undo.length ku, .slice pm j.marks.length km]⟩ :: (N1 ++ (M0 ++ N2))) ?_ ?_ ?_
    · refine (List.Perm.append_left N1 (List.perm_append_comm (l₁ := N2))).trans ?_
      exact List.perm_append_comm_assoc N1 [_, _, _] (M0 ++ N2)
    · simp [marksOf, marks_append, m1, m2, hm]
    refine WpV.slots [(1, .pointer (some ⟨b1, 0, none⟩)), (2, .pointer (some ⟨b2, 0, none⟩)), (3, .int .i64 0), (4, .int .i64 0), (5, .pointer (some ⟨b5, 0, none⟩)), (6, .int .i64 j.marks.length)] (by simp only [push_cast, Nat.reduceAdd, Nat.reduceSub, Nat.reduceMul, Nat.reduceLT, Nat.reduceLeDiff, Nat.reduceEqDiff, Nat.reduceMod, Nat.reduceDiv, Int.reduceAdd, Int.reduceSub, Int.reduceMul, Int.reduceLT, Int.reduceLE, Int.reduceEq, Int.reduceNeg, Int.reduceToNat, reduceIte, reduceCtorEq, Int.reduceBEq, Int.reduceBNe]) ?_
    obtain ⟨M1, hM1⟩ : ∃ M1, M1 = M0 ++ N2 := ⟨_, rfl⟩
    have hg1 : Gr M0 M1 := ⟨hm, N2, hM1, w2, m2⟩
    have hf1 : freshN N1 M1 := by rw [hM1]; exact freshN_comb (freshN_cons (freshN_cons (freshN_cons (freshN_mono a1).2))) f12
    rw [← hM1]
    have e02 := freshN_cons (freshN_cons (freshN_cons a2))
    have hq1 : JoO 42 3 j (.agg #[.slice p j.state.length k, .slice p' j.undo.length k', .slice p'' j.marks.length k'']) N1 M1 := by rw [hM1]; exact JoO.rd _ _ _ _ _ _ _ (cellsAt_swap e02) hq1
    have hq1r := hq1.r hf1
    have z5 : fresh b5 M1 := by rw [hM1]; exact fresh_appS hb5.2.2.2.2 q2.1
    have z2 : fresh b2 M1 := by rw [hM1]; exact fresh_appS f2 q2.2.1
    have z1 : fresh b1 M1 := by rw [hM1]; exact fresh_appS f1 q2.2.2.1
    have hvb := hv0.ext hg1.ext
    refine regO gJ1_ok ?_
    simp only [push_cast, Nat.reduceAdd, Nat.reduceSub, Nat.reduceMul, Nat.reduceLT, Nat.reduceLeDiff, Nat.reduceEqDiff, Nat.reduceMod, Nat.reduceDiv, Int.reduceAdd, Int.reduceSub, Int.reduceMul, Int.reduceLT, Int.reduceLE, Int.reduceEq, Int.reduceNeg, Int.reduceToNat, reduceIte, reduceCtorEq, Int.reduceBEq, Int.reduceBNe, hb5, hb2]
    refine useP (_ :: _ :: _ :: N1) (fun M2 hr2 he2 => jright_ok (JoR.rd _ _ _ _ he2.symm hvb) hr2.marks hn (by omega) hma hsl) ⟨z5, z2, z1, hf1⟩ ?_
    cases hrj : rightJ j
    · rw [if_neg (by rw [hrj]; simp)] at hR
      simp only [push_cast, Nat.reduceAdd, Nat.reduceSub, Nat.reduceMul, Nat.reduceLT, Nat.reduceLeDiff, Nat.reduceEqDiff, Nat.reduceMod, Nat.reduceDiv, Int.reduceAdd, Int.reduceSub, Int.reduceMul, Int.reduceLT, Int.reduceLE, Int.reduceEq, Int.reduceNeg, Int.reduceToNat, reduceIte, reduceCtorEq, Int.reduceBEq, Int.reduceBNe, hb5, hb2]
      exact doneN [_, _, _] hg1 w1 m1 hf1 (JmR.own R) ⟨_, by rw [hR], by rw [hR]; exact hq1r⟩
    rw [if_pos hrj] at hR
    have hri := rightJ_iff.1 hrj
    have hml := hri.ml
    by_cases hk : j.marks.length = 1100
    · rw [if_pos (by omega)] at hR
      have e2 : ((j.marks.length : Int) == 1100) = true := by rw [beq_iff_eq]; omega
      simp only [push_cast, Nat.reduceAdd, Nat.reduceSub, Nat.reduceMul, Nat.reduceLT, Nat.reduceLeDiff, Nat.reduceEqDiff, Nat.reduceMod, Nat.reduceDiv, Int.reduceAdd, Int.reduceSub, Int.reduceMul, Int.reduceLT, Int.reduceLE, Int.reduceEq, Int.reduceNeg, Int.reduceToNat, reduceIte, reduceCtorEq, Int.reduceBEq, Int.reduceBNe, hb5, hb2, e2]
      exact doneN [_, _, _] hg1 w1 m1 hf1 (JmR.own R) ⟨_, by rw [hR], by rw [hR]; exact hq1r⟩
    rw [if_neg (by omega)] at hR
    have e2 : ((j.marks.length : Int) == 1100) = false := by rw [beq_eq_false_iff_ne]; omega
    simp only [push_cast, Nat.reduceAdd, Nat.reduceSub, Nat.reduceMul, Nat.reduceLT, Nat.reduceLeDiff, Nat.reduceEqDiff, Nat.reduceMod, Nat.reduceDiv, Int.reduceAdd, Int.reduceSub, Int.reduceMul, Int.reduceLT, Int.reduceLE, Int.reduceEq, Int.reduceNeg, Int.reduceToNat, reduceIte, reduceCtorEq, Int.reduceBEq, Int.reduceBNe, hb5, hb2, e2]
    obtain ⟨vs4, vu4, vm4, Nu, Nm, hve, rfl, hum, ho2, ho3, ho1⟩ := hq1
    injection hve with hve
    injection hve with hve
    simp only [List.cons.injEq, and_true] at hve
    obtain ⟨rfl, rfl, rfl⟩ := hve
    refine WpV.perm (H' := ⟨b5, 0, .cel 29, [.slice p j.state.length k, .slice p' j.undo.length k', .slice p'' j.marks.length k'']⟩ :: ⟨b2, 0, .cel 29, [.slice none 0 0, .slice none 0 0, .slice none 0 0]⟩ :: ⟨b1, 0, .cel 29, [.slice ps j.state.length ks, .slice pu j.undo.length ku, .slice pm j.marks.length km]⟩ :: (Nm ++ (M1 ++ Nu))) ?_ ?_ ?_
    · refine (((?_ : List.Perm _ _).cons _).cons _).cons _
      rw [List.append_assoc]
      exact List.perm_append_comm.trans (by rw [List.append_assoc])
    · simp [marksOf, marks_append, ho2.wr.2, ho3.wr.2, hg1.marks]
    have hfs := freshN_appL.1 hf1
    obtain ⟨M2, hM2⟩ : ∃ M2, M2 = M1 ++ Nu := ⟨_, rfl⟩
    have hg2 : Gr M1 M2 := ⟨hg1.marks, Nu, hM2, ho2.wr.1, ho2.wr.2⟩
    rw [← hM2]
    refine regO gJ1_ok ?_
    simp only [push_cast, Nat.reduceAdd, Nat.reduceSub, Nat.reduceMul, Nat.reduceLT, Nat.reduceLeDiff, Nat.reduceEqDiff, Nat.reduceMod, Nat.reduceDiv, Int.reduceAdd, Int.reduceSub, Int.reduceMul, Int.reduceLT, Int.reduceLE, Int.reduceEq, Int.reduceNeg, Int.reduceToNat, reduceIte, reduceCtorEq, Int.reduceBEq, Int.reduceBNe, hb5, hb2]
    intro bs hbs
    have zs := fresh_app_iff.1 hbs.2.2.2.2.2.2
    refine push_gA (P := Try.prog) (c := intC) (x := (j.undo.length : Int)) [_, _, _] (by_ := 8) (q := 1) (ag := false) ho3 ⟨zs.1, (fresh_app_iff.1 q1.1).2, (fresh_app_iff.1 q1.2.1).2, (fresh_app_iff.1 q1.2.2.1).2, trivial⟩ (by simp only [push_cast, Nat.reduceAdd, Nat.reduceSub, Nat.reduceMul, Nat.reduceLT, Nat.reduceLeDiff, Nat.reduceEqDiff, Nat.reduceMod, Nat.reduceDiv, Int.reduceAdd, Int.reduceSub, Int.reduceMul, Int.reduceLT, Int.reduceLE, Int.reduceEq, Int.reduceNeg, Int.reduceToNat, reduceIte, reduceCtorEq, Int.reduceBEq, Int.reduceBNe]) (by simp only [push_cast, Nat.reduceAdd, Nat.reduceSub, Nat.reduceMul, Nat.reduceLT, Nat.reduceLeDiff, Nat.reduceEqDiff, Nat.reduceMod, Nat.reduceDiv, Int.reduceAdd, Int.reduceSub, Int.reduceMul, Int.reduceLT, Int.reduceLE, Int.reduceEq, Int.reduceNeg, Int.reduceToNat, reduceIte, reduceCtorEq, Int.reduceBEq, Int.reduceBNe]) rfl rfl (by unfold two47; omega) fun v3 N3 ho4 hf4 => ?_
    obtain ⟨p3, k3, hv3⟩ := ho4.slice
    subst hv3
    have ho5 := ho4
    rcases ho4 with ⟨r1, -⟩ | ⟨bu, cu, r3, r4, r5, hN3⟩
    · rw [List.length_append] at r1; simp at r1
    obtain ⟨hq3, -⟩ := (show freshN [⟨bu, 0, .vec 3 1 cu, (j.marks ++ [(j.undo.length : Int)]).flatMap intC⟩] _ from hN3 ▸ hf4)
    have hfM2 : freshN N3 M2 := (freshN_mono (A := [_, _, _, _]) hf4).2
    have hfin : JmR R (.tuple #[.agg #[.slice p j.state.length k, .slice p' j.undo.length k', .slice p3 (j.marks ++ [(j.undo.length : Int)]).length k3], .int .i64 j.marks.length, .int .i64 0]) (N3 ++ M2) := by
      rw [hR]
      have hu2 : LiR Ch.cells 31 M2 j.undo (.slice p' j.undo.length k') := by rw [hM2]; exact (ho2.liR rfl rfl M1).congr (cellsAt_swap hfs.1)
      exact ⟨_, rfl, _, _, _, rfl, (ho1.ext hg2.ext).app hfM2, hu2.app hfM2, ho5.liR rfl rfl M2⟩
    rw [hN3]
    have hbu := hq3
    simp only [push_cast, Nat.reduceAdd, Nat.reduceSub, Nat.reduceMul, Nat.reduceLT, Nat.reduceLeDiff, Nat.reduceEqDiff, Nat.reduceMod, Nat.reduceDiv, Int.reduceAdd, Int.reduceSub, Int.reduceMul, Int.reduceLT, Int.reduceLE, Int.reduceEq, Int.reduceNeg, Int.reduceToNat, reduceIte, reduceCtorEq, Int.reduceBEq, Int.reduceBNe] at hbu
    have hl5 : (j.marks ++ [(j.undo.length : Int)]).length = j.marks.length + 1 := by simp
    rw [hl5] at hfin
    simp only [push_cast, Nat.reduceAdd, Nat.reduceSub, Nat.reduceMul, Nat.reduceLT, Nat.reduceLeDiff, Nat.reduceEqDiff, Nat.reduceMod, Nat.reduceDiv, Int.reduceAdd, Int.reduceSub, Int.reduceMul, Int.reduceLT, Int.reduceLE, Int.reduceEq, Int.reduceNeg, Int.reduceToNat, reduceIte, reduceCtorEq, Int.reduceBEq, Int.reduceBNe, hb5, hb2, hbs, hbu, hl5]
    trace_state
    refine doneS (hg1.trans hg2) ho5.wr.1 ho5.wr.2 hfM2 (JmR.own R) hfin ?_
    rw [hN3]
    exact ((((List.Sublist.refl _).cons _).cons _).cons _).cons _ |>.cons_cons _
end Go.Proofs.Ytkhpncfgimlleaa
set_option linter.unusedSimpArgs false
set_option linter.unusedVariables false
namespace Go.Proofs.Ytkhpncfgimlleaa
open Go Go.Ev Go.Proofs
set_option maxRecDepth 100000
set_option maxHeartbeats 4000000
end Go.Proofs.Ytkhpncfgimlleaa
set_option linter.unusedSimpArgs false
set_option linter.unusedVariables false
namespace Go.Proofs.Ytkhpncfgimlleaa
open Go Go.Ev Go.Proofs
set_option maxRecDepth 100000
set_option maxHeartbeats 4000000
end Go.Proofs.Ytkhpncfgimlleaa
set_option linter.unusedSimpArgs false
set_option linter.unusedVariables false
namespace Go.Ev
def addrL (k : Nat) : List UInt8 := (if 5 < k then 1 else 0) :: (List.replicate 18 0 ++ [UInt8.ofNat k])
theorem addrL_len (k : Nat) : (addrL k).length = 20 := by simp [addrL]
noncomputable def addrA : Int → Ad := hid fun n => ⟨addrL (pickN n 9), addrL_len _⟩
theorem addrA_eq (n : Int) : addrA n = ⟨addrL (pickN n 9), addrL_len _⟩ := by unfold addrA; rw [hid_eq]
noncomputable def addrG : List Value → Option Value
  | [.int .i64 n] => if i64In n then some (addrA n).v else none
  | _ => none
attribute [push_cast] addrG
theorem addr_cells (k : Nat) (h : k < 9) : byteV (addrL k) = .int .u8 (if 5 < k then 1 else 0) :: (List.replicate 18 (.int .u8 0) ++ [.int .u8 k]) := by
  have : k = 0 ∨ k = 1 ∨ k = 2 ∨ k = 3 ∨ k = 4 ∨ k = 5 ∨ k = 6 ∨ k = 7 ∨ k = 8 := by omega
  rcases this with rfl | rfl | rfl | rfl | rfl | rfl | rfl | rfl | rfl <;> rfl
end Go.Ev
namespace Go.Proofs.Ytkhpncfgimlleaa
open Go Go.Ev Go.Proofs
set_option maxRecDepth 100000
set_option maxHeartbeats 4000000
theorem pick08_ok (c n : Int) (hc : i64In c) (hn : 0 < n) (hn2 : i64In n) : CallsV Try.prog 21 [.int .i64 c, .int .i64 n] [] (Ret0 (.int .i64 (pickN c n))) := by
  have hn0 : ¬ n = 0 := by omega
  have h2 := pickN_lt c hn
  unfold i64In at hc hn2
  refine callsO (noG_ok _) Try.mix Try.pl21 Try.func21 rfl Try.ntmps21 Try.results21 rfl (by first | rfl | assumption) (Nat.le_of_ble_eq_true rfl) (by kernel_rfl) ?_
  rcases Int.lt_or_le c 0 with h | h
  · have e1 : pickN c n = (-(c + 1)).tmod n := by
      have := Int.emod_nonneg (-(c + 1)) hn0
      unfold pickN; rw [if_pos h, Int.tmod_eq_emod_of_nonneg (by omega)]; omega
    have e2 : (0 - (c + 1)) = -(c + 1) := by omega
    simp only [push_cast, Nat.reduceAdd, Nat.reduceSub, Nat.reduceMul, Nat.reduceLT, Nat.reduceLeDiff, Nat.reduceEqDiff, Nat.reduceMod, Nat.reduceDiv, Int.reduceAdd, Int.reduceSub, Int.reduceMul, Int.reduceLT, Int.reduceLE, Int.reduceEq, Int.reduceNeg, Int.reduceToNat, reduceIte, reduceCtorEq, Int.reduceBEq, Int.reduceBNe, h, wrap_i64' (show -9223372036854775808 ≤ c + 1 ∧ c + 1 ≤ 9223372036854775807 by omega), hn0, e2, wrap_i64' (show -9223372036854775808 ≤ -(c + 1) ∧ -(c + 1) ≤ 9223372036854775807 by omega), e1]
  · have h' : ¬ c < 0 := by omega
    have e1 : pickN c n = c.tmod n := by
      have := Int.emod_nonneg c hn0
      unfold pickN; rw [if_neg h', Int.tmod_eq_emod_of_nonneg (by omega)]; omega
    simp only [push_cast, Nat.reduceAdd, Nat.reduceSub, Nat.reduceMul, Nat.reduceLT, Nat.reduceLeDiff, Nat.reduceEqDiff, Nat.reduceMod, Nat.reduceDiv, Int.reduceAdd, Int.reduceSub, Int.reduceMul, Int.reduceLT, Int.reduceLE, Int.reduceEq, Int.reduceNeg, Int.reduceToNat, reduceIte, reduceCtorEq, Int.reduceBEq, Int.reduceBNe, h', hn0, e1]
theorem pick08G_ok (args : List Value) (v : Value) (h : pickG args = some v) : CallsV Try.prog 21 args [] (Ret0 v) := by
  unfold pickG at h
  split at h
  · split at h
    · rename_i c n hh; cases h; exact pick08_ok c n hh.1 hh.2.1 hh.2.2
    · cases h
  · cases h
theorem ofWG_ok (args : List Value) (v : Value) (h : ofG args = some v) : CallsV Try.prog 23 args [] (Ret0 v) := by
  unfold ofG at h
  split at h
  · split at h
    · rename_i n hh; cases h; exact refOf n hh
    · cases h
  · cases h
noncomputable def gV0 : Gam := (addG 23 ofG (addG 21 pickG gJ1))
attribute [push_cast] gV0
theorem gV0_ok : GamOk Try.prog gV0 := (addG_ok ofWG_ok (addG_ok pick08G_ok gJ1_ok))
theorem addr_ok (n : Int) (hn : i64In n) : CallsV Try.prog 22 [.int .i64 n] [] (Ret0 (addrA n).v) := by
  have j1 : i64In 9 := by decide
  have hp := pickN_lt n (show (0 : Int) < 9 by decide)
  rw [addrA_eq]
  obtain ⟨k, hk⟩ : ∃ k, k = pickN n 9 := ⟨_, rfl⟩
  have hk9 : k < 9 := by omega
  have hv : (⟨addrL (pickN n 9), addrL_len _⟩ : Ad).v = .agg (.int .u8 (if 5 < k then 1 else 0) :: (List.replicate 18 (.int .u8 0) ++ [.int .u8 k])).toArray := by
    unfold Ad.v Ad.cells
    dsimp only
    rw [← hk, addr_cells k hk9]
  rw [hv]
  refine callsO gV0_ok Try.mix Try.pl22 Try.func22 rfl Try.ntmps22 Try.results22 rfl (by first | rfl | assumption) (Nat.le_of_ble_eq_true rfl) (by kernel_rfl) ?_
  simp only [push_cast, Nat.reduceAdd, Nat.reduceSub, Nat.reduceMul, Nat.reduceLT, Nat.reduceLeDiff, Nat.reduceEqDiff, Nat.reduceMod, Nat.reduceDiv, Int.reduceAdd, Int.reduceSub, Int.reduceMul, Int.reduceLT, Int.reduceLE, Int.reduceEq, Int.reduceNeg, Int.reduceToNat, reduceIte, reduceCtorEq, Int.reduceBEq, Int.reduceBNe]
  intro b2 b3 hb3
  by_cases h5 : 5 < k
  · have i5 : (5 : Int) < (k : Int) := by omega
    rw [if_pos h5]
    simp only [push_cast, Nat.reduceAdd, Nat.reduceSub, Nat.reduceMul, Nat.reduceLT, Nat.reduceLeDiff, Nat.reduceEqDiff, Nat.reduceMod, Nat.reduceDiv, Int.reduceAdd, Int.reduceSub, Int.reduceMul, Int.reduceLT, Int.reduceLE, Int.reduceEq, Int.reduceNeg, Int.reduceToNat, reduceIte, reduceCtorEq, Int.reduceBEq, Int.reduceBNe, hb3, hn, j1, ← hk, i5, h5, wrap_u8' (n := (k : Int)) (by omega)]
    rfl
  · have i5 : ¬ (5 : Int) < (k : Int) := by omega
    rw [if_neg h5]
    simp only [push_cast, Nat.reduceAdd, Nat.reduceSub, Nat.reduceMul, Nat.reduceLT, Nat.reduceLeDiff, Nat.reduceEqDiff, Nat.reduceMod, Nat.reduceDiv, Int.reduceAdd, Int.reduceSub, Int.reduceMul, Int.reduceLT, Int.reduceLE, Int.reduceEq, Int.reduceNeg, Int.reduceToNat, reduceIte, reduceCtorEq, Int.reduceBEq, Int.reduceBNe, hb3, hn, j1, ← hk, i5, h5, wrap_u8' (n := (k : Int)) (by omega)]
    rfl
theorem addrG_ok (args : List Value) (v : Value) (h : addrG args = some v) : CallsV Try.prog 22 args [] (Ret0 v) := by
  unfold addrG at h
  split at h
  · split at h
    · rename_i n hh; cases h; exact addr_ok n hh
    · cases h
  · cases h
noncomputable def gV1 : Gam := (addG 22 addrG gV0)
attribute [push_cast] gV1
theorem gV1_ok : GamOk Try.prog gV1 := (addG_ok addrG_ok gV0_ok)
end Go.Proofs.Ytkhpncfgimlleaa
set_option linter.unusedSimpArgs false
set_option linter.unusedVariables false
namespace Go.Ev
structure R4 where
  a : Int
  b : Int
  c : Int
  d : Int
def R4.cells (r : R4) : List Value := [.int .i64 r.a, .int .i64 r.b, .int .i64 r.c, .int .i64 r.d]
def R4.v (r : R4) : Value := .agg #[.int .i64 r.a, .int .i64 r.b, .int .i64 r.c, .int .i64 r.d]
def R4.In (r : R4) : Prop := i64In r.a ∧ i64In r.b ∧ i64In r.c ∧ i64In r.d
def codeN (n : Nat) : ByteArray := if n = 0 then ⟨#[]⟩ else if n = 1 then ⟨#[0]⟩ else if n = 2 then ⟨#[96, 1]⟩ else ⟨#[99, 111, 100, 101]⟩
noncomputable def chR (r : R4) : Ch :=
  if pickN r.a 4 = 0 then ⟨1, addrA r.b, W.zero, W.ofInt (pickN r.c 1000 : Nat), 0, .empty⟩
  else if pickN r.a 4 = 1 then ⟨2, addrA r.b, W.zero, W.zero, (pickN r.c 4 : Nat), .empty⟩
  else if pickN r.a 4 = 2 then ⟨3, addrA r.b, W.zero, W.zero, 0, codeN (pickN r.c 4)⟩
  else ⟨4, addrA r.b, W.ofInt (pickN r.c 5 : Nat), W.ofInt (pickN r.d 3 : Nat), 0, .empty⟩
end Go.Ev
namespace Go.Proofs.Ytkhpncfgimlleaa
open Go Go.Ev Go.Proofs
set_option maxRecDepth 100000
set_option maxHeartbeats 4000000
theorem change_ok (r : R4) (hr : r.In) : CallsV Try.prog 9 [r.v] [] (Ret0 (chR r).v) := by
  obtain ⟨a, b, c, d⟩ := r
  obtain ⟨ia, ib, ic, id⟩ := hr
  dsimp only at ia ib ic id
  have j4 : i64In 4 := by decide
  have j5 : i64In 5 := by decide
  have j3 : i64In 3 := by decide
  have jk : i64In 1000 := by decide
  have pa := pickN_lt a (show (0 : Int) < 4 by decide)
  have pc := pickN_lt c (show (0 : Int) < 4 by decide)
  have pk := pickN_lt c (show (0 : Int) < 1000 by decide)
  have p5 := pickN_lt c (show (0 : Int) < 5 by decide)
  have p3 := pickN_lt d (show (0 : Int) < 3 by decide)
  unfold chR
  dsimp only
  obtain ⟨x, hx⟩ : ∃ x, x = pickN a 4 := ⟨_, rfl⟩
  rw [← hx] at pa ⊢
  show CallsV Try.prog _ [.agg #[.int .i64 a, .int .i64 b, .int .i64 c, .int .i64 d]] _ _
  have hx4 : x = 0 ∨ x = 1 ∨ x = 2 ∨ x = 3 := by omega
  refine callsO gV1_ok Try.mix Try.pl9 Try.func9 rfl Try.ntmps9 Try.results9 rfl (by first | rfl | assumption) (Nat.le_of_ble_eq_true rfl) (by kernel_rfl) ?_
  simp only [push_cast, Nat.reduceAdd, Nat.reduceSub, Nat.reduceMul, Nat.reduceLT, Nat.reduceLeDiff, Nat.reduceEqDiff, Nat.reduceMod, Nat.reduceDiv, Int.reduceAdd, Int.reduceSub, Int.reduceMul, Int.reduceLT, Int.reduceLE, Int.reduceEq, Int.reduceNeg, Int.reduceToNat, reduceIte, reduceCtorEq, Int.reduceBEq, Int.reduceBNe]
  intro b1 b2 hb2
  rcases hx4 with rfl | rfl | rfl | rfl
  · simp only [push_cast, Nat.reduceAdd, Nat.reduceSub, Nat.reduceMul, Nat.reduceLT, Nat.reduceLeDiff, Nat.reduceEqDiff, Nat.reduceMod, Nat.reduceDiv, Int.reduceAdd, Int.reduceSub, Int.reduceMul, Int.reduceLT, Int.reduceLE, Int.reduceEq, Int.reduceNeg, Int.reduceToNat, reduceIte, reduceCtorEq, Int.reduceBEq, Int.reduceBNe, hb2, ia, ib, ic, id, j4, j5, j3, jk, ← hx]
    intro b3 hb3
    have k1 : -9223372036854775808 ≤ ((pickN c 1000 : Nat) : Int) ∧ ((pickN c 1000 : Nat) : Int) ≤ 9223372036854775807 := by omega
    simp only [push_cast, Nat.reduceAdd, Nat.reduceSub, Nat.reduceMul, Nat.reduceLT, Nat.reduceLeDiff, Nat.reduceEqDiff, Nat.reduceMod, Nat.reduceDiv, Int.reduceAdd, Int.reduceSub, Int.reduceMul, Int.reduceLT, Int.reduceLE, Int.reduceEq, Int.reduceNeg, Int.reduceToNat, reduceIte, reduceCtorEq, Int.reduceBEq, Int.reduceBNe, hb2, hb3, ia, ib, ic, id, j4, j5, j3, jk, ← hx, k1.1, k1.2]
  · simp only [push_cast, Nat.reduceAdd, Nat.reduceSub, Nat.reduceMul, Nat.reduceLT, Nat.reduceLeDiff, Nat.reduceEqDiff, Nat.reduceMod, Nat.reduceDiv, Int.reduceAdd, Int.reduceSub, Int.reduceMul, Int.reduceLT, Int.reduceLE, Int.reduceEq, Int.reduceNeg, Int.reduceToNat, reduceIte, reduceCtorEq, Int.reduceBEq, Int.reduceBNe, hb2, ia, ib, ic, id, j4, j5, j3, jk, ← hx]
    intro b3 hb3
    simp only [push_cast, Nat.reduceAdd, Nat.reduceSub, Nat.reduceMul, Nat.reduceLT, Nat.reduceLeDiff, Nat.reduceEqDiff, Nat.reduceMod, Nat.reduceDiv, Int.reduceAdd, Int.reduceSub, Int.reduceMul, Int.reduceLT, Int.reduceLE, Int.reduceEq, Int.reduceNeg, Int.reduceToNat, reduceIte, reduceCtorEq, Int.reduceBEq, Int.reduceBNe, hb2, hb3, ia, ib, ic, id, j4, j5, j3, jk, ← hx]
  · simp only [push_cast, Nat.reduceAdd, Nat.reduceSub, Nat.reduceMul, Nat.reduceLT, Nat.reduceLeDiff, Nat.reduceEqDiff, Nat.reduceMod, Nat.reduceDiv, Int.reduceAdd, Int.reduceSub, Int.reduceMul, Int.reduceLT, Int.reduceLE, Int.reduceEq, Int.reduceNeg, Int.reduceToNat, reduceIte, reduceCtorEq, Int.reduceBEq, Int.reduceBNe, hb2, ia, ib, ic, id, j4, j5, j3, jk, ← hx]
    intro b3 hb3
    simp only [push_cast, Nat.reduceAdd, Nat.reduceSub, Nat.reduceMul, Nat.reduceLT, Nat.reduceLeDiff, Nat.reduceEqDiff, Nat.reduceMod, Nat.reduceDiv, Int.reduceAdd, Int.reduceSub, Int.reduceMul, Int.reduceLT, Int.reduceLE, Int.reduceEq, Int.reduceNeg, Int.reduceToNat, reduceIte, reduceCtorEq, Int.reduceBEq, Int.reduceBNe, hb2, hb3, ia, ib, ic, id, j4, j5, j3, jk, ← hx]
    intro b4 hb4
    obtain ⟨y, hy⟩ : ∃ y, y = pickN c 4 := ⟨_, rfl⟩
    rw [← hy]
    have hy4 : y = 0 ∨ y = 1 ∨ y = 2 ∨ y = 3 := by omega
    rcases hy4 with rfl | rfl | rfl | rfl <;> simp only [push_cast, Nat.reduceAdd, Nat.reduceSub, Nat.reduceMul, Nat.reduceLT, Nat.reduceLeDiff, Nat.reduceEqDiff, Nat.reduceMod, Nat.reduceDiv, Int.reduceAdd, Int.reduceSub, Int.reduceMul, Int.reduceLT, Int.reduceLE, Int.reduceEq, Int.reduceNeg, Int.reduceToNat, reduceIte, reduceCtorEq, Int.reduceBEq, Int.reduceBNe, hb2, hb3, hb4, ia, ib, ic, id, j4, j5, j3, jk, ← hx, ← hy, codeN]
    all_goals trace_state
  · simp only [push_cast, Nat.reduceAdd, Nat.reduceSub, Nat.reduceMul, Nat.reduceLT, Nat.reduceLeDiff, Nat.reduceEqDiff, Nat.reduceMod, Nat.reduceDiv, Int.reduceAdd, Int.reduceSub, Int.reduceMul, Int.reduceLT, Int.reduceLE, Int.reduceEq, Int.reduceNeg, Int.reduceToNat, reduceIte, reduceCtorEq, Int.reduceBEq, Int.reduceBNe, hb2, ia, ib, ic, id, j4, j5, j3, jk, ← hx]
    intro b3 hb3
    have k1 : -9223372036854775808 ≤ ((pickN c 5 : Nat) : Int) ∧ ((pickN c 5 : Nat) : Int) ≤ 9223372036854775807 := by omega
    have k2 : -9223372036854775808 ≤ ((pickN d 3 : Nat) : Int) ∧ ((pickN d 3 : Nat) : Int) ≤ 9223372036854775807 := by omega
    simp only [push_cast, Nat.reduceAdd, Nat.reduceSub, Nat.reduceMul, Nat.reduceLT, Nat.reduceLeDiff, Nat.reduceEqDiff, Nat.reduceMod, Nat.reduceDiv, Int.reduceAdd, Int.reduceSub, Int.reduceMul, Int.reduceLT, Int.reduceLE, Int.reduceEq, Int.reduceNeg, Int.reduceToNat, reduceIte, reduceCtorEq, Int.reduceBEq, Int.reduceBNe, hb2, hb3, ia, ib, ic, id, j4, j5, j3, jk, ← hx, k1.1, k1.2, k2.1, k2.2]
end Go.Proofs.Ytkhpncfgimlleaa
set_option linter.unusedSimpArgs false
set_option linter.unusedVariables false
namespace Go.Ev
noncomputable def chG : List Value → Option Value
  | [.agg cs] => match cs.toList with
    | [.int .i64 a, .int .i64 b, .int .i64 c, .int .i64 d] => if i64In a ∧ i64In b ∧ i64In c ∧ i64In d then some (chR ⟨a, b, c, d⟩).v else none
    | _ => none
  | _ => none
attribute [push_cast] chG
theorem R4.len (r : R4) : r.cells.length = 4 := rfl
noncomputable def stepS (s : List Ac) (r : R4) : List Ac := if (doS s (chR r)).2.2 = 0 then (doS s (chR r)).1 else s
noncomputable def stateR (l : List R4) : List Ac := (l.take 30).foldl stepS []
theorem stepS_ri {s : List Ac} (h : RiS s) (r : R4) : RiS (stepS s r) := by
  unfold stepS
  split
  · rename_i hd; exact (doS_iff.1 hd).right
  · exact h
theorem foldS_ri : ∀ (l : List R4) {s : List Ac}, RiS s → RiS (l.foldl stepS s)
  | [], _, h => h
  | r :: l, s, h => by rw [List.foldl_cons]; exact foldS_ri l (stepS_ri h r)
end Go.Ev
namespace Go.Proofs.Ytkhpncfgimlleaa
open Go Go.Ev Go.Proofs
set_option maxRecDepth 100000
set_option maxHeartbeats 4000000
theorem chG_ok (args : List Value) (v : Value) (h : chG args = some v) : CallsV Try.prog 9 args [] (Ret0 v) := by
  unfold chG at h
  split at h
  · rename_i cs
    split at h
    · rename_i a b c d hcs
      split at h
      · rename_i hh
        cases h
        have : cs = #[.int .i64 a, .int .i64 b, .int .i64 c, .int .i64 d] := Array.toList_inj.1 hcs
        subst this
        exact change_ok ⟨a, b, c, d⟩ hh
      · cases h
    · cases h
  · cases h
noncomputable def gV2 : Gam := (addG 9 chG gV1)
attribute [push_cast] gV2
theorem gV2_ok : GamOk Try.prog gV2 := (addG_ok chG_ok gV1_ok)
theorem state_ok {M : Hp} {l : List R4} {v : Value} (hl : LiR R4.cells 4 M l v) (hin : ∀ r ∈ l, r.In) : CallsR Try.prog 5 [v] M (StR (stateR l)) := by
  intro M0 hr he
  have hm := hr.marks
  replace hl := hl.congr he.symm
  obtain ⟨p, k, rfl, hla⟩ := hl.openC R4.len (by decide)
  refine callsO gV2_ok Try.mix Try.pl5 Try.func5 rfl Try.ntmps5 Try.results5 rfl (by first | rfl | assumption) (Nat.le_of_ble_eq_true rfl) (by kernel_rfl) ?_
  simp only [push_cast, Nat.reduceAdd, Nat.reduceSub, Nat.reduceMul, Nat.reduceLT, Nat.reduceLeDiff, Nat.reduceEqDiff, Nat.reduceMod, Nat.reduceDiv, Int.reduceAdd, Int.reduceSub, Int.reduceMul, Int.reduceLT, Int.reduceLE, Int.reduceEq, Int.reduceNeg, Int.reduceToNat, reduceIte, reduceCtorEq, Int.reduceBEq, Int.reduceBNe]
  refine loopO gV2_ok (pl := Try.pl5) Try.mix (X := {x : (Nat × Value) × Hp // Gr M0 x.2})
    (fun x => ([(0, .slice p l.length k), (2, .slice none 0 0), (3, x.1.1.2), (4, .int .i64 x.1.1.1)], x.1.2))
    (fun x => x.1.1.1 ≤ l.length ∧ x.1.1.1 ≤ 30 ∧ StR ((l.take x.1.1.1).foldl stepS []) x.1.1.2 x.1.2) (fun x => l.length - x.1.1.1) ⟨((0, .slice none 0 0), M0), Gr.refl hm⟩ ?_ ?_ (by kernel_rfl) ?_
  · exact ⟨Nat.zero_le _, Nat.zero_le _, StR.nil _ _⟩
  · simp only [push_cast, Nat.reduceAdd, Nat.reduceSub, Nat.reduceMul, Nat.reduceLT, Nat.reduceLeDiff, Nat.reduceEqDiff, Nat.reduceMod, Nat.reduceDiv, Int.reduceAdd, Int.reduceSub, Int.reduceMul, Int.reduceLT, Int.reduceLE, Int.reduceEq, Int.reduceNeg, Int.reduceToNat, reduceIte, reduceCtorEq, Int.reduceBEq, Int.reduceBNe]
  · rintro ⟨⟨⟨ix, w⟩, M1⟩, hg1⟩ ⟨hi, h30, hw⟩
    dsimp only at hi h30 hw hg1 ⊢
    have hri : RiS ((l.take ix).foldl stepS []) := foldS_ri _ RiS.nil
    obtain ⟨t, ht⟩ : ∃ t, t = (l.take ix).foldl stepS [] := ⟨_, rfl⟩
    rw [← ht] at hw hri
    obtain ⟨pw, kw, rfl⟩ := hw.slice
    by_cases hc : ix < l.length ∧ ix < 30
    · obtain ⟨hlt, hl30⟩ := hc
      obtain ⟨r, hr'⟩ : ∃ r, l[ix]? = some r := ⟨l[ix], List.getElem?_eq_getElem hlt⟩
      obtain ⟨ia, ib, ic, id⟩ := hin r (List.mem_of_getElem? hr')
      rcases hla with rfl | ⟨b, f, d, kd, cs, rfl, hfe, hat⟩
      · simp at hlt
      obtain ⟨a1, a2⟩ := hat ix r hr'
      rw [show r.cells = [.int .i64 r.a, .int .i64 r.b, .int .i64 r.c, .int .i64 r.d] from rfl] at a2
      have hee := hg1.find hfe
      have i1 : (ix : Int) < (l.length : Int) := by omega
      have i2 : (ix : Int) < 30 := by omega
      have hs1 : (l.take (ix + 1)).foldl stepS [] = stepS t r := by
        rw [List.take_add_one, hr', List.foldl_append, ← ht]; rfl
      have hrl := hri.len
      simp only [push_cast, Nat.reduceAdd, Nat.reduceSub, Nat.reduceMul, Nat.reduceLT, Nat.reduceLeDiff, Nat.reduceEqDiff, Nat.reduceMod, Nat.reduceDiv, Int.reduceAdd, Int.reduceSub, Int.reduceMul, Int.reduceLT, Int.reduceLE, Int.reduceEq, Int.reduceNeg, Int.reduceToNat, reduceIte, reduceCtorEq, Int.reduceBEq, Int.reduceBNe, i1, i2, hlt, hl30, hee, a1, a2, ia, ib, ic, id]
      refine useB [] (refDo_ok hw (by omega) (fun y hy => by have := (mayA_slots (hri.may y hy)).len; omega)) (DoO.rd _ _) hg1.marks trivial fun w' N1 M2 hg2 hf hL hwN hmN hq => ?_
      obtain ⟨w1, rfl, hq⟩ := hq
      obtain ⟨pw2, kw2, rfl⟩ : ∃ p k, w1 = .slice p (doS t (chR r)).1.length k := (hq.r hf).slice
      simp only [push_cast, Nat.reduceAdd, Nat.reduceSub, Nat.reduceMul, Nat.reduceLT, Nat.reduceLeDiff, Nat.reduceEqDiff, Nat.reduceMod, Nat.reduceDiv, Int.reduceAdd, Int.reduceSub, Int.reduceMul, Int.reduceLT, Int.reduceLE, Int.reduceEq, Int.reduceNeg, Int.reduceToNat, reduceIte, reduceCtorEq, Int.reduceBEq, Int.reduceBNe]
      intro b6 hb6
      have sw : ∀ {b}, fresh b (N1 ++ M2) → fresh b (M2 ++ N1) := fun h => fresh_appS (fresh_app_iff.1 h).2 (fresh_app_iff.1 h).1
      have hg3 : Gr M0 (M2 ++ N1) := hg1.trans (hg2.trans ⟨hg2.marks, N1, rfl, hwN, hmN⟩)
      have e3 : -9223372036854775808 ≤ (ix : Int) + 1 ∧ (ix : Int) + 1 ≤ 9223372036854775807 := by omega
      have hsub : subH (⟨b6, 0, .cel 42, (doS t (chR r)).2.1.cells⟩ :: (N1 ++ M2)) (M2 ++ N1) := by
        rw [subH_skip (e := ⟨b6, 0, .cel 42, (doS t (chR r)).2.1.cells⟩) (L := N1 ++ M2) (sw hb6)]
        exact subH_turn fun e he x hx h => freshN_iff.1 hf x hx e he h
      have hmk : marksOf (M2 ++ N1) = marksOf (N1 ++ M2) := by rw [marks_append, marks_append, hmN, hg2.marks]
      split
      · rename_i hd
        have hd : (doS t (chR r)).2.2 = 0 := eq_of_beq hd
        have hs2 : stepS t r = (doS t (chR r)).1 := by unfold stepS; rw [if_pos hd]
        exact ⟨⟨((ix + 1, .slice pw2 (doS t (chR r)).1.length kw2), M2 ++ N1), hg3⟩, ⟨hlt, by dsimp only; omega, by rw [hs1, hs2]; exact StR.rd _ _ _ _ (cellsAt_swap hf) (hq.r hf)⟩, by dsimp only; omega, ⟨rfl, by rw [wrap_i64' e3]; rfl⟩, hsub, hmk⟩
      · rename_i hd
        have hd : ¬ (doS t (chR r)).2.2 = 0 := fun h => by rw [beq_eq_false_iff_ne] at hd; exact hd h
        have hs2 : stepS t r = t := by unfold stepS; rw [if_neg hd]
        exact ⟨⟨((ix + 1, .slice pw t.length kw), M2 ++ N1), hg3⟩, ⟨hlt, by dsimp only; omega, by rw [hs1, hs2]; exact hw.ext (hg2.trans ⟨hg2.marks, N1, rfl, hwN, hmN⟩).ext⟩, by dsimp only; omega, ⟨rfl, by rw [wrap_i64' e3]; rfl⟩, hsub, hmk⟩
    · have hfin : (l.take ix).foldl stepS [] = stateR l := by
        unfold stateR
        rcases Nat.lt_or_ge ix 30 with h | h
        · obtain rfl : ix = l.length := by omega
          rw [List.take_length, List.take_of_length_le (by omega)]
        · obtain rfl : ix = 30 := by omega
          rfl
      rw [← ht] at hfin
      rw [hfin] at hw
      rw [hfin]
      by_cases hlt : ix < l.length
      · have i1 : (ix : Int) < (l.length : Int) := by omega
        have i2 : ¬ (ix : Int) < 30 := by omega
        have i3 : ¬ ix < 30 := by omega
        simp only [push_cast, Nat.reduceAdd, Nat.reduceSub, Nat.reduceMul, Nat.reduceLT, Nat.reduceLeDiff, Nat.reduceEqDiff, Nat.reduceMod, Nat.reduceDiv, Int.reduceAdd, Int.reduceSub, Int.reduceMul, Int.reduceLT, Int.reduceLE, Int.reduceEq, Int.reduceNeg, Int.reduceToNat, reduceIte, reduceCtorEq, Int.reduceBEq, Int.reduceBNe, i1, i2, hlt, i3]
        exact doneK2 [] hg1 (StR.rd _) hw
      · have i1 : ¬ (ix : Int) < (l.length : Int) := by omega
        simp only [push_cast, Nat.reduceAdd, Nat.reduceSub, Nat.reduceMul, Nat.reduceLT, Nat.reduceLeDiff, Nat.reduceEqDiff, Nat.reduceMod, Nat.reduceDiv, Int.reduceAdd, Int.reduceSub, Int.reduceMul, Int.reduceLT, Int.reduceLE, Int.reduceEq, Int.reduceNeg, Int.reduceToNat, reduceIte, reduceCtorEq, Int.reduceBEq, Int.reduceBNe, i1, hlt]
        exact doneK2 [] hg1 (StR.rd _) hw
end Go.Proofs.Ytkhpncfgimlleaa
set_option linter.unusedSimpArgs false
set_option linter.unusedVariables false
namespace Go.Ev
structure R5 where
  a : Int
  b : Int
  c : Int
  d : Int
  e : Int
def R5.cells (r : R5) : List Value := [.int .i64 r.a, .int .i64 r.b, .int .i64 r.c, .int .i64 r.d, .int .i64 r.e]
def R5.v (r : R5) : Value := .agg #[.int .i64 r.a, .int .i64 r.b, .int .i64 r.c, .int .i64 r.d, .int .i64 r.e]
def R5.In (r : R5) : Prop := i64In r.a ∧ i64In r.b ∧ i64In r.c ∧ i64In r.d ∧ i64In r.e
def R5.ch (r : R5) : R4 := ⟨r.b, r.c, r.d, r.e⟩
theorem R5.len (r : R5) : r.cells.length = 5 := rfl
theorem JoR.app {N M : Hp} {j : Jo} {v : Value} (h : JoR j v M) (hf : freshN N M) : JoR j v (N ++ M) := by
  obtain ⟨vs, vu, vm, rfl, h1, h2, h3⟩ := h
  exact ⟨vs, vu, vm, rfl, h1.app hf, h2.app hf, h3.app hf⟩
theorem RiJ.open {s : List Ac} (h : RiS s) : RiJ ⟨s, [], []⟩ := ⟨by simp, by simp, rfl, fun m hm => by simp at hm, h, rfl⟩
theorem CallsV.pre {P : Program} {g : FuncId} {args : List Value} {H H' : Hp} {K : Value → Hp → Prop} (hp : H.Perm H') (hm : marksOf H' = marksOf H) (hc : CallsV P g args H' K) : CallsV P g args H K := by
  refine ⟨hc.1, fun w0 mu w hs => (hc.2 w0 mu w (hs.perm hp)).mono ?_⟩
  rintro e w' ⟨v, H'', h1, h2, h3, h4⟩
  exact ⟨v, H'', h1, h2, h3, h4.trans hm⟩
theorem LiR.one1 {P : Ch} {b c : Nat} {k : Kind} {H : Hp} : LiR Ch.cells 31 (⟨b, 0, k, P.cells⟩ :: H) [P] (.slice (some ⟨b, 0, none⟩) 1 c) := by
  refine ⟨_, c, rfl, .inr ⟨b, 0, rfl, ?_⟩⟩
  have hl := P.len
  unfold cellsAt
  simp only [findE, if_true, Nat.sub_zero, subL, List.drop_zero, List.length_singleton, Nat.one_mul, Nat.zero_add, List.flatMap_cons, List.flatMap_nil, List.append_nil]
  rw [if_pos (Nat.zero_le _), if_pos (by omega), List.take_of_length_le (by omega)]
end Go.Ev
namespace Go.Proofs.Ytkhpncfgimlleaa
open Go Go.Ev Go.Proofs
set_option maxRecDepth 100000
set_option maxHeartbeats 4000000
end Go.Proofs.Ytkhpncfgimlleaa
set_option linter.unusedSimpArgs false
set_option linter.unusedVariables false
namespace Go.Ev
open Go.ChangeShapes Go.WideShapes Go.ChangeAt Go.RowKit
section
variable {H : Type} {enc : TypeId × Value → H} {P : Program} {w : World} {base : Nat} {spare : Nat → Bool} {held : Bool} {T : TypeId → Prop}
theorem slice_of_cells (K : Kids P T) {d fuel : Nat} {t e : TypeId} {ks : List FK} {cs : List Value} {x : DataW H × List MemPlace} (ht : P.underlying t = some (.slice e)) (hT : T t) (hks : flatT P d e = some ks) (hpos : 0 < P.cellsOf e)
    (hf : DataW.trod enc P w base spare held fuel t cs = some x) : ∃ (p : Option Addr) (len cap : Nat) (f : Nat → List Value), cs = [.slice p len cap] ∧ len ≤ cap ∧ cap ≤ maxLen ∧ (∀ i, i < len → All2 FK.ok ks (f i)) ∧
      (len = 0 ∨ ∃ b o, p = some ⟨b, o, none⟩ ∧ cellsAt (roW w) b o (len * P.cellsOf e) = some ((List.range len).flatMap f)) := by
  obtain ⟨dd, ps⟩ := x
  rcases Deep.open_slice ht hf with ⟨h1, _⟩ | ⟨a', len, cap, m, n, D, Pl, h1, hb, hl, hm, hmm, _, hx⟩
  · exact ⟨none, 0, 0, fun _ => [], h1, Nat.le_refl _, Nat.zero_le _, fun i hi => absurd hi (Nat.not_lt_zero _), .inl rfl⟩
  · have hlm : len ≤ m := by rw [hmm]; split <;> omega
    obtain ⟨f, hf⟩ := Deep.choose_lt (α := List Value) (n := len) (p := fun i cs' => w.cells? base (a'.add (i * P.cellsOf e)) (P.cellsOf e) = some cs' ∧ All2 FK.ok ks cs') fun i hi => by
      obtain ⟨cs', h2, h3⟩ := hx i (by omega)
      exact ⟨cs', h2, flat_of_trod K d (K.slice hT ht) hks h3⟩
    refine ⟨some a', len, cap, f, h1, hl, hm, fun i hi => (hf i hi).2, ?_⟩
    rcases Nat.eq_zero_or_pos len with h0 | h0
    · exact .inl h0
    · obtain ⟨h4, h5⟩ := roW_row f hpos (fun i hi => (hf i hi).1) h0
      refine .inr ⟨a'.block, a'.off, ?_, h5⟩
      rw [← h4]
theorem liR_of_cells (K : Kids P T) {α : Type} {c : α → List Value} {s d fuel : Nat} {t e : TypeId} {ks : List FK} {cs : List Value} {x : DataW H × List MemPlace} (Q : α → Prop) (hc : ∀ cs, All2 FK.ok ks cs → ∃ y, cs = c y ∧ Q y) (ht : P.underlying t = some (.slice e)) (hT : T t) (hks : flatT P d e = some ks) (hpos : 0 < s) (hs : P.cellsOf e = s)
    (hf : DataW.trod enc P w base spare held fuel t cs = some x) : ∃ l p cap, cs = [.slice p l.length cap] ∧ LiR c s (roW w) l (.slice p l.length cap) ∧ l.length ≤ cap ∧ cap ≤ maxLen ∧ ∀ y ∈ l, Q y := by
  obtain ⟨p, len, cap, f, rfl, hl, hm, hf, hcc⟩ := slice_of_cells K ht hT hks (by omega) hf
  by_cases h0 : len = 0
  · subst h0
    exact ⟨[], p, cap, rfl, ⟨p, cap, rfl, .inl rfl⟩, hl, hm, fun y hy => by cases hy⟩
  obtain ⟨y0, _, _⟩ := hc _ (hf 0 (Nat.pos_of_ne_zero h0))
  haveI : Inhabited α := ⟨y0⟩
  obtain ⟨g, hg⟩ := Deep.choose_lt (α := α) (n := len) (p := fun i y => f i = c y ∧ Q y) fun i hi => hc _ (hf i hi)
  refine ⟨(List.range len).map g, p, cap, by simp, ⟨p, cap, by simp, ?_⟩, by simpa using hl, hm, fun y hy => ?_⟩
  · rcases hcc with rfl | ⟨b, o, rfl, hcc⟩
    · exact .inl rfl
    · refine .inr ⟨b, o, rfl, ?_⟩
      rw [hs] at hcc
      simp only [List.length_map, List.length_range]
      rw [hcc, List.flatMap_map, List.flatMap_def, List.flatMap_def]
      congr 2
      exact List.map_congr_left fun i hi => (hg i (List.mem_range.1 hi)).1
  · obtain ⟨i, hi, rfl⟩ := List.mem_map.1 hy
    exact (hg i (List.mem_range.1 hi)).2
theorem All2.split {α β : Type} {r : α → β → Prop} : ∀ {l l' : List α} {m : List β}, All2 r (l ++ l') m → ∃ m1 m2, m = m1 ++ m2 ∧ All2 r l m1 ∧ All2 r l' m2
  | [], _, m, h => ⟨[], m, rfl, .nil, h⟩
  | x :: l, l', _, h => by
    cases h with
    | cons a h =>
      obtain ⟨m1, m2, rfl, h1, h2⟩ := All2.split h
      exact ⟨_, m2, rfl, .cons a h1, h2⟩
end
end Go.Ev
namespace Go.Proofs.Ytkhpncfgimlleaa
open Go Go.Ev Go.Proofs Go.ChangeShapes Go.WideShapes Go.ChangeAt Go.RowKit
set_option maxRecDepth 100000
set_option maxHeartbeats 4000000
theorem r4_cells {cs : List Value} (h : All2 FK.ok [.int .i64, .int .i64, .int .i64, .int .i64] cs) : ∃ x : R4, cs = x.cells ∧ x.In := by
  cases h with
  | cons a0 h =>
    cases h with
    | cons a1 h =>
      cases h with
      | cons a2 h =>
        cases h with
        | cons a3 h =>
          cases h
          obtain ⟨x0, rfl, w0⟩ := a0
          obtain ⟨x1, rfl, w1⟩ := a1
          obtain ⟨x2, rfl, w2⟩ := a2
          obtain ⟨x3, rfl, w3⟩ := a3
          exact ⟨⟨x0, x1, x2, x3⟩, rfl, i64_wf w0, i64_wf w1, i64_wf w2, i64_wf w3⟩
theorem raw4_of {H : Type} {enc : TypeId × Value → H} {W0 : World} {r : Reach} {b0 base : Nat} {spare : Nat → Bool} {held : Bool} {v : Value} {dd : DataW H} {ps : List MemPlace} (hval : Value.okWide Try.prog W0 r b0 22 v)
    (h : DataW.Trod enc Try.prog W0 base spare held 22 v dd ps) : ∃ l, LiR R4.cells 4 (roW W0) l v ∧ ∀ x ∈ l, x.In := by
  have hu : Try.prog.underlying 22 = some (.slice 44) := by kernel_rfl
  obtain ⟨a, len, cap, rfl⟩ := okWide_slice hu hval
  obtain ⟨fuel, hf⟩ := h
  obtain ⟨l, p, k, g, r0, _, _, q⟩ := liR_of_cells kids (c := R4.cells) (s := 4) (d := 8) (e := 44) (ks := [.int .i64, .int .i64, .int .i64, .int .i64]) _ (fun _ => r4_cells) hu (by show _ < _; decide +kernel) (by kernel_rfl) (by decide) (by decide +kernel) hf
  simp only [Value.cells, List.cons.injEq, Value.slice.injEq, and_true] at g
  obtain ⟨rfl, rfl, rfl⟩ := g
  exact ⟨l, r0, q⟩
end Go.Proofs.Ytkhpncfgimlleaa
set_option linter.unusedSimpArgs false
set_option linter.unusedVariables false
namespace Go.Proofs.Ytkhpncfgimlleaa
open Go Go.Ev Go.Proofs
set_option maxRecDepth 100000
set_option maxHeartbeats 4000000
end Go.Proofs.Ytkhpncfgimlleaa
set_option linter.unusedSimpArgs false
set_option linter.unusedVariables false
namespace Go.Ev
noncomputable def balC (a : Ad) (n : Int) : Ch := ⟨1, a, W.zero, W.ofInt n, 0, .empty⟩
noncomputable def balG : List Value → Option Value
  | [x, .int .i64 n] => if i64In n then (adOf x).bind fun a => some (balC a n).v else none
  | _ => none
attribute [push_cast] balG
end Go.Ev
namespace Go.Proofs.Ytkhpncfgimlleaa
open Go Go.Ev Go.Proofs
set_option maxRecDepth 100000
set_option maxHeartbeats 4000000
theorem bal_ok (a : Ad) (n : Int) (hn : i64In n) : CallsV Try.prog 13 [a.v, .int .i64 n] [] (Ret0 (balC a n).v) := by
  unfold balC
  have h1 := hn.1
  have h2 := hn.2
  have al : a.cells.all oneC = true := a.all1
  have t24 : ∀ Z : List Value, List.take 24 (a.cells ++ Z) = a.cells ++ List.take 4 Z := fun Z => by
    rw [List.take_append, List.take_of_length_le (by rw [a.len]; decide), a.len]
  have d29 : List.drop 29 (Ch.mk 1 a W.zero W.zero 0 .empty).cells = [.int .i64 0, .string .empty] := by
    unfold Ch.cells
    rw [List.drop_succ_cons, List.drop_append, List.drop_of_length_le (by rw [a.len]; decide), a.len]
    rfl
  have wl : (W.ofInt n).cells.all oneC = true := rfl
  refine callsO gV2_ok Try.mix Try.pl13 Try.func13 rfl Try.ntmps13 Try.results13 rfl (by first | rfl | assumption) (Nat.le_of_ble_eq_true rfl) (by kernel_rfl) ?_
  simp only [push_cast, Nat.reduceAdd, Nat.reduceSub, Nat.reduceMul, Nat.reduceLT, Nat.reduceLeDiff, Nat.reduceEqDiff, Nat.reduceMod, Nat.reduceDiv, Int.reduceAdd, Int.reduceSub, Int.reduceMul, Int.reduceLT, Int.reduceLE, Int.reduceEq, Int.reduceNeg, Int.reduceToNat, reduceIte, reduceCtorEq, Int.reduceBEq, Int.reduceBNe, al, Ad.len]
  intro b2 b4 hb4
  simp only [push_cast, Nat.reduceAdd, Nat.reduceSub, Nat.reduceMul, Nat.reduceLT, Nat.reduceLeDiff, Nat.reduceEqDiff, Nat.reduceMod, Nat.reduceDiv, Int.reduceAdd, Int.reduceSub, Int.reduceMul, Int.reduceLT, Int.reduceLE, Int.reduceEq, Int.reduceNeg, Int.reduceToNat, reduceIte, reduceCtorEq, Int.reduceBEq, Int.reduceBNe, hb4, al, Ad.len, h1, h2, t24, d29, List.all_append, List.length_append]
  rw [List.take_of_length_le (by rw [List.length_append, a.len]; exact Nat.le_refl _)]
  rfl
theorem balG_ok (args : List Value) (v : Value) (h : balG args = some v) : CallsV Try.prog 13 args [] (Ret0 v) := by
  unfold balG at h
  split at h
  · rename_i x n
    split at h
    · rename_i hn
      obtain ⟨a, ha, h⟩ := Option.bind_eq_some_iff.1 h
      cases h
      rw [adOf_some ha]
      exact bal_ok a n hn
    · cases h
  · cases h
noncomputable def gV3 : Gam := (addG 13 balG gV2)
attribute [push_cast] gV3
theorem gV3_ok : GamOk Try.prog gV3 := (addG_ok balG_ok gV2_ok)
end Go.Proofs.Ytkhpncfgimlleaa
set_option linter.unusedSimpArgs false
set_option linter.unusedVariables false
namespace Go.Ev
def at5 : Ad := ⟨5 :: List.replicate 19 0, by decide⟩
def x5 : Ac := ⟨at5, W.ofInt 5, 0, .empty, []⟩
def x7 : Ac := ⟨at5, W.ofInt 7, 0, .empty, []⟩
noncomputable def c5 : Ch := balC at5 5
noncomputable def c7 : Ch := balC at5 7
def u5 : Ch := ⟨1, at5, W.zero, W.zero, 0, .empty⟩
def u7 : Ch := ⟨1, at5, W.zero, W.ofInt 5, 0, .empty⟩
theorem may_no {a : Ad} {b : W} : mayA ⟨a, b, 0, .empty, []⟩ = true := by
  unfold mayA
  rw [rightB_iff.2 ⟨List.Pairwise.nil, fun x h => (by cases h), by simp⟩]
  simp
theorem x5_ne : emptyA x5 = false := by decide
theorem x7_ne : emptyA x7 = false := by decide
theorem do5 : doS [] c5 = ([x5], u5, 0) := by
  have hc : chA (findS [] c5.at_) c5 = (x5, u5, 0) := by
    show chA (findS [] at5) c5 = _
    rw [findS_none fun x hx => by cases hx]
    unfold chA
    rw [if_pos (show c5.kind = 1 from rfl)]
    rfl
  have hp : putS [] x5 = [x5] := by
    unfold putS
    rw [x5_ne]
    rfl
  have hd : Did [] c5 := ⟨RiS.nil, by rw [hc], by rw [hc]; exact may_no, by rw [hc, hp]; decide⟩
  rw [hd.val, hc, hp]
theorem ri5 : RiS [x5] := by
  have h := (doS_iff.1 (show (doS [] c5).2.2 = 0 by rw [do5])).right
  rw [do5] at h
  exact h
theorem do7 : doS [x5] c7 = ([x7], u7, 0) := by
  have hc : chA (findS [x5] c7.at_) c7 = (x7, u7, 0) := by
    show chA (findS [x5] at5) c7 = _
    rw [show findS [x5] at5 = x5 from findS_some ri5.srt (x := x5) (by simp)]
    unfold chA
    rw [if_pos (show c7.kind = 1 from rfl)]
    rfl
  have hp : putS [x5] x7 = [x7] := by
    unfold putS
    rw [x7_ne]
    have h1 : decide (x5.at_.num < x7.at_.num) = false := decide_eq_false (Nat.lt_irrefl _)
    have h2 : decide (x7.at_.num < x5.at_.num) = false := decide_eq_false (Nat.lt_irrefl _)
    simp [h1, h2]
  have hd : Did [x5] c7 := ⟨ri5, by rw [hc], by rw [hc]; exact may_no, by rw [hc, hp]; decide⟩
  rw [hd.val, hc, hp]
def jA : Jo := ⟨[], [], [0]⟩
def jK : Jo := ⟨[x5], [u5], [0]⟩
def jL : Jo := ⟨[x5], [u5], [0, 1]⟩
def jM : Jo := ⟨[x7], [u5, u7], [0, 1]⟩
theorem riA : RiJ jA := (RiJ.open RiS.nil).mark (by decide)
theorem mk0 : markJ ⟨[], [], []⟩ = (jA, 0, 0) := by
  unfold markJ
  rw [if_pos (rightJ_iff.2 (RiJ.open RiS.nil)), if_neg (by decide)]
  rfl
theorem doK : doJ jA [c5] = (jK, 0) := by
  unfold doJ
  rw [if_pos (rightJ_iff.2 riA), runJ, if_neg (by decide), show doS jA.state c5 = ([x5], u5, 0) from do5, if_pos rfl]
  rfl
theorem riK : RiJ jK := by
  have h := riA.step (doS_iff.1 (show (doS jA.state c5).2.2 = 0 by rw [show doS jA.state c5 = ([x5], u5, 0) from do5])) (by decide)
  rw [show doS jA.state c5 = ([x5], u5, 0) from do5] at h
  exact h
theorem mkL : markJ jK = (jL, 1, 0) := by
  unfold markJ
  rw [if_pos (rightJ_iff.2 riK), if_neg (by decide)]
  rfl
theorem riL : RiJ jL := riK.mark (by decide)
theorem doM : doJ jL [c7] = (jM, 0) := by
  unfold doJ
  rw [if_pos (rightJ_iff.2 riL), runJ, if_neg (by decide), show doS jL.state c7 = ([x7], u7, 0) from do7, if_pos rfl]
  rfl
theorem riM : RiJ jM := by
  have h := riL.step (doS_iff.1 (show (doS jL.state c7).2.2 = 0 by rw [show doS jL.state c7 = ([x7], u7, 0) from do7])) (by decide)
  rw [show doS jL.state c7 = ([x7], u7, 0) from do7] at h
  exact h
theorem back7 : ∃ w, doS [x7] u7 = ([x5], w, 0) := by
  have h := (doS_iff.1 (show (doS [x5] c7).2.2 = 0 by rw [do7])).back
  rw [do7] at h
  exact h
theorem back5 : ∃ w, doS [x5] u5 = ([], w, 0) := by
  have h := (doS_iff.1 (show (doS [] c5).2.2 = 0 by rw [do5])).back
  rw [do5] at h
  exact h
theorem keepM (m : Nat) (h : m < 2) : keepJ jM m = (⟨[x7], [u5, u7], [0, 1].take m⟩, 0) := by
  unfold keepJ
  have h2 : jM.marks.length = 2 := rfl
  rw [if_pos (rightJ_iff.2 riM), if_neg (by omega), Int.toNat_natCast]
  rfl
theorem backM0 : backJ jM 0 = (⟨[], [], []⟩, 0) := by
  obtain ⟨w7, h7⟩ := back7
  obtain ⟨w5, h5⟩ := back5
  have hk := keepM 0 (by decide)
  have hu : undoE jM.state (jM.undo.drop (stayJ jM 0)).reverse = ([], 0) := by
    show undoE [x7] [u7, u5] = _
    rw [undoE, h7, if_pos rfl, undoE, h5, if_pos rfl, undoE]
  unfold backJ
  rw [show keepJ jM 0 = _ from hk, if_pos rfl, hu]
  rfl
theorem backM1 : backJ jM 1 = (jK, 0) := by
  obtain ⟨w7, h7⟩ := back7
  have hk := keepM 1 (by decide)
  have hu : undoE jM.state (jM.undo.drop (stayJ jM 1)).reverse = ([x5], 0) := by
    show undoE [x7] [u7] = _
    rw [undoE, h7, if_pos rfl, undoE]
  unfold backJ
  rw [show keepJ jM 1 = _ from hk, if_pos rfl, hu]
  rfl
theorem backN : backJ ⟨[], [], []⟩ 0 = (⟨[], [], []⟩, 20) := by
  have hk : keepJ ⟨[], [], []⟩ 0 = (⟨[], [], []⟩, 20) := by
    unfold keepJ
    rw [if_pos (rightJ_iff.2 (RiJ.open RiS.nil)), if_pos (.inr (by decide))]
  unfold backJ
  rw [hk, if_neg (by decide)]
def c9 : Ch := ⟨9, Ad.zero, W.zero, W.zero, 0, .empty⟩
theorem doU : doJ jA [c5, c9] = (jA, 1) := by
  have h9 : (doS [x5] c9).2.2 = 1 := by
    have hc : (chA (findS [x5] c9.at_) c9).2.2 = 1 := by
      unfold chA
      rw [if_neg (by decide), if_neg (by decide), if_neg (by decide), if_neg (by decide)]
    unfold doS
    rw [if_neg (by rw [rightS_iff.2 ri5]; simp), if_pos (by rw [hc]; decide), hc]
  unfold doJ
  rw [if_pos (rightJ_iff.2 riA), runJ, if_neg (by decide), show doS jA.state c5 = ([x5], u5, 0) from do5, if_pos rfl, runJ, if_neg (by decide)]
  dsimp only
  rw [h9, if_neg (by decide)]
theorem rightM : rightJ jM = true := rightJ_iff.2 riM
theorem right1 : rightJ ⟨[], [], [1]⟩ = false := by
  unfold rightJ
  simp
end Go.Ev
