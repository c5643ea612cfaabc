/- Texts of this claim, merged by program: Vh Vj Vk Vl Vm. -/
import Derived.Test.YtkhpncfgimlleaaGreatZtAu
set_option linter.unusedSimpArgs false
set_option linter.unusedVariables false
namespace Go.Ev
theorem lnK : jK.state.length ≤ 1000000000000 := by decide
theorem lnM1 : jM.state.length ≤ 1000000000 := by decide
theorem lnM2 : jM.undo.length ≤ 1000000000000 := by decide
theorem lnM3 : jM.marks.length ≤ 1000000000000 := by decide
theorem slM : ∀ z ∈ jM.state, z.slots.length ≤ 1000000000000 := fun z hz => by have := (mayA_slots (riM.st.may z hz)).len; omega
theorem LiR.one1i {n : Int} {b c : Nat} {k : Kind} {H : Hp} : LiR intC 1 (⟨b, 0, k, [.int .i64 n]⟩ :: H) [n] (.slice (some ⟨b, 0, none⟩) 1 c) := by
  refine ⟨_, c, rfl, .inr ⟨b, 0, rfl, ?_⟩⟩
  unfold cellsAt
  simp only [findE, if_true, Nat.sub_zero, subL, List.drop_zero, List.length_singleton, Nat.one_mul, Nat.zero_add, List.flatMap_cons, List.flatMap_nil, List.append_nil]
  rw [if_pos (Nat.zero_le _), if_pos (by simp), List.take_of_length_le (by simp)]
  rfl
theorem slK : ∀ z ∈ jK.state, z.slots.length ≤ 4000 := fun z hz => by have := (mayA_slots (riK.st.may z hz)).len; omega
theorem JoR.st {j : Jo} {a b c : Value} {H : Hp} (h : JoR j (.agg #[a, b, c]) H) : StR j.state a H := by
  obtain ⟨vs, vu, vm, hve, h1, -, -⟩ := h
  injection hve with hve
  injection hve with hve
  simp only [List.cons.injEq, and_true] at hve
  rw [hve.1]; exact h1
theorem LiR.two {x y : Ch} {b c : Nat} {k : Kind} {H : Hp} {cs : List Value} (h : cs = x.cells ++ y.cells) : LiR Ch.cells 31 (⟨b, 0, k, cs⟩ :: H) [x, y] (.slice (some ⟨b, 0, none⟩) 2 c) := by
  subst h
  refine ⟨_, c, rfl, .inr ⟨b, 0, rfl, ?_⟩⟩
  have h1 := x.len
  have h2 := y.len
  have h3 : (x.cells ++ y.cells).length = 62 := by rw [List.length_append]; omega
  unfold cellsAt
  simp only [findE, if_true, Nat.sub_zero, subL, List.drop_zero, List.length_cons, List.length_nil, Nat.zero_add, List.flatMap_cons, List.flatMap_nil, List.append_nil]
  rw [if_pos (Nat.zero_le _), if_pos (by omega), List.take_of_length_le (by omega)]
theorem freshN_consR {e : Ent} {M : Hp} : ∀ {L : Hp}, (∀ x ∈ L, ¬ x.blk = e.blk) → freshN L M → freshN L (e :: M)
  | [], _, _ => trivial
  | x :: r, h, h' => ⟨⟨h x (by simp), fun hh => h x (by simp) hh.symm, h'.1⟩, freshN_consR (fun z hz => h z (by simp [hz])) h'.2⟩
theorem StR.find {X Y : Hp} {s : List Ac} {v : Value} (h : ∀ b e, findE X b = some e → findE Y b = some e) (hv : StR s v X) : StR s v Y := by
  obtain ⟨L, h1, h2, h3⟩ := hv
  exact ⟨L, h1, h2.find h, fun x hx => (h3 x hx).find h⟩
theorem JoR.find {X Y : Hp} {j : Jo} {v : Value} (hv : JoR j v X) (h : ∀ b e, findE X b = some e → findE Y b = some e) : JoR j v Y := by
  obtain ⟨vs, vu, vm, rfl, h1, h2, h3⟩ := hv
  exact ⟨vs, vu, vm, rfl, h1.find h, h2.find h, h3.find h⟩
theorem JoR.e3 {j : Jo} {v : Value} {H : Hp} (h : JoR j v H) : ∃ p k p' k' p'' k'', v = .agg #[.slice p j.state.length k, .slice p' j.undo.length k', .slice p'' j.marks.length k''] := by
  obtain ⟨vs, vu, vm, rfl, h1, h2, h3⟩ := h
  obtain ⟨p, k, rfl⟩ := h1.slice
  obtain ⟨p', k', rfl⟩ := h2.slice
  obtain ⟨p'', k'', rfl⟩ := h3.slice
  exact ⟨p, k, p', k', p'', k'', rfl⟩
theorem at5_cells : at5.cells = [.int .u8 5, .int .u8 0, .int .u8 0, .int .u8 0, .int .u8 0, .int .u8 0, .int .u8 0, .int .u8 0, .int .u8 0, .int .u8 0, .int .u8 0, .int .u8 0, .int .u8 0, .int .u8 0, .int .u8 0, .int .u8 0, .int .u8 0, .int .u8 0, .int .u8 0, .int .u8 0] := rfl
end Go.Ev
namespace Go.Proofs.YtkhpncfgimlleaaGreat
open Go Go.Ev Go.Proofs
set_option maxRecDepth 100000
set_option maxHeartbeats 4000000
theorem jmark_R {M : Hp} {j : Jo} {v : Value} (hv : JoR j v M) (h : RiJ j) : CallsR Tryz.prog 20 [v] M (JmR (markJ j)) :=
  (jmark_ok hv (by have := h.st.len; omega) (by have := h.ul; omega) (by have := h.ml; omega) (fun y hy => by have := (mayA_slots (h.st.may y hy)).len; omega)).toR fun v N1 A _ _ hf hq => hq
theorem jdo_R {M : Hp} {j : Jo} {v lv : Value} {l : List Ch} (hv : JoR j v M) (hl : LiR Ch.cells 31 M l lv) (h : RiJ j) (hll : l.length ≤ 1000000000000) : CallsR Tryz.prog 18 [v, lv] M (JeR (doJ j l)) :=
  (jdo_ok hv hl (by have := h.st.len; omega) (by have := h.ul; omega) (by have := h.ml; omega) (fun y hy => by have := (mayA_slots (h.st.may y hy)).len; omega) hll).toR fun v N1 A _ _ hf hq => hq
theorem jback_R {M : Hp} {j : Jo} {v : Value} {m : Int} (hv : JoR j v M) (h : RiJ j) : CallsR Tryz.prog 22 [v, .int .i64 m] M (JeR (backJ j m)) :=
  jback_ok hv (by have := h.st.len; omega) (by have := h.ul; omega) (by have := h.ml; omega) (fun y hy => by have := (mayA_slots (h.st.may y hy)).len; omega)
def plAwk09 : Plans := fun i => if i = 5 then [(0, 9)] else if i = 7 then [] else if i = 8 then [(0, 9)] else if i = 12 then [(0, 9)] else Tryz.pl7 i
attribute [push_cast] plAwk09
theorem awk09_ok : CallsV Tryz.prog 7 [] [] (Ret0 (.bool true)) := by
  have k5 : i64In 5 := by decide
  have k7 : i64In 7 := by decide
  refine callsO gV3_ok Tryz.mix plAwk09 Tryz.func7 rfl Tryz.ntmps7 Tryz.results7 rfl (by first | rfl | assumption) (Nat.le_of_ble_eq_true rfl) (by kernel_rfl) ?_
  simp only [push_cast, Nat.reduceAdd, Nat.reduceSub, Nat.reduceMul, Nat.reduceLT, Nat.reduceLeDiff, Nat.reduceEqDiff, Nat.reduceMod, Nat.reduceDiv, Int.reduceAdd, Int.reduceSub, Int.reduceMul, Int.reduceLT, Int.reduceLE, Int.reduceEq, Int.reduceNeg, Int.reduceToNat, reduceIte, reduceCtorEq, Int.reduceBEq, Int.reduceBNe]
  intro b1
  simp only [push_cast, Nat.reduceAdd, Nat.reduceSub, Nat.reduceMul, Nat.reduceLT, Nat.reduceLeDiff, Nat.reduceEqDiff, Nat.reduceMod, Nat.reduceDiv, Int.reduceAdd, Int.reduceSub, Int.reduceMul, Int.reduceLT, Int.reduceLE, Int.reduceEq, Int.reduceNeg, Int.reduceToNat, reduceIte, reduceCtorEq, Int.reduceBEq, Int.reduceBNe, ← at5_cells, Ad.agg, k5]
  intro b2 hb2
  refine useL [_, _] (M := []) (jopen_ok (s := []) (StR.nil _ _) (by simp) (fun y hy => by cases hy)) (JeR.rd _) rfl ⟨trivial, trivial, trivial⟩ fun w M1 hg1 hL1 hq => ?_
  rw [show openJ [] = (⟨[], [], []⟩, 0) by unfold openJ; rw [if_pos (rightS_iff.2 RiS.nil)]] at hq
  obtain ⟨w1, rfl, hj0⟩ := hq
  obtain ⟨p0, q0, p0', q0', p0'', q0'', rfl⟩ := hj0.e3
  simp only [push_cast, Nat.reduceAdd, Nat.reduceSub, Nat.reduceMul, Nat.reduceLT, Nat.reduceLeDiff, Nat.reduceEqDiff, Nat.reduceMod, Nat.reduceDiv, Int.reduceAdd, Int.reduceSub, Int.reduceMul, Int.reduceLT, Int.reduceLE, Int.reduceEq, Int.reduceNeg, Int.reduceToNat, reduceIte, reduceCtorEq, Int.reduceBEq, Int.reduceBNe, hb2]
  intro b3 hb3
  refine useL [_, _, _] (jmark_R hj0 (RiJ.open RiS.nil)) (JmR.rd _) hg1.marks ⟨hb3.2.2.2.2, hL1.1, hL1.2.1, trivial⟩ fun w M2 hg2 hL2 hq => ?_
  rw [mk0] at hq
  obtain ⟨w1, rfl, hjA⟩ := hq
  obtain ⟨p1, q1, p1', q1', p1'', q1'', rfl⟩ := hjA.e3
  simp only [push_cast, Nat.reduceAdd, Nat.reduceSub, Nat.reduceMul, Nat.reduceLT, Nat.reduceLeDiff, Nat.reduceEqDiff, Nat.reduceMod, Nat.reduceDiv, Int.reduceAdd, Int.reduceSub, Int.reduceMul, Int.reduceLT, Int.reduceLE, Int.reduceEq, Int.reduceNeg, Int.reduceToNat, reduceIte, reduceCtorEq, Int.reduceBEq, Int.reduceBNe, hb2, hb3]
  obtain ⟨e3, e2, e1, -⟩ := hL2
  refine regO gV3_ok ?_
  simp only [push_cast, Nat.reduceAdd, Nat.reduceSub, Nat.reduceMul, Nat.reduceLT, Nat.reduceLeDiff, Nat.reduceEqDiff, Nat.reduceMod, Nat.reduceDiv, Int.reduceAdd, Int.reduceSub, Int.reduceMul, Int.reduceLT, Int.reduceLE, Int.reduceEq, Int.reduceNeg, Int.reduceToNat, reduceIte, reduceCtorEq, Int.reduceBEq, Int.reduceBNe, hb2, hb3]
  intro bs hbs
  refine CallsV.pre (H' := _ :: _ :: _ :: (_ :: M2)) (((List.Perm.swap _ _ _).trans ((List.Perm.swap _ _ _).cons _)).trans (((List.Perm.swap _ _ _).cons _).cons _)) (by simp [marksOf]) ?_
  refine useL [_, _, _] (M := _ :: M2) (jdo_R (l := [c5]) (hjA.app (N := [_]) ⟨hbs.2.2.2.2.2.2, trivial⟩) LiR.one1 riA (by simp)) (JeR.rd _) (by simpa [marksOf] using hg2.marks) ⟨⟨hbs.2.1, hbs.1, e3⟩, ⟨hbs.2.2.2.1, hbs.2.2.1, e2⟩, ⟨hbs.2.2.2.2.2.1, hbs.2.2.2.2.1, e1⟩, trivial⟩ fun w M3 hg3 hL3 hq => ?_
  rw [doK] at hq
  obtain ⟨w1, rfl, hjK⟩ := hq
  obtain ⟨p2, q2, p2', q2', p2'', q2'', rfl⟩ := hjK.e3
  have hjA3 := (hjA.app (N := [_]) ⟨hbs.2.2.2.2.2.2, trivial⟩).ext hg3.ext
  simp only [push_cast, Nat.reduceAdd, Nat.reduceSub, Nat.reduceMul, Nat.reduceLT, Nat.reduceLeDiff, Nat.reduceEqDiff, Nat.reduceMod, Nat.reduceDiv, Int.reduceAdd, Int.reduceSub, Int.reduceMul, Int.reduceLT, Int.reduceLE, Int.reduceEq, Int.reduceNeg, Int.reduceToNat, reduceIte, reduceCtorEq, Int.reduceBEq, Int.reduceBNe, hb2, hb3]
  intro b7 hb7
  refine useL [_, _, _, _] (jmark_R hjK riK) (JmR.rd _) hg3.marks ⟨hb7.2.2.2.2.2.2, hL3.1, hL3.2.1, hL3.2.2.1, trivial⟩ fun w M4 hg4 hL4 hq => ?_
  rw [mkL] at hq
  obtain ⟨w1, rfl, hjL⟩ := hq
  obtain ⟨p3, q3, p3', q3', p3'', q3'', rfl⟩ := hjL.e3
  have hjA4 := hjA3.ext hg4.ext
  have hjK4 := hjK.ext hg4.ext
  simp only [push_cast, Nat.reduceAdd, Nat.reduceSub, Nat.reduceMul, Nat.reduceLT, Nat.reduceLeDiff, Nat.reduceEqDiff, Nat.reduceMod, Nat.reduceDiv, Int.reduceAdd, Int.reduceSub, Int.reduceMul, Int.reduceLT, Int.reduceLE, Int.reduceEq, Int.reduceNeg, Int.reduceToNat, reduceIte, reduceCtorEq, Int.reduceBEq, Int.reduceBNe, hb2, hb3, hb7]
  intro b9 hb9
  have hL9 : freshN [⟨b9, 0, .cel 37, [.slice p3 jL.state.length q3, .slice p3' jL.undo.length q3', .slice p3'' jL.marks.length q3'']⟩, ⟨b7, 0, .cel 37, [.slice p2 jK.state.length q2, .slice p2' jK.undo.length q2', .slice p2'' jK.marks.length q2'']⟩, ⟨b3, 0, .cel 37, [.slice p1 jA.state.length q1, .slice p1' jA.undo.length q1', .slice p1'' jA.marks.length q1'']⟩, ⟨b2, 0, .cel 31, (balC at5 5).cells⟩, ⟨b1, 0, .cel 26, at5.cells⟩] M4 := ⟨hb9.2.2.2.2.2.2.2.2, hL4⟩
  have fE9 : findE (⟨b9, 0, .cel 37, [.slice p3 jL.state.length q3, .slice p3' jL.undo.length q3', .slice p3'' jL.marks.length q3'']⟩ :: ⟨b7, 0, .cel 37, [.slice p2 jK.state.length q2, .slice p2' jK.undo.length q2', .slice p2'' jK.marks.length q2'']⟩ :: ⟨b3, 0, .cel 37, [.slice p1 jA.state.length q1, .slice p1' jA.undo.length q1', .slice p1'' jA.marks.length q1'']⟩ :: ⟨b2, 0, .cel 31, (balC at5 5).cells⟩ :: ⟨b1, 0, .cel 26, at5.cells⟩ :: M4) b9 = some ⟨b9, 0, .cel 37, [.slice p3 jL.state.length q3, .slice p3' jL.undo.length q3', .slice p3'' jL.marks.length q3'']⟩ := by
    simp only [push_cast, Nat.reduceAdd, Nat.reduceSub, Nat.reduceMul, Nat.reduceLT, Nat.reduceLeDiff, Nat.reduceEqDiff, Nat.reduceMod, Nat.reduceDiv, Int.reduceAdd, Int.reduceSub, Int.reduceMul, Int.reduceLT, Int.reduceLE, Int.reduceEq, Int.reduceNeg, Int.reduceToNat, reduceIte, reduceCtorEq, Int.reduceBEq, Int.reduceBNe]
  have fE1 : findE (⟨b9, 0, .cel 37, [.slice p3 jL.state.length q3, .slice p3' jL.undo.length q3', .slice p3'' jL.marks.length q3'']⟩ :: ⟨b7, 0, .cel 37, [.slice p2 jK.state.length q2, .slice p2' jK.undo.length q2', .slice p2'' jK.marks.length q2'']⟩ :: ⟨b3, 0, .cel 37, [.slice p1 jA.state.length q1, .slice p1' jA.undo.length q1', .slice p1'' jA.marks.length q1'']⟩ :: ⟨b2, 0, .cel 31, (balC at5 5).cells⟩ :: ⟨b1, 0, .cel 26, at5.cells⟩ :: M4) b1 = some ⟨b1, 0, .cel 26, at5.cells⟩ := by
    simp only [push_cast, Nat.reduceAdd, Nat.reduceSub, Nat.reduceMul, Nat.reduceLT, Nat.reduceLeDiff, Nat.reduceEqDiff, Nat.reduceMod, Nat.reduceDiv, Int.reduceAdd, Int.reduceSub, Int.reduceMul, Int.reduceLT, Int.reduceLE, Int.reduceEq, Int.reduceNeg, Int.reduceToNat, reduceIte, reduceCtorEq, Int.reduceBEq, Int.reduceBNe, hb2, hb3, hb7, hb9]
  refine drawS gV3_ok Tryz.mix [(1, .pointer (some ⟨b1, 0, none⟩)), (2, .pointer (some ⟨b2, 0, none⟩)), (3, .pointer (some ⟨b3, 0, none⟩)), (4, .int .i64 0), (5, .int .i64 0), (6, .int .i64 0), (7, .pointer (some ⟨b7, 0, none⟩)), (8, .int .i64 0), (9, .pointer (some ⟨b9, 0, none⟩)), (10, .int .i64 1), (11, .int .i64 0)]
      (fun i val => match i with
        | 0 => val 0 = .agg #[.slice p3 jL.state.length q3, .slice p3' jL.undo.length q3', .slice p3'' jL.marks.length q3'']
        | 1 => val 1 = at5.v
        | 2 => val 2 = c7.v
        | 3 => ∃ b, val 3 = .slice (some ⟨b, 0, none⟩) 1 1
        | 4 => ∃ p k p' k' p'' k'', val 4 = .tuple #[.agg #[.slice p jM.state.length k, .slice p' jM.undo.length k', .slice p'' jM.marks.length k''], .int .i64 0]
        | 5 => val 5 = val 4 ∧ ∃ p k p' k' p'' k'', val 4 = .tuple #[.agg #[.slice p jM.state.length k, .slice p' jM.undo.length k', .slice p'' jM.marks.length k''], .int .i64 0]
        | 6 => val 5 = .tuple #[val 6, .int .i64 0] ∧ ∃ p k p' k' p'' k'', val 6 = .agg #[.slice p jM.state.length k, .slice p' jM.undo.length k', .slice p'' jM.marks.length k'']
        | 7 => val 7 = .int .i64 0
        | 8 => ∃ b, val 8 = .pointer (some ⟨b, 0, none⟩)
        | 10 => val 10 = .int .i64 0
        | _ => True)
      (fun i val N => match i with
        | 3 => ∃ b, val 3 = .slice (some ⟨b, 0, none⟩) 1 1 ∧ N = [⟨b, 0, .vec 31 31 1, c7.cells⟩]
        | 4 => allWr N ∧ marksOf N = [] ∧ JeR (jM, 0) (val 4) (N ++ M4)
        | 5 => N = []
        | 6 => N = []
        | 8 => ∃ b, val 8 = .pointer (some ⟨b, 0, none⟩) ∧ N = [⟨b, 0, .cel 37, [.slice none 0 0, .slice none 0 0, .slice none 0 0]⟩]
        | 9 => ∃ b p k p' k' p'' k'', val 8 = .pointer (some ⟨b, 0, none⟩) ∧ val 6 = .agg #[.slice p jM.state.length k, .slice p' jM.undo.length k', .slice p'' jM.marks.length k''] ∧ N = [⟨b, 0, .cel 37, [.slice p jM.state.length k, .slice p' jM.undo.length k', .slice p'' jM.marks.length k'']⟩]
        | _ => N = []) (fun i => if i = 4 then [3] else if i = 9 then [8] else []) [4, 9] (by kernel_rfl) (by kernel_rfl) (by kernel_rfl) ?_ (by rfl) (by decide) (by kernel_rfl) ?_ ?_ ?_ ?_ ?_
  · simp only [push_cast, Nat.reduceAdd, Nat.reduceSub, Nat.reduceMul, Nat.reduceLT, Nat.reduceLeDiff, Nat.reduceEqDiff, Nat.reduceMod, Nat.reduceDiv, Int.reduceAdd, Int.reduceSub, Int.reduceMul, Int.reduceLT, Int.reduceLE, Int.reduceEq, Int.reduceNeg, Int.reduceToNat, reduceIte, reduceCtorEq, Int.reduceBEq, Int.reduceBNe, subT]
  · intro i hi hiF
    replace hi : i < 11 := hi
    obtain rfl | rfl | rfl | rfl | rfl | rfl | rfl | rfl | rfl | rfl | rfl : i = 0 ∨ i = 1 ∨ i = 2 ∨ i = 3 ∨ i = 4 ∨ i = 5 ∨ i = 6 ∨ i = 7 ∨ i = 8 ∨ i = 9 ∨ i = 10 := by omega
    all_goals first
      | exact .inl fun _ _ h => h
      | exact absurd (by decide) hiF
      | exact .inr (by kernel_rfl)
  · intro i o ho val val' h1 h2 hV
    have hi := (Array.getElem?_eq_some_iff.1 ho).1
    replace hi : i < 11 := hi
    obtain rfl | rfl | rfl | rfl | rfl | rfl | rfl | rfl | rfl | rfl | rfl : i = 0 ∨ i = 1 ∨ i = 2 ∨ i = 3 ∨ i = 4 ∨ i = 5 ∨ i = 6 ∨ i = 7 ∨ i = 8 ∨ i = 9 ∨ i = 10 := by omega
    · first
        | exact trivial
        | exact hV
        | exact h1.trans hV
        | (rw [h1]; exact hV)
    · first
        | exact trivial
        | exact hV
        | exact h1.trans hV
        | (rw [h1]; exact hV)
    · first
        | exact trivial
        | exact hV
        | exact h1.trans hV
        | (rw [h1]; exact hV)
    · first
        | exact trivial
        | exact hV
        | exact h1.trans hV
        | (rw [h1]; exact hV)
    · first
        | exact trivial
        | exact hV
        | exact h1.trans hV
        | (rw [h1]; exact hV)
    · simp only [List.getElem?_toArray, List.getElem?_cons_zero, List.getElem?_cons_succ, Option.some.injEq] at ho; subst ho
      have e4 := h2 4 (by kernel_rfl)
      rw [h1, e4]
      exact hV
    · simp only [List.getElem?_toArray, List.getElem?_cons_zero, List.getElem?_cons_succ, Option.some.injEq] at ho; subst ho
      have e5 := h2 5 (by kernel_rfl)
      rw [h1, e5]
      exact hV
    · first
        | exact trivial
        | exact hV
        | exact h1.trans hV
        | (rw [h1]; exact hV)
    · first
        | exact trivial
        | exact hV
        | exact h1.trans hV
        | (rw [h1]; exact hV)
    · first
        | exact trivial
        | exact hV
        | exact h1.trans hV
        | (rw [h1]; exact hV)
    · first
        | exact trivial
        | exact hV
        | exact h1.trans hV
        | (rw [h1]; exact hV)
  · intro i o ho val val' N h1 h2 hQ
    have hi := (Array.getElem?_eq_some_iff.1 ho).1
    replace hi : i < 11 := hi
    obtain rfl | rfl | rfl | rfl | rfl | rfl | rfl | rfl | rfl | rfl | rfl : i = 0 ∨ i = 1 ∨ i = 2 ∨ i = 3 ∨ i = 4 ∨ i = 5 ∨ i = 6 ∨ i = 7 ∨ i = 8 ∨ i = 9 ∨ i = 10 := by omega
    · first
        | exact trivial
        | exact hQ
        | exact h1.trans hQ
        | (rw [h1]; exact hQ)
    · first
        | exact trivial
        | exact hQ
        | exact h1.trans hQ
        | (rw [h1]; exact hQ)
    · first
        | exact trivial
        | exact hQ
        | exact h1.trans hQ
        | (rw [h1]; exact hQ)
    · first
        | exact trivial
        | exact hQ
        | exact h1.trans hQ
        | (rw [h1]; exact hQ)
    · first
        | exact trivial
        | exact hQ
        | exact h1.trans hQ
        | (rw [h1]; exact hQ)
    · first
        | exact trivial
        | exact hQ
        | exact h1.trans hQ
        | (rw [h1]; exact hQ)
    · first
        | exact trivial
        | exact hQ
        | exact h1.trans hQ
        | (rw [h1]; exact hQ)
    · first
        | exact trivial
        | exact hQ
        | exact h1.trans hQ
        | (rw [h1]; exact hQ)
    · first
        | exact trivial
        | exact hQ
        | exact h1.trans hQ
        | (rw [h1]; exact hQ)
    · simp only [List.getElem?_toArray, List.getElem?_cons_zero, List.getElem?_cons_succ, Option.some.injEq] at ho; subst ho
      have e6 := h2 6 (by kernel_rfl)
      have e8 := h2 8 (by kernel_rfl)
      rw [e6, e8]
      exact hQ
    · first
        | exact trivial
        | exact hQ
        | exact h1.trans hQ
        | (rw [h1]; exact hQ)
  · intro i o ho T' Y val mem hT hdep hus hfr hY hmY hapY
    have hi := (Array.getElem?_eq_some_iff.1 ho).1
    replace hi : i < 11 := hi
    have y9 := hY _ _ fE9
    have y1 := hY _ _ fE1
    have t1 : getT T' 1 = some (.pointer (some ⟨b1, 0, none⟩)) := hT.1
    have t9 : getT T' 9 = some (.pointer (some ⟨b9, 0, none⟩)) := hT.2.2.2.2.2.2.2.2.1
    obtain rfl | rfl | rfl | rfl | rfl | rfl | rfl | rfl | rfl | rfl | rfl : i = 0 ∨ i = 1 ∨ i = 2 ∨ i = 3 ∨ i = 4 ∨ i = 5 ∨ i = 6 ∨ i = 7 ∨ i = 8 ∨ i = 9 ∨ i = 10 := by omega
    · simp only [List.getElem?_toArray, List.getElem?_cons_zero, List.getElem?_cons_succ, Option.some.injEq] at ho; subst ho
      simp only [push_cast, Nat.reduceAdd, Nat.reduceSub, Nat.reduceMul, Nat.reduceLT, Nat.reduceLeDiff, Nat.reduceEqDiff, Nat.reduceMod, Nat.reduceDiv, Int.reduceAdd, Int.reduceSub, Int.reduceMul, Int.reduceLT, Int.reduceLE, Int.reduceEq, Int.reduceNeg, Int.reduceToNat, reduceIte, reduceCtorEq, Int.reduceBEq, Int.reduceBNe, List.flatMap_nil, List.flatMap_cons, List.append_nil, List.nil_append, t9, y9]
      exact ⟨[], rfl, trivial, rfl, upd_self _ _ _, rfl⟩
    · simp only [List.getElem?_toArray, List.getElem?_cons_zero, List.getElem?_cons_succ, Option.some.injEq] at ho; subst ho
      simp only [push_cast, Nat.reduceAdd, Nat.reduceSub, Nat.reduceMul, Nat.reduceLT, Nat.reduceLeDiff, Nat.reduceEqDiff, Nat.reduceMod, Nat.reduceDiv, Int.reduceAdd, Int.reduceSub, Int.reduceMul, Int.reduceLT, Int.reduceLE, Int.reduceEq, Int.reduceNeg, Int.reduceToNat, reduceIte, reduceCtorEq, Int.reduceBEq, Int.reduceBNe, List.flatMap_nil, List.flatMap_cons, List.append_nil, List.nil_append, t1, y1, Ad.agg, Ad.len]
      exact ⟨[], rfl, trivial, rfl, upd_self _ _ _, rfl⟩
    · simp only [List.getElem?_toArray, List.getElem?_cons_zero, List.getElem?_cons_succ, Option.some.injEq] at ho; subst ho
      obtain ⟨v1, g1⟩ := hdep 1 (by kernel_rfl)
      replace g1 := g1 52 rfl
      rw [show val 1 = _ from v1] at g1
      simp only [push_cast, Nat.reduceAdd, Nat.reduceSub, Nat.reduceMul, Nat.reduceLT, Nat.reduceLeDiff, Nat.reduceEqDiff, Nat.reduceMod, Nat.reduceDiv, Int.reduceAdd, Int.reduceSub, Int.reduceMul, Int.reduceLT, Int.reduceLE, Int.reduceEq, Int.reduceNeg, Int.reduceToNat, reduceIte, reduceCtorEq, Int.reduceBEq, Int.reduceBNe, List.flatMap_nil, List.flatMap_cons, List.append_nil, List.nil_append, g1, k7]
      exact ⟨[], rfl, trivial, rfl, upd_self _ _ _, rfl⟩
    · simp only [List.getElem?_toArray, List.getElem?_cons_zero, List.getElem?_cons_succ, Option.some.injEq] at ho; subst ho
      obtain ⟨v2, g2⟩ := hdep 2 (by kernel_rfl)
      replace g2 := g2 53 rfl
      rw [show val 2 = _ from v2] at g2
      simp only [push_cast, Nat.reduceAdd, Nat.reduceSub, Nat.reduceMul, Nat.reduceLT, Nat.reduceLeDiff, Nat.reduceEqDiff, Nat.reduceMod, Nat.reduceDiv, Int.reduceAdd, Int.reduceSub, Int.reduceMul, Int.reduceLT, Int.reduceLE, Int.reduceEq, Int.reduceNeg, Int.reduceToNat, reduceIte, reduceCtorEq, Int.reduceBEq, Int.reduceBNe, List.flatMap_nil, List.flatMap_cons, List.append_nil, List.nil_append, g2]
      intro b hf
      exact ⟨[_], rfl, ⟨trivial, trivial⟩, rfl, ⟨b, upd_self _ _ _⟩, b, upd_self _ _ _, rfl⟩
    · simp only [List.getElem?_toArray, List.getElem?_cons_zero, List.getElem?_cons_succ, Option.some.injEq] at ho; subst ho
      obtain ⟨v0, g0⟩ := hdep 0 (by kernel_rfl)
      replace g0 := g0 51 rfl
      rw [show val 0 = _ from v0] at g0
      obtain ⟨v3, g3⟩ := hdep 3 (by kernel_rfl)
      replace g3 := g3 54 rfl
      obtain ⟨bs0, v3⟩ := v3
      obtain ⟨b3', v3', hN⟩ := hus 3 (List.mem_singleton.2 rfl)
      have v3' : val 3 = _ := v3'
      rw [v3'] at g3
      have fr3 : freshN (mem 3) Y := by simpa using hfr
      rw [hN] at fr3
      have hM4 : ∀ b e, findE M4 b = some e → findE Y b = some e := fun b e h => hY b e (find_behind (L := [_, _, _, _, _]) hL9 b e h)
      have hM5 : ∀ b e, findE M4 b = some e → findE (⟨b3', 0, .vec 31 31 1, c7.cells⟩ :: M4) b = some e := fun b e h => by rw [findE, if_neg (fun h2 => (fresh_findS fr3.1 (hM4 b e h)).1 h2.symm)]; exact h
      simp only [push_cast, Nat.reduceAdd, Nat.reduceSub, Nat.reduceMul, Nat.reduceLT, Nat.reduceLeDiff, Nat.reduceEqDiff, Nat.reduceMod, Nat.reduceDiv, Int.reduceAdd, Int.reduceSub, Int.reduceMul, Int.reduceLT, Int.reduceLE, Int.reduceEq, Int.reduceNeg, Int.reduceToNat, reduceIte, reduceCtorEq, Int.reduceBEq, Int.reduceBNe, List.flatMap_nil, List.flatMap_cons, List.append_nil, List.nil_append, g0, g3, hN, List.cons_append]
      have hwb : allWr [(⟨b3', 0, .vec 31 31 1, c7.cells⟩ : Ent)] := ⟨trivial, trivial⟩
      have hM6 := find_front (N := [⟨b3', 0, .vec 31 31 1, c7.cells⟩]) hM4
      refine callS (M := ⟨b3', 0, .vec 31 31 1, c7.cells⟩ :: M4) (doM ▸ jdo_R (l := [c7]) (hjL.find hM5) LiR.one1 riL (by simp)) (JeR.rd _) hM6 fun w N hw hm1 hf hq => ⟨N ++ [⟨b3', 0, .vec 31 31 1, c7.cells⟩], by rw [List.append_assoc]; rfl, allWr_app hw hwb, by rw [marks_append, hm1]; rfl, ?_, ?_⟩
      · obtain ⟨w1, rfl, hj⟩ := hq
        obtain ⟨p, k, p', k', p'', k'', rfl⟩ := hj.e3
        exact ⟨p, k, p', k', p'', k'', by rw [upd_self]⟩
      · rw [upd_self]
        refine ⟨allWr_app hw hwb, by rw [marks_append, hm1]; rfl, ?_⟩
        rw [List.append_assoc]; exact hq
    · simp only [List.getElem?_toArray, List.getElem?_cons_zero, List.getElem?_cons_succ, Option.some.injEq] at ho; subst ho
      obtain ⟨v4, g4⟩ := hdep 4 (by kernel_rfl)
      replace g4 := g4 55 rfl
      obtain ⟨p, k, p', k', p'', k'', v4⟩ := v4
      have v4 : val 4 = _ := v4
      rw [v4] at g4
      simp only [push_cast, Nat.reduceAdd, Nat.reduceSub, Nat.reduceMul, Nat.reduceLT, Nat.reduceLeDiff, Nat.reduceEqDiff, Nat.reduceMod, Nat.reduceDiv, Int.reduceAdd, Int.reduceSub, Int.reduceMul, Int.reduceLT, Int.reduceLE, Int.reduceEq, Int.reduceNeg, Int.reduceToNat, reduceIte, reduceCtorEq, Int.reduceBEq, Int.reduceBNe, List.flatMap_nil, List.flatMap_cons, List.append_nil, List.nil_append, g4]
      exact ⟨[], rfl, trivial, rfl, ⟨by simp [upd, v4], p, k, p', k', p'', k'', by simp [upd, v4]⟩, rfl⟩
    · simp only [List.getElem?_toArray, List.getElem?_cons_zero, List.getElem?_cons_succ, Option.some.injEq] at ho; subst ho
      obtain ⟨v5, g5⟩ := hdep 5 (by kernel_rfl)
      replace g5 := g5 50 rfl
      obtain ⟨v5, p, k, p', k', p'', k'', v4⟩ := v5
      have v5 : val 5 = _ := v5
      rw [v5, v4] at g5
      simp only [push_cast, Nat.reduceAdd, Nat.reduceSub, Nat.reduceMul, Nat.reduceLT, Nat.reduceLeDiff, Nat.reduceEqDiff, Nat.reduceMod, Nat.reduceDiv, Int.reduceAdd, Int.reduceSub, Int.reduceMul, Int.reduceLT, Int.reduceLE, Int.reduceEq, Int.reduceNeg, Int.reduceToNat, reduceIte, reduceCtorEq, Int.reduceBEq, Int.reduceBNe, List.flatMap_nil, List.flatMap_cons, List.append_nil, List.nil_append, g5]
      exact ⟨[], rfl, trivial, rfl, ⟨by simp [upd, v5, v4], p, k, p', k', p'', k'', by simp [upd]⟩, rfl⟩
    · simp only [List.getElem?_toArray, List.getElem?_cons_zero, List.getElem?_cons_succ, Option.some.injEq] at ho; subst ho
      obtain ⟨v5, g5⟩ := hdep 5 (by kernel_rfl)
      replace g5 := g5 50 rfl
      obtain ⟨v5, p, k, p', k', p'', k'', v4⟩ := v5
      have v5 : val 5 = _ := v5
      rw [v5, v4] at g5
      simp only [push_cast, Nat.reduceAdd, Nat.reduceSub, Nat.reduceMul, Nat.reduceLT, Nat.reduceLeDiff, Nat.reduceEqDiff, Nat.reduceMod, Nat.reduceDiv, Int.reduceAdd, Int.reduceSub, Int.reduceMul, Int.reduceLT, Int.reduceLE, Int.reduceEq, Int.reduceNeg, Int.reduceToNat, reduceIte, reduceCtorEq, Int.reduceBEq, Int.reduceBNe, List.flatMap_nil, List.flatMap_cons, List.append_nil, List.nil_append, g5]
      exact ⟨[], rfl, trivial, rfl, upd_self _ _ _, rfl⟩
    · simp only [List.getElem?_toArray, List.getElem?_cons_zero, List.getElem?_cons_succ, Option.some.injEq] at ho; subst ho
      simp only [push_cast, Nat.reduceAdd, Nat.reduceSub, Nat.reduceMul, Nat.reduceLT, Nat.reduceLeDiff, Nat.reduceEqDiff, Nat.reduceMod, Nat.reduceDiv, Int.reduceAdd, Int.reduceSub, Int.reduceMul, Int.reduceLT, Int.reduceLE, Int.reduceEq, Int.reduceNeg, Int.reduceToNat, reduceIte, reduceCtorEq, Int.reduceBEq, Int.reduceBNe, List.flatMap_nil, List.flatMap_cons, List.append_nil, List.nil_append]
      intro b hf
      exact ⟨[_], rfl, ⟨trivial, trivial⟩, rfl, ⟨b, upd_self _ _ _⟩, b, upd_self _ _ _, rfl⟩
    · simp only [List.getElem?_toArray, List.getElem?_cons_zero, List.getElem?_cons_succ, Option.some.injEq] at ho; subst ho
      obtain ⟨v6, g6⟩ := hdep 6 (by kernel_rfl)
      replace g6 := g6 56 rfl
      obtain ⟨v8, g8⟩ := hdep 8 (by kernel_rfl)
      replace g8 := g8 12 rfl
      obtain ⟨-, p, k, p', k', p'', k'', v6⟩ := v6
      have v6 : val 6 = _ := v6
      rw [v6] at g6
      obtain ⟨b8, v8, hN⟩ := hus 8 (List.mem_singleton.2 rfl)
      have v8 : val 8 = _ := v8
      rw [v8] at g8
      simp only [push_cast, Nat.reduceAdd, Nat.reduceSub, Nat.reduceMul, Nat.reduceLT, Nat.reduceLeDiff, Nat.reduceEqDiff, Nat.reduceMod, Nat.reduceDiv, Int.reduceAdd, Int.reduceSub, Int.reduceMul, Int.reduceLT, Int.reduceLE, Int.reduceEq, Int.reduceNeg, Int.reduceToNat, reduceIte, reduceCtorEq, Int.reduceBEq, Int.reduceBNe, List.flatMap_nil, List.flatMap_cons, List.append_nil, List.nil_append, g6, g8, hN, List.cons_append]
      exact ⟨[_], rfl, ⟨trivial, trivial⟩, rfl, b8, p, k, p', k', p'', k'', by simp [upd, v8], by simp [upd, v6], rfl⟩
    · simp only [List.getElem?_toArray, List.getElem?_cons_zero, List.getElem?_cons_succ, Option.some.injEq] at ho; subst ho
      obtain ⟨v7, g7⟩ := hdep 7 (by kernel_rfl)
      replace g7 := g7 57 rfl
      rw [show val 7 = _ from v7] at g7
      simp only [push_cast, Nat.reduceAdd, Nat.reduceSub, Nat.reduceMul, Nat.reduceLT, Nat.reduceLeDiff, Nat.reduceEqDiff, Nat.reduceMod, Nat.reduceDiv, Int.reduceAdd, Int.reduceSub, Int.reduceMul, Int.reduceLT, Int.reduceLE, Int.reduceEq, Int.reduceNeg, Int.reduceToNat, reduceIte, reduceCtorEq, Int.reduceBEq, Int.reduceBNe, List.flatMap_nil, List.flatMap_cons, List.append_nil, List.nil_append, g7]
      exact ⟨[], rfl, trivial, rfl, upd_self _ _ _, rfl⟩
  · intro val mem hV hQ hap hwr
    obtain ⟨w4, m4, hq4⟩ := hQ 4 (by decide)
    obtain ⟨b12, p4, q4, p4', q4', p4'', q4'', v8, v6, hN9⟩ := hQ 9 (by decide)
    obtain ⟨v56, -⟩ := hV 6 (by decide)
    obtain ⟨v54, -⟩ := hV 5 (by decide)
    have v10 : val 10 = .int .i64 0 := hV 10 (by decide)
    have v8 : val 8 = _ := v8
    have v6 : val 6 = _ := v6
    have v54 : val 5 = val 4 := v54
    have v56 : val 5 = .tuple #[val 6, .int .i64 0] := v56
    rw [← v54, v56, v6] at hq4
    obtain ⟨wM, hwM, hjM⟩ := hq4
    injection hwM with hwM
    have hwM := congrArg Array.toList hwM
    simp only [List.cons.injEq, and_true] at hwM
    obtain rfl := hwM
    have hMM : List.flatMap mem [4, 9] ++ (⟨b9, 0, .cel 37, [.slice p3 jL.state.length q3, .slice p3' jL.undo.length q3', .slice p3'' jL.marks.length q3'']⟩ :: ⟨b7, 0, .cel 37, [.slice p2 jK.state.length q2, .slice p2' jK.undo.length q2', .slice p2'' jK.marks.length q2'']⟩ :: ⟨b3, 0, .cel 37, [.slice p1 jA.state.length q1, .slice p1' jA.undo.length q1', .slice p1'' jA.marks.length q1'']⟩ :: ⟨b2, 0, .cel 31, (balC at5 5).cells⟩ :: ⟨b1, 0, .cel 26, at5.cells⟩ :: M4) = mem 4 ++ (⟨b12, 0, .cel 37, [.slice p4 jM.state.length q4, .slice p4' jM.undo.length q4', .slice p4'' jM.marks.length q4'']⟩ :: ⟨b9, 0, .cel 37, [.slice p3 jL.state.length q3, .slice p3' jL.undo.length q3', .slice p3'' jL.marks.length q3'']⟩ :: ⟨b7, 0, .cel 37, [.slice p2 jK.state.length q2, .slice p2' jK.undo.length q2', .slice p2'' jK.marks.length q2'']⟩ :: ⟨b3, 0, .cel 37, [.slice p1 jA.state.length q1, .slice p1' jA.undo.length q1', .slice p1'' jA.marks.length q1'']⟩ :: ⟨b2, 0, .cel 31, (balC at5 5).cells⟩ :: ⟨b1, 0, .cel 26, at5.cells⟩ :: M4) := by
      simp only [List.flatMap_cons, List.flatMap_nil, List.append_nil, hN9, List.append_assoc, List.cons_append, List.nil_append]
    rw [hMM] at hap ⊢
    have a4 := freshN_apart hap w4
    have q4f := freshN_sym a4
    have hap2 := (List.pairwise_append.1 hap).2.1
    have a12 := freshN_apart (A := [⟨b12, 0, .cel 37, [.slice p4 jM.state.length q4, .slice p4' jM.undo.length q4', .slice p4'' jM.marks.length q4'']⟩]) hap2 ⟨trivial, trivial⟩
    have hb12 := a12.1
    simp only [push_cast, Nat.reduceAdd, Nat.reduceSub, Nat.reduceMul, Nat.reduceLT, Nat.reduceLeDiff, Nat.reduceEqDiff, Nat.reduceMod, Nat.reduceDiv, Int.reduceAdd, Int.reduceSub, Int.reduceMul, Int.reduceLT, Int.reduceLE, Int.reduceEq, Int.reduceNeg, Int.reduceToNat, reduceIte, reduceCtorEq, Int.reduceBEq, Int.reduceBNe] at hb12
    simp only [push_cast, Nat.reduceAdd, Nat.reduceSub, Nat.reduceMul, Nat.reduceLT, Nat.reduceLeDiff, Nat.reduceEqDiff, Nat.reduceMod, Nat.reduceDiv, Int.reduceAdd, Int.reduceSub, Int.reduceMul, Int.reduceLT, Int.reduceLE, Int.reduceEq, Int.reduceNeg, Int.reduceToNat, reduceIte, reduceCtorEq, Int.reduceBEq, Int.reduceBNe, v8, v6, v10]
    refine WpV.perm (H' := ⟨b12, 0, .cel 37, [.slice p4 jM.state.length q4, .slice p4' jM.undo.length q4', .slice p4'' jM.marks.length q4'']⟩ :: ⟨b9, 0, .cel 37, [.slice p3 jL.state.length q3, .slice p3' jL.undo.length q3', .slice p3'' jL.marks.length q3'']⟩ :: ⟨b7, 0, .cel 37, [.slice p2 jK.state.length q2, .slice p2' jK.undo.length q2', .slice p2'' jK.marks.length q2'']⟩ :: ⟨b3, 0, .cel 37, [.slice p1 jA.state.length q1, .slice p1' jA.undo.length q1', .slice p1'' jA.marks.length q1'']⟩ :: ⟨b2, 0, .cel 31, (balC at5 5).cells⟩ :: ⟨b1, 0, .cel 26, at5.cells⟩ :: (M4 ++ mem 4)) ?_ ?_ ?_
    · exact List.perm_append_comm
    · simp [marksOf, marks_append, m4]
    refine WpV.slots [(1, .pointer (some ⟨b1, 0, none⟩)), (2, .pointer (some ⟨b2, 0, none⟩)), (3, .pointer (some ⟨b3, 0, none⟩)), (4, .int .i64 0), (5, .int .i64 0), (6, .int .i64 0), (7, .pointer (some ⟨b7, 0, none⟩)), (8, .int .i64 0), (9, .pointer (some ⟨b9, 0, none⟩)), (10, .int .i64 1), (11, .int .i64 0), (12, .pointer (some ⟨b12, 0, none⟩)), (13, .int .i64 0)] (by simp only [push_cast, Nat.reduceAdd, Nat.reduceSub, Nat.reduceMul, Nat.reduceLT, Nat.reduceLeDiff, Nat.reduceEqDiff, Nat.reduceMod, Nat.reduceDiv, Int.reduceAdd, Int.reduceSub, Int.reduceMul, Int.reduceLT, Int.reduceLE, Int.reduceEq, Int.reduceNeg, Int.reduceToNat, reduceIte, reduceCtorEq, Int.reduceBEq, Int.reduceBNe]) ?_
    obtain ⟨M5, hM5⟩ : ∃ M5, M5 = M4 ++ mem 4 := ⟨_, rfl⟩
    have hg5 : Gr M4 M5 := ⟨hg4.marks, mem 4, hM5, w4, m4⟩
    have f40 := freshN_cons (freshN_cons (freshN_cons (freshN_cons (freshN_cons (freshN_cons a4)))))
    have hjM : JoR jM (.agg #[.slice p4 jM.state.length q4, .slice p4' jM.undo.length q4', .slice p4'' jM.marks.length q4'']) M5 := by rw [hM5]; exact JoR.rd _ _ _ _ (cellsAt_swap f40) hjM
    have c12 : fresh b12 M5 := by rw [hM5]; exact fresh_appS hb12.2.2.2.2.2.2.2.2.2.2 q4f.1
    have hL5 : freshN [⟨b9, 0, .cel 37, [.slice p3 jL.state.length q3, .slice p3' jL.undo.length q3', .slice p3'' jL.marks.length q3'']⟩, ⟨b7, 0, .cel 37, [.slice p2 jK.state.length q2, .slice p2' jK.undo.length q2', .slice p2'' jK.marks.length q2'']⟩, ⟨b3, 0, .cel 37, [.slice p1 jA.state.length q1, .slice p1' jA.undo.length q1', .slice p1'' jA.marks.length q1'']⟩, ⟨b2, 0, .cel 31, (balC at5 5).cells⟩, ⟨b1, 0, .cel 26, at5.cells⟩] M5 := by rw [hM5]; exact freshN_comb hL9 ⟨q4f.2.1, q4f.2.2.1, q4f.2.2.2.1, q4f.2.2.2.2.1, q4f.2.2.2.2.2.1, trivial⟩
    rw [← hM5]
    refine regO gV3_ok ?_
    simp only [push_cast, Nat.reduceAdd, Nat.reduceSub, Nat.reduceMul, Nat.reduceLT, Nat.reduceLeDiff, Nat.reduceEqDiff, Nat.reduceMod, Nat.reduceDiv, Int.reduceAdd, Int.reduceSub, Int.reduceMul, Int.reduceLT, Int.reduceLE, Int.reduceEq, Int.reduceNeg, Int.reduceToNat, reduceIte, reduceCtorEq, Int.reduceBEq, Int.reduceBNe, hb2, hb3, hb7, hb9, hb12]
    refine useL [_, _, _, _, _, _] (jback_R (m := 0) hjM riM) (JeR.rd _) hg5.marks ⟨c12, hL5⟩ fun w M6 hg6 hL6 hq => ?_
    rw [backM0] at hq
    obtain ⟨w1, rfl, hjN⟩ := hq
    obtain ⟨p5, q5, p5', q5', p5'', q5'', rfl⟩ := hjN.e3
    have hjM6 := hjM.ext hg6.ext
    simp only [push_cast, Nat.reduceAdd, Nat.reduceSub, Nat.reduceMul, Nat.reduceLT, Nat.reduceLeDiff, Nat.reduceEqDiff, Nat.reduceMod, Nat.reduceDiv, Int.reduceAdd, Int.reduceSub, Int.reduceMul, Int.reduceLT, Int.reduceLE, Int.reduceEq, Int.reduceNeg, Int.reduceToNat, reduceIte, reduceCtorEq, Int.reduceBEq, Int.reduceBNe, hb2, hb3, hb7, hb9, hb12]
    intro b14 hb14
    simp only [push_cast, Nat.reduceAdd, Nat.reduceSub, Nat.reduceMul, Nat.reduceLT, Nat.reduceLeDiff, Nat.reduceEqDiff, Nat.reduceMod, Nat.reduceDiv, Int.reduceAdd, Int.reduceSub, Int.reduceMul, Int.reduceLT, Int.reduceLE, Int.reduceEq, Int.reduceNeg, Int.reduceToNat, reduceIte, reduceCtorEq, Int.reduceBEq, Int.reduceBNe, hb2, hb3, hb7, hb9, hb12, hb14]
    refine useL [_, _, _, _, _, _, _] (jback_R (m := 1) hjM6 riM) (JeR.rd _) hg6.marks ⟨hb14.2.2.2.2.2.2.2.2.2.2.2.2, hL6⟩ fun w M7 hg7 hL7 hq => ?_
    rw [backM1] at hq
    obtain ⟨w1, rfl, hjP⟩ := hq
    obtain ⟨p6, q6, p6', q6', p6'', q6'', rfl⟩ := hjP.e3
    have hjM7 := hjM6.ext hg7.ext
    simp only [push_cast, Nat.reduceAdd, Nat.reduceSub, Nat.reduceMul, Nat.reduceLT, Nat.reduceLeDiff, Nat.reduceEqDiff, Nat.reduceMod, Nat.reduceDiv, Int.reduceAdd, Int.reduceSub, Int.reduceMul, Int.reduceLT, Int.reduceLE, Int.reduceEq, Int.reduceNeg, Int.reduceToNat, reduceIte, reduceCtorEq, Int.reduceBEq, Int.reduceBNe, hb2, hb3, hb7, hb9, hb12, hb14]
    intro b16 hb16
    simp only [push_cast, Nat.reduceAdd, Nat.reduceSub, Nat.reduceMul, Nat.reduceLT, Nat.reduceLeDiff, Nat.reduceEqDiff, Nat.reduceMod, Nat.reduceDiv, Int.reduceAdd, Int.reduceSub, Int.reduceMul, Int.reduceLT, Int.reduceLE, Int.reduceEq, Int.reduceNeg, Int.reduceToNat, reduceIte, reduceCtorEq, Int.reduceBEq, Int.reduceBNe, hb2, hb3, hb7, hb9, hb12, hb14, hb16]
    refine useL [_, _, _, _, _, _, _, _] (jkeep_R (m := 0) hjM7 (by decide) (by decide) (by decide) (fun y hy => by have := (mayA_slots (riM.st.may y hy)).len; omega)) (JeC.rd _) hg7.marks ⟨hb16.2.2.2.2.2.2.2.2.2.2.2.2.2.2, hL7⟩ fun w M8 hg8 hL8 hq => ?_
    rw [show keepJ jM 0 = (⟨[x7], [u5, u7], []⟩, 0) from keepM 0 (by decide)] at hq
    obtain ⟨va, pa, ka, vb, rfl, -, hjR⟩ := hq
    obtain ⟨p7, q7, p7', q7', p7'', q7'', hve⟩ := hjR.e3
    injection hve with hve
    have hve := congrArg Array.toList hve
    simp only [List.cons.injEq, and_true, Value.slice.injEq] at hve
    obtain ⟨rfl, ⟨rfl, -, rfl⟩, rfl⟩ := hve
    simp only [push_cast, Nat.reduceAdd, Nat.reduceSub, Nat.reduceMul, Nat.reduceLT, Nat.reduceLeDiff, Nat.reduceEqDiff, Nat.reduceMod, Nat.reduceDiv, Int.reduceAdd, Int.reduceSub, Int.reduceMul, Int.reduceLT, Int.reduceLE, Int.reduceEq, Int.reduceNeg, Int.reduceToNat, reduceIte, reduceCtorEq, Int.reduceBEq, Int.reduceBNe, hb2, hb3, hb7, hb9, hb12, hb14, hb16]
    intro b18 hb18
    simp only [push_cast, Nat.reduceAdd, Nat.reduceSub, Nat.reduceMul, Nat.reduceLT, Nat.reduceLeDiff, Nat.reduceEqDiff, Nat.reduceMod, Nat.reduceDiv, Int.reduceAdd, Int.reduceSub, Int.reduceMul, Int.reduceLT, Int.reduceLE, Int.reduceEq, Int.reduceNeg, Int.reduceToNat, reduceIte, reduceCtorEq, Int.reduceBEq, Int.reduceBNe, hb2, hb3, hb7, hb9, hb12, hb14, hb16, hb18]
    refine useL [_, _, _, _, _, _, _, _, _] (jback_R (m := 0) (hjN.ext (hg7.trans hg8).ext) (RiJ.open RiS.nil)) (JeR.rd _) hg8.marks ⟨hb18.2.2.2.2.2.2.2.2.2.2.2.2.2.2.2.2, hL8⟩ fun w M9 hg9 hL9' hq => ?_
    rw [backN] at hq
    obtain ⟨w1, rfl, hjT⟩ := hq
    obtain ⟨p8, q8, p8', q8', p8'', q8'', rfl⟩ := hjT.e3
    simp only [push_cast, Nat.reduceAdd, Nat.reduceSub, Nat.reduceMul, Nat.reduceLT, Nat.reduceLeDiff, Nat.reduceEqDiff, Nat.reduceMod, Nat.reduceDiv, Int.reduceAdd, Int.reduceSub, Int.reduceMul, Int.reduceLT, Int.reduceLE, Int.reduceEq, Int.reduceNeg, Int.reduceToNat, reduceIte, reduceCtorEq, Int.reduceBEq, Int.reduceBNe, hb2, hb3, hb7, hb9, hb12, hb14, hb16, hb18]
    intro b20 hb20
    refine regO gV3_ok ?_
    simp only [push_cast, Nat.reduceAdd, Nat.reduceSub, Nat.reduceMul, Nat.reduceLT, Nat.reduceLeDiff, Nat.reduceEqDiff, Nat.reduceMod, Nat.reduceDiv, Int.reduceAdd, Int.reduceSub, Int.reduceMul, Int.reduceLT, Int.reduceLE, Int.reduceEq, Int.reduceNeg, Int.reduceToNat, reduceIte, reduceCtorEq, Int.reduceBEq, Int.reduceBNe, hb2, hb3, hb7, hb9, hb12, hb14, hb16, hb18, hb20]
    intro bs hbs
    have hbs9 : fresh bs M9 := hbs.2.2.2.2.2.2.2.2.2.2.2.2.2.2.2.2.2.2.2.2
    refine CallsV.pre (H' := [_, _, _, _, _, _, _, _, _, _] ++ (_ :: M9)) (List.perm_middle (l₁ := [_, _, _, _, _, _, _, _, _, _]) (l₂ := M9)).symm (by simp [marksOf]) ?_
    have hjA9 := hjA4.ext ((hg5.trans hg6).trans ((hg7.trans hg8).trans hg9)).ext
    refine useL [_, _, _, _, _, _, _, _, _, _] (M := _ :: M9) (jdo_R (l := [c5, c9]) (hjA9.app (N := [_]) ⟨hbs9, trivial⟩) (LiR.two rfl) riA (by simp)) (JeR.rd _) (by simpa [marksOf] using hg9.marks) (freshN_consR ?_ ⟨hb20.2.2.2.2.2.2.2.2.2.2.2.2.2.2.2.2.2.2, hL9'⟩) fun w MA hgA hLA hq => ?_
    · intro x hx
      simp only [List.mem_cons, List.not_mem_nil, or_false] at hx
      rcases hx with rfl | rfl | rfl | rfl | rfl | rfl | rfl | rfl | rfl | rfl <;> simp only [hbs, not_false_eq_true]
    rw [doU] at hq
    obtain ⟨w1, rfl, hjU⟩ := hq
    obtain ⟨p9, q9, p9', q9', p9'', q9'', rfl⟩ := hjU.e3
    simp only [push_cast, Nat.reduceAdd, Nat.reduceSub, Nat.reduceMul, Nat.reduceLT, Nat.reduceLeDiff, Nat.reduceEqDiff, Nat.reduceMod, Nat.reduceDiv, Int.reduceAdd, Int.reduceSub, Int.reduceMul, Int.reduceLT, Int.reduceLE, Int.reduceEq, Int.reduceNeg, Int.reduceToNat, reduceIte, reduceCtorEq, Int.reduceBEq, Int.reduceBNe, hb2, hb3, hb7, hb9, hb12, hb14, hb16, hb18, hb20]
    intro b22 hb22
    simp only [push_cast, Nat.reduceAdd, Nat.reduceSub, Nat.reduceMul, Nat.reduceLT, Nat.reduceLeDiff, Nat.reduceEqDiff, Nat.reduceMod, Nat.reduceDiv, Int.reduceAdd, Int.reduceSub, Int.reduceMul, Int.reduceLT, Int.reduceLE, Int.reduceEq, Int.reduceNeg, Int.reduceToNat, reduceIte, reduceCtorEq, Int.reduceBEq, Int.reduceBNe, hb2, hb3, hb7, hb9, hb12, hb14, hb16, hb18, hb20, hb22, List.append_eq, List.cons_append, List.nil_append]
    have gA := hgA.ext
    have hjN9 := ((hjN.ext (hg7.trans (hg8.trans hg9)).ext).app (N := [_]) ⟨hbs9, trivial⟩).ext gA
    refine useP [_, _, _, _, _, _, _, _, _, _, _] (v := .bool true) (fun MB hr2 he2 => ?_) ?_ ?_
    · have := sameJ_ok (y := ⟨[], [], []⟩) (u := .agg #[.slice none 0 0, .slice none 0 0, .slice none 0 0]) (JoR.rd _ _ _ _ he2.symm hjN9) ⟨_, _, _, rfl, StR.nil _ _, LiR.nil _ _, LiR.nil _ _⟩ hr2.marks (by decide) (by decide) (fun z hz => by cases hz) (fun z hz => by cases hz) (by decide) (by decide)
      rw [decide_eq_true rfl] at this
      exact this
    · exact ⟨hb22.2.2.2.2.2.2.2.2.2.2.2.2.2.2.2.2.2.2.2.2, hLA⟩
    simp only [push_cast, Nat.reduceAdd, Nat.reduceSub, Nat.reduceMul, Nat.reduceLT, Nat.reduceLeDiff, Nat.reduceEqDiff, Nat.reduceMod, Nat.reduceDiv, Int.reduceAdd, Int.reduceSub, Int.reduceMul, Int.reduceLT, Int.reduceLE, Int.reduceEq, Int.reduceNeg, Int.reduceToNat, reduceIte, reduceCtorEq, Int.reduceBEq, Int.reduceBNe, hb2, hb3, hb7, hb9, hb12, hb14, hb16, hb18, hb20, hb22, List.append_eq, List.cons_append, List.nil_append]
    have hsP := ((hjP.ext (hg8.trans hg9).ext).app (N := [_]) ⟨hbs9, trivial⟩).ext gA
    have hsK := ((hjK4.ext ((hg5.trans hg6).trans ((hg7.trans hg8).trans hg9)).ext).app (N := [_]) ⟨hbs9, trivial⟩).ext gA
    refine useP [_, _, _, _, _, _, _, _, _, _, _] (v := .bool true) (fun MB hr2 he2 => ?_) ?_ ?_
    · have := sameS_ok (JoR.rd _ _ _ _ he2.symm hsP).st (JoR.rd _ _ _ _ he2.symm hsK).st hr2.marks lnK lnK slK slK
      rw [decide_eq_true rfl] at this
      exact this
    · exact ⟨hb22.2.2.2.2.2.2.2.2.2.2.2.2.2.2.2.2.2.2.2.2, hLA⟩
    simp only [push_cast, Nat.reduceAdd, Nat.reduceSub, Nat.reduceMul, Nat.reduceLT, Nat.reduceLeDiff, Nat.reduceEqDiff, Nat.reduceMod, Nat.reduceDiv, Int.reduceAdd, Int.reduceSub, Int.reduceMul, Int.reduceLT, Int.reduceLE, Int.reduceEq, Int.reduceNeg, Int.reduceToNat, reduceIte, reduceCtorEq, Int.reduceBEq, Int.reduceBNe, hb2, hb3, hb7, hb9, hb12, hb14, hb16, hb18, hb20, hb22, List.append_eq, List.cons_append, List.nil_append, show jK.marks.length = 1 from rfl, List.length_cons, List.length_nil]
    have hsM := ((hjM.ext (hg6.trans (hg7.trans (hg8.trans hg9))).ext).app (N := [_]) ⟨hbs9, trivial⟩).ext gA
    refine useP [_, _, _, _, _, _, _, _, _, _, _] (v := .bool true) (fun MB hr2 he2 => ?_) ?_ ?_
    · have := jright_ok (JoR.rd _ _ _ _ he2.symm hsM) hr2.marks lnM1 lnM2 lnM3 slM
      rw [rightM] at this
      exact this
    · exact ⟨hb22.2.2.2.2.2.2.2.2.2.2.2.2.2.2.2.2.2.2.2.2, hLA⟩
    simp only [push_cast, Nat.reduceAdd, Nat.reduceSub, Nat.reduceMul, Nat.reduceLT, Nat.reduceLeDiff, Nat.reduceEqDiff, Nat.reduceMod, Nat.reduceDiv, Int.reduceAdd, Int.reduceSub, Int.reduceMul, Int.reduceLT, Int.reduceLE, Int.reduceEq, Int.reduceNeg, Int.reduceToNat, reduceIte, reduceCtorEq, Int.reduceBEq, Int.reduceBNe, hb2, hb3, hb7, hb9, hb12, hb14, hb16, hb18, hb20, hb22, List.append_eq, List.cons_append, List.nil_append, show jK.marks.length = 1 from rfl, List.length_cons, List.length_nil]
    intro bq hbq
    have hbqA : fresh bq MA := hbq.2.2.2.2.2.2.2.2.2.2.2.2.2.2.2.2.2.2.2.2.2.2
    refine CallsV.pre (H' := [_, _, _, _, _, _, _, _, _, _, _] ++ (_ :: MA)) (List.perm_middle (l₁ := [_, _, _, _, _, _, _, _, _, _, _]) (l₂ := MA)).symm (by simp [marksOf]) ?_
    refine useP [_, _, _, _, _, _, _, _, _, _, _] (M := _ :: MA) (v := .bool false) (fun MB hr2 he2 => ?_) (freshN_consR ?_ ⟨hb22.2.2.2.2.2.2.2.2.2.2.2.2.2.2.2.2.2.2.2.2, hLA⟩) ?_
    · have := jright_ok (j := ⟨[], [], [1]⟩) (v := .agg #[.slice none 0 0, .slice none 0 0, .slice (some ⟨bq, 0, none⟩) 1 1]) (JoR.rd _ _ _ _ he2.symm ⟨_, _, _, rfl, StR.nil _ _, LiR.nil _ _, LiR.one1i⟩) hr2.marks (by decide) (by decide) (by decide) (fun z hz => by cases hz)
      rw [right1] at this
      exact this
    · intro x hx
      simp only [List.mem_cons, List.not_mem_nil, or_false] at hx
      rcases hx with rfl | rfl | rfl | rfl | rfl | rfl | rfl | rfl | rfl | rfl | rfl <;> simp only [hbq, not_false_eq_true]
    simp only [push_cast, Nat.reduceAdd, Nat.reduceSub, Nat.reduceMul, Nat.reduceLT, Nat.reduceLeDiff, Nat.reduceEqDiff, Nat.reduceMod, Nat.reduceDiv, Int.reduceAdd, Int.reduceSub, Int.reduceMul, Int.reduceLT, Int.reduceLE, Int.reduceEq, Int.reduceNeg, Int.reduceToNat, reduceIte, reduceCtorEq, Int.reduceBEq, Int.reduceBNe, hb2, hb3, hb7, hb9, hb12, hb14, hb16, hb18, hb20, hb22, List.append_eq, List.cons_append, List.nil_append, show jK.marks.length = 1 from rfl, List.length_cons, List.length_nil]
end Go.Proofs.YtkhpncfgimlleaaGreat
set_option linter.unusedSimpArgs false
set_option linter.unusedVariables false
namespace Go.Ev
end Go.Ev
set_option linter.unusedSimpArgs false
set_option linter.unusedVariables false
namespace Go.Ev
def awk9G : List Value → Option Value
  | [] => some (.bool true)
  | _ => none
theorem subH_move {e : Ent} {N : Hp} : ∀ {M : Hp}, fresh e.blk M → subH (e :: (M ++ N)) (M ++ e :: N)
  | [], _ => subH_self _
  | x :: r, h => by
    have h1 : ¬ x.blk = e.blk := h.2.1
    refine ⟨?_, ?_⟩
    · rw [findE, if_neg h1, List.cons_append, findE, if_pos rfl]
    · rw [remE, if_neg h1, List.cons_append, remE, if_pos rfl]
      exact subH_move h.2.2
theorem findE_move {e : Ent} {N : Hp} : ∀ {M : Hp}, fresh e.blk M → ∀ b, findE (M ++ e :: N) b = findE (e :: (M ++ N)) b
  | [], _, _ => rfl
  | x :: r, h, b => by
    have h1 : ¬ x.blk = e.blk := h.2.1
    rw [List.cons_append, findE, findE_move h.2.2, findE, findE, List.cons_append, findE]
    by_cases hb : b = x.blk
    · subst hb; rw [if_pos rfl, if_neg h1, if_pos rfl]
    · rw [if_neg hb, if_neg hb]
end Go.Ev
namespace Go.Proofs.YtkhpncfgimlleaaGreat
open Go Go.Ev Go.Proofs
set_option maxRecDepth 100000
set_option maxHeartbeats 4000000
theorem awk9G_ok (args : List Value) (v : Value) (h : awk9G args = some v) : CallsV Tryz.prog 7 args [] (Ret0 v) := by
  unfold awk9G at h
  split at h
  · cases h; exact awk09_ok
  · cases h
noncomputable def gV4 : Gam := (addG 7 awk9G gV3)
attribute [push_cast] gV4
theorem gV4_ok : GamOk Tryz.prog gV4 := (addG_ok awk9G_ok gV3_ok)
attribute [push_cast] awk9G
end Go.Proofs.YtkhpncfgimlleaaGreat
set_option linter.unusedSimpArgs false
set_option linter.unusedVariables false
namespace Go.Ev
end Go.Ev
set_option linter.unusedSimpArgs false
set_option linter.unusedVariables false
namespace Go.Ev
theorem slAddr0 {p : Option Addr} {c s : Nat} (h : p = none ∨ ∃ b, p = some ⟨b, 0, none⟩) : slAddr p c 0 s = p := by
  unfold slAddr
  rcases h with rfl | ⟨b, rfl⟩
  · split <;> rfl
  · split
    · rfl
    · simp
end Go.Ev
namespace Go.Proofs.YtkhpncfgimlleaaGreat
open Go Go.Ev Go.Proofs
set_option maxRecDepth 100000
set_option maxHeartbeats 4000000
attribute [-push_cast] slAddr evAppend_nil
end Go.Proofs.YtkhpncfgimlleaaGreat
