/- Texts of this claim, merged by program: Vh Vi Vj Vk Vl Vm Vr Vs. -/
import Derived.Test.YtkhpncfgimlleaaGreatZnAu
set_option linter.unusedSimpArgs false
set_option linter.unusedVariables false
namespace Go.Ev
theorem lnK : jK.state.length ≤ 1000000000000 := by decide
theorem lnM1 : jM.state.length ≤ 1000000000 := by decide
theorem lnM2 : jM.undo.length ≤ 1000000000000 := by decide
theorem lnM3 : jM.marks.length ≤ 1000000000000 := by decide
theorem slM : ∀ z ∈ jM.state, z.slots.length ≤ 1000000000000 := fun z hz => by have := (mayA_slots (riM.st.may z hz)).len; omega
theorem LiR.one1i {n : Int} {b c : Nat} {k : Kind} {H : Hp} : LiR intC 1 (⟨b, 0, k, [.int .i64 n]⟩ :: H) [n] (.slice (some ⟨b, 0, none⟩) 1 c) := by
  refine ⟨_, c, rfl, .inr ⟨b, 0, rfl, ?_⟩⟩
  unfold cellsAt
  simp only [findE, if_true, Nat.sub_zero, subL, List.drop_zero, List.length_singleton, Nat.one_mul, Nat.zero_add, List.flatMap_cons, List.flatMap_nil, List.append_nil]
  rw [if_pos (Nat.zero_le _), if_pos (by simp), List.take_of_length_le (by simp)]
  rfl
theorem slK : ∀ z ∈ jK.state, z.slots.length ≤ 4000 := fun z hz => by have := (mayA_slots (riK.st.may z hz)).len; omega
theorem JoR.st {j : Jo} {a b c : Value} {H : Hp} (h : JoR j (.agg #[a, b, c]) H) : StR j.state a H := by
  obtain ⟨vs, vu, vm, hve, h1, -, -⟩ := h
  injection hve with hve
  injection hve with hve
  simp only [List.cons.injEq, and_true] at hve
  rw [hve.1]; exact h1
theorem LiR.two {x y : Ch} {b c : Nat} {k : Kind} {H : Hp} {cs : List Value} (h : cs = x.cells ++ y.cells) : LiR Ch.cells 31 (⟨b, 0, k, cs⟩ :: H) [x, y] (.slice (some ⟨b, 0, none⟩) 2 c) := by
  subst h
  refine ⟨_, c, rfl, .inr ⟨b, 0, rfl, ?_⟩⟩
  have h1 := x.len
  have h2 := y.len
  have h3 : (x.cells ++ y.cells).length = 62 := by rw [List.length_append]; omega
  unfold cellsAt
  simp only [findE, if_true, Nat.sub_zero, subL, List.drop_zero, List.length_cons, List.length_nil, Nat.zero_add, List.flatMap_cons, List.flatMap_nil, List.append_nil]
  rw [if_pos (Nat.zero_le _), if_pos (by omega), List.take_of_length_le (by omega)]
theorem freshN_consR {e : Ent} {M : Hp} : ∀ {L : Hp}, (∀ x ∈ L, ¬ x.blk = e.blk) → freshN L M → freshN L (e :: M)
  | [], _, _ => trivial
  | x :: r, h, h' => ⟨⟨h x (by simp), fun hh => h x (by simp) hh.symm, h'.1⟩, freshN_consR (fun z hz => h z (by simp [hz])) h'.2⟩
theorem StR.find {X Y : Hp} {s : List Ac} {v : Value} (h : ∀ b e, findE X b = some e → findE Y b = some e) (hv : StR s v X) : StR s v Y := by
  obtain ⟨L, h1, h2, h3⟩ := hv
  exact ⟨L, h1, h2.find h, fun x hx => (h3 x hx).find h⟩
theorem JoR.find {X Y : Hp} {j : Jo} {v : Value} (hv : JoR j v X) (h : ∀ b e, findE X b = some e → findE Y b = some e) : JoR j v Y := by
  obtain ⟨vs, vu, vm, rfl, h1, h2, h3⟩ := hv
  exact ⟨vs, vu, vm, rfl, h1.find h, h2.find h, h3.find h⟩
theorem JoR.e3 {j : Jo} {v : Value} {H : Hp} (h : JoR j v H) : ∃ p k p' k' p'' k'', v = .agg #[.slice p j.state.length k, .slice p' j.undo.length k', .slice p'' j.marks.length k''] := by
  obtain ⟨vs, vu, vm, rfl, h1, h2, h3⟩ := h
  obtain ⟨p, k, rfl⟩ := h1.slice
  obtain ⟨p', k', rfl⟩ := h2.slice
  obtain ⟨p'', k'', rfl⟩ := h3.slice
  exact ⟨p, k, p', k', p'', k'', rfl⟩
theorem at5_cells : at5.cells = [.int .u8 5, .int .u8 0, .int .u8 0, .int .u8 0, .int .u8 0, .int .u8 0, .int .u8 0, .int .u8 0, .int .u8 0, .int .u8 0, .int .u8 0, .int .u8 0, .int .u8 0, .int .u8 0, .int .u8 0, .int .u8 0, .int .u8 0, .int .u8 0, .int .u8 0, .int .u8 0] := rfl
end Go.Ev
namespace Go.Proofs.YtkhpncfgimlleaaGreat
open Go Go.Ev Go.Proofs
set_option maxRecDepth 100000
set_option maxHeartbeats 4000000
theorem jmark_R {M : Hp} {j : Jo} {v : Value} (hv : JoR j v M) (h : RiJ j) : CallsR Tryz.prog 20 [v] M (JmR (markJ j)) :=
  (jmark_ok hv (by have := h.st.len; omega) (by have := h.ul; omega) (by have := h.ml; omega) (fun y hy => by have := (mayA_slots (h.st.may y hy)).len; omega)).toR fun v N1 A _ _ hf hq => hq
theorem jdo_R {M : Hp} {j : Jo} {v lv : Value} {l : List Ch} (hv : JoR j v M) (hl : LiR Ch.cells 31 M l lv) (h : RiJ j) (hll : l.length ≤ 1000000000000) : CallsR Tryz.prog 18 [v, lv] M (JeR (doJ j l)) :=
  (jdo_ok hv hl (by have := h.st.len; omega) (by have := h.ul; omega) (by have := h.ml; omega) (fun y hy => by have := (mayA_slots (h.st.may y hy)).len; omega) hll).toR fun v N1 A _ _ hf hq => hq
theorem jback_R {M : Hp} {j : Jo} {v : Value} {m : Int} (hv : JoR j v M) (h : RiJ j) : CallsR Tryz.prog 22 [v, .int .i64 m] M (JeR (backJ j m)) :=
  jback_ok hv (by have := h.st.len; omega) (by have := h.ul; omega) (by have := h.ml; omega) (fun y hy => by have := (mayA_slots (h.st.may y hy)).len; omega)
def plAwk09 : Plans := fun i => if i = 5 then [(0, 9)] else if i = 7 then [] else if i = 8 then [(0, 9)] else if i = 12 then [(0, 9)] else Tryz.pl7 i
attribute [push_cast] plAwk09
theorem awk09_ok : CallsV Tryz.prog 7 [] [] (Ret0 (.bool true)) := by
  have k5 : i64In 5 := by decide
  have k7 : i64In 7 := by decide
  refine callsO gV3_ok Tryz.mix plAwk09 Tryz.func7 rfl Tryz.ntmps7 Tryz.results7 rfl (by first | rfl | assumption) (Nat.le_of_ble_eq_true rfl) (by kernel_rfl) ?_
  simp only [push_cast, Nat.reduceAdd, Nat.reduceSub, Nat.reduceMul, Nat.reduceLT, Nat.reduceLeDiff, Nat.reduceEqDiff, Nat.reduceMod, Nat.reduceDiv, Int.reduceAdd, Int.reduceSub, Int.reduceMul, Int.reduceLT, Int.reduceLE, Int.reduceEq, Int.reduceNeg, Int.reduceToNat, reduceIte, reduceCtorEq, Int.reduceBEq, Int.reduceBNe]
  intro b1
  simp only [push_cast, Nat.reduceAdd, Nat.reduceSub, Nat.reduceMul, Nat.reduceLT, Nat.reduceLeDiff, Nat.reduceEqDiff, Nat.reduceMod, Nat.reduceDiv, Int.reduceAdd, Int.reduceSub, Int.reduceMul, Int.reduceLT, Int.reduceLE, Int.reduceEq, Int.reduceNeg, Int.reduceToNat, reduceIte, reduceCtorEq, Int.reduceBEq, Int.reduceBNe, ← at5_cells, Ad.agg, k5]
  intro b2 hb2
  refine useL [_, _] (M := []) (jopen_ok (s := []) (StR.nil _ _) (by simp) (fun y hy => by cases hy)) (JeR.rd _) rfl ⟨trivial, trivial, trivial⟩ fun w M1 hg1 hL1 hq => ?_
  rw [show openJ [] = (⟨[], [], []⟩, 0) by unfold openJ; rw [if_pos (rightS_iff.2 RiS.nil)]] at hq
  obtain ⟨w1, rfl, hj0⟩ := hq
  obtain ⟨p0, q0, p0', q0', p0'', q0'', rfl⟩ := hj0.e3
  simp only [push_cast, Nat.reduceAdd, Nat.reduceSub, Nat.reduceMul, Nat.reduceLT, Nat.reduceLeDiff, Nat.reduceEqDiff, Nat.reduceMod, Nat.reduceDiv, Int.reduceAdd, Int.reduceSub, Int.reduceMul, Int.reduceLT, Int.reduceLE, Int.reduceEq, Int.reduceNeg, Int.reduceToNat, reduceIte, reduceCtorEq, Int.reduceBEq, Int.reduceBNe, hb2]
  intro b3 hb3
  refine useL [_, _, _] (jmark_R hj0 (RiJ.open RiS.nil)) (JmR.rd _) hg1.marks ⟨hb3.2.2.2.2, hL1.1, hL1.2.1, trivial⟩ fun w M2 hg2 hL2 hq => ?_
  rw [mk0] at hq
  obtain ⟨w1, rfl, hjA⟩ := hq
  obtain ⟨p1, q1, p1', q1', p1'', q1'', rfl⟩ := hjA.e3
  simp only [push_cast, Nat.reduceAdd, Nat.reduceSub, Nat.reduceMul, Nat.reduceLT, Nat.reduceLeDiff, Nat.reduceEqDiff, Nat.reduceMod, Nat.reduceDiv, Int.reduceAdd, Int.reduceSub, Int.reduceMul, Int.reduceLT, Int.reduceLE, Int.reduceEq, Int.reduceNeg, Int.reduceToNat, reduceIte, reduceCtorEq, Int.reduceBEq, Int.reduceBNe, hb2, hb3]
  obtain ⟨e3, e2, e1, -⟩ := hL2
  refine regO gV3_ok ?_
  simp only [push_cast, Nat.reduceAdd, Nat.reduceSub, Nat.reduceMul, Nat.reduceLT, Nat.reduceLeDiff, Nat.reduceEqDiff, Nat.reduceMod, Nat.reduceDiv, Int.reduceAdd, Int.reduceSub, Int.reduceMul, Int.reduceLT, Int.reduceLE, Int.reduceEq, Int.reduceNeg, Int.reduceToNat, reduceIte, reduceCtorEq, Int.reduceBEq, Int.reduceBNe, hb2, hb3]
  intro bs hbs
  refine CallsV.pre (H' := _ :: _ :: _ :: (_ :: M2)) (((List.Perm.swap _ _ _).trans ((List.Perm.swap _ _ _).cons _)).trans (((List.Perm.swap _ _ _).cons _).cons _)) (by simp [marksOf]) ?_
  refine useL [_, _, _] (M := _ :: M2) (jdo_R (l := [c5]) (hjA.app (N := [_]) ⟨hbs.2.2.2.2.2.2, trivial⟩) LiR.one1 riA (by simp)) (JeR.rd _) (by simpa [marksOf] using hg2.marks) ⟨⟨hbs.2.1, hbs.1, e3⟩, ⟨hbs.2.2.2.1, hbs.2.2.1, e2⟩, ⟨hbs.2.2.2.2.2.1, hbs.2.2.2.2.1, e1⟩, trivial⟩ fun w M3 hg3 hL3 hq => ?_
  rw [doK] at hq
  obtain ⟨w1, rfl, hjK⟩ := hq
  obtain ⟨p2, q2, p2', q2', p2'', q2'', rfl⟩ := hjK.e3
  have hjA3 := (hjA.app (N := [_]) ⟨hbs.2.2.2.2.2.2, trivial⟩).ext hg3.ext
  simp only [push_cast, Nat.reduceAdd, Nat.reduceSub, Nat.reduceMul, Nat.reduceLT, Nat.reduceLeDiff, Nat.reduceEqDiff, Nat.reduceMod, Nat.reduceDiv, Int.reduceAdd, Int.reduceSub, Int.reduceMul, Int.reduceLT, Int.reduceLE, Int.reduceEq, Int.reduceNeg, Int.reduceToNat, reduceIte, reduceCtorEq, Int.reduceBEq, Int.reduceBNe, hb2, hb3]
  intro b7 hb7
  refine useL [_, _, _, _] (jmark_R hjK riK) (JmR.rd _) hg3.marks ⟨hb7.2.2.2.2.2.2, hL3.1, hL3.2.1, hL3.2.2.1, trivial⟩ fun w M4 hg4 hL4 hq => ?_
  rw [mkL] at hq
  obtain ⟨w1, rfl, hjL⟩ := hq
  obtain ⟨p3, q3, p3', q3', p3'', q3'', rfl⟩ := hjL.e3
  have hjA4 := hjA3.ext hg4.ext
  have hjK4 := hjK.ext hg4.ext
  simp only [push_cast, Nat.reduceAdd, Nat.reduceSub, Nat.reduceMul, Nat.reduceLT, Nat.reduceLeDiff, Nat.reduceEqDiff, Nat.reduceMod, Nat.reduceDiv, Int.reduceAdd, Int.reduceSub, Int.reduceMul, Int.reduceLT, Int.reduceLE, Int.reduceEq, Int.reduceNeg, Int.reduceToNat, reduceIte, reduceCtorEq, Int.reduceBEq, Int.reduceBNe, hb2, hb3, hb7]
  intro b9 hb9
  have hL9 : freshN [⟨b9, 0, .cel 37, [.slice p3 jL.state.length q3, .slice p3' jL.undo.length q3', .slice p3'' jL.marks.length q3'']⟩, ⟨b7, 0, .cel 37, [.slice p2 jK.state.length q2, .slice p2' jK.undo.length q2', .slice p2'' jK.marks.length q2'']⟩, ⟨b3, 0, .cel 37, [.slice p1 jA.state.length q1, .slice p1' jA.undo.length q1', .slice p1'' jA.marks.length q1'']⟩, ⟨b2, 0, .cel 31, (balC at5 5).cells⟩, ⟨b1, 0, .cel 26, at5.cells⟩] M4 := ⟨hb9.2.2.2.2.2.2.2.2, hL4⟩
  have fE9 : findE (⟨b9, 0, .cel 37, [.slice p3 jL.state.length q3, .slice p3' jL.undo.length q3', .slice p3'' jL.marks.length q3'']⟩ :: ⟨b7, 0, .cel 37, [.slice p2 jK.state.length q2, .slice p2' jK.undo.length q2', .slice p2'' jK.marks.length q2'']⟩ :: ⟨b3, 0, .cel 37, [.slice p1 jA.state.length q1, .slice p1' jA.undo.length q1', .slice p1'' jA.marks.length q1'']⟩ :: ⟨b2, 0, .cel 31, (balC at5 5).cells⟩ :: ⟨b1, 0, .cel 26, at5.cells⟩ :: M4) b9 = some ⟨b9, 0, .cel 37, [.slice p3 jL.state.length q3, .slice p3' jL.undo.length q3', .slice p3'' jL.marks.length q3'']⟩ := by
    simp only [push_cast, Nat.reduceAdd, Nat.reduceSub, Nat.reduceMul, Nat.reduceLT, Nat.reduceLeDiff, Nat.reduceEqDiff, Nat.reduceMod, Nat.reduceDiv, Int.reduceAdd, Int.reduceSub, Int.reduceMul, Int.reduceLT, Int.reduceLE, Int.reduceEq, Int.reduceNeg, Int.reduceToNat, reduceIte, reduceCtorEq, Int.reduceBEq, Int.reduceBNe]
  have fE1 : findE (⟨b9, 0, .cel 37, [.slice p3 jL.state.length q3, .slice p3' jL.undo.length q3', .slice p3'' jL.marks.length q3'']⟩ :: ⟨b7, 0, .cel 37, [.slice p2 jK.state.length q2, .slice p2' jK.undo.length q2', .slice p2'' jK.marks.length q2'']⟩ :: ⟨b3, 0, .cel 37, [.slice p1 jA.state.length q1, .slice p1' jA.undo.length q1', .slice p1'' jA.marks.length q1'']⟩ :: ⟨b2, 0, .cel 31, (balC at5 5).cells⟩ :: ⟨b1, 0, .cel 26, at5.cells⟩ :: M4) b1 = some ⟨b1, 0, .cel 26, at5.cells⟩ := by
    simp only [push_cast, Nat.reduceAdd, Nat.reduceSub, Nat.reduceMul, Nat.reduceLT, Nat.reduceLeDiff, Nat.reduceEqDiff, Nat.reduceMod, Nat.reduceDiv, Int.reduceAdd, Int.reduceSub, Int.reduceMul, Int.reduceLT, Int.reduceLE, Int.reduceEq, Int.reduceNeg, Int.reduceToNat, reduceIte, reduceCtorEq, Int.reduceBEq, Int.reduceBNe, hb2, hb3, hb7, hb9]
  refine drawS gV3_ok Tryz.mix [(1, .pointer (some ⟨b1, 0, none⟩)), (2, .pointer (some ⟨b2, 0, none⟩)), (3, .pointer (some ⟨b3, 0, none⟩)), (4, .int .i64 0), (5, .int .i64 0), (6, .int .i64 0), (7, .pointer (some ⟨b7, 0, none⟩)), (8, .int .i64 0), (9, .pointer (some ⟨b9, 0, none⟩)), (10, .int .i64 1), (11, .int .i64 0)]
      (fun i val => match i with
        | 0 => val 0 = .agg #[.slice p3 jL.state.length q3, .slice p3' jL.undo.length q3', .slice p3'' jL.marks.length q3'']
        | 1 => val 1 = at5.v
        | 2 => val 2 = c7.v
        | 3 => ∃ b, val 3 = .slice (some ⟨b, 0, none⟩) 1 1
        | 4 => ∃ p k p' k' p'' k'', val 4 = .tuple #[.agg #[.slice p jM.state.length k, .slice p' jM.undo.length k', .slice p'' jM.marks.length k''], .int .i64 0]
        | 5 => val 5 = val 4 ∧ ∃ p k p' k' p'' k'', val 4 = .tuple #[.agg #[.slice p jM.state.length k, .slice p' jM.undo.length k', .slice p'' jM.marks.length k''], .int .i64 0]
        | 6 => val 5 = .tuple #[val 6, .int .i64 0] ∧ ∃ p k p' k' p'' k'', val 6 = .agg #[.slice p jM.state.length k, .slice p' jM.undo.length k', .slice p'' jM.marks.length k'']
        | 7 => val 7 = .int .i64 0
        | 8 => ∃ b, val 8 = .pointer (some ⟨b, 0, none⟩)
        | 10 => val 10 = .int .i64 0
        | _ => True)
      (fun i val N => match i with
        | 3 => ∃ b, val 3 = .slice (some ⟨b, 0, none⟩) 1 1 ∧ N = [⟨b, 0, .vec 31 31 1, c7.cells⟩]
        | 4 => allWr N ∧ marksOf N = [] ∧ JeR (jM, 0) (val 4) (N ++ M4)
        | 5 => N = []
        | 6 => N = []
        | 8 => ∃ b, val 8 = .pointer (some ⟨b, 0, none⟩) ∧ N = [⟨b, 0, .cel 37, [.slice none 0 0, .slice none 0 0, .slice none 0 0]⟩]
        | 9 => ∃ b p k p' k' p'' k'', val 8 = .pointer (some ⟨b, 0, none⟩) ∧ val 6 = .agg #[.slice p jM.state.length k, .slice p' jM.undo.length k', .slice p'' jM.marks.length k''] ∧ N = [⟨b, 0, .cel 37, [.slice p jM.state.length k, .slice p' jM.undo.length k', .slice p'' jM.marks.length k'']⟩]
        | _ => N = []) (fun i => if i = 4 then [3] else if i = 9 then [8] else []) [4, 9] (by kernel_rfl) (by kernel_rfl) (by kernel_rfl) ?_ (by rfl) (by decide) (by kernel_rfl) ?_ ?_ ?_ ?_ ?_
  · simp only [push_cast, Nat.reduceAdd, Nat.reduceSub, Nat.reduceMul, Nat.reduceLT, Nat.reduceLeDiff, Nat.reduceEqDiff, Nat.reduceMod, Nat.reduceDiv, Int.reduceAdd, Int.reduceSub, Int.reduceMul, Int.reduceLT, Int.reduceLE, Int.reduceEq, Int.reduceNeg, Int.reduceToNat, reduceIte, reduceCtorEq, Int.reduceBEq, Int.reduceBNe, subT]
  · intro i hi hiF
    replace hi : i < 11 := hi
    obtain rfl | rfl | rfl | rfl | rfl | rfl | rfl | rfl | rfl | rfl | rfl : i = 0 ∨ i = 1 ∨ i = 2 ∨ i = 3 ∨ i = 4 ∨ i = 5 ∨ i = 6 ∨ i = 7 ∨ i = 8 ∨ i = 9 ∨ i = 10 := by omega
    all_goals first
      | exact .inl fun _ _ h => h
      | exact absurd (by decide) hiF
      | exact .inr (by kernel_rfl)
  · intro i o ho val val' h1 h2 hV
    have hi := (Array.getElem?_eq_some_iff.1 ho).1
    replace hi : i < 11 := hi
    obtain rfl | rfl | rfl | rfl | rfl | rfl | rfl | rfl | rfl | rfl | rfl : i = 0 ∨ i = 1 ∨ i = 2 ∨ i = 3 ∨ i = 4 ∨ i = 5 ∨ i = 6 ∨ i = 7 ∨ i = 8 ∨ i = 9 ∨ i = 10 := by omega
    · first
        | exact trivial
        | exact hV
        | exact h1.trans hV
        | (rw [h1]; exact hV)
    · first
        | exact trivial
        | exact hV
        | exact h1.trans hV
        | (rw [h1]; exact hV)
    · first
        | exact trivial
        | exact hV
        | exact h1.trans hV
        | (rw [h1]; exact hV)
    · first
        | exact trivial
        | exact hV
        | exact h1.trans hV
        | (rw [h1]; exact hV)
    · first
        | exact trivial
        | exact hV
        | exact h1.trans hV
        | (rw [h1]; exact hV)
    · simp only [List.getElem?_toArray, List.getElem?_cons_zero, List.getElem?_cons_succ, Option.some.injEq] at ho; subst ho
      have e4 := h2 4 (by kernel_rfl)
      rw [h1, e4]
      exact hV
    · simp only [List.getElem?_toArray, List.getElem?_cons_zero, List.getElem?_cons_succ, Option.some.injEq] at ho; subst ho
      have e5 := h2 5 (by kernel_rfl)
      rw [h1, e5]
      exact hV
    · first
        | exact trivial
        | exact hV
        | exact h1.trans hV
        | (rw [h1]; exact hV)
    · first
        | exact trivial
        | exact hV
        | exact h1.trans hV
        | (rw [h1]; exact hV)
    · first
        | exact trivial
        | exact hV
        | exact h1.trans hV
        | (rw [h1]; exact hV)
    · first
        | exact trivial
        | exact hV
        | exact h1.trans hV
        | (rw [h1]; exact hV)
  · intro i o ho val val' N h1 h2 hQ
    have hi := (Array.getElem?_eq_some_iff.1 ho).1
    replace hi : i < 11 := hi
    obtain rfl | rfl | rfl | rfl | rfl | rfl | rfl | rfl | rfl | rfl | rfl : i = 0 ∨ i = 1 ∨ i = 2 ∨ i = 3 ∨ i = 4 ∨ i = 5 ∨ i = 6 ∨ i = 7 ∨ i = 8 ∨ i = 9 ∨ i = 10 := by omega
    · first
        | exact trivial
        | exact hQ
        | exact h1.trans hQ
        | (rw [h1]; exact hQ)
    · first
        | exact trivial
        | exact hQ
        | exact h1.trans hQ
        | (rw [h1]; exact hQ)
    · first
        | exact trivial
        | exact hQ
        | exact h1.trans hQ
        | (rw [h1]; exact hQ)
    · first
        | exact trivial
        | exact hQ
        | exact h1.trans hQ
        | (rw [h1]; exact hQ)
    · first
        | exact trivial
        | exact hQ
        | exact h1.trans hQ
        | (rw [h1]; exact hQ)
    · first
        | exact trivial
        | exact hQ
        | exact h1.trans hQ
        | (rw [h1]; exact hQ)
    · first
        | exact trivial
        | exact hQ
        | exact h1.trans hQ
        | (rw [h1]; exact hQ)
    · first
        | exact trivial
        | exact hQ
        | exact h1.trans hQ
        | (rw [h1]; exact hQ)
    · first
        | exact trivial
        | exact hQ
        | exact h1.trans hQ
        | (rw [h1]; exact hQ)
    · simp only [List.getElem?_toArray, List.getElem?_cons_zero, List.getElem?_cons_succ, Option.some.injEq] at ho; subst ho
      have e6 := h2 6 (by kernel_rfl)
      have e8 := h2 8 (by kernel_rfl)
      rw [e6, e8]
      exact hQ
    · first
        | exact trivial
        | exact hQ
        | exact h1.trans hQ
        | (rw [h1]; exact hQ)
  · intro i o ho T' Y val mem hT hdep hus hfr hY hmY hapY
    have hi := (Array.getElem?_eq_some_iff.1 ho).1
    replace hi : i < 11 := hi
    have y9 := hY _ _ fE9
    have y1 := hY _ _ fE1
    have t1 : getT T' 1 = some (.pointer (some ⟨b1, 0, none⟩)) := hT.1
    have t9 : getT T' 9 = some (.pointer (some ⟨b9, 0, none⟩)) := hT.2.2.2.2.2.2.2.2.1
    obtain rfl | rfl | rfl | rfl | rfl | rfl | rfl | rfl | rfl | rfl | rfl : i = 0 ∨ i = 1 ∨ i = 2 ∨ i = 3 ∨ i = 4 ∨ i = 5 ∨ i = 6 ∨ i = 7 ∨ i = 8 ∨ i = 9 ∨ i = 10 := by omega
    · simp only [List.getElem?_toArray, List.getElem?_cons_zero, List.getElem?_cons_succ, Option.some.injEq] at ho; subst ho
      simp only [push_cast, Nat.reduceAdd, Nat.reduceSub, Nat.reduceMul, Nat.reduceLT, Nat.reduceLeDiff, Nat.reduceEqDiff, Nat.reduceMod, Nat.reduceDiv, Int.reduceAdd, Int.reduceSub, Int.reduceMul, Int.reduceLT, Int.reduceLE, Int.reduceEq, Int.reduceNeg, Int.reduceToNat, reduceIte, reduceCtorEq, Int.reduceBEq, Int.reduceBNe, List.flatMap_nil, List.flatMap_cons, List.append_nil, List.nil_append, t9, y9]
      exact ⟨[], rfl, trivial, rfl, upd_self _ _ _, rfl⟩
    · simp only [List.getElem?_toArray, List.getElem?_cons_zero, List.getElem?_cons_succ, Option.some.injEq] at ho; subst ho
      simp only [push_cast, Nat.reduceAdd, Nat.reduceSub, Nat.reduceMul, Nat.reduceLT, Nat.reduceLeDiff, Nat.reduceEqDiff, Nat.reduceMod, Nat.reduceDiv, Int.reduceAdd, Int.reduceSub, Int.reduceMul, Int.reduceLT, Int.reduceLE, Int.reduceEq, Int.reduceNeg, Int.reduceToNat, reduceIte, reduceCtorEq, Int.reduceBEq, Int.reduceBNe, List.flatMap_nil, List.flatMap_cons, List.append_nil, List.nil_append, t1, y1, Ad.agg, Ad.len]
      exact ⟨[], rfl, trivial, rfl, upd_self _ _ _, rfl⟩
    · simp only [List.getElem?_toArray, List.getElem?_cons_zero, List.getElem?_cons_succ, Option.some.injEq] at ho; subst ho
      obtain ⟨v1, g1⟩ := hdep 1 (by kernel_rfl)
      replace g1 := g1 52 rfl
      rw [show val 1 = _ from v1] at g1
      simp only [push_cast, Nat.reduceAdd, Nat.reduceSub, Nat.reduceMul, Nat.reduceLT, Nat.reduceLeDiff, Nat.reduceEqDiff, Nat.reduceMod, Nat.reduceDiv, Int.reduceAdd, Int.reduceSub, Int.reduceMul, Int.reduceLT, Int.reduceLE, Int.reduceEq, Int.reduceNeg, Int.reduceToNat, reduceIte, reduceCtorEq, Int.reduceBEq, Int.reduceBNe, List.flatMap_nil, List.flatMap_cons, List.append_nil, List.nil_append, g1, k7]
      exact ⟨[], rfl, trivial, rfl, upd_self _ _ _, rfl⟩
    · simp only [List.getElem?_toArray, List.getElem?_cons_zero, List.getElem?_cons_succ, Option.some.injEq] at ho; subst ho
      obtain ⟨v2, g2⟩ := hdep 2 (by kernel_rfl)
      replace g2 := g2 53 rfl
      rw [show val 2 = _ from v2] at g2
      simp only [push_cast, Nat.reduceAdd, Nat.reduceSub, Nat.reduceMul, Nat.reduceLT, Nat.reduceLeDiff, Nat.reduceEqDiff, Nat.reduceMod, Nat.reduceDiv, Int.reduceAdd, Int.reduceSub, Int.reduceMul, Int.reduceLT, Int.reduceLE, Int.reduceEq, Int.reduceNeg, Int.reduceToNat, reduceIte, reduceCtorEq, Int.reduceBEq, Int.reduceBNe, List.flatMap_nil, List.flatMap_cons, List.append_nil, List.nil_append, g2]
      intro b hf
      exact ⟨[_], rfl, ⟨trivial, trivial⟩, rfl, ⟨b, upd_self _ _ _⟩, b, upd_self _ _ _, rfl⟩
    · simp only [List.getElem?_toArray, List.getElem?_cons_zero, List.getElem?_cons_succ, Option.some.injEq] at ho; subst ho
      obtain ⟨v0, g0⟩ := hdep 0 (by kernel_rfl)
      replace g0 := g0 51 rfl
      rw [show val 0 = _ from v0] at g0
      obtain ⟨v3, g3⟩ := hdep 3 (by kernel_rfl)
      replace g3 := g3 54 rfl
      obtain ⟨bs0, v3⟩ := v3
      obtain ⟨b3', v3', hN⟩ := hus 3 (List.mem_singleton.2 rfl)
      have v3' : val 3 = _ := v3'
      rw [v3'] at g3
      have fr3 : freshN (mem 3) Y := by simpa using hfr
      rw [hN] at fr3
      have hM4 : ∀ b e, findE M4 b = some e → findE Y b = some e := fun b e h => hY b e (find_behind (L := [_, _, _, _, _]) hL9 b e h)
      have hM5 : ∀ b e, findE M4 b = some e → findE (⟨b3', 0, .vec 31 31 1, c7.cells⟩ :: M4) b = some e := fun b e h => by rw [findE, if_neg (fun h2 => (fresh_findS fr3.1 (hM4 b e h)).1 h2.symm)]; exact h
      simp only [push_cast, Nat.reduceAdd, Nat.reduceSub, Nat.reduceMul, Nat.reduceLT, Nat.reduceLeDiff, Nat.reduceEqDiff, Nat.reduceMod, Nat.reduceDiv, Int.reduceAdd, Int.reduceSub, Int.reduceMul, Int.reduceLT, Int.reduceLE, Int.reduceEq, Int.reduceNeg, Int.reduceToNat, reduceIte, reduceCtorEq, Int.reduceBEq, Int.reduceBNe, List.flatMap_nil, List.flatMap_cons, List.append_nil, List.nil_append, g0, g3, hN, List.cons_append]
      have hwb : allWr [(⟨b3', 0, .vec 31 31 1, c7.cells⟩ : Ent)] := ⟨trivial, trivial⟩
      have hM6 := find_front (N := [⟨b3', 0, .vec 31 31 1, c7.cells⟩]) hM4
      refine callS (M := ⟨b3', 0, .vec 31 31 1, c7.cells⟩ :: M4) (doM ▸ jdo_R (l := [c7]) (hjL.find hM5) LiR.one1 riL (by simp)) (JeR.rd _) hM6 fun w N hw hm1 hf hq => ⟨N ++ [⟨b3', 0, .vec 31 31 1, c7.cells⟩], by rw [List.append_assoc]; rfl, allWr_app hw hwb, by rw [marks_append, hm1]; rfl, ?_, ?_⟩
      · obtain ⟨w1, rfl, hj⟩ := hq
        obtain ⟨p, k, p', k', p'', k'', rfl⟩ := hj.e3
        exact ⟨p, k, p', k', p'', k'', by rw [upd_self]⟩
      · rw [upd_self]
        refine ⟨allWr_app hw hwb, by rw [marks_append, hm1]; rfl, ?_⟩
        rw [List.append_assoc]; exact hq
    · simp only [List.getElem?_toArray, List.getElem?_cons_zero, List.getElem?_cons_succ, Option.some.injEq] at ho; subst ho
      obtain ⟨v4, g4⟩ := hdep 4 (by kernel_rfl)
      replace g4 := g4 55 rfl
      obtain ⟨p, k, p', k', p'', k'', v4⟩ := v4
      have v4 : val 4 = _ := v4
      rw [v4] at g4
      simp only [push_cast, Nat.reduceAdd, Nat.reduceSub, Nat.reduceMul, Nat.reduceLT, Nat.reduceLeDiff, Nat.reduceEqDiff, Nat.reduceMod, Nat.reduceDiv, Int.reduceAdd, Int.reduceSub, Int.reduceMul, Int.reduceLT, Int.reduceLE, Int.reduceEq, Int.reduceNeg, Int.reduceToNat, reduceIte, reduceCtorEq, Int.reduceBEq, Int.reduceBNe, List.flatMap_nil, List.flatMap_cons, List.append_nil, List.nil_append, g4]
      exact ⟨[], rfl, trivial, rfl, ⟨by simp [upd, v4], p, k, p', k', p'', k'', by simp [upd, v4]⟩, rfl⟩
    · simp only [List.getElem?_toArray, List.getElem?_cons_zero, List.getElem?_cons_succ, Option.some.injEq] at ho; subst ho
      obtain ⟨v5, g5⟩ := hdep 5 (by kernel_rfl)
      replace g5 := g5 50 rfl
      obtain ⟨v5, p, k, p', k', p'', k'', v4⟩ := v5
      have v5 : val 5 = _ := v5
      rw [v5, v4] at g5
      simp only [push_cast, Nat.reduceAdd, Nat.reduceSub, Nat.reduceMul, Nat.reduceLT, Nat.reduceLeDiff, Nat.reduceEqDiff, Nat.reduceMod, Nat.reduceDiv, Int.reduceAdd, Int.reduceSub, Int.reduceMul, Int.reduceLT, Int.reduceLE, Int.reduceEq, Int.reduceNeg, Int.reduceToNat, reduceIte, reduceCtorEq, Int.reduceBEq, Int.reduceBNe, List.flatMap_nil, List.flatMap_cons, List.append_nil, List.nil_append, g5]
      exact ⟨[], rfl, trivial, rfl, ⟨by simp [upd, v5, v4], p, k, p', k', p'', k'', by simp [upd]⟩, rfl⟩
    · simp only [List.getElem?_toArray, List.getElem?_cons_zero, List.getElem?_cons_succ, Option.some.injEq] at ho; subst ho
      obtain ⟨v5, g5⟩ := hdep 5 (by kernel_rfl)
      replace g5 := g5 50 rfl
      obtain ⟨v5, p, k, p', k', p'', k'', v4⟩ := v5
      have v5 : val 5 = _ := v5
      rw [v5, v4] at g5
      simp only [push_cast, Nat.reduceAdd, Nat.reduceSub, Nat.reduceMul, Nat.reduceLT, Nat.reduceLeDiff, Nat.reduceEqDiff, Nat.reduceMod, Nat.reduceDiv, Int.reduceAdd, Int.reduceSub, Int.reduceMul, Int.reduceLT, Int.reduceLE, Int.reduceEq, Int.reduceNeg, Int.reduceToNat, reduceIte, reduceCtorEq, Int.reduceBEq, Int.reduceBNe, List.flatMap_nil, List.flatMap_cons, List.append_nil, List.nil_append, g5]
      exact ⟨[], rfl, trivial, rfl, upd_self _ _ _, rfl⟩
    · simp only [List.getElem?_toArray, List.getElem?_cons_zero, List.getElem?_cons_succ, Option.some.injEq] at ho; subst ho
      simp only [push_cast, Nat.reduceAdd, Nat.reduceSub, Nat.reduceMul, Nat.reduceLT, Nat.reduceLeDiff, Nat.reduceEqDiff, Nat.reduceMod, Nat.reduceDiv, Int.reduceAdd, Int.reduceSub, Int.reduceMul, Int.reduceLT, Int.reduceLE, Int.reduceEq, Int.reduceNeg, Int.reduceToNat, reduceIte, reduceCtorEq, Int.reduceBEq, Int.reduceBNe, List.flatMap_nil, List.flatMap_cons, List.append_nil, List.nil_append]
      intro b hf
      exact ⟨[_], rfl, ⟨trivial, trivial⟩, rfl, ⟨b, upd_self _ _ _⟩, b, upd_self _ _ _, rfl⟩
    · simp only [List.getElem?_toArray, List.getElem?_cons_zero, List.getElem?_cons_succ, Option.some.injEq] at ho; subst ho
      obtain ⟨v6, g6⟩ := hdep 6 (by kernel_rfl)
      replace g6 := g6 56 rfl
      obtain ⟨v8, g8⟩ := hdep 8 (by kernel_rfl)
      replace g8 := g8 12 rfl
      obtain ⟨-, p, k, p', k', p'', k'', v6⟩ := v6
      have v6 : val 6 = _ := v6
      rw [v6] at g6
      obtain ⟨b8, v8, hN⟩ := hus 8 (List.mem_singleton.2 rfl)
      have v8 : val 8 = _ := v8
      rw [v8] at g8
      simp only [push_cast, Nat.reduceAdd, Nat.reduceSub, Nat.reduceMul, Nat.reduceLT, Nat.reduceLeDiff, Nat.reduceEqDiff, Nat.reduceMod, Nat.reduceDiv, Int.reduceAdd, Int.reduceSub, Int.reduceMul, Int.reduceLT, Int.reduceLE, Int.reduceEq, Int.reduceNeg, Int.reduceToNat, reduceIte, reduceCtorEq, Int.reduceBEq, Int.reduceBNe, List.flatMap_nil, List.flatMap_cons, List.append_nil, List.nil_append, g6, g8, hN, List.cons_append]
      exact ⟨[_], rfl, ⟨trivial, trivial⟩, rfl, b8, p, k, p', k', p'', k'', by simp [upd, v8], by simp [upd, v6], rfl⟩
    · simp only [List.getElem?_toArray, List.getElem?_cons_zero, List.getElem?_cons_succ, Option.some.injEq] at ho; subst ho
      obtain ⟨v7, g7⟩ := hdep 7 (by kernel_rfl)
      replace g7 := g7 57 rfl
      rw [show val 7 = _ from v7] at g7
      simp only [push_cast, Nat.reduceAdd, Nat.reduceSub, Nat.reduceMul, Nat.reduceLT, Nat.reduceLeDiff, Nat.reduceEqDiff, Nat.reduceMod, Nat.reduceDiv, Int.reduceAdd, Int.reduceSub, Int.reduceMul, Int.reduceLT, Int.reduceLE, Int.reduceEq, Int.reduceNeg, Int.reduceToNat, reduceIte, reduceCtorEq, Int.reduceBEq, Int.reduceBNe, List.flatMap_nil, List.flatMap_cons, List.append_nil, List.nil_append, g7]
      exact ⟨[], rfl, trivial, rfl, upd_self _ _ _, rfl⟩
  · intro val mem hV hQ hap hwr
    obtain ⟨w4, m4, hq4⟩ := hQ 4 (by decide)
    obtain ⟨b12, p4, q4, p4', q4', p4'', q4'', v8, v6, hN9⟩ := hQ 9 (by decide)
    obtain ⟨v56, -⟩ := hV 6 (by decide)
    obtain ⟨v54, -⟩ := hV 5 (by decide)
    have v10 : val 10 = .int .i64 0 := hV 10 (by decide)
    have v8 : val 8 = _ := v8
    have v6 : val 6 = _ := v6
    have v54 : val 5 = val 4 := v54
    have v56 : val 5 = .tuple #[val 6, .int .i64 0] := v56
    rw [← v54, v56, v6] at hq4
    obtain ⟨wM, hwM, hjM⟩ := hq4
    injection hwM with hwM
    have hwM := congrArg Array.toList hwM
    simp only [List.cons.injEq, and_true] at hwM
    obtain rfl := hwM
    have hMM : List.flatMap mem [4, 9] ++ (⟨b9, 0, .cel 37, [.slice p3 jL.state.length q3, .slice p3' jL.undo.length q3', .slice p3'' jL.marks.length q3'']⟩ :: ⟨b7, 0, .cel 37, [.slice p2 jK.state.length q2, .slice p2' jK.undo.length q2', .slice p2'' jK.marks.length q2'']⟩ :: ⟨b3, 0, .cel 37, [.slice p1 jA.state.length q1, .slice p1' jA.undo.length q1', .slice p1'' jA.marks.length q1'']⟩ :: ⟨b2, 0, .cel 31, (balC at5 5).cells⟩ :: ⟨b1, 0, .cel 26, at5.cells⟩ :: M4) = mem 4 ++ (⟨b12, 0, .cel 37, [.slice p4 jM.state.length q4, .slice p4' jM.undo.length q4', .slice p4'' jM.marks.length q4'']⟩ :: ⟨b9, 0, .cel 37, [.slice p3 jL.state.length q3, .slice p3' jL.undo.length q3', .slice p3'' jL.marks.length q3'']⟩ :: ⟨b7, 0, .cel 37, [.slice p2 jK.state.length q2, .slice p2' jK.undo.length q2', .slice p2'' jK.marks.length q2'']⟩ :: ⟨b3, 0, .cel 37, [.slice p1 jA.state.length q1, .slice p1' jA.undo.length q1', .slice p1'' jA.marks.length q1'']⟩ :: ⟨b2, 0, .cel 31, (balC at5 5).cells⟩ :: ⟨b1, 0, .cel 26, at5.cells⟩ :: M4) := by
      simp only [List.flatMap_cons, List.flatMap_nil, List.append_nil, hN9, List.append_assoc, List.cons_append, List.nil_append]
    rw [hMM] at hap ⊢
    have a4 := freshN_apart hap w4
    have q4f := freshN_sym a4
    have hap2 := (List.pairwise_append.1 hap).2.1
    have a12 := freshN_apart (A := [⟨b12, 0, .cel 37, [.slice p4 jM.state.length q4, .slice p4' jM.undo.length q4', .slice p4'' jM.marks.length q4'']⟩]) hap2 ⟨trivial, trivial⟩
    have hb12 := a12.1
    simp only [push_cast, Nat.reduceAdd, Nat.reduceSub, Nat.reduceMul, Nat.reduceLT, Nat.reduceLeDiff, Nat.reduceEqDiff, Nat.reduceMod, Nat.reduceDiv, Int.reduceAdd, Int.reduceSub, Int.reduceMul, Int.reduceLT, Int.reduceLE, Int.reduceEq, Int.reduceNeg, Int.reduceToNat, reduceIte, reduceCtorEq, Int.reduceBEq, Int.reduceBNe] at hb12
    simp only [push_cast, Nat.reduceAdd, Nat.reduceSub, Nat.reduceMul, Nat.reduceLT, Nat.reduceLeDiff, Nat.reduceEqDiff, Nat.reduceMod, Nat.reduceDiv, Int.reduceAdd, Int.reduceSub, Int.reduceMul, Int.reduceLT, Int.reduceLE, Int.reduceEq, Int.reduceNeg, Int.reduceToNat, reduceIte, reduceCtorEq, Int.reduceBEq, Int.reduceBNe, v8, v6, v10]
    refine WpV.perm (H' := ⟨b12, 0, .cel 37, [.slice p4 jM.state.length q4, .slice p4' jM.undo.length q4', .slice p4'' jM.marks.length q4'']⟩ :: ⟨b9, 0, .cel 37, [.slice p3 jL.state.length q3, .slice p3' jL.undo.length q3', .slice p3'' jL.marks.length q3'']⟩ :: ⟨b7, 0, .cel 37, [.slice p2 jK.state.length q2, .slice p2' jK.undo.length q2', .slice p2'' jK.marks.length q2'']⟩ :: ⟨b3, 0, .cel 37, [.slice p1 jA.state.length q1, .slice p1' jA.undo.length q1', .slice p1'' jA.marks.length q1'']⟩ :: ⟨b2, 0, .cel 31, (balC at5 5).cells⟩ :: ⟨b1, 0, .cel 26, at5.cells⟩ :: (M4 ++ mem 4)) ?_ ?_ ?_
    · exact List.perm_append_comm
    · simp [marksOf, marks_append, m4]
    refine WpV.slots [(1, .pointer (some ⟨b1, 0, none⟩)), (2, .pointer (some ⟨b2, 0, none⟩)), (3, .pointer (some ⟨b3, 0, none⟩)), (4, .int .i64 0), (5, .int .i64 0), (6, .int .i64 0), (7, .pointer (some ⟨b7, 0, none⟩)), (8, .int .i64 0), (9, .pointer (some ⟨b9, 0, none⟩)), (10, .int .i64 1), (11, .int .i64 0), (12, .pointer (some ⟨b12, 0, none⟩)), (13, .int .i64 0)] (by simp only [push_cast, Nat.reduceAdd, Nat.reduceSub, Nat.reduceMul, Nat.reduceLT, Nat.reduceLeDiff, Nat.reduceEqDiff, Nat.reduceMod, Nat.reduceDiv, Int.reduceAdd, Int.reduceSub, Int.reduceMul, Int.reduceLT, Int.reduceLE, Int.reduceEq, Int.reduceNeg, Int.reduceToNat, reduceIte, reduceCtorEq, Int.reduceBEq, Int.reduceBNe]) ?_
    obtain ⟨M5, hM5⟩ : ∃ M5, M5 = M4 ++ mem 4 := ⟨_, rfl⟩
    have hg5 : Gr M4 M5 := ⟨hg4.marks, mem 4, hM5, w4, m4⟩
    have f40 := freshN_cons (freshN_cons (freshN_cons (freshN_cons (freshN_cons (freshN_cons a4)))))
    have hjM : JoR jM (.agg #[.slice p4 jM.state.length q4, .slice p4' jM.undo.length q4', .slice p4'' jM.marks.length q4'']) M5 := by rw [hM5]; exact JoR.rd _ _ _ _ (cellsAt_swap f40) hjM
    have c12 : fresh b12 M5 := by rw [hM5]; exact fresh_appS hb12.2.2.2.2.2.2.2.2.2.2 q4f.1
    have hL5 : freshN [⟨b9, 0, .cel 37, [.slice p3 jL.state.length q3, .slice p3' jL.undo.length q3', .slice p3'' jL.marks.length q3'']⟩, ⟨b7, 0, .cel 37, [.slice p2 jK.state.length q2, .slice p2' jK.undo.length q2', .slice p2'' jK.marks.length q2'']⟩, ⟨b3, 0, .cel 37, [.slice p1 jA.state.length q1, .slice p1' jA.undo.length q1', .slice p1'' jA.marks.length q1'']⟩, ⟨b2, 0, .cel 31, (balC at5 5).cells⟩, ⟨b1, 0, .cel 26, at5.cells⟩] M5 := by rw [hM5]; exact freshN_comb hL9 ⟨q4f.2.1, q4f.2.2.1, q4f.2.2.2.1, q4f.2.2.2.2.1, q4f.2.2.2.2.2.1, trivial⟩
    rw [← hM5]
    refine regO gV3_ok ?_
    simp only [push_cast, Nat.reduceAdd, Nat.reduceSub, Nat.reduceMul, Nat.reduceLT, Nat.reduceLeDiff, Nat.reduceEqDiff, Nat.reduceMod, Nat.reduceDiv, Int.reduceAdd, Int.reduceSub, Int.reduceMul, Int.reduceLT, Int.reduceLE, Int.reduceEq, Int.reduceNeg, Int.reduceToNat, reduceIte, reduceCtorEq, Int.reduceBEq, Int.reduceBNe, hb2, hb3, hb7, hb9, hb12]
    refine useL [_, _, _, _, _, _] (jback_R (m := 0) hjM riM) (JeR.rd _) hg5.marks ⟨c12, hL5⟩ fun w M6 hg6 hL6 hq => ?_
    rw [backM0] at hq
    obtain ⟨w1, rfl, hjN⟩ := hq
    obtain ⟨p5, q5, p5', q5', p5'', q5'', rfl⟩ := hjN.e3
    have hjM6 := hjM.ext hg6.ext
    simp only [push_cast, Nat.reduceAdd, Nat.reduceSub, Nat.reduceMul, Nat.reduceLT, Nat.reduceLeDiff, Nat.reduceEqDiff, Nat.reduceMod, Nat.reduceDiv, Int.reduceAdd, Int.reduceSub, Int.reduceMul, Int.reduceLT, Int.reduceLE, Int.reduceEq, Int.reduceNeg, Int.reduceToNat, reduceIte, reduceCtorEq, Int.reduceBEq, Int.reduceBNe, hb2, hb3, hb7, hb9, hb12]
    intro b14 hb14
    simp only [push_cast, Nat.reduceAdd, Nat.reduceSub, Nat.reduceMul, Nat.reduceLT, Nat.reduceLeDiff, Nat.reduceEqDiff, Nat.reduceMod, Nat.reduceDiv, Int.reduceAdd, Int.reduceSub, Int.reduceMul, Int.reduceLT, Int.reduceLE, Int.reduceEq, Int.reduceNeg, Int.reduceToNat, reduceIte, reduceCtorEq, Int.reduceBEq, Int.reduceBNe, hb2, hb3, hb7, hb9, hb12, hb14]
    refine useL [_, _, _, _, _, _, _] (jback_R (m := 1) hjM6 riM) (JeR.rd _) hg6.marks ⟨hb14.2.2.2.2.2.2.2.2.2.2.2.2, hL6⟩ fun w M7 hg7 hL7 hq => ?_
    rw [backM1] at hq
    obtain ⟨w1, rfl, hjP⟩ := hq
    obtain ⟨p6, q6, p6', q6', p6'', q6'', rfl⟩ := hjP.e3
    have hjM7 := hjM6.ext hg7.ext
    simp only [push_cast, Nat.reduceAdd, Nat.reduceSub, Nat.reduceMul, Nat.reduceLT, Nat.reduceLeDiff, Nat.reduceEqDiff, Nat.reduceMod, Nat.reduceDiv, Int.reduceAdd, Int.reduceSub, Int.reduceMul, Int.reduceLT, Int.reduceLE, Int.reduceEq, Int.reduceNeg, Int.reduceToNat, reduceIte, reduceCtorEq, Int.reduceBEq, Int.reduceBNe, hb2, hb3, hb7, hb9, hb12, hb14]
    intro b16 hb16
    simp only [push_cast, Nat.reduceAdd, Nat.reduceSub, Nat.reduceMul, Nat.reduceLT, Nat.reduceLeDiff, Nat.reduceEqDiff, Nat.reduceMod, Nat.reduceDiv, Int.reduceAdd, Int.reduceSub, Int.reduceMul, Int.reduceLT, Int.reduceLE, Int.reduceEq, Int.reduceNeg, Int.reduceToNat, reduceIte, reduceCtorEq, Int.reduceBEq, Int.reduceBNe, hb2, hb3, hb7, hb9, hb12, hb14, hb16]
    refine useL [_, _, _, _, _, _, _, _] (jkeep_R (m := 0) hjM7 (by decide) (by decide) (by decide) (fun y hy => by have := (mayA_slots (riM.st.may y hy)).len; omega)) (JeC.rd _) hg7.marks ⟨hb16.2.2.2.2.2.2.2.2.2.2.2.2.2.2, hL7⟩ fun w M8 hg8 hL8 hq => ?_
    rw [show keepJ jM 0 = (⟨[x7], [u5, u7], []⟩, 0) from keepM 0 (by decide)] at hq
    obtain ⟨va, pa, ka, vb, rfl, -, hjR⟩ := hq
    obtain ⟨p7, q7, p7', q7', p7'', q7'', hve⟩ := hjR.e3
    injection hve with hve
    have hve := congrArg Array.toList hve
    simp only [List.cons.injEq, and_true, Value.slice.injEq] at hve
    obtain ⟨rfl, ⟨rfl, -, rfl⟩, rfl⟩ := hve
    simp only [push_cast, Nat.reduceAdd, Nat.reduceSub, Nat.reduceMul, Nat.reduceLT, Nat.reduceLeDiff, Nat.reduceEqDiff, Nat.reduceMod, Nat.reduceDiv, Int.reduceAdd, Int.reduceSub, Int.reduceMul, Int.reduceLT, Int.reduceLE, Int.reduceEq, Int.reduceNeg, Int.reduceToNat, reduceIte, reduceCtorEq, Int.reduceBEq, Int.reduceBNe, hb2, hb3, hb7, hb9, hb12, hb14, hb16]
    intro b18 hb18
    simp only [push_cast, Nat.reduceAdd, Nat.reduceSub, Nat.reduceMul, Nat.reduceLT, Nat.reduceLeDiff, Nat.reduceEqDiff, Nat.reduceMod, Nat.reduceDiv, Int.reduceAdd, Int.reduceSub, Int.reduceMul, Int.reduceLT, Int.reduceLE, Int.reduceEq, Int.reduceNeg, Int.reduceToNat, reduceIte, reduceCtorEq, Int.reduceBEq, Int.reduceBNe, hb2, hb3, hb7, hb9, hb12, hb14, hb16, hb18]
    refine useL [_, _, _, _, _, _, _, _, _] (jback_R (m := 0) (hjN.ext (hg7.trans hg8).ext) (RiJ.open RiS.nil)) (JeR.rd _) hg8.marks ⟨hb18.2.2.2.2.2.2.2.2.2.2.2.2.2.2.2.2, hL8⟩ fun w M9 hg9 hL9' hq => ?_
    rw [backN] at hq
    obtain ⟨w1, rfl, hjT⟩ := hq
    obtain ⟨p8, q8, p8', q8', p8'', q8'', rfl⟩ := hjT.e3
    simp only [push_cast, Nat.reduceAdd, Nat.reduceSub, Nat.reduceMul, Nat.reduceLT, Nat.reduceLeDiff, Nat.reduceEqDiff, Nat.reduceMod, Nat.reduceDiv, Int.reduceAdd, Int.reduceSub, Int.reduceMul, Int.reduceLT, Int.reduceLE, Int.reduceEq, Int.reduceNeg, Int.reduceToNat, reduceIte, reduceCtorEq, Int.reduceBEq, Int.reduceBNe, hb2, hb3, hb7, hb9, hb12, hb14, hb16, hb18]
    intro b20 hb20
    refine regO gV3_ok ?_
    simp only [push_cast, Nat.reduceAdd, Nat.reduceSub, Nat.reduceMul, Nat.reduceLT, Nat.reduceLeDiff, Nat.reduceEqDiff, Nat.reduceMod, Nat.reduceDiv, Int.reduceAdd, Int.reduceSub, Int.reduceMul, Int.reduceLT, Int.reduceLE, Int.reduceEq, Int.reduceNeg, Int.reduceToNat, reduceIte, reduceCtorEq, Int.reduceBEq, Int.reduceBNe, hb2, hb3, hb7, hb9, hb12, hb14, hb16, hb18, hb20]
    intro bs hbs
    have hbs9 : fresh bs M9 := hbs.2.2.2.2.2.2.2.2.2.2.2.2.2.2.2.2.2.2.2.2
    refine CallsV.pre (H' := [_, _, _, _, _, _, _, _, _, _] ++ (_ :: M9)) (List.perm_middle (l₁ := [_, _, _, _, _, _, _, _, _, _]) (l₂ := M9)).symm (by simp [marksOf]) ?_
    have hjA9 := hjA4.ext ((hg5.trans hg6).trans ((hg7.trans hg8).trans hg9)).ext
    refine useL [_, _, _, _, _, _, _, _, _, _] (M := _ :: M9) (jdo_R (l := [c5, c9]) (hjA9.app (N := [_]) ⟨hbs9, trivial⟩) (LiR.two rfl) riA (by simp)) (JeR.rd _) (by simpa [marksOf] using hg9.marks) (freshN_consR ?_ ⟨hb20.2.2.2.2.2.2.2.2.2.2.2.2.2.2.2.2.2.2, hL9'⟩) fun w MA hgA hLA hq => ?_
    · intro x hx
      simp only [List.mem_cons, List.not_mem_nil, or_false] at hx
      rcases hx with rfl | rfl | rfl | rfl | rfl | rfl | rfl | rfl | rfl | rfl <;> simp only [hbs, not_false_eq_true]
    rw [doU] at hq
    obtain ⟨w1, rfl, hjU⟩ := hq
    obtain ⟨p9, q9, p9', q9', p9'', q9'', rfl⟩ := hjU.e3
    simp only [push_cast, Nat.reduceAdd, Nat.reduceSub, Nat.reduceMul, Nat.reduceLT, Nat.reduceLeDiff, Nat.reduceEqDiff, Nat.reduceMod, Nat.reduceDiv, Int.reduceAdd, Int.reduceSub, Int.reduceMul, Int.reduceLT, Int.reduceLE, Int.reduceEq, Int.reduceNeg, Int.reduceToNat, reduceIte, reduceCtorEq, Int.reduceBEq, Int.reduceBNe, hb2, hb3, hb7, hb9, hb12, hb14, hb16, hb18, hb20]
    intro b22 hb22
    simp only [push_cast, Nat.reduceAdd, Nat.reduceSub, Nat.reduceMul, Nat.reduceLT, Nat.reduceLeDiff, Nat.reduceEqDiff, Nat.reduceMod, Nat.reduceDiv, Int.reduceAdd, Int.reduceSub, Int.reduceMul, Int.reduceLT, Int.reduceLE, Int.reduceEq, Int.reduceNeg, Int.reduceToNat, reduceIte, reduceCtorEq, Int.reduceBEq, Int.reduceBNe, hb2, hb3, hb7, hb9, hb12, hb14, hb16, hb18, hb20, hb22, List.append_eq, List.cons_append, List.nil_append]
    have gA := hgA.ext
    have hjN9 := ((hjN.ext (hg7.trans (hg8.trans hg9)).ext).app (N := [_]) ⟨hbs9, trivial⟩).ext gA
    refine useP [_, _, _, _, _, _, _, _, _, _, _] (v := .bool true) (fun MB hr2 he2 => ?_) ?_ ?_
    · have := sameJ_ok (y := ⟨[], [], []⟩) (u := .agg #[.slice none 0 0, .slice none 0 0, .slice none 0 0]) (JoR.rd _ _ _ _ he2.symm hjN9) ⟨_, _, _, rfl, StR.nil _ _, LiR.nil _ _, LiR.nil _ _⟩ hr2.marks (by decide) (by decide) (fun z hz => by cases hz) (fun z hz => by cases hz) (by decide) (by decide)
      rw [decide_eq_true rfl] at this
      exact this
    · exact ⟨hb22.2.2.2.2.2.2.2.2.2.2.2.2.2.2.2.2.2.2.2.2, hLA⟩
    simp only [push_cast, Nat.reduceAdd, Nat.reduceSub, Nat.reduceMul, Nat.reduceLT, Nat.reduceLeDiff, Nat.reduceEqDiff, Nat.reduceMod, Nat.reduceDiv, Int.reduceAdd, Int.reduceSub, Int.reduceMul, Int.reduceLT, Int.reduceLE, Int.reduceEq, Int.reduceNeg, Int.reduceToNat, reduceIte, reduceCtorEq, Int.reduceBEq, Int.reduceBNe, hb2, hb3, hb7, hb9, hb12, hb14, hb16, hb18, hb20, hb22, List.append_eq, List.cons_append, List.nil_append]
    have hsP := ((hjP.ext (hg8.trans hg9).ext).app (N := [_]) ⟨hbs9, trivial⟩).ext gA
    have hsK := ((hjK4.ext ((hg5.trans hg6).trans ((hg7.trans hg8).trans hg9)).ext).app (N := [_]) ⟨hbs9, trivial⟩).ext gA
    refine useP [_, _, _, _, _, _, _, _, _, _, _] (v := .bool true) (fun MB hr2 he2 => ?_) ?_ ?_
    · have := sameS_ok (JoR.rd _ _ _ _ he2.symm hsP).st (JoR.rd _ _ _ _ he2.symm hsK).st hr2.marks lnK lnK slK slK
      rw [decide_eq_true rfl] at this
      exact this
    · exact ⟨hb22.2.2.2.2.2.2.2.2.2.2.2.2.2.2.2.2.2.2.2.2, hLA⟩
    simp only [push_cast, Nat.reduceAdd, Nat.reduceSub, Nat.reduceMul, Nat.reduceLT, Nat.reduceLeDiff, Nat.reduceEqDiff, Nat.reduceMod, Nat.reduceDiv, Int.reduceAdd, Int.reduceSub, Int.reduceMul, Int.reduceLT, Int.reduceLE, Int.reduceEq, Int.reduceNeg, Int.reduceToNat, reduceIte, reduceCtorEq, Int.reduceBEq, Int.reduceBNe, hb2, hb3, hb7, hb9, hb12, hb14, hb16, hb18, hb20, hb22, List.append_eq, List.cons_append, List.nil_append, show jK.marks.length = 1 from rfl, List.length_cons, List.length_nil]
    have hsM := ((hjM.ext (hg6.trans (hg7.trans (hg8.trans hg9))).ext).app (N := [_]) ⟨hbs9, trivial⟩).ext gA
    refine useP [_, _, _, _, _, _, _, _, _, _, _] (v := .bool true) (fun MB hr2 he2 => ?_) ?_ ?_
    · have := jright_ok (JoR.rd _ _ _ _ he2.symm hsM) hr2.marks lnM1 lnM2 lnM3 slM
      rw [rightM] at this
      exact this
    · exact ⟨hb22.2.2.2.2.2.2.2.2.2.2.2.2.2.2.2.2.2.2.2.2, hLA⟩
    simp only [push_cast, Nat.reduceAdd, Nat.reduceSub, Nat.reduceMul, Nat.reduceLT, Nat.reduceLeDiff, Nat.reduceEqDiff, Nat.reduceMod, Nat.reduceDiv, Int.reduceAdd, Int.reduceSub, Int.reduceMul, Int.reduceLT, Int.reduceLE, Int.reduceEq, Int.reduceNeg, Int.reduceToNat, reduceIte, reduceCtorEq, Int.reduceBEq, Int.reduceBNe, hb2, hb3, hb7, hb9, hb12, hb14, hb16, hb18, hb20, hb22, List.append_eq, List.cons_append, List.nil_append, show jK.marks.length = 1 from rfl, List.length_cons, List.length_nil]
    intro bq hbq
    have hbqA : fresh bq MA := hbq.2.2.2.2.2.2.2.2.2.2.2.2.2.2.2.2.2.2.2.2.2.2
    refine CallsV.pre (H' := [_, _, _, _, _, _, _, _, _, _, _] ++ (_ :: MA)) (List.perm_middle (l₁ := [_, _, _, _, _, _, _, _, _, _, _]) (l₂ := MA)).symm (by simp [marksOf]) ?_
    refine useP [_, _, _, _, _, _, _, _, _, _, _] (M := _ :: MA) (v := .bool false) (fun MB hr2 he2 => ?_) (freshN_consR ?_ ⟨hb22.2.2.2.2.2.2.2.2.2.2.2.2.2.2.2.2.2.2.2.2, hLA⟩) ?_
    · have := jright_ok (j := ⟨[], [], [1]⟩) (v := .agg #[.slice none 0 0, .slice none 0 0, .slice (some ⟨bq, 0, none⟩) 1 1]) (JoR.rd _ _ _ _ he2.symm ⟨_, _, _, rfl, StR.nil _ _, LiR.nil _ _, LiR.one1i⟩) hr2.marks (by decide) (by decide) (by decide) (fun z hz => by cases hz)
      rw [right1] at this
      exact this
    · intro x hx
      simp only [List.mem_cons, List.not_mem_nil, or_false] at hx
      rcases hx with rfl | rfl | rfl | rfl | rfl | rfl | rfl | rfl | rfl | rfl | rfl <;> simp only [hbq, not_false_eq_true]
    simp only [push_cast, Nat.reduceAdd, Nat.reduceSub, Nat.reduceMul, Nat.reduceLT, Nat.reduceLeDiff, Nat.reduceEqDiff, Nat.reduceMod, Nat.reduceDiv, Int.reduceAdd, Int.reduceSub, Int.reduceMul, Int.reduceLT, Int.reduceLE, Int.reduceEq, Int.reduceNeg, Int.reduceToNat, reduceIte, reduceCtorEq, Int.reduceBEq, Int.reduceBNe, hb2, hb3, hb7, hb9, hb12, hb14, hb16, hb18, hb20, hb22, List.append_eq, List.cons_append, List.nil_append, show jK.marks.length = 1 from rfl, List.length_cons, List.length_nil]
end Go.Proofs.YtkhpncfgimlleaaGreat
set_option linter.unusedSimpArgs false
set_option linter.unusedVariables false
namespace Go.Ev
theorem runJ1 (j : Jo) (c : Ch) : runJ j j [c] = (j, 2) ∨ runJ j j [c] = (j, (doS j.state c).2.2) ∨ (Did j.state c ∧ j.undo.length < 2000 ∧ runJ j j [c] = (⟨(doS j.state c).1, j.undo ++ [(doS j.state c).2.1], j.marks⟩, 0)) := by
  rw [runJ]
  by_cases h : 2000 ≤ j.undo.length
  · rw [if_pos h]; exact .inl rfl
  · rw [if_neg h]
    by_cases h2 : (doS j.state c).2.2 = 0
    · rw [if_pos h2, runJ]; exact .inr (.inr ⟨doS_iff.1 h2, by omega, rfl⟩)
    · rw [if_neg h2]; exact .inr (.inl rfl)
def Shj (n : Nat) (j : Jo) : Prop := j.marks.length ≤ n ∧ j.undo.length ≤ n
theorem keepJ_val {j : Jo} (h : RiJ j) {m : Nat} (hm : m < j.marks.length) : keepJ j m = (⟨j.state, j.undo, j.marks.take m⟩, 0) := by
  unfold keepJ
  rw [if_pos (rightJ_iff.2 h), if_neg (by omega), Int.toNat_natCast]
theorem keepJ_no {j : Jo} (h : RiJ j) {m : Int} (hm : m < 0 ∨ (j.marks.length : Int) ≤ m) : keepJ j m = (j, 20) := by
  unfold keepJ
  rw [if_pos (rightJ_iff.2 h), if_pos hm]
theorem backJ_val {j : Jo} (h : RiJ j) {m : Nat} (hm : m < j.marks.length) : backJ j m = (⟨(undoE j.state (j.undo.drop (stayJ j m)).reverse).1, j.undo.take (stayJ j m), j.marks.take m⟩, 0) := by
  unfold backJ
  rw [keepJ_val h hm, if_pos rfl, Int.toNat_natCast]
theorem backJ_no {j : Jo} (h : RiJ j) {m : Int} (hm : m < 0 ∨ (j.marks.length : Int) ≤ m) : backJ j m = (j, 20) := by
  unfold backJ
  rw [keepJ_no h hm]; exact if_neg (show ¬ ((20 : Int) = 0) by decide)
theorem stepJ_sh {j : Jo} {n : Nat} (h : RiJ j) (hs : Shj n j) (r : R5) : Shj (n + 1) (stepJ j r) := by
  obtain ⟨h1, h2⟩ := hs
  have hj : Shj (n + 1) j := ⟨by omega, by omega⟩
  unfold stepJ
  split
  · unfold markJ
    rw [if_pos (rightJ_iff.2 h)]
    split
    · exact hj
    · exact ⟨by simp; omega, by dsimp only; omega⟩
  split
  · split
    · have hp := pickN_lt r.b (show (0 : Int) < (j.marks.length : Int) by omega)
      rw [backJ_val h (by omega)]
      exact ⟨by simp; omega, by simp; omega⟩
    · exact hj
  split
  · split
    · have hp := pickN_lt r.b (show (0 : Int) < (j.marks.length : Int) by omega)
      rw [keepJ_val h (by omega)]
      exact ⟨by simp; omega, by dsimp only; omega⟩
    · exact hj
  · unfold doJ
    rw [if_pos (rightJ_iff.2 h)]
    rcases runJ1 j (chR r.ch) with e | e | ⟨-, -, e⟩ <;> rw [e]
    · exact hj
    · exact hj
    · exact ⟨by dsimp only; omega, by simp; omega⟩
theorem foldJ_sh : ∀ (l : List R5) {j : Jo} {n : Nat}, RiJ j → Shj n j → Shj (n + l.length) (l.foldl stepJ j)
  | [], j, n, _, h => h
  | r :: l, j, n, hr, h => by
    have := foldJ_sh l (stepJ_ri hr r) (stepJ_sh hr h r)
    rw [List.foldl_cons, List.length_cons]
    rw [show n + (l.length + 1) = n + 1 + l.length by omega]
    exact this
theorem journalR_sh (s : List R4) (l : List R5) : Shj 20 (journalR s l) := by
  have h := foldJ_sh (l.take 20) (j := ⟨stateR s, [], []⟩) (n := 0) (RiJ.open (stateR_ri s)) ⟨by simp, by simp⟩
  have hl : (l.take 20).length ≤ 20 := by simp; omega
  obtain ⟨h1, h2⟩ := h
  exact ⟨by unfold journalR; omega, by unfold journalR; omega⟩
end Go.Ev
set_option linter.unusedSimpArgs false
set_option linter.unusedVariables false
namespace Go.Ev
theorem nodup_subN {α : Type} [DecidableEq α] : ∀ {l m : List α}, l.Nodup → (∀ x ∈ l, x ∈ m) → l.length ≤ m.length
  | [], _, _, _ => Nat.zero_le _
  | x :: r, m, h, hs => by
    obtain ⟨h1, h2⟩ := List.nodup_cons.1 h
    have hx := hs x (List.mem_cons_self ..)
    have := nodup_subN (l := r) (m := m.erase x) h2 fun y hy => (List.mem_erase_of_ne fun e => h1 (by rw [← e]; exact hy)).2 (hs y (List.mem_cons_of_mem _ hy))
    rw [List.length_erase_of_mem hx] at this
    have hpos := List.length_pos_of_mem hx
    rw [List.length_cons]; omega
theorem few_len {α : Type} {f : α → Nat} {l : List α} (hs : l.Pairwise fun x y => f x < f y) {m : List Nat} (hm : ∀ x ∈ l, f x ∈ m) : l.length ≤ m.length := by
  have h : (l.map f).Nodup := by
    rw [List.nodup_iff_pairwise_ne, List.pairwise_map]
    exact hs.imp fun h => Nat.ne_of_lt h
  have := nodup_subN h (m := m) fun x hx => by
    obtain ⟨y, hy, rfl⟩ := List.mem_map.1 hx
    exact hm y hy
  rwa [List.length_map] at this
def adK (k : Nat) : Ad := ⟨addrL k, addrL_len k⟩
def kyK (k : Nat) : W := W.ofInt (k : Int)
def InA (a : Ad) : Prop := ∃ k < 9, a = adK k
def InK (w : W) : Prop := ∃ k < 5, w = kyK k
def FewC (c : Ch) : Prop := InA c.at_ ∧ (c.kind = 4 → InK c.key)
structure FewS (s : List Ac) : Prop where
  ri : RiS s
  ad : ∀ x ∈ s, InA x.at_
  ky : ∀ x ∈ s, ∀ y ∈ x.slots, InK y.key
theorem FewS.len {s : List Ac} (h : FewS s) : s.length ≤ 9 := by
  have := few_len (m := (List.range 9).map fun k => (adK k).num) h.ri.srt fun x hx => by
    obtain ⟨k, hk, e⟩ := h.ad x hx
    exact List.mem_map.2 ⟨k, List.mem_range.2 hk, by rw [e]⟩
  simpa using this
theorem slots_len {l : List Sl} (h : Srt l) (hk : ∀ y ∈ l, InK y.key) : l.length ≤ 5 := by
  have := few_len (m := (List.range 5).map fun k => (kyK k).num) h fun x hx => by
    obtain ⟨k, hk, e⟩ := hk x hx
    exact List.mem_map.2 ⟨k, List.mem_range.2 hk, by rw [e]⟩
  simpa using this
theorem FewS.nil : FewS [] := ⟨RiS.nil, fun x hx => (by cases hx), fun x hx => (by cases hx)⟩
theorem FewS.find {s : List Ac} (h : FewS s) (a : Ad) : ∀ y ∈ (findS s a).slots, InK y.key := by
  rcases findS_cases s a with ⟨e, -⟩ | e
  · rw [e]; intro y hy; cases hy
  · exact h.ky _ e
theorem merge_in {l : List Sl} (h : Ri l) {k v : W} {P : W → Prop} (hl : ∀ y ∈ l, P y.key) (hk : P k) : ∀ y ∈ mergeL l [⟨k, v⟩], P y.key := by
  intro y hy
  have hs := mergeL_srt h.srt (srt_one (⟨k, v⟩ : Sl))
  have h1 := lk_of_mem hs hy
  rw [mergeL_lk h.srt (srt_one _) h.noz, lk_cons, lk_nil] at h1
  by_cases e : k = y.key
  · rw [← e]; exact hk
  · rw [if_neg e] at h1
    obtain ⟨x, h2, h3, -⟩ := lk_mem h1
    rw [← h3]; exact hl x h2
theorem chA_few {x : Ac} {c : Ch} (hx : Ri x.slots) (hk : ∀ y ∈ x.slots, InK y.key) (hc : FewC c) (h0 : (chA x c).2.2 = 0) : (∀ y ∈ (chA x c).1.slots, InK y.key) ∧ FewC (chA x c).2.1 := by
  unfold chA at h0 ⊢
  by_cases h1 : c.kind = 1
  · simp only [if_pos h1]; exact ⟨hk, hc.1, fun h => by simp [h1] at h⟩
  by_cases h2 : c.kind = 2
  · simp only [if_neg h1, if_pos h2]; exact ⟨hk, hc.1, fun h => by simp [h2] at h⟩
  by_cases h3 : c.kind = 3
  · simp only [if_neg h1, if_neg h2, if_pos h3]; exact ⟨hk, hc.1, fun h => by simp [h3] at h⟩
  by_cases h4 : c.kind = 4
  · simp only [if_neg h1, if_neg h2, if_neg h3, if_pos h4] at h0 ⊢
    refine ⟨?_, hc.1, fun _ => hc.2 h4⟩
    rw [mergeR_val hx] at h0 ⊢
    rw [(limR_ok h0).1]
    exact merge_in hx hk (hc.2 h4)
  · simp only [if_neg h1, if_neg h2, if_neg h3, if_neg h4] at h0; cases h0
theorem FewS.do_ {s : List Ac} (h : FewS s) {c : Ch} (hc : FewC c) (hd : Did s c) : FewS (doS s c).1 ∧ FewC (doS s c).2.1 := by
  have hr := hd.right
  rw [hd.val] at hr ⊢
  have hf := chA_few (mayA_slots (h.ri.findMay c.at_)) (h.find c.at_) hc hd.ch
  have ha := (chA_at (findS s c.at_) c).1
  rw [findS_at] at ha
  refine ⟨⟨hr, fun x hx => ?_, fun x hx => ?_⟩, hf.2⟩
  · rcases putS_mem hx with ⟨rfl, -⟩ | ⟨hx, -⟩
    · rw [ha]; exact hc.1
    · exact h.ad x hx
  · rcases putS_mem hx with ⟨rfl, -⟩ | ⟨hx, -⟩
    · exact hf.1
    · exact h.ky x hx
theorem FewS.undo : ∀ (l : List Ch) {s : List Ac}, FewS s → (∀ c ∈ l, FewC c) → (undoE s l).2 = 0 → FewS (undoE s l).1
  | [], s, h, _, _ => h
  | c :: r, s, h, hl, he => by
    rw [undoE] at he ⊢
    by_cases hd : (doS s c).2.2 = 0
    · rw [if_pos hd] at he ⊢
      exact FewS.undo r (h.do_ (hl c (by simp)) (doS_iff.1 hd)).1 (fun x hx => hl x (by simp [hx])) he
    · rw [if_neg hd] at he; exact absurd he hd
theorem chR_few (r : R4) : FewC (chR r) := by
  have ha : InA (addrA r.b) := ⟨pickN r.b 9, by have := pickN_lt r.b (show (0 : Int) < 9 by decide); omega, addrA_eq r.b⟩
  unfold chR
  split
  · exact ⟨ha, fun h => by simp at h⟩
  split
  · exact ⟨ha, fun h => by simp at h⟩
  split
  · exact ⟨ha, fun h => by simp at h⟩
  · exact ⟨ha, fun _ => ⟨pickN r.c 5, by have := pickN_lt r.c (show (0 : Int) < 5 by decide); omega, rfl⟩⟩
theorem codeN_size (n : Nat) : (codeN n).size ≤ 4 := by
  unfold codeN
  repeat' split
  all_goals decide
theorem mayA_iff {x : Ac} : mayA x = true ↔ 0 ≤ x.nonce ∧ x.nonce ≤ 9007199254740992 ∧ x.code.size ≤ 24576 ∧ Ri x.slots := by
  unfold mayA
  simp only [Bool.and_eq_true, decide_eq_true_eq, rightB_iff]
theorem chR_did {s : List Ac} (h : FewS s) (r : R4) : Did s (chR r) := by
  have hc := chR_few r
  have hm := mayA_iff.1 (h.ri.findMay (chR r).at_)
  have hk := h.find (chR r).at_
  obtain ⟨x, hx⟩ : ∃ x, x = findS s (chR r).at_ := ⟨_, rfl⟩
  rw [← hx] at hm hk
  obtain ⟨m1, m2, m3, m4⟩ := hm
  have hl5 := slots_len m4.srt hk
  have key : (chA x (chR r)).2.2 = 0 ∧ mayA (chA x (chR r)).1 = true := by
    rw [mayA_iff]
    unfold chR
    have p4 := pickN_lt r.c (show (0 : Int) < 4 by decide)
    split
    · unfold chA
      simp only [if_true]
      exact ⟨trivial, m1, m2, m3, m4⟩
    split
    · unfold chA
      dsimp only
      rw [if_neg (by decide : ¬ (2 : Int) = 1), if_pos rfl]
      dsimp only
      exact ⟨rfl, by omega, by omega, m3, m4⟩
    split
    · unfold chA
      dsimp only
      rw [if_neg (by decide : ¬ (3 : Int) = 1), if_neg (by decide : ¬ (3 : Int) = 2), if_pos rfl]
      dsimp only
      exact ⟨rfl, m1, m2, Nat.le_trans (codeN_size _) (by decide), m4⟩
    · unfold chA
      dsimp only
      rw [if_neg (by decide : ¬ (4 : Int) = 1), if_neg (by decide : ¬ (4 : Int) = 2), if_neg (by decide : ¬ (4 : Int) = 3), if_pos rfl]
      dsimp only
      rw [mergeR_val m4]
      have hs := mergeL_srt m4.srt (srt_one (⟨W.ofInt (pickN r.c 5 : Nat), W.ofInt (pickN r.d 3 : Nat)⟩ : Sl))
      have hl := slots_len hs (merge_in m4 hk ⟨pickN r.c 5, by have := pickN_lt r.c (show (0 : Int) < 5 by decide); omega, rfl⟩)
      have e : limR (mergeL x.slots [⟨W.ofInt (pickN r.c 5 : Nat), W.ofInt (pickN r.d 3 : Nat)⟩]) = (mergeL x.slots [⟨W.ofInt (pickN r.c 5 : Nat), W.ofInt (pickN r.d 3 : Nat)⟩], 0) := by
        unfold limR; rw [if_neg (by omega)]
      rw [e]
      exact ⟨rfl, m1, m2, m3, hs, mergeL_noz m4.srt (srt_one _) m4.noz, by dsimp only; omega⟩
  rw [hx] at key
  refine ⟨h.ri, key.1, key.2, ?_⟩
  unfold putS
  have l1 := List.length_filter_le (fun y : Ac => decide (y.at_.num < (chA (findS s (chR r).at_) (chR r)).1.at_.num)) s
  have l2 := List.length_filter_le (fun y : Ac => decide ((chA (findS s (chR r).at_) (chR r)).1.at_.num < y.at_.num)) s
  have l9 := h.len
  rw [List.length_append, List.length_append]
  split <;> simp only [List.length_nil, List.length_singleton] <;> omega
structure FewJ (j : Jo) : Prop where
  st : FewS j.state
  un : ∀ c ∈ j.undo, FewC c
theorem FewJ.step {j : Jo} (h : FewJ j) {c : Ch} (hc : FewC c) (hd : Did j.state c) : FewJ ⟨(doS j.state c).1, j.undo ++ [(doS j.state c).2.1], j.marks⟩ := by
  have := h.st.do_ hc hd
  refine ⟨this.1, fun x hx => ?_⟩
  rcases List.mem_append.1 hx with hx | hx
  · exact h.un x hx
  · rw [List.mem_singleton.1 hx]; exact this.2
theorem stepS_few {s : List Ac} (h : FewS s) (r : R4) : FewS (stepS s r) := by
  unfold stepS
  rw [if_pos (doS_iff.2 (chR_did h r))]
  exact (h.do_ (chR_few r) (chR_did h r)).1
theorem foldS_few : ∀ (l : List R4) {s : List Ac}, FewS s → FewS (l.foldl stepS s)
  | [], _, h => h
  | r :: l, _, h => foldS_few l (stepS_few h r)
theorem stepJ_few {j : Jo} (h : FewJ j) (hr : RiJ j) (r : R5) : FewJ (stepJ j r) := by
  unfold stepJ
  split
  · unfold markJ
    rw [if_pos (rightJ_iff.2 hr)]
    split
    · exact h
    · exact ⟨h.st, h.un⟩
  split
  · split
    · have hp := pickN_lt r.b (show (0 : Int) < (j.marks.length : Int) by omega)
      rw [backJ_val hr (by omega)]
      exact ⟨FewS.undo _ h.st (fun c hc => h.un c (List.mem_of_mem_drop (List.mem_reverse.1 hc))) (hr.undo _).1, fun c hc => h.un c (List.mem_of_mem_take hc)⟩
    · exact h
  split
  · split
    · have hp := pickN_lt r.b (show (0 : Int) < (j.marks.length : Int) by omega)
      rw [keepJ_val hr (by omega)]
      exact ⟨h.st, h.un⟩
    · exact h
  · unfold doJ
    rw [if_pos (rightJ_iff.2 hr)]
    rcases runJ1 j (chR r.ch) with e | e | ⟨hd, -, e⟩ <;> rw [e]
    · exact h
    · exact h
    · exact h.step (chR_few _) hd
theorem foldJ_few : ∀ (l : List R5) {j : Jo}, FewJ j → RiJ j → FewJ (l.foldl stepJ j)
  | [], _, h, _ => h
  | r :: l, _, h, hr => foldJ_few l (stepJ_few h hr r) (stepJ_ri hr r)
theorem stateR_few (s : List R4) : FewS (stateR s) := foldS_few _ FewS.nil
theorem journalR_few (s : List R4) (l : List R5) : FewJ (journalR s l) := foldJ_few _ ⟨stateR_few s, fun c hc => by cases hc⟩ (RiJ.open (stateR_ri s))
noncomputable def allJ (j : Jo) (l : List R4) : Jo := l.foldl (fun j r => ⟨(doS j.state (chR r)).1, j.undo ++ [(doS j.state (chR r)).2.1], j.marks⟩) j
theorem allJ_run (j0 : Jo) (m : List Ch) : ∀ (l : List R4) {j : Jo}, FewJ j → j.undo.length + l.length ≤ 2000 → runJ j0 j (l.map chR ++ m) = runJ j0 (allJ j l) m ∧ FewJ (allJ j l) ∧ (RiJ j → RiJ (allJ j l)) ∧ (allJ j l).undo.length = j.undo.length + l.length ∧ (allJ j l).marks = j.marks
  | [], j, h, _ => ⟨rfl, h, id, rfl, rfl⟩
  | r :: l, j, h, hl => by
    have hd := chR_did h.st r
    rw [List.length_cons] at hl
    have ih := allJ_run j0 m l (h.step (chR_few r) hd) (by simp; omega)
    rw [List.map_cons, List.cons_append, runJ, if_neg (by omega), if_pos (doS_iff.2 hd)]
    obtain ⟨h1, h2, h3, h4, h5⟩ := ih
    refine ⟨h1, h2, fun hr => h3 (hr.step hd (by omega)), ?_, h5⟩
    unfold allJ at h4 ⊢
    rw [List.foldl_cons, h4]
    simp; omega
end Go.Ev
set_option linter.unusedSimpArgs false
set_option linter.unusedVariables false
namespace Go.Ev
def awk9G : List Value → Option Value
  | [] => some (.bool true)
  | _ => none
end Go.Ev
namespace Go.Proofs.YtkhpncfgimlleaaGreat
open Go Go.Ev Go.Proofs
set_option maxRecDepth 100000
set_option maxHeartbeats 4000000
theorem awk9G_ok (args : List Value) (v : Value) (h : awk9G args = some v) : CallsV Tryz.prog 7 args [] (Ret0 v) := by
  unfold awk9G at h
  split at h
  · cases h; exact awk09_ok
  · cases h
noncomputable def gV4 : Gam := (addG 7 awk9G gV3)
attribute [push_cast] gV4
theorem gV4_ok : GamOk Tryz.prog gV4 := (addG_ok awk9G_ok gV3_ok)
attribute [push_cast] awk9G
end Go.Proofs.YtkhpncfgimlleaaGreat
set_option linter.unusedSimpArgs false
set_option linter.unusedVariables false
namespace Go.Ev
end Go.Ev
set_option linter.unusedSimpArgs false
set_option linter.unusedVariables false
namespace Go.Ev
end Go.Ev
namespace Go.Proofs.YtkhpncfgimlleaaGreat
open Go Go.Ev Go.Proofs
set_option maxRecDepth 100000
set_option maxHeartbeats 4000000
attribute [-push_cast] slAddr evAppend_nil
theorem sameT {A : Hp} {j : Jo} {v u : Value} (h : RiJ j) (h1 : JoR j v A) (h2 : JoR j u A) (hA : marksOf A = []) : CallsV Tryz.prog 15 [v, u] A (Ret0 (.bool true)) := by
  have hl := h.st.len
  have hu := h.ul
  have hm := h.ml
  have := sameJ_ok h1 h2 hA (by omega) (by omega) (fun y hy => by have := (mayA_slots (h.st.may y hy)).len; omega) (fun y hy => by have := (mayA_slots (h.st.may y hy)).len; omega) (by omega) (by omega)
  rw [decide_eq_true rfl] at this
  exact this
end Go.Proofs.YtkhpncfgimlleaaGreat
set_option linter.unusedSimpArgs false
set_option linter.unusedVariables false
namespace Go.Ev
def badN : Ch := ⟨2, Ad.zero, W.zero, W.zero, -1, .empty⟩
def bad5 : Ch := ⟨5, Ad.zero, W.zero, W.zero, 0, .empty⟩
theorem do_badN {s : List Ac} (h : RiS s) : (doS s badN).2.2 = 1 := by
  have hr := rightS_iff.2 h
  have hc : chA (findS s badN.at_) badN = (⟨(findS s badN.at_).at_, (findS s badN.at_).bal, -1, (findS s badN.at_).code, (findS s badN.at_).slots⟩, ⟨2, badN.at_, W.zero, W.zero, (findS s badN.at_).nonce, .empty⟩, 0) := by
    unfold chA
    rw [if_neg (show ¬ badN.kind = 1 by decide), if_pos (show badN.kind = 2 from rfl)]
    rfl
  have hm : mayA (chA (findS s badN.at_) badN).1 = false := by
    rw [hc]
    cases hb : mayA ⟨(findS s badN.at_).at_, (findS s badN.at_).bal, -1, (findS s badN.at_).code, (findS s badN.at_).slots⟩ with
    | false => rfl
    | true =>
      have := (mayA_iff.1 hb).1
      dsimp only at this
      omega
  have hs : setS s (chA (findS s badN.at_) badN).1 = ([], 1) := by
    unfold setS
    rw [hm, Bool.and_false]
    rfl
  unfold doS
  rw [if_neg (by rw [hr]; simp), if_neg (by rw [hc]; simp), if_pos (by rw [hs]; simp), hs]
theorem do_bad5 {s : List Ac} (h : RiS s) : (doS s bad5).2.2 = 1 := by
  have hr := rightS_iff.2 h
  have hc : (chA (findS s bad5.at_) bad5).2.2 = 1 := by
    unfold chA
    rw [if_neg (show ¬ bad5.kind = 1 by decide), if_neg (show ¬ bad5.kind = 2 by decide), if_neg (show ¬ bad5.kind = 3 by decide), if_neg (show ¬ bad5.kind = 4 by decide)]
  unfold doS
  rw [if_neg (by rw [hr]; simp), if_pos (by rw [hc]; decide), hc]
theorem none_plain {j : Jo} (hr : RiJ j) (hf : FewJ j) (hs : Shj 20 j) {l : List R4} (hl : l.length ≤ 6) {x : Ch} (hx : x = badN ∨ x = bad5) : doJ j (l.map chR ++ [x]) = (j, 1) := by
  obtain ⟨hm, hu⟩ := hs
  obtain ⟨h1, h2, h3, h4, h5⟩ := allJ_run j [x] l hf (by omega)
  have hb : (doS (allJ j l).state x).2.2 = 1 := by
    rcases hx with rfl | rfl
    · exact do_badN h2.st.ri
    · exact do_bad5 h2.st.ri
  unfold doJ
  rw [if_pos (rightJ_iff.2 hr), h1, runJ, if_neg (by omega), hb]
  exact if_neg (by decide)
end Go.Ev
set_option linter.unusedSimpArgs false
set_option linter.unusedVariables false
namespace Go.Ev
def RowL (e : Nat) (L : List Ch) (v : Value) (N M : Hp) : Prop :=
  (L = [] ∧ v = .slice none 0 0 ∧ N = []) ∨
  (∃ b c zs, v = .slice (some ⟨b, 0, none⟩) L.length c ∧ L.length < c ∧ (L.flatMap Ch.cells ++ zs).length = c * 31 ∧ N = [⟨b, 0, .vec e 31 c, L.flatMap Ch.cells ++ zs⟩]) ∨
  (∃ b, v = .slice (some ⟨b, 0, none⟩) L.length L.length ∧ N = [] ∧ findE M b = some ⟨b, 0, .ro, L.flatMap Ch.cells⟩)
theorem RowL.wr {e : Nat} {L : List Ch} {v : Value} {N M : Hp} (h : RowL e L v N M) : allWr N ∧ marksOf N = [] := by
  rcases h with ⟨_, _, rfl⟩ | ⟨b, c, zs, _, _, _, rfl⟩ | ⟨b, _, rfl, _⟩
  · exact ⟨trivial, rfl⟩
  · exact ⟨⟨trivial, trivial⟩, rfl⟩
  · exact ⟨trivial, rfl⟩
theorem RowL.find {e : Nat} {L : List Ch} {v : Value} {N M Y : Hp} (h : RowL e L v N M) (hY : ∀ b x, findE M b = some x → findE Y b = some x) : RowL e L v N Y := by
  rcases h with h | h | ⟨b, h1, h2, h3⟩
  · exact .inl h
  · exact .inr (.inl h)
  · exact .inr (.inr ⟨b, h1, h2, hY _ _ h3⟩)
theorem chFlat (L : List Ch) : (L.flatMap Ch.cells).length = L.length * 31 := flatMap_len (c := Ch.cells) (fun x => x.len) L
theorem setSeg_row (xs zs ys : List Value) (h : ys.length ≤ zs.length) : setSeg (xs ++ zs) xs.length ys = xs ++ (ys ++ zs.drop ys.length) := by
  unfold setSeg
  rw [List.take_left, List.append_assoc]
  congr 2
  rw [List.drop_append, List.drop_of_length_le (by omega), List.nil_append]
  congr 1
  omega
theorem append_keep {P : Program} {e q st : Nat} {ag : Bool} {L : List Ch} {x : Ch} {v : Value} {N M Y : Hp} {bs : Nat} {K : Value → Hp → Prop} (h : RowL e L v N M) (hY : ∀ b y, findE M b = some y → findE Y b = some y)
    (hf : freshN (⟨bs, 0, .vec e 31 1, x.cells⟩ :: N) Y) (hN : fresh bs N) (hs : slI P st = some (e, 31, 120)) (he : elemI P st = some (none, q, ag)) (h1 : x.cells.all oneC = true) (hl : (L.length + 1) * 120 ≤ two47)
    (hk : ∀ v' Na Nl, allWr Na → marksOf Na = [] → RowL e L v Nl M → (∃ bE c zs, v' = .slice (some ⟨bE, 0, none⟩) (L ++ [x]).length c ∧ findE (Na ++ Nl) bE = some ⟨bE, 0, .vec e 31 c, (L ++ [x]).flatMap Ch.cells ++ zs⟩) → K v' ((Na ++ Nl) ++ Y)) : evAppend P (⟨bs, 0, .vec e 31 1, x.cells⟩ :: (N ++ Y)) st st v (.slice (some ⟨bs, 0, none⟩) 1 1) K := by
  have hsrc : srcL P (⟨bs, 0, .vec e 31 1, x.cells⟩ :: (N ++ Y)) st (.slice (some ⟨bs, 0, none⟩) 1 1) 31 = some (x.cells, 1) := by
    have h0 := (LiR.one1 (P := x) (b := bs) (c := 1) (k := .vec e 31 1) (H := N ++ Y)).src (P := P) he
    simpa using h0
  have hfl : (L ++ [x]).flatMap Ch.cells = L.flatMap Ch.cells ++ x.cells := by simp
  have hll : (L ++ [x]).length = L.length + 1 := by simp
  rcases h with ⟨rfl, rfl, rfl⟩ | ⟨b, c, zs, rfl, hc, hz, rfl⟩ | ⟨b, rfl, rfl, hfe⟩
  · rw [evAppend_nil, hs]
    dsimp only
    rw [hsrc]
    refine ⟨⟨rfl, rfl⟩, (fun h => by cases h), fun _ => ⟨by simpa using hl, fun b' c' hf' hc' => ?_⟩⟩
    refine hk _ [⟨b', 0, .vec e 31 c', x.cells⟩, ⟨bs, 0, .vec e 31 1, x.cells⟩] [] ⟨trivial, trivial, trivial⟩ rfl (.inl ⟨rfl, rfl, rfl⟩) ?_
    exact ⟨b', c', [], rfl, by simp [findE]⟩
  · have hne : ¬ b = bs := fun h => hN.1 h.symm
    rw [evAppend_some, hs]
    dsimp only
    rw [hsrc]
    dsimp only
    rw [findE, if_neg hne, List.cons_append, findE, if_pos rfl]
    dsimp only
    rw [if_neg (by rw [hz]; omega)]
    refine ⟨⟨rfl, rfl, rfl, rfl, by rw [hz]; omega⟩, h1, ?_⟩
    rw [updE, if_neg hne, updE, if_pos rfl, ← chFlat, setSeg_row _ _ _ (by rw [List.length_append, chFlat] at hz; rw [x.len]; omega)]
    refine hk _ [⟨bs, 0, .vec e 31 1, x.cells⟩] [_] ⟨trivial, trivial⟩ rfl (.inr (.inl ⟨b, c, _, rfl, hc, ?_, rfl⟩)) ?_
    · rw [List.length_append, chFlat] at hz
      rw [List.length_append, List.length_append, List.length_drop, chFlat, x.len]; omega
    · refine ⟨b, c, zs.drop x.cells.length, by rw [hll], ?_⟩
      rw [hfl, List.append_assoc, List.cons_append, findE, if_neg hne, List.nil_append, findE, if_pos rfl]
  · rw [evAppend_some, hs]
    dsimp only
    rw [hsrc]
    dsimp only
    have hfY : findE (⟨bs, 0, .vec e 31 1, x.cells⟩ :: ([] ++ Y)) b = some ⟨b, 0, .ro, L.flatMap Ch.cells⟩ := by
      have h2 := hY _ _ hfe
      exact find_behind (L := [_]) ⟨hf.1, trivial⟩ _ _ h2
    have hca : cellsAt (⟨bs, 0, .vec e 31 1, x.cells⟩ :: ([] ++ Y)) b 0 (L.length * 31) = some (L.flatMap Ch.cells) := by
      unfold cellsAt
      rw [hfY]
      simp only [Nat.le_refl, if_true, Nat.sub_zero, subL, List.drop_zero, Nat.zero_add]
      rw [if_pos (by rw [chFlat]; exact Nat.le_refl _), List.take_of_length_le (by rw [chFlat]; exact Nat.le_refl _)]
    rw [hfY]
    dsimp only
    rw [hca]
    refine ⟨⟨rfl, by decide, hl⟩, fun b' c' hf' hc' => ?_⟩
    refine hk _ [⟨b', 0, .vec e 31 c', L.flatMap Ch.cells ++ x.cells⟩, ⟨bs, 0, .vec e 31 1, x.cells⟩] [] ⟨trivial, trivial, trivial⟩ rfl (.inr (.inr ⟨b, rfl, rfl, hfe⟩)) ?_
    exact ⟨b', c', [], by rw [hll], by rw [hfl, List.append_nil]; simp [findE]⟩
end Go.Ev
