/- Texts of this claim, merged by program: Vo. -/
import Derived.Test.YtkhpncfgimlleaaZaAs
import Derived.Test.YtkhpncfgimlleaaZaAo
set_option linter.unusedSimpArgs false
set_option linter.unusedVariables false
namespace Go.Ev
def awk9G : List Value → Option Value
  | [] => some (.bool true)
  | _ => none
end Go.Ev
namespace Go.Proofs.Ytkhpncfgimlleaa
open Go Go.Ev Go.Proofs
set_option maxRecDepth 100000
set_option maxHeartbeats 4000000
theorem awk9G_ok (args : List Value) (v : Value) (h : awk9G args = some v) : CallsV Try.prog 4 args [] (Ret0 v) := by
  unfold awk9G at h
  split at h
  · cases h; exact awk09_ok
  · cases h
noncomputable def gV4 : Gam := (addG 4 awk9G gV3)
attribute [push_cast] gV4
theorem gV4_ok : GamOk Try.prog gV4 := (addG_ok awk9G_ok gV3_ok)
attribute [push_cast] awk9G
theorem sameT {A : Hp} {j : Jo} {v u : Value} (h : RiJ j) (h1 : JoR j v A) (h2 : JoR j u A) (hA : marksOf A = []) : CallsV Try.prog 12 [v, u] A (Ret0 (.bool true)) := by
  have hl := h.st.len
  have hu := h.ul
  have hm := h.ml
  have := sameJ_ok h1 h2 hA (by omega) (by omega) (fun y hy => by have := (mayA_slots (h.st.may y hy)).len; omega) (fun y hy => by have := (mayA_slots (h.st.may y hy)).len; omega) (by omega) (by omega)
  rw [decide_eq_true rfl] at this
  exact this
theorem sameTS {A : Hp} {s : List Ac} {v u : Value} (h : RiS s) (h1 : StR s v A) (h2 : StR s u A) (hA : marksOf A = []) : CallsV Try.prog 10 [v, u] A (Ret0 (.bool true)) := by
  have hl := h.len
  have := sameS_ok h1 h2 hA (by omega) (by omega) (fun y hy => by have := (mayA_slots (h.may y hy)).len; omega) (fun y hy => by have := (mayA_slots (h.may y hy)).len; omega)
  rw [decide_eq_true rfl] at this
  exact this
def plAll : Plans := fun i => if i = 11 then [] else if i = 12 then [(0, 9)] else if i = 16 then [(0, 9)] else Try.pl3 i
attribute [push_cast] plAll
theorem journalAll_ok {M : Hp} {sr cs : List R4} {v w : Value} (hm : marksOf M = []) (hv : LiR R4.cells 4 M sr v) (hw : LiR R4.cells 4 M cs w) (is : ∀ r ∈ sr, r.In) (ic : ∀ r ∈ cs, r.In) : CallsV Try.prog 3 [v, w] M (Ret0 (.bool true)) := by
  have hfs := stateR_few sr
  have hc := state_ok hv is
  obtain ⟨s, hs⟩ : ∃ s, s = stateR sr := ⟨_, rfl⟩
  rw [← hs] at hfs hc
  have hsl := hfs.ri.len
  obtain ⟨ps0, ks0, rfl⟩ := hv.slice
  obtain ⟨p, k, rfl, hla⟩ := hw.openC R4.len (by decide)
  have ho : openJ s = (⟨s, [], []⟩, 0) := by unfold openJ; rw [if_pos (rightS_iff.2 hfs.ri)]
  refine callsO gV4_ok Try.mix plAll Try.func3 rfl Try.ntmps3 Try.results3 rfl (by first | rfl | assumption) (Nat.le_of_ble_eq_true rfl) (by kernel_rfl) ?_
  simp only [push_cast, Nat.reduceAdd, Nat.reduceSub, Nat.reduceMul, Nat.reduceLT, Nat.reduceLeDiff, Nat.reduceEqDiff, Nat.reduceMod, Nat.reduceDiv, Int.reduceAdd, Int.reduceSub, Int.reduceMul, Int.reduceLT, Int.reduceLE, Int.reduceEq, Int.reduceNeg, Int.reduceToNat, reduceIte, reduceCtorEq, Int.reduceBEq, Int.reduceBNe]
  refine useL [] hc (StR.rd _) hm trivial fun w M0 hg0 hL0 hs0 => ?_
  obtain ⟨ps, ks, rfl⟩ := hs0.slice
  simp only [push_cast, Nat.reduceAdd, Nat.reduceSub, Nat.reduceMul, Nat.reduceLT, Nat.reduceLeDiff, Nat.reduceEqDiff, Nat.reduceMod, Nat.reduceDiv, Int.reduceAdd, Int.reduceSub, Int.reduceMul, Int.reduceLT, Int.reduceLE, Int.reduceEq, Int.reduceNeg, Int.reduceToNat, reduceIte, reduceCtorEq, Int.reduceBEq, Int.reduceBNe]
  refine useL [] (jopen_ok hs0 (by omega) (fun y hy => by have := (mayA_slots (hfs.ri.may y hy)).len; omega)) (JeR.rd _) hg0.marks trivial fun w M1 hg1' hL1 hq1 => ?_
  rw [ho] at hq1
  obtain ⟨w1, rfl, hj1⟩ := hq1
  obtain ⟨p1, q1, p1', q1', p1'', q1'', rfl⟩ := hj1.e3
  have hs1 := hs0.ext hg1'.ext
  have hg1 := hg0.trans hg1'
  simp only [push_cast, Nat.reduceAdd, Nat.reduceSub, Nat.reduceMul, Nat.reduceLT, Nat.reduceLeDiff, Nat.reduceEqDiff, Nat.reduceMod, Nat.reduceDiv, Int.reduceAdd, Int.reduceSub, Int.reduceMul, Int.reduceLT, Int.reduceLE, Int.reduceEq, Int.reduceNeg, Int.reduceToNat, reduceIte, reduceCtorEq, Int.reduceBEq, Int.reduceBNe]
  intro b7 hb7
  refine loopO gV4_ok (pl := plAll) Try.mix (X := {x : (Nat × (Value × Value × Value)) × Hp // Gr M1 x.2 ∧ fresh b7 x.2})
    (fun x => ([(1, .slice p cs.length k), (5, .bool true), (6, .slice ps s.length ks), (7, .pointer (some ⟨b7, 0, none⟩)), (9, .int .i64 x.1.1.1), (10, .int .i64 x.1.1.1)], ⟨b7, 0, .cel 29, [x.1.1.2.1, x.1.1.2.2.1, x.1.1.2.2.2]⟩ :: x.1.2))
    (fun x => x.1.1.1 ≤ cs.length ∧ x.1.1.1 ≤ 15 ∧ JoR (mdsJ s (cs.take x.1.1.1)) (.agg #[x.1.1.2.1, x.1.1.2.2.1, x.1.1.2.2.2]) x.1.2) (fun x => cs.length - x.1.1.1) ⟨((0, (.slice p1 s.length q1, .slice p1' 0 q1', .slice p1'' 0 q1'')), M1), Gr.refl hg1.marks, hb7⟩ ?_ ?_ (by kernel_rfl) ?_
  · exact ⟨Nat.zero_le _, Nat.zero_le _, hj1⟩
  · simp only [push_cast, Nat.reduceAdd, Nat.reduceSub, Nat.reduceMul, Nat.reduceLT, Nat.reduceLeDiff, Nat.reduceEqDiff, Nat.reduceMod, Nat.reduceDiv, Int.reduceAdd, Int.reduceSub, Int.reduceMul, Int.reduceLT, Int.reduceLE, Int.reduceEq, Int.reduceNeg, Int.reduceToNat, reduceIte, reduceCtorEq, Int.reduceBEq, Int.reduceBNe]
  rintro ⟨⟨⟨ix, va, vb, vc⟩, Mq⟩, hgq, q7⟩ ⟨hi, h15, hw0⟩
  dsimp only at hi h15 hw0 hgq q7 ⊢
  have hlen : (cs.take ix).length = ix := by rw [List.length_take]; omega
  have hC := mds_cnt hfs (l := cs.take ix) (by omega)
  obtain ⟨t, ht⟩ : ∃ t, t = mdsJ s (cs.take ix) := ⟨_, rfl⟩
  rw [← ht] at hw0 hC
  rw [hlen] at hC
  obtain ⟨p1, q1, p1', q1', p1'', q1'', hve⟩ := hw0.e3
  injection hve with hve
  injection hve with hve
  simp only [List.cons.injEq, and_true] at hve
  obtain ⟨rfl, rfl, rfl⟩ := hve
  by_cases hc : ix < cs.length ∧ ix < 15
  · obtain ⟨hlt, hl15⟩ := hc
    obtain ⟨r, hr'⟩ : ∃ r, cs[ix]? = some r := ⟨cs[ix], List.getElem?_eq_getElem hlt⟩
    obtain ⟨ia, ib, ic', id⟩ := ic r (List.mem_of_getElem? hr')
    rcases hla with rfl | ⟨b, f, d, kd, cc, rfl, hfe, hat⟩
    · simp at hlt
    obtain ⟨a1, a2⟩ := hat ix r hr'
    rw [show r.cells = [.int .i64 r.a, .int .i64 r.b, .int .i64 r.c, .int .i64 r.d] from rfl] at a2
    have i0 : (0 : Int) ≤ (ix : Int) := by omega
    have i1 : (ix : Int) < (cs.length : Int) := by omega
    have i2 : (ix : Int) < 15 := by omega
    have e3 : -9223372036854775808 ≤ (ix : Int) + 1 ∧ (ix : Int) + 1 ≤ 9223372036854775807 := by omega
    have hs2 : mdsJ s (cs.take (ix + 1)) = mdJ t r := by
      rw [List.take_add_one, hr', ht]; exact mds_snoc _ _ _
    have hC2 := (hC.step (by omega) r).2.1
    have hdo := (hC.step (by omega) r).1
    simp only [push_cast, Nat.reduceAdd, Nat.reduceSub, Nat.reduceMul, Nat.reduceLT, Nat.reduceLeDiff, Nat.reduceEqDiff, Nat.reduceMod, Nat.reduceDiv, Int.reduceAdd, Int.reduceSub, Int.reduceMul, Int.reduceLT, Int.reduceLE, Int.reduceEq, Int.reduceNeg, Int.reduceToNat, reduceIte, reduceCtorEq, Int.reduceBEq, Int.reduceBNe, i1, i2, hlt, hl15]
    refine useL [_] (jmark_R hw0 hC.ri) (JmR.rd _) hgq.marks ⟨q7, trivial⟩ fun w M2 hg2 hL2 hq2 => ?_
    rw [(hC.mark (by omega)).1] at hq2
    obtain ⟨w1, rfl, hjK⟩ := hq2
    obtain ⟨p2, q2, p2', q2', p2'', q2'', rfl⟩ := hjK.e3
    simp only [push_cast, Nat.reduceAdd, Nat.reduceSub, Nat.reduceMul, Nat.reduceLT, Nat.reduceLeDiff, Nat.reduceEqDiff, Nat.reduceMod, Nat.reduceDiv, Int.reduceAdd, Int.reduceSub, Int.reduceMul, Int.reduceLT, Int.reduceLE, Int.reduceEq, Int.reduceNeg, Int.reduceToNat, reduceIte, reduceCtorEq, Int.reduceBEq, Int.reduceBNe]
    intro b11 hb11
    have hL11 : freshN [⟨b11, 0, .cel 29, [.slice p2 (mkJ t).state.length q2, .slice p2' (mkJ t).undo.length q2', .slice p2'' (mkJ t).marks.length q2'']⟩, ⟨b7, 0, .cel 29, [.slice p1 t.state.length q1, .slice p1' t.undo.length q1', .slice p1'' t.marks.length q1'']⟩] M2 := ⟨hb11.2.2, hL2⟩
    have fEb0 : findE M2 b = some ⟨b, f, kd, cc⟩ := hg2.find ((hg1.trans hgq).find hfe)
    have fEb : findE (⟨b11, 0, .cel 29, [.slice p2 (mkJ t).state.length q2, .slice p2' (mkJ t).undo.length q2', .slice p2'' (mkJ t).marks.length q2'']⟩ :: ⟨b7, 0, .cel 29, [.slice p1 t.state.length q1, .slice p1' t.undo.length q1', .slice p1'' t.marks.length q1'']⟩ :: M2) b = some ⟨b, f, kd, cc⟩ := find_behind hL11 _ _ fEb0
    have rC := (hC.mark (by omega)).2
    have cD : ∀ b3, (∀ b e, findE M2 b = some e → findE (⟨b3, 0, .vec 42 31 1, (chR ⟨r.a, r.b, r.c, r.d⟩).cells⟩ :: M2) b = some e) → CallsR Try.prog 8 [.agg #[.slice p2 (mkJ t).state.length q2, .slice p2' (mkJ t).undo.length q2', .slice p2'' (mkJ t).marks.length q2''], .slice (some ⟨b3, 0, none⟩) 1 1] (⟨b3, 0, .vec 42 31 1, (chR ⟨r.a, r.b, r.c, r.d⟩).cells⟩ :: M2) (JeR (mdJ t r, 0)) := fun b3 h5 => by
      have := jdo_R (lv := .slice (some ⟨b3, 0, none⟩) 1 1) (l := [chR ⟨r.a, r.b, r.c, r.d⟩]) (hjK.find h5) LiR.one1 rC (by simp)
      rw [show [chR ⟨r.a, r.b, r.c, r.d⟩] = [chR r] from rfl, hdo] at this
      exact this
    have fE11 : findE (⟨b11, 0, .cel 29, [.slice p2 (mkJ t).state.length q2, .slice p2' (mkJ t).undo.length q2', .slice p2'' (mkJ t).marks.length q2'']⟩ :: ⟨b7, 0, .cel 29, [.slice p1 t.state.length q1, .slice p1' t.undo.length q1', .slice p1'' t.marks.length q1'']⟩ :: M2) b11 = some ⟨b11, 0, .cel 29, [.slice p2 (mkJ t).state.length q2, .slice p2' (mkJ t).undo.length q2', .slice p2'' (mkJ t).marks.length q2'']⟩ := by
      simp only [push_cast, Nat.reduceAdd, Nat.reduceSub, Nat.reduceMul, Nat.reduceLT, Nat.reduceLeDiff, Nat.reduceEqDiff, Nat.reduceMod, Nat.reduceDiv, Int.reduceAdd, Int.reduceSub, Int.reduceMul, Int.reduceLT, Int.reduceLE, Int.reduceEq, Int.reduceNeg, Int.reduceToNat, reduceIte, reduceCtorEq, Int.reduceBEq, Int.reduceBNe, hb11]
    refine drawS gV4_ok Try.mix [(1, .slice (some ⟨b, f + d, none⟩) cs.length k), (5, .bool true), (6, .slice ps s.length ks), (7, .pointer (some ⟨b7, 0, none⟩)), (9, .int .i64 ix), (10, .int .i64 ix), (11, .pointer (some ⟨b11, 0, none⟩)), (12, .int .i64 ix), (13, .int .i64 0)]
        (fun i val => match i with
          | 0 => val 0 = .agg #[.slice p2 (mkJ t).state.length q2, .slice p2' (mkJ t).undo.length q2', .slice p2'' (mkJ t).marks.length q2'']
          | 1 => val 1 = .slice (some ⟨b, f + d, none⟩) cs.length k
          | 2 => val 2 = .int .i64 ix
          | 3 => val 3 = .pointer (some ⟨b, f + d + ix * 4, none⟩)
          | 4 => val 4 = .agg #[.int .i64 r.a, .int .i64 r.b, .int .i64 r.c, .int .i64 r.d]
          | 5 => val 5 = (chR ⟨r.a, r.b, r.c, r.d⟩).v
          | 6 => ∃ b, val 6 = .slice (some ⟨b, 0, none⟩) 1 1
          | 7 => ∃ p k p' k' p'' k'', val 7 = .tuple #[.agg #[.slice p (mdJ t r).state.length k, .slice p' (mdJ t r).undo.length k', .slice p'' (mdJ t r).marks.length k''], .int .i64 0]
          | 8 => val 8 = val 7 ∧ ∃ p k p' k' p'' k'', val 7 = .tuple #[.agg #[.slice p (mdJ t r).state.length k, .slice p' (mdJ t r).undo.length k', .slice p'' (mdJ t r).marks.length k''], .int .i64 0]
          | 9 => val 8 = .tuple #[val 9, .int .i64 0] ∧ ∃ p k p' k' p'' k'', val 9 = .agg #[.slice p (mdJ t r).state.length k, .slice p' (mdJ t r).undo.length k', .slice p'' (mdJ t r).marks.length k'']
          | 10 => val 10 = .int .i64 0
          | 11 => ∃ b, val 11 = .pointer (some ⟨b, 0, none⟩)
          | 13 => val 13 = .int .i64 0
          | _ => True)
        (fun i val N => match i with
          | 6 => ∃ b, val 6 = .slice (some ⟨b, 0, none⟩) 1 1 ∧ N = [⟨b, 0, .vec 42 31 1, (chR ⟨r.a, r.b, r.c, r.d⟩).cells⟩]
          | 7 => allWr N ∧ marksOf N = [] ∧ JeR ((mdJ t r), 0) (val 7) (N ++ M2)
          | 8 => N = []
          | 9 => N = []
          | 11 => ∃ b, val 11 = .pointer (some ⟨b, 0, none⟩) ∧ N = [⟨b, 0, .cel 29, [.slice none 0 0, .slice none 0 0, .slice none 0 0]⟩]
          | 12 => ∃ b p k p' k' p'' k'', val 11 = .pointer (some ⟨b, 0, none⟩) ∧ val 9 = .agg #[.slice p (mdJ t r).state.length k, .slice p' (mdJ t r).undo.length k', .slice p'' (mdJ t r).marks.length k''] ∧ N = [⟨b, 0, .cel 29, [.slice p (mdJ t r).state.length k, .slice p' (mdJ t r).undo.length k', .slice p'' (mdJ t r).marks.length k'']⟩]
          | _ => N = []) (fun i => if i = 12 then [11] else if i = 7 then [6] else []) [7, 12] (by kernel_rfl) (by kernel_rfl) (by kernel_rfl) ?_ (by rfl) (by decide) (by kernel_rfl) ?_ ?_ ?_ ?_ ?_
    · simp only [push_cast, Nat.reduceAdd, Nat.reduceSub, Nat.reduceMul, Nat.reduceLT, Nat.reduceLeDiff, Nat.reduceEqDiff, Nat.reduceMod, Nat.reduceDiv, Int.reduceAdd, Int.reduceSub, Int.reduceMul, Int.reduceLT, Int.reduceLE, Int.reduceEq, Int.reduceNeg, Int.reduceToNat, reduceIte, reduceCtorEq, Int.reduceBEq, Int.reduceBNe, subT]
    · intro i hi hiF
      replace hi : i < 14 := hi
      obtain rfl | rfl | rfl | rfl | rfl | rfl | rfl | rfl | rfl | rfl | rfl | rfl | rfl | rfl : i = 0 ∨ i = 1 ∨ i = 2 ∨ i = 3 ∨ i = 4 ∨ i = 5 ∨ i = 6 ∨ i = 7 ∨ i = 8 ∨ i = 9 ∨ i = 10 ∨ i = 11 ∨ i = 12 ∨ i = 13 := by omega
      all_goals first
        | exact .inl fun _ _ h => h
        | exact absurd (by decide) hiF
        | exact .inr (by kernel_rfl)
    · intro i o ho val val' h1 h2 hV
      have hi := (Array.getElem?_eq_some_iff.1 ho).1
      replace hi : i < 14 := hi
      obtain rfl | rfl | rfl | rfl | rfl | rfl | rfl | rfl | rfl | rfl | rfl | rfl | rfl | rfl : i = 0 ∨ i = 1 ∨ i = 2 ∨ i = 3 ∨ i = 4 ∨ i = 5 ∨ i = 6 ∨ i = 7 ∨ i = 8 ∨ i = 9 ∨ i = 10 ∨ i = 11 ∨ i = 12 ∨ i = 13 := by omega
      · first
          | exact trivial
          | exact hV
          | exact h1.trans hV
          | (rw [h1]; exact hV)
      · first
          | exact trivial
          | exact hV
          | exact h1.trans hV
          | (rw [h1]; exact hV)
      · first
          | exact trivial
          | exact hV
          | exact h1.trans hV
          | (rw [h1]; exact hV)
      · first
          | exact trivial
          | exact hV
          | exact h1.trans hV
          | (rw [h1]; exact hV)
      · first
          | exact trivial
          | exact hV
          | exact h1.trans hV
          | (rw [h1]; exact hV)
      · first
          | exact trivial
          | exact hV
          | exact h1.trans hV
          | (rw [h1]; exact hV)
      · first
          | exact trivial
          | exact hV
          | exact h1.trans hV
          | (rw [h1]; exact hV)
      · first
          | exact trivial
          | exact hV
          | exact h1.trans hV
          | (rw [h1]; exact hV)
      · simp only [List.getElem?_toArray, List.getElem?_cons_zero, List.getElem?_cons_succ, Option.some.injEq] at ho; subst ho
        have e4 := h2 7 (by kernel_rfl)
        rw [h1, e4]
        exact hV
      · simp only [List.getElem?_toArray, List.getElem?_cons_zero, List.getElem?_cons_succ, Option.some.injEq] at ho; subst ho
        have e5 := h2 8 (by kernel_rfl)
        rw [h1, e5]
        exact hV
      · first
          | exact trivial
          | exact hV
          | exact h1.trans hV
          | (rw [h1]; exact hV)
      · first
          | exact trivial
          | exact hV
          | exact h1.trans hV
          | (rw [h1]; exact hV)
      · first
          | exact trivial
          | exact hV
          | exact h1.trans hV
          | (rw [h1]; exact hV)
      · first
          | exact trivial
          | exact hV
          | exact h1.trans hV
          | (rw [h1]; exact hV)
    · intro i o ho val val' N h1 h2 hQ
      have hi := (Array.getElem?_eq_some_iff.1 ho).1
      replace hi : i < 14 := hi
      obtain rfl | rfl | rfl | rfl | rfl | rfl | rfl | rfl | rfl | rfl | rfl | rfl | rfl | rfl : i = 0 ∨ i = 1 ∨ i = 2 ∨ i = 3 ∨ i = 4 ∨ i = 5 ∨ i = 6 ∨ i = 7 ∨ i = 8 ∨ i = 9 ∨ i = 10 ∨ i = 11 ∨ i = 12 ∨ i = 13 := by omega
      · first
          | exact trivial
          | exact hQ
          | exact h1.trans hQ
          | (rw [h1]; exact hQ)
      · first
          | exact trivial
          | exact hQ
          | exact h1.trans hQ
          | (rw [h1]; exact hQ)
      · first
          | exact trivial
          | exact hQ
          | exact h1.trans hQ
          | (rw [h1]; exact hQ)
      · first
          | exact trivial
          | exact hQ
          | exact h1.trans hQ
          | (rw [h1]; exact hQ)
      · first
          | exact trivial
          | exact hQ
          | exact h1.trans hQ
          | (rw [h1]; exact hQ)
      · first
          | exact trivial
          | exact hQ
          | exact h1.trans hQ
          | (rw [h1]; exact hQ)
      · first
          | exact trivial
          | exact hQ
          | exact h1.trans hQ
          | (rw [h1]; exact hQ)
      · first
          | exact trivial
          | exact hQ
          | exact h1.trans hQ
          | (rw [h1]; exact hQ)
      · first
          | exact trivial
          | exact hQ
          | exact h1.trans hQ
          | (rw [h1]; exact hQ)
      · first
          | exact trivial
          | exact hQ
          | exact h1.trans hQ
          | (rw [h1]; exact hQ)
      · first
          | exact trivial
          | exact hQ
          | exact h1.trans hQ
          | (rw [h1]; exact hQ)
      · first
          | exact trivial
          | exact hQ
          | exact h1.trans hQ
          | (rw [h1]; exact hQ)
      · simp only [List.getElem?_toArray, List.getElem?_cons_zero, List.getElem?_cons_succ, Option.some.injEq] at ho; subst ho
        have e6 := h2 9 (by kernel_rfl)
        have e8 := h2 11 (by kernel_rfl)
        rw [e6, e8]
        exact hQ
      · first
          | exact trivial
          | exact hQ
          | exact h1.trans hQ
          | (rw [h1]; exact hQ)
    · intro i o ho T' Y val mem hT hdep hus hfr hY hmY hapY
      have hi := (Array.getElem?_eq_some_iff.1 ho).1
      replace hi : i < 14 := hi
      have yj := hY _ _ fE11
      have tj : getT T' 11 = some (.pointer (some ⟨b11, 0, none⟩)) := hT.2.2.2.2.2.2.1
      have t1 : getT T' 1 = some (.slice (some ⟨b, f + d, none⟩) cs.length k) := hT.1
      have t10 : getT T' 10 = some (.int .i64 ix) := hT.2.2.2.2.2.1
      have yb := hY _ _ fEb
      obtain rfl | rfl | rfl | rfl | rfl | rfl | rfl | rfl | rfl | rfl | rfl | rfl | rfl | rfl : i = 0 ∨ i = 1 ∨ i = 2 ∨ i = 3 ∨ i = 4 ∨ i = 5 ∨ i = 6 ∨ i = 7 ∨ i = 8 ∨ i = 9 ∨ i = 10 ∨ i = 11 ∨ i = 12 ∨ i = 13 := by omega
      · simp only [List.getElem?_toArray, List.getElem?_cons_zero, List.getElem?_cons_succ, Option.some.injEq] at ho; subst ho
        simp only [push_cast, Nat.reduceAdd, Nat.reduceSub, Nat.reduceMul, Nat.reduceLT, Nat.reduceLeDiff, Nat.reduceEqDiff, Nat.reduceMod, Nat.reduceDiv, Int.reduceAdd, Int.reduceSub, Int.reduceMul, Int.reduceLT, Int.reduceLE, Int.reduceEq, Int.reduceNeg, Int.reduceToNat, reduceIte, reduceCtorEq, Int.reduceBEq, Int.reduceBNe, List.flatMap_nil, List.flatMap_cons, List.append_nil, List.nil_append, tj, yj]
        exact ⟨[], rfl, trivial, rfl, upd_self _ _ _, rfl⟩
      · simp only [List.getElem?_toArray, List.getElem?_cons_zero, List.getElem?_cons_succ, Option.some.injEq] at ho; subst ho
        simp only [push_cast, Nat.reduceAdd, Nat.reduceSub, Nat.reduceMul, Nat.reduceLT, Nat.reduceLeDiff, Nat.reduceEqDiff, Nat.reduceMod, Nat.reduceDiv, Int.reduceAdd, Int.reduceSub, Int.reduceMul, Int.reduceLT, Int.reduceLE, Int.reduceEq, Int.reduceNeg, Int.reduceToNat, reduceIte, reduceCtorEq, Int.reduceBEq, Int.reduceBNe, List.flatMap_nil, List.flatMap_cons, List.append_nil, List.nil_append, t1]
        exact ⟨[], rfl, trivial, rfl, upd_self _ _ _, rfl⟩
      · simp only [List.getElem?_toArray, List.getElem?_cons_zero, List.getElem?_cons_succ, Option.some.injEq] at ho; subst ho
        simp only [push_cast, Nat.reduceAdd, Nat.reduceSub, Nat.reduceMul, Nat.reduceLT, Nat.reduceLeDiff, Nat.reduceEqDiff, Nat.reduceMod, Nat.reduceDiv, Int.reduceAdd, Int.reduceSub, Int.reduceMul, Int.reduceLT, Int.reduceLE, Int.reduceEq, Int.reduceNeg, Int.reduceToNat, reduceIte, reduceCtorEq, Int.reduceBEq, Int.reduceBNe, List.flatMap_nil, List.flatMap_cons, List.append_nil, List.nil_append, t10]
        exact ⟨[], rfl, trivial, rfl, upd_self _ _ _, rfl⟩
      · simp only [List.getElem?_toArray, List.getElem?_cons_zero, List.getElem?_cons_succ, Option.some.injEq] at ho; subst ho
        obtain ⟨v1, g1⟩ := hdep 1 (by kernel_rfl)
        replace g1 := g1 48 rfl
        rw [show val 1 = _ from v1] at g1
        obtain ⟨v2, g2⟩ := hdep 2 (by kernel_rfl)
        replace g2 := g2 49 rfl
        rw [show val 2 = _ from v2] at g2
        simp only [push_cast, Nat.reduceAdd, Nat.reduceSub, Nat.reduceMul, Nat.reduceLT, Nat.reduceLeDiff, Nat.reduceEqDiff, Nat.reduceMod, Nat.reduceDiv, Int.reduceAdd, Int.reduceSub, Int.reduceMul, Int.reduceLT, Int.reduceLE, Int.reduceEq, Int.reduceNeg, Int.reduceToNat, reduceIte, reduceCtorEq, Int.reduceBEq, Int.reduceBNe, List.flatMap_nil, List.flatMap_cons, List.append_nil, List.nil_append, g1, g2, i1, i0, hlt]
        exact ⟨[], rfl, trivial, rfl, upd_self _ _ _, rfl⟩
      · simp only [List.getElem?_toArray, List.getElem?_cons_zero, List.getElem?_cons_succ, Option.some.injEq] at ho; subst ho
        obtain ⟨v3, g3⟩ := hdep 3 (by kernel_rfl)
        replace g3 := g3 50 rfl
        rw [show val 3 = _ from v3] at g3
        simp only [push_cast, Nat.reduceAdd, Nat.reduceSub, Nat.reduceMul, Nat.reduceLT, Nat.reduceLeDiff, Nat.reduceEqDiff, Nat.reduceMod, Nat.reduceDiv, Int.reduceAdd, Int.reduceSub, Int.reduceMul, Int.reduceLT, Int.reduceLE, Int.reduceEq, Int.reduceNeg, Int.reduceToNat, reduceIte, reduceCtorEq, Int.reduceBEq, Int.reduceBNe, List.flatMap_nil, List.flatMap_cons, List.append_nil, List.nil_append, g3, yb, a1, a2]
        exact ⟨[], rfl, trivial, rfl, upd_self _ _ _, rfl⟩
      · simp only [List.getElem?_toArray, List.getElem?_cons_zero, List.getElem?_cons_succ, Option.some.injEq] at ho; subst ho
        obtain ⟨v4, g4⟩ := hdep 4 (by kernel_rfl)
        replace g4 := g4 51 rfl
        rw [show val 4 = _ from v4] at g4
        simp only [push_cast, Nat.reduceAdd, Nat.reduceSub, Nat.reduceMul, Nat.reduceLT, Nat.reduceLeDiff, Nat.reduceEqDiff, Nat.reduceMod, Nat.reduceDiv, Int.reduceAdd, Int.reduceSub, Int.reduceMul, Int.reduceLT, Int.reduceLE, Int.reduceEq, Int.reduceNeg, Int.reduceToNat, reduceIte, reduceCtorEq, Int.reduceBEq, Int.reduceBNe, List.flatMap_nil, List.flatMap_cons, List.append_nil, List.nil_append, g4, ia, ib, ic', id]
        exact ⟨[], rfl, trivial, rfl, upd_self _ _ _, rfl⟩
      · simp only [List.getElem?_toArray, List.getElem?_cons_zero, List.getElem?_cons_succ, Option.some.injEq] at ho; subst ho
        obtain ⟨v5, g5⟩ := hdep 5 (by kernel_rfl)
        replace g5 := g5 52 rfl
        rw [show val 5 = _ from v5] at g5
        simp only [push_cast, Nat.reduceAdd, Nat.reduceSub, Nat.reduceMul, Nat.reduceLT, Nat.reduceLeDiff, Nat.reduceEqDiff, Nat.reduceMod, Nat.reduceDiv, Int.reduceAdd, Int.reduceSub, Int.reduceMul, Int.reduceLT, Int.reduceLE, Int.reduceEq, Int.reduceNeg, Int.reduceToNat, reduceIte, reduceCtorEq, Int.reduceBEq, Int.reduceBNe, List.flatMap_nil, List.flatMap_cons, List.append_nil, List.nil_append, g5]
        intro b hf
        exact ⟨[_], rfl, ⟨trivial, trivial⟩, rfl, ⟨b, upd_self _ _ _⟩, b, upd_self _ _ _, rfl⟩
      · simp only [List.getElem?_toArray, List.getElem?_cons_zero, List.getElem?_cons_succ, Option.some.injEq] at ho; subst ho
        obtain ⟨v0, g0⟩ := hdep 0 (by kernel_rfl)
        replace g0 := g0 47 rfl
        rw [show val 0 = _ from v0] at g0
        obtain ⟨v6, g6⟩ := hdep 6 (by kernel_rfl)
        replace g6 := g6 53 rfl
        obtain ⟨bs0, v6⟩ := v6
        obtain ⟨b3', v3', hN⟩ := hus 6 (List.mem_singleton.2 rfl)
        have v3' : val 6 = _ := v3'
        rw [v3'] at g6
        have fr3 : freshN (mem 6) Y := by simpa using hfr
        rw [hN] at fr3
        have hM4 : ∀ b e, findE M2 b = some e → findE Y b = some e := fun b e h => hY b e (find_behind (L := [_, _]) hL11 b e h)
        have hM5 : ∀ b e, findE M2 b = some e → findE (⟨b3', 0, .vec 42 31 1, (chR ⟨r.a, r.b, r.c, r.d⟩).cells⟩ :: M2) b = some e := fun b e h => by rw [findE, if_neg (fun h2 => (fresh_findS fr3.1 (hM4 b e h)).1 h2.symm)]; exact h
        simp only [push_cast, Nat.reduceAdd, Nat.reduceSub, Nat.reduceMul, Nat.reduceLT, Nat.reduceLeDiff, Nat.reduceEqDiff, Nat.reduceMod, Nat.reduceDiv, Int.reduceAdd, Int.reduceSub, Int.reduceMul, Int.reduceLT, Int.reduceLE, Int.reduceEq, Int.reduceNeg, Int.reduceToNat, reduceIte, reduceCtorEq, Int.reduceBEq, Int.reduceBNe, List.flatMap_nil, List.flatMap_cons, List.append_nil, List.nil_append, g0, g6, hN, List.cons_append]
        have hwb : allWr [(⟨b3', 0, .vec 42 31 1, (chR ⟨r.a, r.b, r.c, r.d⟩).cells⟩ : Ent)] := ⟨trivial, trivial⟩
        have hM6 := find_front (N := [⟨b3', 0, .vec 42 31 1, (chR ⟨r.a, r.b, r.c, r.d⟩).cells⟩]) hM4
        refine callS (M := ⟨b3', 0, .vec 42 31 1, (chR ⟨r.a, r.b, r.c, r.d⟩).cells⟩ :: M2) (cD b3' hM5) (JeR.rd _) hM6 fun w N hw hm1 hf hq => ⟨N ++ [⟨b3', 0, .vec 42 31 1, (chR ⟨r.a, r.b, r.c, r.d⟩).cells⟩], by rw [List.append_assoc]; rfl, allWr_app hw hwb, by rw [marks_append, hm1]; rfl, ?_, ?_⟩
        · obtain ⟨w1, rfl, hj⟩ := hq
          obtain ⟨p, k, p', k', p'', k'', rfl⟩ := hj.e3
          exact ⟨p, k, p', k', p'', k'', by rw [upd_self]⟩
        · rw [upd_self]
          refine ⟨allWr_app hw hwb, by rw [marks_append, hm1]; rfl, ?_⟩
          rw [List.append_assoc]; exact hq
      · simp only [List.getElem?_toArray, List.getElem?_cons_zero, List.getElem?_cons_succ, Option.some.injEq] at ho; subst ho
        obtain ⟨v7, g7⟩ := hdep 7 (by kernel_rfl)
        replace g7 := g7 54 rfl
        obtain ⟨p, k, p', k', p'', k'', v7⟩ := v7
        have v7 : val 7 = _ := v7
        rw [v7] at g7
        simp only [push_cast, Nat.reduceAdd, Nat.reduceSub, Nat.reduceMul, Nat.reduceLT, Nat.reduceLeDiff, Nat.reduceEqDiff, Nat.reduceMod, Nat.reduceDiv, Int.reduceAdd, Int.reduceSub, Int.reduceMul, Int.reduceLT, Int.reduceLE, Int.reduceEq, Int.reduceNeg, Int.reduceToNat, reduceIte, reduceCtorEq, Int.reduceBEq, Int.reduceBNe, List.flatMap_nil, List.flatMap_cons, List.append_nil, List.nil_append, g7]
        exact ⟨[], rfl, trivial, rfl, ⟨by simp [upd, v7], p, k, p', k', p'', k'', by simp [upd, v7]⟩, rfl⟩
      · simp only [List.getElem?_toArray, List.getElem?_cons_zero, List.getElem?_cons_succ, Option.some.injEq] at ho; subst ho
        obtain ⟨v8, g8⟩ := hdep 8 (by kernel_rfl)
        replace g8 := g8 46 rfl
        obtain ⟨v5, p, k, p', k', p'', k'', v4⟩ := v8
        have v5 : val 8 = _ := v5
        rw [v5, v4] at g8
        simp only [push_cast, Nat.reduceAdd, Nat.reduceSub, Nat.reduceMul, Nat.reduceLT, Nat.reduceLeDiff, Nat.reduceEqDiff, Nat.reduceMod, Nat.reduceDiv, Int.reduceAdd, Int.reduceSub, Int.reduceMul, Int.reduceLT, Int.reduceLE, Int.reduceEq, Int.reduceNeg, Int.reduceToNat, reduceIte, reduceCtorEq, Int.reduceBEq, Int.reduceBNe, List.flatMap_nil, List.flatMap_cons, List.append_nil, List.nil_append, g8]
        exact ⟨[], rfl, trivial, rfl, ⟨by simp [upd, v5, v4], p, k, p', k', p'', k'', by simp [upd]⟩, rfl⟩
      · simp only [List.getElem?_toArray, List.getElem?_cons_zero, List.getElem?_cons_succ, Option.some.injEq] at ho; subst ho
        obtain ⟨v8, g8⟩ := hdep 8 (by kernel_rfl)
        replace g8 := g8 46 rfl
        obtain ⟨v5, p, k, p', k', p'', k'', v4⟩ := v8
        have v5 : val 8 = _ := v5
        rw [v5, v4] at g8
        simp only [push_cast, Nat.reduceAdd, Nat.reduceSub, Nat.reduceMul, Nat.reduceLT, Nat.reduceLeDiff, Nat.reduceEqDiff, Nat.reduceMod, Nat.reduceDiv, Int.reduceAdd, Int.reduceSub, Int.reduceMul, Int.reduceLT, Int.reduceLE, Int.reduceEq, Int.reduceNeg, Int.reduceToNat, reduceIte, reduceCtorEq, Int.reduceBEq, Int.reduceBNe, List.flatMap_nil, List.flatMap_cons, List.append_nil, List.nil_append, g8]
        exact ⟨[], rfl, trivial, rfl, upd_self _ _ _, rfl⟩
      · simp only [List.getElem?_toArray, List.getElem?_cons_zero, List.getElem?_cons_succ, Option.some.injEq] at ho; subst ho
        simp only [push_cast, Nat.reduceAdd, Nat.reduceSub, Nat.reduceMul, Nat.reduceLT, Nat.reduceLeDiff, Nat.reduceEqDiff, Nat.reduceMod, Nat.reduceDiv, Int.reduceAdd, Int.reduceSub, Int.reduceMul, Int.reduceLT, Int.reduceLE, Int.reduceEq, Int.reduceNeg, Int.reduceToNat, reduceIte, reduceCtorEq, Int.reduceBEq, Int.reduceBNe, List.flatMap_nil, List.flatMap_cons, List.append_nil, List.nil_append]
        intro b hf
        exact ⟨[_], rfl, ⟨trivial, trivial⟩, rfl, ⟨b, upd_self _ _ _⟩, b, upd_self _ _ _, rfl⟩
      · simp only [List.getElem?_toArray, List.getElem?_cons_zero, List.getElem?_cons_succ, Option.some.injEq] at ho; subst ho
        obtain ⟨v9, g9⟩ := hdep 9 (by kernel_rfl)
        replace g9 := g9 55 rfl
        obtain ⟨v11, g11⟩ := hdep 11 (by kernel_rfl)
        replace g11 := g11 14 rfl
        obtain ⟨-, p, k, p', k', p'', k'', v6⟩ := v9
        have v6 : val 9 = _ := v6
        rw [v6] at g9
        obtain ⟨b8, v8, hN⟩ := hus 11 (List.mem_singleton.2 rfl)
        have v8 : val 11 = _ := v8
        rw [v8] at g11
        simp only [push_cast, Nat.reduceAdd, Nat.reduceSub, Nat.reduceMul, Nat.reduceLT, Nat.reduceLeDiff, Nat.reduceEqDiff, Nat.reduceMod, Nat.reduceDiv, Int.reduceAdd, Int.reduceSub, Int.reduceMul, Int.reduceLT, Int.reduceLE, Int.reduceEq, Int.reduceNeg, Int.reduceToNat, reduceIte, reduceCtorEq, Int.reduceBEq, Int.reduceBNe, List.flatMap_nil, List.flatMap_cons, List.append_nil, List.nil_append, g9, g11, hN, List.cons_append]
        exact ⟨[_], rfl, ⟨trivial, trivial⟩, rfl, b8, p, k, p', k', p'', k'', by simp [upd, v8], by simp [upd, v6], rfl⟩
      · simp only [List.getElem?_toArray, List.getElem?_cons_zero, List.getElem?_cons_succ, Option.some.injEq] at ho; subst ho
        obtain ⟨v10, g10⟩ := hdep 10 (by kernel_rfl)
        replace g10 := g10 56 rfl
        rw [show val 10 = _ from v10] at g10
        simp only [push_cast, Nat.reduceAdd, Nat.reduceSub, Nat.reduceMul, Nat.reduceLT, Nat.reduceLeDiff, Nat.reduceEqDiff, Nat.reduceMod, Nat.reduceDiv, Int.reduceAdd, Int.reduceSub, Int.reduceMul, Int.reduceLT, Int.reduceLE, Int.reduceEq, Int.reduceNeg, Int.reduceToNat, reduceIte, reduceCtorEq, Int.reduceBEq, Int.reduceBNe, List.flatMap_nil, List.flatMap_cons, List.append_nil, List.nil_append, g10]
        exact ⟨[], rfl, trivial, rfl, upd_self _ _ _, rfl⟩
    · intro val mem hV hQ hap hwr
      obtain ⟨w4, m4, hq4⟩ := hQ 7 (by decide)
      obtain ⟨b14, p3, q3, p3', q3', p3'', q3'', v8, v6, hN9⟩ := hQ 12 (by decide)
      obtain ⟨v56, -⟩ := hV 9 (by decide)
      obtain ⟨v54, -⟩ := hV 8 (by decide)
      have v10 : val 13 = .int .i64 0 := hV 13 (by decide)
      have v8 : val 11 = _ := v8
      have v6 : val 9 = _ := v6
      have v54 : val 8 = val 7 := v54
      have v56 : val 8 = .tuple #[val 9, .int .i64 0] := v56
      rw [← v54, v56, v6] at hq4
      obtain ⟨wM, hwM, hjD⟩ := hq4
      injection hwM with hwM
      have hwM := congrArg Array.toList hwM
      simp only [List.cons.injEq, and_true] at hwM
      obtain rfl := hwM
      have hMM : List.flatMap mem [7, 12] ++ (⟨b11, 0, .cel 29, [.slice p2 (mkJ t).state.length q2, .slice p2' (mkJ t).undo.length q2', .slice p2'' (mkJ t).marks.length q2'']⟩ :: ⟨b7, 0, .cel 29, [.slice p1 t.state.length q1, .slice p1' t.undo.length q1', .slice p1'' t.marks.length q1'']⟩ :: M2) = mem 7 ++ (⟨b14, 0, .cel 29, [.slice p3 (mdJ t r).state.length q3, .slice p3' (mdJ t r).undo.length q3', .slice p3'' (mdJ t r).marks.length q3'']⟩ :: ⟨b11, 0, .cel 29, [.slice p2 (mkJ t).state.length q2, .slice p2' (mkJ t).undo.length q2', .slice p2'' (mkJ t).marks.length q2'']⟩ :: ⟨b7, 0, .cel 29, [.slice p1 t.state.length q1, .slice p1' t.undo.length q1', .slice p1'' t.marks.length q1'']⟩ :: M2) := by
        simp only [List.flatMap_cons, List.flatMap_nil, List.append_nil, hN9, List.append_assoc, List.cons_append, List.nil_append]
      rw [hMM] at hap ⊢
      have a4 := freshN_apart hap w4
      have q4f := freshN_sym a4
      have hap2 := (List.pairwise_append.1 hap).2.1
      have a12 := freshN_apart (A := [⟨b14, 0, .cel 29, [.slice p3 (mdJ t r).state.length q3, .slice p3' (mdJ t r).undo.length q3', .slice p3'' (mdJ t r).marks.length q3'']⟩]) hap2 ⟨trivial, trivial⟩
      have hbN := a12.1
      simp only [push_cast, Nat.reduceAdd, Nat.reduceSub, Nat.reduceMul, Nat.reduceLT, Nat.reduceLeDiff, Nat.reduceEqDiff, Nat.reduceMod, Nat.reduceDiv, Int.reduceAdd, Int.reduceSub, Int.reduceMul, Int.reduceLT, Int.reduceLE, Int.reduceEq, Int.reduceNeg, Int.reduceToNat, reduceIte, reduceCtorEq, Int.reduceBEq, Int.reduceBNe] at hbN
      have hb14 := hbN
      simp only [push_cast, Nat.reduceAdd, Nat.reduceSub, Nat.reduceMul, Nat.reduceLT, Nat.reduceLeDiff, Nat.reduceEqDiff, Nat.reduceMod, Nat.reduceDiv, Int.reduceAdd, Int.reduceSub, Int.reduceMul, Int.reduceLT, Int.reduceLE, Int.reduceEq, Int.reduceNeg, Int.reduceToNat, reduceIte, reduceCtorEq, Int.reduceBEq, Int.reduceBNe, v8, v6, v10]
      refine WpV.perm (H' := ⟨b14, 0, .cel 29, [.slice p3 (mdJ t r).state.length q3, .slice p3' (mdJ t r).undo.length q3', .slice p3'' (mdJ t r).marks.length q3'']⟩ :: ⟨b11, 0, .cel 29, [.slice p2 (mkJ t).state.length q2, .slice p2' (mkJ t).undo.length q2', .slice p2'' (mkJ t).marks.length q2'']⟩ :: ⟨b7, 0, .cel 29, [.slice p1 t.state.length q1, .slice p1' t.undo.length q1', .slice p1'' t.marks.length q1'']⟩ :: (M2 ++ mem 7)) ?_ ?_ ?_
      · exact List.perm_append_comm
      · simp [marksOf, marks_append, m4]
      refine WpV.slots [(1, .slice (some ⟨b, f + d, none⟩) cs.length k), (5, .bool true), (6, .slice ps s.length ks), (7, .pointer (some ⟨b7, 0, none⟩)), (9, .int .i64 ix), (10, .int .i64 ix), (11, .pointer (some ⟨b11, 0, none⟩)), (12, .int .i64 ix), (13, .int .i64 0), (14, .pointer (some ⟨b14, 0, none⟩)), (15, .int .i64 0)] (by simp only [push_cast, Nat.reduceAdd, Nat.reduceSub, Nat.reduceMul, Nat.reduceLT, Nat.reduceLeDiff, Nat.reduceEqDiff, Nat.reduceMod, Nat.reduceDiv, Int.reduceAdd, Int.reduceSub, Int.reduceMul, Int.reduceLT, Int.reduceLE, Int.reduceEq, Int.reduceNeg, Int.reduceToNat, reduceIte, reduceCtorEq, Int.reduceBEq, Int.reduceBNe]) ?_
      obtain ⟨M3, hM3⟩ : ∃ M3, M3 = M2 ++ mem 7 := ⟨_, rfl⟩
      have hg3 : Gr M2 M3 := ⟨hg2.marks, mem 7, hM3, w4, m4⟩
      have f40 := freshN_cons (freshN_cons (freshN_cons (a4)))
      have hjD : JoR (mdJ t r) (.agg #[.slice p3 (mdJ t r).state.length q3, .slice p3' (mdJ t r).undo.length q3', .slice p3'' (mdJ t r).marks.length q3'']) M3 := by rw [hM3]; exact JoR.rd _ _ _ _ (cellsAt_swap f40) hjD
      have cb14 : fresh b14 M3 := by rw [hM3]; exact fresh_appS hbN.2.2.2.2 q4f.1
      have hL14 : freshN [⟨b14, 0, .cel 29, [.slice p3 (mdJ t r).state.length q3, .slice p3' (mdJ t r).undo.length q3', .slice p3'' (mdJ t r).marks.length q3'']⟩, ⟨b11, 0, .cel 29, [.slice p2 (mkJ t).state.length q2, .slice p2' (mkJ t).undo.length q2', .slice p2'' (mkJ t).marks.length q2'']⟩, ⟨b7, 0, .cel 29, [.slice p1 t.state.length q1, .slice p1' t.undo.length q1', .slice p1'' t.marks.length q1'']⟩] M3 := ⟨cb14, by rw [hM3]; exact freshN_comb hL11 ⟨q4f.2.1, q4f.2.2.1, trivial⟩⟩
      rw [← hM3]
      have l1 : (mdJ t r).undo.length = ix + 1 := hC2.ul
      have l2 : (mdJ t r).marks.length = ix + 1 := hC2.ml
      have l3 : ((mdJ t r).undo.length : Int) = (ix : Int) + 1 := by rw [l1]; rfl
      have l4 : ((mdJ t r).marks.length : Int) = (ix : Int) + 1 := by rw [l2]; rfl
      refine regO gV4_ok ?_
      simp only [push_cast, Nat.reduceAdd, Nat.reduceSub, Nat.reduceMul, Nat.reduceLT, Nat.reduceLeDiff, Nat.reduceEqDiff, Nat.reduceMod, Nat.reduceDiv, Int.reduceAdd, Int.reduceSub, Int.reduceMul, Int.reduceLT, Int.reduceLE, Int.reduceEq, Int.reduceNeg, Int.reduceToNat, reduceIte, reduceCtorEq, Int.reduceBEq, Int.reduceBNe, hb11, hb14, l1, l2, l3, l4, wrap_i64' e3, bne_self_eq_false]
      rw [l1, l2] at hjD
      obtain ⟨g14, g11, g7, -⟩ := hL14
      exact ⟨⟨((ix + 1, .slice p3 _ q3, .slice p3' (ix + 1) q3', .slice p3'' (ix + 1) q3''), M3), hgq.trans (hg2.trans hg3), g7⟩, ⟨hlt, by dsimp only; omega, by dsimp only; rw [hs2]; exact hjD⟩, by dsimp only; omega, rfl, ⟨rfl, by dsimp only; rw [subH_skip (show fresh b14 M3 from g14), subH_skip (show fresh b11 M3 from g11)]; exact subH_self M3⟩, rfl⟩
  · obtain ⟨Lx, hLx⟩ : ∃ Lx, Lx = cs.take ix := ⟨_, rfl⟩
    rw [← hLx] at ht hlen
    have hsx := hs1.ext hgq.ext
    have hri0 := RiJ.open hfs.ri
    have m1 : -9223372036854775808 ≤ (ix : Int) - 1 ∧ (ix : Int) - 1 ≤ 9223372036854775807 := by omega
    by_cases hlt : ix < cs.length
    have i1 : (ix : Int) < (cs.length : Int) := by omega
    have i2 : ¬ (ix : Int) < 15 := by omega
    have i3 : ¬ ix < 15 := by omega
    simp only [push_cast, Nat.reduceAdd, Nat.reduceSub, Nat.reduceMul, Nat.reduceLT, Nat.reduceLeDiff, Nat.reduceEqDiff, Nat.reduceMod, Nat.reduceDiv, Int.reduceAdd, Int.reduceSub, Int.reduceMul, Int.reduceLT, Int.reduceLE, Int.reduceEq, Int.reduceNeg, Int.reduceToNat, reduceIte, reduceCtorEq, Int.reduceBEq, Int.reduceBNe, i1, i2, hlt, i3]
    rotate_left
    have i1 : ¬ (ix : Int) < (cs.length : Int) := by omega
    simp only [push_cast, Nat.reduceAdd, Nat.reduceSub, Nat.reduceMul, Nat.reduceLT, Nat.reduceLeDiff, Nat.reduceEqDiff, Nat.reduceMod, Nat.reduceDiv, Int.reduceAdd, Int.reduceSub, Int.reduceMul, Int.reduceLT, Int.reduceLE, Int.reduceEq, Int.reduceNeg, Int.reduceToNat, reduceIte, reduceCtorEq, Int.reduceBEq, Int.reduceBNe, i1, hlt]
    all_goals
      refine regO gV4_ok ?_
      rcases Nat.eq_zero_or_pos ix with h0 | h0
      · subst h0
        have ht0 : t = ⟨s, [], []⟩ := by rw [ht, List.length_eq_zero_iff.1 hlen]; rfl
        simp only [push_cast, Nat.reduceAdd, Nat.reduceSub, Nat.reduceMul, Nat.reduceLT, Nat.reduceLeDiff, Nat.reduceEqDiff, Nat.reduceMod, Nat.reduceDiv, Int.reduceAdd, Int.reduceSub, Int.reduceMul, Int.reduceLT, Int.reduceLE, Int.reduceEq, Int.reduceNeg, Int.reduceToNat, reduceIte, reduceCtorEq, Int.reduceBEq, Int.reduceBNe, beq_self_eq_true]
        refine useP [_] (v := .bool true) (fun MB hr2 he2 => sameTS hfs.ri (StR.rd _ _ _ _ he2.symm (show StR s _ Mq from (show t.state = s by rw [ht0]) ▸ hw0.st)) (StR.rd _ _ _ _ he2.symm hsx) hr2.marks) ⟨q7, trivial⟩ ?_
        simp only [push_cast, Nat.reduceAdd, Nat.reduceSub, Nat.reduceMul, Nat.reduceLT, Nat.reduceLeDiff, Nat.reduceEqDiff, Nat.reduceMod, Nat.reduceDiv, Int.reduceAdd, Int.reduceSub, Int.reduceMul, Int.reduceLT, Int.reduceLE, Int.reduceEq, Int.reduceNeg, Int.reduceToNat, reduceIte, reduceCtorEq, Int.reduceBEq, Int.reduceBNe]
      · have e0 : ((ix : Int) == 0) = false := by rw [beq_eq_false_iff_ne]; omega
        have hb0 : backJ t 0 = (⟨s, [], []⟩, 0) := by rw [ht]; exact mds_first hfs (by omega) (by omega)
        simp only [push_cast, Nat.reduceAdd, Nat.reduceSub, Nat.reduceMul, Nat.reduceLT, Nat.reduceLeDiff, Nat.reduceEqDiff, Nat.reduceMod, Nat.reduceDiv, Int.reduceAdd, Int.reduceSub, Int.reduceMul, Int.reduceLT, Int.reduceLE, Int.reduceEq, Int.reduceNeg, Int.reduceToNat, reduceIte, reduceCtorEq, Int.reduceBEq, Int.reduceBNe, e0]
        refine useL [_] (jback_R (m := 0) hw0 hC.ri) (JeR.rd _) hgq.marks ⟨q7, trivial⟩ fun w M2 hg2 hL2 hq2 => ?_
        rw [hb0] at hq2
        obtain ⟨w1, rfl, hjB⟩ := hq2
        obtain ⟨p2, q2, p2', q2', p2'', q2'', rfl⟩ := hjB.e3
        simp only [push_cast, Nat.reduceAdd, Nat.reduceSub, Nat.reduceMul, Nat.reduceLT, Nat.reduceLeDiff, Nat.reduceEqDiff, Nat.reduceMod, Nat.reduceDiv, Int.reduceAdd, Int.reduceSub, Int.reduceMul, Int.reduceLT, Int.reduceLE, Int.reduceEq, Int.reduceNeg, Int.reduceToNat, reduceIte, reduceCtorEq, Int.reduceBEq, Int.reduceBNe]
        intro b16 hb16
        simp only [push_cast, Nat.reduceAdd, Nat.reduceSub, Nat.reduceMul, Nat.reduceLT, Nat.reduceLeDiff, Nat.reduceEqDiff, Nat.reduceMod, Nat.reduceDiv, Int.reduceAdd, Int.reduceSub, Int.reduceMul, Int.reduceLT, Int.reduceLE, Int.reduceEq, Int.reduceNeg, Int.reduceToNat, reduceIte, reduceCtorEq, Int.reduceBEq, Int.reduceBNe, hb16]
        intro b18 hb18
        have hw2 := hw0.ext hg2.ext
        simp only [push_cast, Nat.reduceAdd, Nat.reduceSub, Nat.reduceMul, Nat.reduceLT, Nat.reduceLeDiff, Nat.reduceEqDiff, Nat.reduceMod, Nat.reduceDiv, Int.reduceAdd, Int.reduceSub, Int.reduceMul, Int.reduceLT, Int.reduceLE, Int.reduceEq, Int.reduceNeg, Int.reduceToNat, reduceIte, reduceCtorEq, Int.reduceBEq, Int.reduceBNe, hb16, hb18, wrap_i64' m1]
        refine loopO gV4_ok (pl := plAll) Try.mix (X := {x : (Nat × (Value × Value × Value)) × Hp // Gr M2 x.2 ∧ fresh b18 x.2 ∧ fresh b16 x.2 ∧ fresh b7 x.2})
          (fun x => ([(5, .bool true), (6, .slice ps s.length ks), (16, .pointer (some ⟨b16, 0, none⟩)), (17, .int .i64 0), (18, .pointer (some ⟨b18, 0, none⟩)), (19, .int .i64 ((x.1.1.1 : Int) - 1))], ⟨b18, 0, .cel 29, [x.1.1.2.1, x.1.1.2.2.1, x.1.1.2.2.2]⟩ :: ⟨b16, 0, .cel 29, [.slice p2 s.length q2, .slice p2' 0 q2', .slice p2'' 0 q2'']⟩ :: ⟨b7, 0, .cel 29, [.slice p1 t.state.length q1, .slice p1' t.undo.length q1', .slice p1'' t.marks.length q1'']⟩ :: x.1.2))
          (fun x => x.1.1.1 ≤ ix ∧ JoR (mdsJ s (Lx.take x.1.1.1)) (.agg #[x.1.1.2.1, x.1.1.2.2.1, x.1.1.2.2.2]) x.1.2) (fun x => x.1.1.1) ⟨((ix, (.slice p1 t.state.length q1, .slice p1' t.undo.length q1', .slice p1'' t.marks.length q1'')), M2), Gr.refl hg2.marks, hb18.2.2.2.2, hb16.2.2, hL2.1⟩ ?_ ?_ (by kernel_rfl) ?_
        · exact ⟨Nat.le_refl _, by dsimp only; rw [List.take_of_length_le (by omega), ← ht]; exact hw2⟩
        · simp only [push_cast, Nat.reduceAdd, Nat.reduceSub, Nat.reduceMul, Nat.reduceLT, Nat.reduceLeDiff, Nat.reduceEqDiff, Nat.reduceMod, Nat.reduceDiv, Int.reduceAdd, Int.reduceSub, Int.reduceMul, Int.reduceLT, Int.reduceLE, Int.reduceEq, Int.reduceNeg, Int.reduceToNat, reduceIte, reduceCtorEq, Int.reduceBEq, Int.reduceBNe]
        rintro ⟨⟨⟨kx, va, vb, vc⟩, Mr⟩, hgr, r18, r16, r7⟩ ⟨hki, hwr⟩
        dsimp only at hki hwr hgr r18 r16 r7 ⊢
        have hCr := mds_cnt hfs (l := Lx.take kx) (by rw [List.length_take]; omega)
        obtain ⟨t2, ht2⟩ : ∃ t2, t2 = mdsJ s (Lx.take kx) := ⟨_, rfl⟩
        rw [← ht2] at hwr hCr
        obtain ⟨p3, q3, p3', q3', p3'', q3'', hve⟩ := hwr.e3
        injection hve with hve
        injection hve with hve
        simp only [List.cons.injEq, and_true] at hve
        obtain ⟨rfl, rfl, rfl⟩ := hve
        rcases kx with _ | kx
        · have ht0 : t2 = ⟨s, [], []⟩ := by rw [ht2, List.take_zero]; rfl
          have hwr0 : JoR ⟨s, [], []⟩ (.agg #[.slice p3 t2.state.length q3, .slice p3' t2.undo.length q3', .slice p3'' t2.marks.length q3'']) Mr := ht0 ▸ hwr
          have hB := hjB.ext hgr.ext
          have hsr := (hsx.ext hg2.ext).ext hgr.ext
          simp only [push_cast, Nat.reduceAdd, Nat.reduceSub, Nat.reduceMul, Nat.reduceLT, Nat.reduceLeDiff, Nat.reduceEqDiff, Nat.reduceMod, Nat.reduceDiv, Int.reduceAdd, Int.reduceSub, Int.reduceMul, Int.reduceLT, Int.reduceLE, Int.reduceEq, Int.reduceNeg, Int.reduceToNat, reduceIte, reduceCtorEq, Int.reduceBEq, Int.reduceBNe, hb16, hb18]
          refine useP [_, _, _] (v := .bool true) (fun MB hr2 he2 => sameT hri0 (JoR.rd _ _ _ _ he2.symm hB) (JoR.rd _ _ _ _ he2.symm hwr0) hr2.marks) ⟨r18, r16, r7, trivial⟩ ?_
          simp only [push_cast, Nat.reduceAdd, Nat.reduceSub, Nat.reduceMul, Nat.reduceLT, Nat.reduceLeDiff, Nat.reduceEqDiff, Nat.reduceMod, Nat.reduceDiv, Int.reduceAdd, Int.reduceSub, Int.reduceMul, Int.reduceLT, Int.reduceLE, Int.reduceEq, Int.reduceNeg, Int.reduceToNat, reduceIte, reduceCtorEq, Int.reduceBEq, Int.reduceBNe, hb16, hb18]
          refine useP [_, _, _] (v := .bool true) (fun MB hr2 he2 => sameTS hfs.ri (StR.rd _ _ _ _ he2.symm hB.st) (StR.rd _ _ _ _ he2.symm hsr) hr2.marks) ⟨r18, r16, r7, trivial⟩ ?_
          simp only [push_cast, Nat.reduceAdd, Nat.reduceSub, Nat.reduceMul, Nat.reduceLT, Nat.reduceLeDiff, Nat.reduceEqDiff, Nat.reduceMod, Nat.reduceDiv, Int.reduceAdd, Int.reduceSub, Int.reduceMul, Int.reduceLT, Int.reduceLE, Int.reduceEq, Int.reduceNeg, Int.reduceToNat, reduceIte, reduceCtorEq, Int.reduceBEq, Int.reduceBNe, hb16, hb18]
        · have n0 : (0 : Int) ≤ (kx : Int) := by omega
          have n1 : (kx : Int) + 1 - 1 = (kx : Int) := by omega
          have n2 : -9223372036854775808 ≤ (kx : Int) - 1 ∧ (kx : Int) - 1 ≤ 9223372036854775807 := by omega
          have hbk : backJ t2 (kx : Int) = (mdsJ s (Lx.take kx), 0) := by rw [ht2]; exact mds_last hfs (by omega) (by omega)
          simp only [push_cast, Nat.reduceAdd, Nat.reduceSub, Nat.reduceMul, Nat.reduceLT, Nat.reduceLeDiff, Nat.reduceEqDiff, Nat.reduceMod, Nat.reduceDiv, Int.reduceAdd, Int.reduceSub, Int.reduceMul, Int.reduceLT, Int.reduceLE, Int.reduceEq, Int.reduceNeg, Int.reduceToNat, reduceIte, reduceCtorEq, Int.reduceBEq, Int.reduceBNe, n0, n1, hb16, hb18]
          refine useL [_, _, _] (jback_R (m := (kx : Int)) hwr hCr.ri) (JeR.rd _) hgr.marks ⟨r18, r16, r7, trivial⟩ fun w M4 hg4 hL4 hq4 => ?_
          rw [hbk] at hq4
          obtain ⟨w1, rfl, hjD⟩ := hq4
          obtain ⟨p4, q4, p4', q4', p4'', q4'', rfl⟩ := hjD.e3
          obtain ⟨g18, g16, g7, -⟩ := hL4
          simp only [push_cast, Nat.reduceAdd, Nat.reduceSub, Nat.reduceMul, Nat.reduceLT, Nat.reduceLeDiff, Nat.reduceEqDiff, Nat.reduceMod, Nat.reduceDiv, Int.reduceAdd, Int.reduceSub, Int.reduceMul, Int.reduceLT, Int.reduceLE, Int.reduceEq, Int.reduceNeg, Int.reduceToNat, reduceIte, reduceCtorEq, Int.reduceBEq, Int.reduceBNe, hb16, hb18, wrap_i64' n2]
          exact ⟨⟨((kx, .slice p4 _ q4, .slice p4' _ q4', .slice p4'' _ q4''), M4), hgr.trans hg4, g18, g16, g7⟩, ⟨by dsimp only; omega, hjD⟩, by dsimp only; omega, rfl, ⟨rfl, subH_self M4⟩, rfl⟩
end Go.Proofs.Ytkhpncfgimlleaa
