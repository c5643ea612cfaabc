/- Texts of this claim, merged by program: Jp Va Vb Vc. -/
import Derived.Test.YtkhpncfgimlleaaGreatZnAs
set_option linter.unusedSimpArgs false
set_option linter.unusedVariables false
namespace Go.Proofs.YtkhpncfgimlleaaGreat
open Go Go.Ev Go.Proofs
set_option maxRecDepth 100000
set_option maxHeartbeats 4000000
def plRD : Plans := fun i => if i = 1 then [(0, 9)] else if i = 4 then [(0, 9)] else if i = 7 then [(0, 9)] else if i = 9 then [] else if i = 10 then [(0, 9)] else Tryz.pl19 i
attribute [push_cast] plRD
theorem refJdo_ok {M : Hp} {j : Jo} {v lv : Value} {l : List Ch} (hv : JoR j v M) (hl : LiR Ch.cells 31 M l lv) (hn : j.state.length ≤ 1000000000) (hu : j.undo.length ≤ 1000000000) (hma : j.marks.length ≤ 1000000000000) (hsl : ∀ y ∈ j.state, y.slots.length ≤ 2000) (hll : l.length ≤ 1000000000000) : CallsW Tryz.prog 19 [v, lv] M (fun u N1 H => JeR (doJ j l) u (N1 ++ H)) := by
  intro M0 hr he
  have hm := hr.marks
  have hsl' : ∀ y ∈ j.state, y.slots.length ≤ 1000000000000 := fun y hy => by have := hsl y hy; omega
  replace hv := JoR.rd _ _ _ _ he.symm hv
  replace hl := hl.congr he.symm
  have hv0 := hv
  obtain ⟨vs, vu, vm, rfl, h1, h2, h3⟩ := hv
  obtain ⟨ps, ks, rfl⟩ := h1.slice
  obtain ⟨pu, ku, rfl⟩ := h2.slice
  obtain ⟨pm, km, rfl⟩ := h3.slice
  obtain ⟨pl, kl, rfl, hla⟩ := hl.openC Ch.len (by decide)
  obtain ⟨R, hR⟩ : ∃ R, R = doJ j l := ⟨_, rfl⟩
  rw [← hR]
  refine callsO gJ1_ok Tryz.mix plRD Tryz.func19 rfl Tryz.ntmps19 Tryz.results19 rfl (by first | rfl | assumption) (Nat.le_of_ble_eq_true rfl) (by kernel_rfl) ?_
  simp only [push_cast, Nat.reduceAdd, Nat.reduceSub, Nat.reduceMul, Nat.reduceLT, Nat.reduceLeDiff, Nat.reduceEqDiff, Nat.reduceMod, Nat.reduceDiv, Int.reduceAdd, Int.reduceSub, Int.reduceMul, Int.reduceLT, Int.reduceLE, Int.reduceEq, Int.reduceNeg, Int.reduceToNat, reduceIte, reduceCtorEq, Int.reduceBEq, Int.reduceBNe]
  intro b2 hb2 b4 hb4
  have f2 : fresh b2 M0 := hb2
  have f4 : fresh b4 M0 := hb4.2.2
  refine regO gJ1_ok ?_
  simp only [push_cast, Nat.reduceAdd, Nat.reduceSub, Nat.reduceMul, Nat.reduceLT, Nat.reduceLeDiff, Nat.reduceEqDiff, Nat.reduceMod, Nat.reduceDiv, Int.reduceAdd, Int.reduceSub, Int.reduceMul, Int.reduceLT, Int.reduceLE, Int.reduceEq, Int.reduceNeg, Int.reduceToNat, reduceIte, reduceCtorEq, Int.reduceBEq, Int.reduceBNe, hb4]
  refine useP [_, _] (fun M2 hr2 he2 => refJRight_ok (JoR.rd _ _ _ _ he2.symm hv0) hr2.marks hn (by omega) hma hsl) ⟨f4, f2, trivial⟩ ?_
  cases hrj : rightJ j
  · have e : R = (j, 1) := by rw [hR]; unfold doJ; rw [if_neg (by rw [hrj]; simp)]
    simp only [push_cast, Nat.reduceAdd, Nat.reduceSub, Nat.reduceMul, Nat.reduceLT, Nat.reduceLeDiff, Nat.reduceEqDiff, Nat.reduceMod, Nat.reduceDiv, Int.reduceAdd, Int.reduceSub, Int.reduceMul, Int.reduceLT, Int.reduceLE, Int.reduceEq, Int.reduceNeg, Int.reduceToNat, reduceIte, reduceCtorEq, Int.reduceBEq, Int.reduceBNe, hb4]
    refine useL [_, _] (refJown_R hv0 hn hu hma hsl') (JoR.rd _) hm ⟨f4, f2, trivial⟩ fun w' M2 hg2 hL2 hq2 => ?_
    obtain ⟨vs2, vu2, vm2, rfl, y1, y2, y3⟩ := hq2
    obtain ⟨x1, k1, rfl⟩ := y1.slice
    obtain ⟨x2, k2, rfl⟩ := y2.slice
    obtain ⟨x3, k3, rfl⟩ := y3.slice
    simp only [push_cast, Nat.reduceAdd, Nat.reduceSub, Nat.reduceMul, Nat.reduceLT, Nat.reduceLeDiff, Nat.reduceEqDiff, Nat.reduceMod, Nat.reduceDiv, Int.reduceAdd, Int.reduceSub, Int.reduceMul, Int.reduceLT, Int.reduceLE, Int.reduceEq, Int.reduceNeg, Int.reduceToNat, reduceIte, reduceCtorEq, Int.reduceBEq, Int.reduceBNe, hb4]
    exact doneX [_, _] [] hg2 rfl (JeR.own R) ⟨_, by rw [e], by rw [e]; exact ⟨_, _, _, rfl, y1, y2, y3⟩⟩
  have e : R = runJ j j l := by rw [hR]; unfold doJ; rw [if_pos hrj]
  have hrij := rightJ_iff.1 hrj
  simp only [push_cast, Nat.reduceAdd, Nat.reduceSub, Nat.reduceMul, Nat.reduceLT, Nat.reduceLeDiff, Nat.reduceEqDiff, Nat.reduceMod, Nat.reduceDiv, Int.reduceAdd, Int.reduceSub, Int.reduceMul, Int.reduceLT, Int.reduceLE, Int.reduceEq, Int.reduceNeg, Int.reduceToNat, reduceIte, reduceCtorEq, Int.reduceBEq, Int.reduceBNe, hb4]
  refine useB [_, _] (refJown_ok hv0 hn hu hma hsl') (JoO.rd _ _ _) hm ⟨f4, f2, trivial⟩ fun w Nj M1 hg1 hf1 hL1 hw1 hm1 hq1 => ?_
  obtain ⟨vs', vu', vm', Nu, Nm, rfl, rfl, hum, ho2, ho3, hq1⟩ := hq1
  obtain ⟨pw, kw, rfl⟩ := hq1.slice
  obtain ⟨pn, kn, rfl⟩ := ho2.slice
  obtain ⟨pk, kk, rfl⟩ := ho3.slice
  simp only [push_cast, Nat.reduceAdd, Nat.reduceSub, Nat.reduceMul, Nat.reduceLT, Nat.reduceLeDiff, Nat.reduceEqDiff, Nat.reduceMod, Nat.reduceDiv, Int.reduceAdd, Int.reduceSub, Int.reduceMul, Int.reduceLT, Int.reduceLE, Int.reduceEq, Int.reduceNeg, Int.reduceToNat, reduceIte, reduceCtorEq, Int.reduceBEq, Int.reduceBNe, hb4]
  intro b6 hb6
  refine WpV.perm (H' := ⟨b6, 0, .cel 37, [.slice pw j.state.length kw, .slice pn j.undo.length kn, .slice pk j.marks.length kk]⟩ :: ⟨b4, 0, .cel 37, [.slice none 0 0, .slice none 0 0, .slice none 0 0]⟩ :: ⟨b2, 0, .cel 37, [.slice ps j.state.length ks, .slice pu j.undo.length ku, .slice pm j.marks.length km]⟩ :: (Nu ++ (M1 ++ Nm))) ?_ ?_ ?_
  · exact (((List.Perm.append_left Nu List.perm_append_comm).cons _).cons _).cons _
  · simp [marksOf, marks_append, ho3.wr.2]
  obtain ⟨Mb, hMb⟩ : ∃ Mb, Mb = M1 ++ Nm := ⟨_, rfl⟩
  have hgb : Gr M0 Mb := hg1.trans ⟨hg1.marks, Nm, hMb, ho3.wr.1, ho3.wr.2⟩
  have hfb : freshN Nu Mb := by rw [hMb]; exact freshN_comb (freshN_appL.1 hf1).1 hum
  have hsb : StR j.state (.slice pw j.state.length kw) Mb := hq1.ext (Gr.ext ⟨hg1.marks, Nm, hMb, ho3.wr.1, ho3.wr.2⟩)
  have hmb : LiR intC 1 Mb j.marks (.slice pk j.marks.length kk) := by rw [hMb]; exact (ho3.liR rfl rfl M1).congr (cellsAt_swap (freshN_appL.1 hf1).2)
  rw [← hMb]
  have g6 : fresh b6 (Nu ++ Mb) := by
    have := hb6.2.2.2.2
    rw [hMb]
    have h := fresh_app_iff.1 this
    have h' := fresh_app_iff.1 h.2
    exact fresh_appS h.1 (fresh_appS h'.2 h'.1)
  have sw : ∀ {b}, fresh b (Nu ++ (Nm ++ M1)) → fresh b (Nu ++ Mb) := fun {b} this => by
    rw [hMb]
    have h := fresh_app_iff.1 this
    have h' := fresh_app_iff.1 h.2
    exact fresh_appS h.1 (fresh_appS h'.2 h'.1)
  have g4 : fresh b4 (Nu ++ Mb) := sw (by have := hL1.1; rw [List.append_assoc] at this; exact this)
  have g2 : fresh b2 (Nu ++ Mb) := sw (by have := hL1.2.1; rw [List.append_assoc] at this; exact this)
  have hb6 : ¬ b6 = b4 ∧ ¬ b4 = b6 ∧ ¬ b6 = b2 ∧ ¬ b2 = b6 ∧ True := ⟨hb6.1, hb6.2.1, hb6.2.2.1, hb6.2.2.2.1, trivial⟩
  have hvb := hv0.ext hgb.ext
  have hlb := hl.ext hgb.ext
  refine regO gJ1_ok ?_
  simp only [push_cast, Nat.reduceAdd, Nat.reduceSub, Nat.reduceMul, Nat.reduceLT, Nat.reduceLeDiff, Nat.reduceEqDiff, Nat.reduceMod, Nat.reduceDiv, Int.reduceAdd, Int.reduceSub, Int.reduceMul, Int.reduceLT, Int.reduceLE, Int.reduceEq, Int.reduceNeg, Int.reduceToNat, reduceIte, reduceCtorEq, Int.reduceBEq, Int.reduceBNe, hb4, hb6]
  refine loopO gJ1_ok (pl := plRD) Tryz.mix (X := {x : ((Nat × Jo) × (Value × Value)) × (Hp × Hp) // Gr Mb x.2.2 ∧ freshN x.2.1 x.2.2 ∧ fresh b6 (x.2.1 ++ x.2.2) ∧ fresh b4 (x.2.1 ++ x.2.2) ∧ fresh b2 (x.2.1 ++ x.2.2)})
    (fun x => ([(0, .agg #[.slice ps j.state.length ks, .slice pu j.undo.length ku, .slice pm j.marks.length km]), (1, .slice pl l.length kl), (2, .pointer (some ⟨b2, 0, none⟩)), (4, .pointer (some ⟨b4, 0, none⟩)), (5, .int .i64 0), (6, .pointer (some ⟨b6, 0, none⟩)), (7, .int .i64 x.1.1.1.1)],
      ⟨b6, 0, .cel 37, [x.1.1.2.1, x.1.1.2.2, .slice pk j.marks.length kk]⟩ :: ⟨b4, 0, .cel 37, [.slice none 0 0, .slice none 0 0, .slice none 0 0]⟩ :: ⟨b2, 0, .cel 37, [.slice ps j.state.length ks, .slice pu j.undo.length ku, .slice pm j.marks.length km]⟩ :: (x.1.2.1 ++ x.1.2.2)))
    (fun x => x.1.1.1.1 ≤ l.length ∧ R = runJ j x.1.1.1.2 (l.drop x.1.1.1.1) ∧ x.1.1.1.2.marks = j.marks ∧ RiS x.1.1.1.2.state ∧ x.1.1.1.2.undo.length ≤ 2000 ∧ StR x.1.1.1.2.state x.1.1.2.1 x.1.2.2 ∧ OutG 31 31 (x.1.1.1.2.undo.flatMap Ch.cells) x.1.1.1.2.undo.length x.1.1.2.2 x.1.2.1) (fun x => l.length - x.1.1.1.1) ⟨(((0, j), (.slice pw j.state.length kw, .slice pn j.undo.length kn)), (Nu, Mb)), Gr.refl hgb.marks, hfb, g6, g4, g2⟩ ?_ ?_ (by kernel_rfl) ?_
  · exact ⟨Nat.zero_le _, e, rfl, hrij.st, hrij.ul, hsb, ho2⟩
  · simp only [push_cast, Nat.reduceAdd, Nat.reduceSub, Nat.reduceMul, Nat.reduceLT, Nat.reduceLeDiff, Nat.reduceEqDiff, Nat.reduceMod, Nat.reduceDiv, Int.reduceAdd, Int.reduceSub, Int.reduceMul, Int.reduceLT, Int.reduceLE, Int.reduceEq, Int.reduceNeg, Int.reduceToNat, reduceIte, reduceCtorEq, Int.reduceBEq, Int.reduceBNe]
  · rintro ⟨⟨⟨⟨ix, now⟩, ⟨w, u⟩⟩, ⟨Nq, Mq⟩⟩, hgq, hfq, q6, q4, q2⟩ ⟨hi, hrun, hnm, hri, hul, hw, ho⟩
    dsimp only at hi hrun hnm hri hul hw ho hgq hfq q6 q4 q2 ⊢
    obtain ⟨pw1, kw1, rfl⟩ := hw.slice
    obtain ⟨pn1, kn1, rfl⟩ := ho.slice
    have hmq : LiR intC 1 Mq j.marks (.slice pk j.marks.length kk) := hmb.ext hgq.ext
    have hvq := hvb.ext hgq.ext
    have p6 := (fresh_app_iff.1 q6).2
    have p4 := (fresh_app_iff.1 q4).2
    have p2 := (fresh_app_iff.1 q2).2
    rcases Nat.lt_or_ge ix l.length with hlt | hge
    · obtain ⟨c, hc⟩ : ∃ y, l[ix]? = some y := ⟨l[ix]'(by omega), List.getElem?_eq_getElem (by omega)⟩
      rcases hla with rfl | ⟨b, f, d, kd, cs, rfl, hfe, hat⟩
      · simp at hlt
      obtain ⟨a1, a2⟩ := hat ix c hc
      have hee : findE (Nq ++ Mq) b = some ⟨b, f, kd, cs⟩ := find_behind hfq _ _ (hgq.find (hgb.find hfe))
      have n6 := (fresh_findS q6 hee).2
      have n4 := (fresh_findS q4 hee).2
      have n2 := (fresh_findS q2 hee).2
      have i1 : (ix : Int) < (l.length : Int) := by omega
      rw [show l.drop ix = c :: l.drop (ix + 1) by obtain ⟨h1, h2⟩ := List.getElem?_eq_some_iff.1 hc; rw [List.drop_eq_getElem_cons h1, h2], runJ] at hrun
      simp only [push_cast, Nat.reduceAdd, Nat.reduceSub, Nat.reduceMul, Nat.reduceLT, Nat.reduceLeDiff, Nat.reduceEqDiff, Nat.reduceMod, Nat.reduceDiv, Int.reduceAdd, Int.reduceSub, Int.reduceMul, Int.reduceLT, Int.reduceLE, Int.reduceEq, Int.reduceNeg, Int.reduceToNat, reduceIte, reduceCtorEq, Int.reduceBEq, Int.reduceBNe, i1, hlt, hb4, hb6]
      refine regO gJ1_ok ?_
      by_cases h2k : 2000 ≤ now.undo.length
      · rw [if_pos h2k] at hrun
        have e2 : (2000 : Int) ≤ (now.undo.length : Int) := by omega
        simp only [push_cast, Nat.reduceAdd, Nat.reduceSub, Nat.reduceMul, Nat.reduceLT, Nat.reduceLeDiff, Nat.reduceEqDiff, Nat.reduceMod, Nat.reduceDiv, Int.reduceAdd, Int.reduceSub, Int.reduceMul, Int.reduceLT, Int.reduceLE, Int.reduceEq, Int.reduceNeg, Int.reduceToNat, reduceIte, reduceCtorEq, Int.reduceBEq, Int.reduceBNe, hb4, hb6, e2, h2k]
        refine useL (_ :: _ :: _ :: Nq) (refJown_R hvq hn hu hma hsl') (JoR.rd _) hgq.marks ⟨p6, p4, p2, hfq⟩ fun w' M2 hg2 hL2 hq2 => ?_
        obtain ⟨vs2, vu2, vm2, rfl, y1, y2, y3⟩ := hq2
        obtain ⟨x1, k1, rfl⟩ := y1.slice
        obtain ⟨x2, k2, rfl⟩ := y2.slice
        obtain ⟨x3, k3, rfl⟩ := y3.slice
        simp only [push_cast, Nat.reduceAdd, Nat.reduceSub, Nat.reduceMul, Nat.reduceLT, Nat.reduceLeDiff, Nat.reduceEqDiff, Nat.reduceMod, Nat.reduceDiv, Int.reduceAdd, Int.reduceSub, Int.reduceMul, Int.reduceLT, Int.reduceLE, Int.reduceEq, Int.reduceNeg, Int.reduceToNat, reduceIte, reduceCtorEq, Int.reduceBEq, Int.reduceBNe, hb4, hb6]
        exact doneX [_, _, _] Nq ((hgb.trans hgq).trans hg2) ho.wr.2 (JeR.own R) ⟨_, by rw [hrun], by rw [hrun]; exact ⟨_, _, _, rfl, y1, y2, y3⟩⟩
      have e2 : ¬ (2000 : Int) ≤ (now.undo.length : Int) := by omega
      rw [if_neg h2k] at hrun
      have hrl := hri.len
      have hrs : ∀ y ∈ now.state, y.slots.length ≤ 2000 := fun y hy => by have := (mayA_slots (hri.may y hy)).len; omega
      simp only [push_cast, Nat.reduceAdd, Nat.reduceSub, Nat.reduceMul, Nat.reduceLT, Nat.reduceLeDiff, Nat.reduceEqDiff, Nat.reduceMod, Nat.reduceDiv, Int.reduceAdd, Int.reduceSub, Int.reduceMul, Int.reduceLT, Int.reduceLE, Int.reduceEq, Int.reduceNeg, Int.reduceToNat, reduceIte, reduceCtorEq, Int.reduceBEq, Int.reduceBNe, hb4, hb6, e2, h2k]
      obtain ⟨t, uc, er, hdo⟩ : ∃ t uc er, doS now.state c = (t, uc, er) := ⟨_, _, _, rfl⟩
      have q2' := q2
      have fE6 : findE (⟨b6, 0, .cel 37, [.slice pw1 now.state.length kw1, .slice pn1 now.undo.length kn1, .slice pk j.marks.length kk]⟩ :: ⟨b4, 0, .cel 37, [.slice none 0 0, .slice none 0 0, .slice none 0 0]⟩ :: ⟨b2, 0, .cel 37, [.slice ps j.state.length ks, .slice pu j.undo.length ku, .slice pm j.marks.length km]⟩ :: (Nq ++ Mq)) b6 = some ⟨b6, 0, .cel 37, [.slice pw1 now.state.length kw1, .slice pn1 now.undo.length kn1, .slice pk j.marks.length kk]⟩ := by
        simp only [push_cast, Nat.reduceAdd, Nat.reduceSub, Nat.reduceMul, Nat.reduceLT, Nat.reduceLeDiff, Nat.reduceEqDiff, Nat.reduceMod, Nat.reduceDiv, Int.reduceAdd, Int.reduceSub, Int.reduceMul, Int.reduceLT, Int.reduceLE, Int.reduceEq, Int.reduceNeg, Int.reduceToNat, reduceIte, reduceCtorEq, Int.reduceBEq, Int.reduceBNe]
      refine drawS gJ1_ok Tryz.mix [(0, .agg #[.slice ps j.state.length ks, .slice pu j.undo.length ku, .slice pm j.marks.length km]), (1, .slice (some ⟨b, f + d, none⟩) l.length kl), (2, .pointer (some ⟨b2, 0, none⟩)), (4, .pointer (some ⟨b4, 0, none⟩)), (5, .int .i64 0), (6, .pointer (some ⟨b6, 0, none⟩)), (7, .int .i64 ix)]
          (fun i val => match i with
            | 0 => val 0 = .pointer (some ⟨b6, 0, none⟩)
            | 1 => val 1 = .slice pw1 now.state.length kw1
            | 2 => val 2 = .slice (some ⟨b, f + d, none⟩) l.length kl
            | 3 => val 3 = .int .i64 ix
            | 4 => val 4 = .pointer (some ⟨b, f + d + ix * 31, none⟩)
            | 5 => val 5 = c.v
            | 6 => ∃ p k, val 6 = .tuple #[.slice p t.length k, uc.v, .int .i64 er]
            | 7 => val 7 = val 6 ∧ ∃ p k, val 6 = .tuple #[.slice p t.length k, uc.v, .int .i64 er]
            | 8 => val 7 = .tuple #[val 8, uc.v, .int .i64 er] ∧ ∃ p k, val 8 = .slice p t.length k
            | 9 => val 9 = uc.v
            | 10 => val 10 = .int .i64 er
            | 11 => ∃ b, val 11 = .pointer (some ⟨b, 0, none⟩)
            | 12 => val 12 = val 8 ∧ ∃ p k, val 8 = .slice p t.length k
            | 14 => val 14 = .int .i64 er
            | _ => True)
          (fun i val N => match i with
            | 6 => ∃ N1 N2, N = N1 ++ N2 ∧ allWr N1 ∧ marksOf N1 = [] ∧ allWr N2 ∧ marksOf N2 = [] ∧ freshN N1 N2 ∧ DoO 44 (t, uc, er) (val 6) N1 (N2 ++ Mq)
            | 7 => N = []
            | 8 => N = []
            | 11 => ∃ b, val 11 = .pointer (some ⟨b, 0, none⟩) ∧ N = [⟨b, 0, .cel 31, Ch.zero.cells⟩]
            | 12 => N = []
            | 13 => ∃ b, val 11 = .pointer (some ⟨b, 0, none⟩) ∧ N = [⟨b, 0, .cel 31, uc.cells⟩]
            | _ => N = []) (fun i => if i = 13 then [11] else []) [6, 13] (by kernel_rfl) (by kernel_rfl) (by kernel_rfl) ?_ (by rfl) (by decide) (by kernel_rfl) ?_ ?_ ?_ ?_ ?_
      · simp only [push_cast, Nat.reduceAdd, Nat.reduceSub, Nat.reduceMul, Nat.reduceLT, Nat.reduceLeDiff, Nat.reduceEqDiff, Nat.reduceMod, Nat.reduceDiv, Int.reduceAdd, Int.reduceSub, Int.reduceMul, Int.reduceLT, Int.reduceLE, Int.reduceEq, Int.reduceNeg, Int.reduceToNat, reduceIte, reduceCtorEq, Int.reduceBEq, Int.reduceBNe, subT]
      · intro i hi hiF
        replace hi : i < 15 := hi
        obtain rfl | rfl | rfl | rfl | rfl | rfl | rfl | rfl | rfl | rfl | rfl | rfl | rfl | rfl | rfl : i = 0 ∨ i = 1 ∨ i = 2 ∨ i = 3 ∨ i = 4 ∨ i = 5 ∨ i = 6 ∨ i = 7 ∨ i = 8 ∨ i = 9 ∨ i = 10 ∨ i = 11 ∨ i = 12 ∨ i = 13 ∨ i = 14 := by omega
        all_goals first
          | exact .inl fun _ _ h => h
          | exact absurd (by decide) hiF
          | exact .inr (by kernel_rfl)
      · intro i o ho val val' h1 h2 hV
        have hi := (Array.getElem?_eq_some_iff.1 ho).1
        replace hi : i < 15 := hi
        obtain rfl | rfl | rfl | rfl | rfl | rfl | rfl | rfl | rfl | rfl | rfl | rfl | rfl | rfl | rfl : i = 0 ∨ i = 1 ∨ i = 2 ∨ i = 3 ∨ i = 4 ∨ i = 5 ∨ i = 6 ∨ i = 7 ∨ i = 8 ∨ i = 9 ∨ i = 10 ∨ i = 11 ∨ i = 12 ∨ i = 13 ∨ i = 14 := by omega
        · first
            | exact trivial
            | exact hV
            | exact h1.trans hV
            | (rw [h1]; exact hV)
        · first
            | exact trivial
            | exact hV
            | exact h1.trans hV
            | (rw [h1]; exact hV)
        · first
            | exact trivial
            | exact hV
            | exact h1.trans hV
            | (rw [h1]; exact hV)
        · first
            | exact trivial
            | exact hV
            | exact h1.trans hV
            | (rw [h1]; exact hV)
        · first
            | exact trivial
            | exact hV
            | exact h1.trans hV
            | (rw [h1]; exact hV)
        · first
            | exact trivial
            | exact hV
            | exact h1.trans hV
            | (rw [h1]; exact hV)
        · first
            | exact trivial
            | exact hV
            | exact h1.trans hV
            | (rw [h1]; exact hV)
        · simp only [List.getElem?_toArray, List.getElem?_cons_zero, List.getElem?_cons_succ, Option.some.injEq] at ho; subst ho
          have e6 := h2 6 (by kernel_rfl)
          rw [h1, e6]
          exact hV
        · simp only [List.getElem?_toArray, List.getElem?_cons_zero, List.getElem?_cons_succ, Option.some.injEq] at ho; subst ho
          have e7 := h2 7 (by kernel_rfl)
          rw [h1, e7]
          exact hV
        · first
            | exact trivial
            | exact hV
            | exact h1.trans hV
            | (rw [h1]; exact hV)
        · first
            | exact trivial
            | exact hV
            | exact h1.trans hV
            | (rw [h1]; exact hV)
        · first
            | exact trivial
            | exact hV
            | exact h1.trans hV
            | (rw [h1]; exact hV)
        · simp only [List.getElem?_toArray, List.getElem?_cons_zero, List.getElem?_cons_succ, Option.some.injEq] at ho; subst ho
          have e8 := h2 8 (by kernel_rfl)
          rw [h1, e8]
          exact hV
        · first
            | exact trivial
            | exact hV
            | exact h1.trans hV
            | (rw [h1]; exact hV)
        · first
            | exact trivial
            | exact hV
            | exact h1.trans hV
            | (rw [h1]; exact hV)
      · intro i o ho val val' N h1 h2 hQ
        have hi := (Array.getElem?_eq_some_iff.1 ho).1
        replace hi : i < 15 := hi
        obtain rfl | rfl | rfl | rfl | rfl | rfl | rfl | rfl | rfl | rfl | rfl | rfl | rfl | rfl | rfl : i = 0 ∨ i = 1 ∨ i = 2 ∨ i = 3 ∨ i = 4 ∨ i = 5 ∨ i = 6 ∨ i = 7 ∨ i = 8 ∨ i = 9 ∨ i = 10 ∨ i = 11 ∨ i = 12 ∨ i = 13 ∨ i = 14 := by omega
        · first
            | exact trivial
            | exact hQ
            | exact h1.trans hQ
            | (rw [h1]; exact hQ)
        · first
            | exact trivial
            | exact hQ
            | exact h1.trans hQ
            | (rw [h1]; exact hQ)
        · first
            | exact trivial
            | exact hQ
            | exact h1.trans hQ
            | (rw [h1]; exact hQ)
        · first
            | exact trivial
            | exact hQ
            | exact h1.trans hQ
            | (rw [h1]; exact hQ)
        · first
            | exact trivial
            | exact hQ
            | exact h1.trans hQ
            | (rw [h1]; exact hQ)
        · first
            | exact trivial
            | exact hQ
            | exact h1.trans hQ
            | (rw [h1]; exact hQ)
        · first
            | exact trivial
            | exact hQ
            | exact h1.trans hQ
            | (rw [h1]; exact hQ)
        · first
            | exact trivial
            | exact hQ
            | exact h1.trans hQ
            | (rw [h1]; exact hQ)
        · first
            | exact trivial
            | exact hQ
            | exact h1.trans hQ
            | (rw [h1]; exact hQ)
        · first
            | exact trivial
            | exact hQ
            | exact h1.trans hQ
            | (rw [h1]; exact hQ)
        · first
            | exact trivial
            | exact hQ
            | exact h1.trans hQ
            | (rw [h1]; exact hQ)
        · first
            | exact trivial
            | exact hQ
            | exact h1.trans hQ
            | (rw [h1]; exact hQ)
        · first
            | exact trivial
            | exact hQ
            | exact h1.trans hQ
            | (rw [h1]; exact hQ)
        · simp only [List.getElem?_toArray, List.getElem?_cons_zero, List.getElem?_cons_succ, Option.some.injEq] at ho; subst ho
          have e11 := h2 11 (by kernel_rfl)
          rw [e11]
          exact hQ
        · first
            | exact trivial
            | exact hQ
            | exact h1.trans hQ
            | (rw [h1]; exact hQ)
      · intro i o ho T' Y val mem hT hdep hus hfr hY hmY hapY
        have hi := (Array.getElem?_eq_some_iff.1 ho).1
        replace hi : i < 15 := hi
        have y6 := hY _ _ fE6
        have hMqY : ∀ b e, findE Mq b = some e → findE Y b = some e := fun b e h => hY b e (find_behind (L := _ :: _ :: _ :: Nq) ⟨p6, p4, p2, hfq⟩ b e h)
        have yb := hMqY _ _ (hgq.find (hgb.find hfe))
        have t1 : getT T' 1 = some (.slice (some ⟨b, f + d, none⟩) l.length kl) := hT.2.1
        have t6 : getT T' 6 = some (.pointer (some ⟨b6, 0, none⟩)) := hT.2.2.2.2.2.1
        have t7 : getT T' 7 = some (.int .i64 ix) := hT.2.2.2.2.2.2.1
        obtain rfl | rfl | rfl | rfl | rfl | rfl | rfl | rfl | rfl | rfl | rfl | rfl | rfl | rfl | rfl : i = 0 ∨ i = 1 ∨ i = 2 ∨ i = 3 ∨ i = 4 ∨ i = 5 ∨ i = 6 ∨ i = 7 ∨ i = 8 ∨ i = 9 ∨ i = 10 ∨ i = 11 ∨ i = 12 ∨ i = 13 ∨ i = 14 := by omega
        · simp only [List.getElem?_toArray, List.getElem?_cons_zero, List.getElem?_cons_succ, Option.some.injEq] at ho; subst ho
          simp only [push_cast, Nat.reduceAdd, Nat.reduceSub, Nat.reduceMul, Nat.reduceLT, Nat.reduceLeDiff, Nat.reduceEqDiff, Nat.reduceMod, Nat.reduceDiv, Int.reduceAdd, Int.reduceSub, Int.reduceMul, Int.reduceLT, Int.reduceLE, Int.reduceEq, Int.reduceNeg, Int.reduceToNat, reduceIte, reduceCtorEq, Int.reduceBEq, Int.reduceBNe, List.flatMap_nil, List.flatMap_cons, List.append_nil, List.nil_append, t6]
          exact ⟨[], rfl, trivial, rfl, upd_self _ _ _, rfl⟩
        · simp only [List.getElem?_toArray, List.getElem?_cons_zero, List.getElem?_cons_succ, Option.some.injEq] at ho; subst ho
          obtain ⟨v0, g0⟩ := hdep 0 (by kernel_rfl)
          replace g0 := g0 31 rfl
          rw [show val 0 = _ from v0] at g0
          simp only [push_cast, Nat.reduceAdd, Nat.reduceSub, Nat.reduceMul, Nat.reduceLT, Nat.reduceLeDiff, Nat.reduceEqDiff, Nat.reduceMod, Nat.reduceDiv, Int.reduceAdd, Int.reduceSub, Int.reduceMul, Int.reduceLT, Int.reduceLE, Int.reduceEq, Int.reduceNeg, Int.reduceToNat, reduceIte, reduceCtorEq, Int.reduceBEq, Int.reduceBNe, List.flatMap_nil, List.flatMap_cons, List.append_nil, List.nil_append, g0, y6]
          exact ⟨[], rfl, trivial, rfl, upd_self _ _ _, rfl⟩
        · simp only [List.getElem?_toArray, List.getElem?_cons_zero, List.getElem?_cons_succ, Option.some.injEq] at ho; subst ho
          simp only [push_cast, Nat.reduceAdd, Nat.reduceSub, Nat.reduceMul, Nat.reduceLT, Nat.reduceLeDiff, Nat.reduceEqDiff, Nat.reduceMod, Nat.reduceDiv, Int.reduceAdd, Int.reduceSub, Int.reduceMul, Int.reduceLT, Int.reduceLE, Int.reduceEq, Int.reduceNeg, Int.reduceToNat, reduceIte, reduceCtorEq, Int.reduceBEq, Int.reduceBNe, List.flatMap_nil, List.flatMap_cons, List.append_nil, List.nil_append, t1]
          exact ⟨[], rfl, trivial, rfl, upd_self _ _ _, rfl⟩
        · simp only [List.getElem?_toArray, List.getElem?_cons_zero, List.getElem?_cons_succ, Option.some.injEq] at ho; subst ho
          simp only [push_cast, Nat.reduceAdd, Nat.reduceSub, Nat.reduceMul, Nat.reduceLT, Nat.reduceLeDiff, Nat.reduceEqDiff, Nat.reduceMod, Nat.reduceDiv, Int.reduceAdd, Int.reduceSub, Int.reduceMul, Int.reduceLT, Int.reduceLE, Int.reduceEq, Int.reduceNeg, Int.reduceToNat, reduceIte, reduceCtorEq, Int.reduceBEq, Int.reduceBNe, List.flatMap_nil, List.flatMap_cons, List.append_nil, List.nil_append, t7]
          exact ⟨[], rfl, trivial, rfl, upd_self _ _ _, rfl⟩
        · simp only [List.getElem?_toArray, List.getElem?_cons_zero, List.getElem?_cons_succ, Option.some.injEq] at ho; subst ho
          obtain ⟨v2, g2⟩ := hdep 2 (by kernel_rfl)
          replace g2 := g2 33 rfl
          rw [show val 2 = _ from v2] at g2
          obtain ⟨v3, g3⟩ := hdep 3 (by kernel_rfl)
          replace g3 := g3 34 rfl
          rw [show val 3 = _ from v3] at g3
          simp only [push_cast, Nat.reduceAdd, Nat.reduceSub, Nat.reduceMul, Nat.reduceLT, Nat.reduceLeDiff, Nat.reduceEqDiff, Nat.reduceMod, Nat.reduceDiv, Int.reduceAdd, Int.reduceSub, Int.reduceMul, Int.reduceLT, Int.reduceLE, Int.reduceEq, Int.reduceNeg, Int.reduceToNat, reduceIte, reduceCtorEq, Int.reduceBEq, Int.reduceBNe, List.flatMap_nil, List.flatMap_cons, List.append_nil, List.nil_append, g2, g3, i1, hlt]
          exact ⟨[], rfl, trivial, rfl, upd_self _ _ _, rfl⟩
        · simp only [List.getElem?_toArray, List.getElem?_cons_zero, List.getElem?_cons_succ, Option.some.injEq] at ho; subst ho
          obtain ⟨v4, g4⟩ := hdep 4 (by kernel_rfl)
          replace g4 := g4 35 rfl
          rw [show val 4 = _ from v4] at g4
          simp only [push_cast, Nat.reduceAdd, Nat.reduceSub, Nat.reduceMul, Nat.reduceLT, Nat.reduceLeDiff, Nat.reduceEqDiff, Nat.reduceMod, Nat.reduceDiv, Int.reduceAdd, Int.reduceSub, Int.reduceMul, Int.reduceLT, Int.reduceLE, Int.reduceEq, Int.reduceNeg, Int.reduceToNat, reduceIte, reduceCtorEq, Int.reduceBEq, Int.reduceBNe, List.flatMap_nil, List.flatMap_cons, List.append_nil, List.nil_append, g4, yb, a1, a2]
          exact ⟨[], rfl, trivial, rfl, upd_self _ _ _, rfl⟩
        · simp only [List.getElem?_toArray, List.getElem?_cons_zero, List.getElem?_cons_succ, Option.some.injEq] at ho; subst ho
          obtain ⟨v1, g1⟩ := hdep 1 (by kernel_rfl)
          replace g1 := g1 32 rfl
          rw [show val 1 = _ from v1] at g1
          obtain ⟨v5, g5⟩ := hdep 5 (by kernel_rfl)
          replace g5 := g5 36 rfl
          rw [show val 5 = _ from v5] at g5
          simp only [push_cast, Nat.reduceAdd, Nat.reduceSub, Nat.reduceMul, Nat.reduceLT, Nat.reduceLeDiff, Nat.reduceEqDiff, Nat.reduceMod, Nat.reduceDiv, Int.reduceAdd, Int.reduceSub, Int.reduceMul, Int.reduceLT, Int.reduceLE, Int.reduceEq, Int.reduceNeg, Int.reduceToNat, reduceIte, reduceCtorEq, Int.reduceBEq, Int.reduceBNe, List.flatMap_nil, List.flatMap_cons, List.append_nil, List.nil_append, g1, g5]
          refine callSW (M := Mq) (hdo ▸ refDo_ok hw (by omega) hrs) (DoO.rd _ _) hMqY fun w N1 N2 w1 m1 w2 m2 f12 f1 f2 hq => ⟨N1 ++ N2, rfl, allWr_app w1 w2, by rw [marks_append, m1, m2]; rfl, ?_, ?_⟩
          · obtain ⟨w1, rfl, L, l1, l2, -⟩ := hq
            obtain ⟨p, k, rfl⟩ := l2.slice
            dsimp only at l1
            exact ⟨p, k, by rw [upd_self, ← l1, List.length_map]⟩
          · rw [upd_self]; exact ⟨N1, N2, rfl, w1, m1, w2, m2, f12, hq⟩
        · simp only [List.getElem?_toArray, List.getElem?_cons_zero, List.getElem?_cons_succ, Option.some.injEq] at ho; subst ho
          obtain ⟨v6, g6⟩ := hdep 6 (by kernel_rfl)
          replace g6 := g6 37 rfl
          simp only [push_cast, Nat.reduceAdd, Nat.reduceSub, Nat.reduceMul, Nat.reduceLT, Nat.reduceLeDiff, Nat.reduceEqDiff, Nat.reduceMod, Nat.reduceDiv, Int.reduceAdd, Int.reduceSub, Int.reduceMul, Int.reduceLT, Int.reduceLE, Int.reduceEq, Int.reduceNeg, Int.reduceToNat, reduceIte, reduceCtorEq, Int.reduceBEq, Int.reduceBNe, List.flatMap_nil, List.flatMap_cons, List.append_nil, List.nil_append, g6]
          obtain ⟨p, k, v6⟩ := v6
          have v6 : val 6 = _ := v6
          exact ⟨[], rfl, trivial, rfl, ⟨by simp [upd], p, k, by simp [upd, v6]⟩, rfl⟩
        · simp only [List.getElem?_toArray, List.getElem?_cons_zero, List.getElem?_cons_succ, Option.some.injEq] at ho; subst ho
          obtain ⟨v7, g7⟩ := hdep 7 (by kernel_rfl)
          replace g7 := g7 30 rfl
          obtain ⟨v7, p, k, v6⟩ := v7
          have v7 : val 7 = _ := v7
          rw [v7, v6] at g7
          simp only [push_cast, Nat.reduceAdd, Nat.reduceSub, Nat.reduceMul, Nat.reduceLT, Nat.reduceLeDiff, Nat.reduceEqDiff, Nat.reduceMod, Nat.reduceDiv, Int.reduceAdd, Int.reduceSub, Int.reduceMul, Int.reduceLT, Int.reduceLE, Int.reduceEq, Int.reduceNeg, Int.reduceToNat, reduceIte, reduceCtorEq, Int.reduceBEq, Int.reduceBNe, List.flatMap_nil, List.flatMap_cons, List.append_nil, List.nil_append, g7]
          exact ⟨[], rfl, trivial, rfl, ⟨by simp [upd, v7, v6], p, k, by simp [upd]⟩, rfl⟩
        · simp only [List.getElem?_toArray, List.getElem?_cons_zero, List.getElem?_cons_succ, Option.some.injEq] at ho; subst ho
          obtain ⟨v7, g7⟩ := hdep 7 (by kernel_rfl)
          replace g7 := g7 30 rfl
          obtain ⟨v7, p, k, v6⟩ := v7
          have v7 : val 7 = _ := v7
          rw [v7, v6] at g7
          simp only [push_cast, Nat.reduceAdd, Nat.reduceSub, Nat.reduceMul, Nat.reduceLT, Nat.reduceLeDiff, Nat.reduceEqDiff, Nat.reduceMod, Nat.reduceDiv, Int.reduceAdd, Int.reduceSub, Int.reduceMul, Int.reduceLT, Int.reduceLE, Int.reduceEq, Int.reduceNeg, Int.reduceToNat, reduceIte, reduceCtorEq, Int.reduceBEq, Int.reduceBNe, List.flatMap_nil, List.flatMap_cons, List.append_nil, List.nil_append, g7]
          exact ⟨[], rfl, trivial, rfl, upd_self _ _ _, rfl⟩
        · simp only [List.getElem?_toArray, List.getElem?_cons_zero, List.getElem?_cons_succ, Option.some.injEq] at ho; subst ho
          obtain ⟨v7, g7⟩ := hdep 7 (by kernel_rfl)
          replace g7 := g7 30 rfl
          obtain ⟨v7, p, k, v6⟩ := v7
          have v7 : val 7 = _ := v7
          rw [v7, v6] at g7
          simp only [push_cast, Nat.reduceAdd, Nat.reduceSub, Nat.reduceMul, Nat.reduceLT, Nat.reduceLeDiff, Nat.reduceEqDiff, Nat.reduceMod, Nat.reduceDiv, Int.reduceAdd, Int.reduceSub, Int.reduceMul, Int.reduceLT, Int.reduceLE, Int.reduceEq, Int.reduceNeg, Int.reduceToNat, reduceIte, reduceCtorEq, Int.reduceBEq, Int.reduceBNe, List.flatMap_nil, List.flatMap_cons, List.append_nil, List.nil_append, g7]
          exact ⟨[], rfl, trivial, rfl, upd_self _ _ _, rfl⟩
        · simp only [List.getElem?_toArray, List.getElem?_cons_zero, List.getElem?_cons_succ, Option.some.injEq] at ho; subst ho
          simp only [push_cast, Nat.reduceAdd, Nat.reduceSub, Nat.reduceMul, Nat.reduceLT, Nat.reduceLeDiff, Nat.reduceEqDiff, Nat.reduceMod, Nat.reduceDiv, Int.reduceAdd, Int.reduceSub, Int.reduceMul, Int.reduceLT, Int.reduceLE, Int.reduceEq, Int.reduceNeg, Int.reduceToNat, reduceIte, reduceCtorEq, Int.reduceBEq, Int.reduceBNe, List.flatMap_nil, List.flatMap_cons, List.append_nil, List.nil_append]
          intro b hf
          exact ⟨[_], rfl, ⟨trivial, trivial⟩, rfl, ⟨b, upd_self _ _ _⟩, b, upd_self _ _ _, rfl⟩
        · simp only [List.getElem?_toArray, List.getElem?_cons_zero, List.getElem?_cons_succ, Option.some.injEq] at ho; subst ho
          obtain ⟨v8, g8⟩ := hdep 8 (by kernel_rfl)
          replace g8 := g8 38 rfl
          obtain ⟨-, p, k, v8⟩ := v8
          have v8 : val 8 = _ := v8
          rw [v8] at g8
          simp only [push_cast, Nat.reduceAdd, Nat.reduceSub, Nat.reduceMul, Nat.reduceLT, Nat.reduceLeDiff, Nat.reduceEqDiff, Nat.reduceMod, Nat.reduceDiv, Int.reduceAdd, Int.reduceSub, Int.reduceMul, Int.reduceLT, Int.reduceLE, Int.reduceEq, Int.reduceNeg, Int.reduceToNat, reduceIte, reduceCtorEq, Int.reduceBEq, Int.reduceBNe, List.flatMap_nil, List.flatMap_cons, List.append_nil, List.nil_append, g8]
          exact ⟨[], rfl, trivial, rfl, ⟨by simp [upd, v8], p, k, by simp [upd, v8]⟩, rfl⟩
        · simp only [List.getElem?_toArray, List.getElem?_cons_zero, List.getElem?_cons_succ, Option.some.injEq] at ho; subst ho
          obtain ⟨v9, g9⟩ := hdep 9 (by kernel_rfl)
          replace g9 := g9 39 rfl
          rw [show val 9 = _ from v9] at g9
          obtain ⟨v11, g11⟩ := hdep 11 (by kernel_rfl)
          replace g11 := g11 9 rfl
          obtain ⟨b11, v11, hN⟩ := hus 11 (List.mem_singleton.2 rfl)
          have v11 : val 11 = _ := v11
          rw [v11] at g11
          simp only [push_cast, Nat.reduceAdd, Nat.reduceSub, Nat.reduceMul, Nat.reduceLT, Nat.reduceLeDiff, Nat.reduceEqDiff, Nat.reduceMod, Nat.reduceDiv, Int.reduceAdd, Int.reduceSub, Int.reduceMul, Int.reduceLT, Int.reduceLE, Int.reduceEq, Int.reduceNeg, Int.reduceToNat, reduceIte, reduceCtorEq, Int.reduceBEq, Int.reduceBNe, List.flatMap_nil, List.flatMap_cons, List.append_nil, List.nil_append, g9, g11, hN, List.cons_append, Ch.zeroL]
          exact ⟨[_], rfl, ⟨trivial, trivial⟩, rfl, b11, by simp [upd, v11], rfl⟩
        · simp only [List.getElem?_toArray, List.getElem?_cons_zero, List.getElem?_cons_succ, Option.some.injEq] at ho; subst ho
          obtain ⟨v10, g10⟩ := hdep 10 (by kernel_rfl)
          replace g10 := g10 40 rfl
          rw [show val 10 = _ from v10] at g10
          simp only [push_cast, Nat.reduceAdd, Nat.reduceSub, Nat.reduceMul, Nat.reduceLT, Nat.reduceLeDiff, Nat.reduceEqDiff, Nat.reduceMod, Nat.reduceDiv, Int.reduceAdd, Int.reduceSub, Int.reduceMul, Int.reduceLT, Int.reduceLE, Int.reduceEq, Int.reduceNeg, Int.reduceToNat, reduceIte, reduceCtorEq, Int.reduceBEq, Int.reduceBNe, List.flatMap_nil, List.flatMap_cons, List.append_nil, List.nil_append, g10]
          exact ⟨[], rfl, trivial, rfl, upd_self _ _ _, rfl⟩
      · intro val mem hV hQ hap hwr
        obtain ⟨N1, N2, h6m, w1, m1, w2, m2, f12, wq, hw6, hq6⟩ := hQ 6 (by decide)
        obtain ⟨b9, v11, hN13⟩ := hQ 13 (by decide)
        obtain ⟨v76, -⟩ := hV 7 (by decide)
        obtain ⟨v78, p8, k8, v8⟩ := hV 8 (by decide)
        obtain ⟨v128, -⟩ := hV 12 (by decide)
        have v14 : val 14 = .int .i64 er := hV 14 (by decide)
        have v11 : val 11 = _ := v11
        have v8 : val 8 = _ := v8
        have v76 : val 7 = val 6 := v76
        have v78 : val 7 = .tuple #[val 8, uc.v, .int .i64 er] := v78
        have v12 : val 12 = .slice p8 t.length k8 := (show val 12 = val 8 from v128).trans v8
        have hw6 : val 6 = .tuple #[wq, uc.v, .int .i64 er] := hw6
        have hwq : wq = .slice p8 t.length k8 := by
          rw [v76, hw6, v8] at v78
          injection v78 with h
          have h1 := congrArg Array.toList h
          simp only [List.cons.injEq] at h1
          exact h1.1
        rw [hwq] at hq6
        have hMM : List.flatMap mem [6, 13] ++ (⟨b6, 0, .cel 37, [.slice pw1 now.state.length kw1, .slice pn1 now.undo.length kn1, .slice pk j.marks.length kk]⟩ :: ⟨b4, 0, .cel 37, [.slice none 0 0, .slice none 0 0, .slice none 0 0]⟩ :: ⟨b2, 0, .cel 37, [.slice ps j.state.length ks, .slice pu j.undo.length ku, .slice pm j.marks.length km]⟩ :: (Nq ++ Mq)) = N1 ++ (N2 ++ (⟨b9, 0, .cel 31, uc.cells⟩ :: ⟨b6, 0, .cel 37, [.slice pw1 now.state.length kw1, .slice pn1 now.undo.length kn1, .slice pk j.marks.length kk]⟩ :: ⟨b4, 0, .cel 37, [.slice none 0 0, .slice none 0 0, .slice none 0 0]⟩ :: ⟨b2, 0, .cel 37, [.slice ps j.state.length ks, .slice pu j.undo.length ku, .slice pm j.marks.length km]⟩ :: (Nq ++ Mq))) := by
          simp only [List.flatMap_cons, List.flatMap_nil, List.append_nil, h6m, hN13, List.append_assoc, List.cons_append, List.nil_append]
        rw [hMM] at hap ⊢
        have a1 := freshN_apart hap w1
        have hap2 := (List.pairwise_append.1 hap).2.1
        have a2 := freshN_apart hap2 w2
        have hap3 := (List.pairwise_append.1 hap2).2.1
        have a9 := freshN_apart (A := [⟨b9, 0, .cel 31, uc.cells⟩]) hap3 ⟨trivial, trivial⟩
        have hb9 := a9.1
        simp only [push_cast, Nat.reduceAdd, Nat.reduceSub, Nat.reduceMul, Nat.reduceLT, Nat.reduceLeDiff, Nat.reduceEqDiff, Nat.reduceMod, Nat.reduceDiv, Int.reduceAdd, Int.reduceSub, Int.reduceMul, Int.reduceLT, Int.reduceLE, Int.reduceEq, Int.reduceNeg, Int.reduceToNat, reduceIte, reduceCtorEq, Int.reduceBEq, Int.reduceBNe] at hb9
        have q2 := freshN_sym a2
        have q1 := freshN_sym (freshN_mono a1).2
        simp only [push_cast, Nat.reduceAdd, Nat.reduceSub, Nat.reduceMul, Nat.reduceLT, Nat.reduceLeDiff, Nat.reduceEqDiff, Nat.reduceMod, Nat.reduceDiv, Int.reduceAdd, Int.reduceSub, Int.reduceMul, Int.reduceLT, Int.reduceLE, Int.reduceEq, Int.reduceNeg, Int.reduceToNat, reduceIte, reduceCtorEq, Int.reduceBEq, Int.reduceBNe, v11, v12, v14]
        refine WpV.perm (H' := ⟨b9, 0, .cel 31, uc.cells⟩ :: ⟨b6, 0, .cel 37, [.slice pw1 now.state.length kw1, .slice pn1 now.undo.length kn1, .slice pk j.marks.length kk]⟩ :: ⟨b4, 0, .cel 37, [.slice none 0 0, .slice none 0 0, .slice none 0 0]⟩ :: ⟨b2, 0, .cel 37, [.slice ps j.state.length ks, .slice pu j.undo.length ku, .slice pm j.marks.length km]⟩ :: (Nq ++ (Mq ++ (N2 ++ N1)))) ?_ ?_ ?_
        · refine List.perm_append_comm.trans ?_
          refine (List.Perm.append_right N1 (List.perm_append_comm (l₁ := N2))).trans ?_
          simp only [List.append_assoc, List.cons_append]
          exact List.Perm.refl _
        · simp [marksOf, marks_append, m1, m2]
        refine WpV.slots [(0, .agg #[.slice ps j.state.length ks, .slice pu j.undo.length ku, .slice pm j.marks.length km]), (1, .slice (some ⟨b, f + d, none⟩) l.length kl), (2, .pointer (some ⟨b2, 0, none⟩)), (4, .pointer (some ⟨b4, 0, none⟩)), (5, .int .i64 0), (6, .pointer (some ⟨b6, 0, none⟩)), (7, .int .i64 ix), (9, .pointer (some ⟨b9, 0, none⟩)), (8, .slice p8 t.length k8), (10, .int .i64 er)] (by simp only [push_cast, Nat.reduceAdd, Nat.reduceSub, Nat.reduceMul, Nat.reduceLT, Nat.reduceLeDiff, Nat.reduceEqDiff, Nat.reduceMod, Nat.reduceDiv, Int.reduceAdd, Int.reduceSub, Int.reduceMul, Int.reduceLT, Int.reduceLE, Int.reduceEq, Int.reduceNeg, Int.reduceToNat, reduceIte, reduceCtorEq, Int.reduceBEq, Int.reduceBNe]) ?_
        obtain ⟨M3, hM3⟩ : ∃ M3, M3 = Mq ++ (N2 ++ N1) := ⟨_, rfl⟩
        have hg3 : Gr Mq M3 := ⟨hgq.marks, N2 ++ N1, hM3, allWr_app w2 w1, by rw [marks_append, m1, m2]; rfl⟩
        have e2q := freshN_mono (freshN_cons (freshN_cons (freshN_cons (freshN_cons a2))))
        have e1q := freshN_mono (freshN_cons (freshN_cons (freshN_cons (freshN_cons (freshN_mono a1).2))))
        have hsw : StR t (.slice p8 t.length k8) M3 := by
          have h0 : StR t (.slice p8 t.length k8) (N1 ++ (N2 ++ Mq)) := hq6.r (freshN_comb f12 e1q.2)
          rw [← List.append_assoc] at h0
          have h1 := StR.rd _ _ _ _ (cellsAt_swap (freshN_appL.2 ⟨e1q.2, e2q.2⟩)) h0
          rw [hM3]
          refine StR.rd _ _ _ _ ?_ h1
          exact cellsAt_front Mq (cellsAt_swap f12)
        have hfq3 : freshN Nq M3 := by rw [hM3]; exact freshN_comb hfq (freshN_comb (freshN_sym e2q.1) (freshN_sym e1q.1))
        have sw3 : ∀ {b}, fresh b Mq → fresh b N2 → fresh b N1 → fresh b M3 := fun h h2 h1 => by rw [hM3]; exact fresh_appS h (fresh_appS h2 h1)
        have y9 : fresh b9 M3 := sw3 (fresh_app_iff.1 hb9.2.2.2.2.2.2).2 q2.1 q1.1
        have y6 : fresh b6 M3 := sw3 p6 q2.2.1 q1.2.1
        have y4 : fresh b4 M3 := sw3 p4 q2.2.2.1 q1.2.2.1
        have y2 : fresh b2 M3 := sw3 p2 q2.2.2.2.1 q1.2.2.2.1
        have z9 : fresh b9 Nq := (fresh_app_iff.1 hb9.2.2.2.2.2.2).1
        have z6 : fresh b6 Nq := (fresh_app_iff.1 q6).1
        have z4 : fresh b4 Nq := (fresh_app_iff.1 q4).1
        have z2 : fresh b2 Nq := (fresh_app_iff.1 q2').1
        rw [← hM3]
        refine regO gJ1_ok ?_
        have hd1 : (doS now.state c).1 = t := by rw [hdo]
        have hd2 : (doS now.state c).2.1 = uc := by rw [hdo]
        have hd3 : (doS now.state c).2.2 = er := by rw [hdo]
        by_cases hd : er = 0
        case neg =>
          rw [hd3, if_neg hd] at hrun
          have hbn : (er != 0) = true := bne_iff_ne.2 hd
          simp only [push_cast, Nat.reduceAdd, Nat.reduceSub, Nat.reduceMul, Nat.reduceLT, Nat.reduceLeDiff, Nat.reduceEqDiff, Nat.reduceMod, Nat.reduceDiv, Int.reduceAdd, Int.reduceSub, Int.reduceMul, Int.reduceLT, Int.reduceLE, Int.reduceEq, Int.reduceNeg, Int.reduceToNat, reduceIte, reduceCtorEq, Int.reduceBEq, Int.reduceBNe, hb4, hb6, hb9, hbn]
          refine useL (_ :: _ :: _ :: _ :: Nq) (refJown_R (hvq.ext hg3.ext) hn hu hma hsl') (JoR.rd _) hg3.marks ⟨y9, y6, y4, y2, hfq3⟩ fun w' M4 hg4 hL4 hq4 => ?_
          obtain ⟨vs2, vu2, vm2, rfl, t1, t2, t3⟩ := hq4
          obtain ⟨x1, k1, rfl⟩ := t1.slice
          obtain ⟨x2, k2, rfl⟩ := t2.slice
          obtain ⟨x3, k3, rfl⟩ := t3.slice
          simp only [push_cast, Nat.reduceAdd, Nat.reduceSub, Nat.reduceMul, Nat.reduceLT, Nat.reduceLeDiff, Nat.reduceEqDiff, Nat.reduceMod, Nat.reduceDiv, Int.reduceAdd, Int.reduceSub, Int.reduceMul, Int.reduceLT, Int.reduceLE, Int.reduceEq, Int.reduceNeg, Int.reduceToNat, reduceIte, reduceCtorEq, Int.reduceBEq, Int.reduceBNe, hb4, hb6, hb9]
          exact doneX [_, _, _, _] Nq (((hgb.trans hgq).trans hg3).trans hg4) ho.wr.2 (JeR.own R) ⟨_, by rw [hrun], by rw [hrun]; exact ⟨_, _, _, rfl, t1, t2, t3⟩⟩
        subst hd
        rw [hd3, if_pos rfl, hd1, hd2] at hrun
        have hri2 := (doS_iff.1 hd3).right
        rw [hd1] at hri2
        simp only [push_cast, Nat.reduceAdd, Nat.reduceSub, Nat.reduceMul, Nat.reduceLT, Nat.reduceLeDiff, Nat.reduceEqDiff, Nat.reduceMod, Nat.reduceDiv, Int.reduceAdd, Int.reduceSub, Int.reduceMul, Int.reduceLT, Int.reduceLE, Int.reduceEq, Int.reduceNeg, Int.reduceToNat, reduceIte, reduceCtorEq, Int.reduceBEq, Int.reduceBNe, hb4, hb6, hb9]
        intro bs hbs
        have zs := fresh_app_iff.1 hbs.2.2.2.2.2.2.2.2
        refine push_gA (P := Tryz.prog) [_, _, _, _] (by_ := 120) (q := 31) (ag := true) ho ⟨zs.1, z9, z6, z4, z2, trivial⟩ (by simp only [push_cast, Nat.reduceAdd, Nat.reduceSub, Nat.reduceMul, Nat.reduceLT, Nat.reduceLeDiff, Nat.reduceEqDiff, Nat.reduceMod, Nat.reduceDiv, Int.reduceAdd, Int.reduceSub, Int.reduceMul, Int.reduceLT, Int.reduceLE, Int.reduceEq, Int.reduceNeg, Int.reduceToNat, reduceIte, reduceCtorEq, Int.reduceBEq, Int.reduceBNe]) (by simp only [push_cast, Nat.reduceAdd, Nat.reduceSub, Nat.reduceMul, Nat.reduceLT, Nat.reduceLeDiff, Nat.reduceEqDiff, Nat.reduceMod, Nat.reduceDiv, Int.reduceAdd, Int.reduceSub, Int.reduceMul, Int.reduceLT, Int.reduceLE, Int.reduceEq, Int.reduceNeg, Int.reduceToNat, reduceIte, reduceCtorEq, Int.reduceBEq, Int.reduceBNe]) uc.len (by have := chAll [uc]; simpa using this) (by unfold two47; omega) fun v3 N3 ho4 hf4 => ?_
        obtain ⟨p3, k3, hv3⟩ := ho4.slice
        subst hv3
        rcases ho4 with ⟨r1, -⟩ | ⟨bu, cu, r3, r4, r5, hN3⟩
        · rw [List.length_append] at r1; simp at r1
        obtain ⟨hq3, -⟩ := (show freshN [⟨bu, 0, .vec 31 31 cu, (now.undo ++ [uc]).flatMap Ch.cells⟩] _ from hN3 ▸ hf4)
        rw [hN3]
        have hbu := hq3
        simp only [push_cast, Nat.reduceAdd, Nat.reduceSub, Nat.reduceMul, Nat.reduceLT, Nat.reduceLeDiff, Nat.reduceEqDiff, Nat.reduceMod, Nat.reduceDiv, Int.reduceAdd, Int.reduceSub, Int.reduceMul, Int.reduceLT, Int.reduceLE, Int.reduceEq, Int.reduceNeg, Int.reduceToNat, reduceIte, reduceCtorEq, Int.reduceBEq, Int.reduceBNe] at hbu
        simp only [push_cast, Nat.reduceAdd, Nat.reduceSub, Nat.reduceMul, Nat.reduceLT, Nat.reduceLeDiff, Nat.reduceEqDiff, Nat.reduceMod, Nat.reduceDiv, Int.reduceAdd, Int.reduceSub, Int.reduceMul, Int.reduceLT, Int.reduceLE, Int.reduceEq, Int.reduceNeg, Int.reduceToNat, reduceIte, reduceCtorEq, Int.reduceBEq, Int.reduceBNe, hb4, hb6, hb9, hbs, hbu, wrap_i64' (show -9223372036854775808 ≤ (ix : Int) + 1 ∧ (ix : Int) + 1 ≤ 9223372036854775807 by omega)]
        obtain ⟨-, -, -, -, u6, u6', u4, u4', u2, u2', uM⟩ := hbu
        have ys : fresh bs M3 := zs.2
        have hl2 : (now.undo ++ [uc]).length = now.undo.length + 1 := by simp
        refine ⟨⟨(((ix + 1, ⟨t, now.undo ++ [uc], now.marks⟩), (.slice p8 t.length k8, .slice p3 (now.undo.length + 1) k3)), ([⟨bu, 0, .vec 31 31 cu, (now.undo ++ [uc]).flatMap Ch.cells⟩], M3)), hgq.trans hg3, ⟨uM, trivial⟩, ⟨u6', u6, y6⟩, ⟨u4', u4, y4⟩, ⟨u2', u2, y2⟩⟩, ⟨hlt, hrun, hnm, hri2, by dsimp only; omega, hsw, .inr ⟨bu, cu, ?_, r4, r5, rfl⟩⟩, by dsimp only; omega, rfl, ⟨rfl, by simp [findE], ?_⟩, ?_⟩
        · dsimp only
          rw [← r3, hl2]
        · simp only [remE, if_true]
          show subH (_ :: _ :: M3) M3
          rw [subH_skip ys, subH_skip y9]
          exact subH_self M3
        · simp [marksOf, marks_append]
    · obtain rfl : ix = l.length := by omega
      rw [List.drop_length, runJ] at hrun
      simp only [push_cast, Nat.reduceAdd, Nat.reduceSub, Nat.reduceMul, Nat.reduceLT, Nat.reduceLeDiff, Nat.reduceEqDiff, Nat.reduceMod, Nat.reduceDiv, Int.reduceAdd, Int.reduceSub, Int.reduceMul, Int.reduceLT, Int.reduceLE, Int.reduceEq, Int.reduceNeg, Int.reduceToNat, reduceIte, reduceCtorEq, Int.reduceBEq, Int.reduceBNe, Nat.lt_irrefl, Int.lt_irrefl, hb4, hb6]
      exact doneN [_, _, _] (hgb.trans hgq) ho.wr.1 ho.wr.2 hfq (JeR.own R) ⟨.agg #[.slice pw1 now.state.length kw1, .slice pn1 now.undo.length kn1, .slice pk j.marks.length kk], by rw [hrun], by rw [hrun]; exact ⟨_, _, _, rfl, hw.app hfq, ho.liR rfl rfl _, by dsimp only; rw [hnm]; exact hmq.app hfq⟩⟩
end Go.Proofs.YtkhpncfgimlleaaGreat
set_option linter.unusedSimpArgs false
set_option linter.unusedVariables false
namespace Go.Ev
def addrL (k : Nat) : List UInt8 := (if 5 < k then 1 else 0) :: (List.replicate 18 0 ++ [UInt8.ofNat k])
theorem addrL_len (k : Nat) : (addrL k).length = 20 := by simp [addrL]
noncomputable def addrA : Int → Ad := hid fun n => ⟨addrL (pickN n 9), addrL_len _⟩
theorem addrA_eq (n : Int) : addrA n = ⟨addrL (pickN n 9), addrL_len _⟩ := by unfold addrA; rw [hid_eq]
noncomputable def addrG : List Value → Option Value
  | [.int .i64 n] => if i64In n then some (addrA n).v else none
  | _ => none
attribute [push_cast] addrG
theorem addr_cells (k : Nat) (h : k < 9) : byteV (addrL k) = .int .u8 (if 5 < k then 1 else 0) :: (List.replicate 18 (.int .u8 0) ++ [.int .u8 k]) := by
  have : k = 0 ∨ k = 1 ∨ k = 2 ∨ k = 3 ∨ k = 4 ∨ k = 5 ∨ k = 6 ∨ k = 7 ∨ k = 8 := by omega
  rcases this with rfl | rfl | rfl | rfl | rfl | rfl | rfl | rfl | rfl <;> rfl
end Go.Ev
namespace Go.Proofs.YtkhpncfgimlleaaGreat
open Go Go.Ev Go.Proofs
set_option maxRecDepth 100000
set_option maxHeartbeats 4000000
theorem pick08_ok (c n : Int) (hc : i64In c) (hn : 0 < n) (hn2 : i64In n) : CallsV Tryz.prog 31 [.int .i64 c, .int .i64 n] [] (Ret0 (.int .i64 (pickN c n))) := by
  have hn0 : ¬ n = 0 := by omega
  have h2 := pickN_lt c hn
  unfold i64In at hc hn2
  refine callsO (noG_ok _) Tryz.mix Tryz.pl31 Tryz.func31 rfl Tryz.ntmps31 Tryz.results31 rfl (by first | rfl | assumption) (Nat.le_of_ble_eq_true rfl) (by kernel_rfl) ?_
  rcases Int.lt_or_le c 0 with h | h
  · have e1 : pickN c n = (-(c + 1)).tmod n := by
      have := Int.emod_nonneg (-(c + 1)) hn0
      unfold pickN; rw [if_pos h, Int.tmod_eq_emod_of_nonneg (by omega)]; omega
    have e2 : (0 - (c + 1)) = -(c + 1) := by omega
    simp only [push_cast, Nat.reduceAdd, Nat.reduceSub, Nat.reduceMul, Nat.reduceLT, Nat.reduceLeDiff, Nat.reduceEqDiff, Nat.reduceMod, Nat.reduceDiv, Int.reduceAdd, Int.reduceSub, Int.reduceMul, Int.reduceLT, Int.reduceLE, Int.reduceEq, Int.reduceNeg, Int.reduceToNat, reduceIte, reduceCtorEq, Int.reduceBEq, Int.reduceBNe, h, wrap_i64' (show -9223372036854775808 ≤ c + 1 ∧ c + 1 ≤ 9223372036854775807 by omega), hn0, e2, wrap_i64' (show -9223372036854775808 ≤ -(c + 1) ∧ -(c + 1) ≤ 9223372036854775807 by omega), e1]
  · have h' : ¬ c < 0 := by omega
    have e1 : pickN c n = c.tmod n := by
      have := Int.emod_nonneg c hn0
      unfold pickN; rw [if_neg h', Int.tmod_eq_emod_of_nonneg (by omega)]; omega
    simp only [push_cast, Nat.reduceAdd, Nat.reduceSub, Nat.reduceMul, Nat.reduceLT, Nat.reduceLeDiff, Nat.reduceEqDiff, Nat.reduceMod, Nat.reduceDiv, Int.reduceAdd, Int.reduceSub, Int.reduceMul, Int.reduceLT, Int.reduceLE, Int.reduceEq, Int.reduceNeg, Int.reduceToNat, reduceIte, reduceCtorEq, Int.reduceBEq, Int.reduceBNe, h', hn0, e1]
theorem pick08G_ok (args : List Value) (v : Value) (h : pickG args = some v) : CallsV Tryz.prog 31 args [] (Ret0 v) := by
  unfold pickG at h
  split at h
  · split at h
    · rename_i c n hh; cases h; exact pick08_ok c n hh.1 hh.2.1 hh.2.2
    · cases h
  · cases h
theorem pick09_ok (c n : Int) (hc : i64In c) (hn : 0 < n) (hn2 : i64In n) : CallsV Tryz.prog 9 [.int .i64 c, .int .i64 n] [] (Ret0 (.int .i64 (pickN c n))) := by
  have hn0 : ¬ n = 0 := by omega
  have h2 := pickN_lt c hn
  unfold i64In at hc hn2
  refine callsO (noG_ok _) Tryz.mix Tryz.pl9 Tryz.func9 rfl Tryz.ntmps9 Tryz.results9 rfl (by first | rfl | assumption) (Nat.le_of_ble_eq_true rfl) (by kernel_rfl) ?_
  rcases Int.lt_or_le c 0 with h | h
  · have e1 : pickN c n = (-(c + 1)).tmod n := by
      have := Int.emod_nonneg (-(c + 1)) hn0
      unfold pickN; rw [if_pos h, Int.tmod_eq_emod_of_nonneg (by omega)]; omega
    have e2 : (0 - (c + 1)) = -(c + 1) := by omega
    simp only [push_cast, Nat.reduceAdd, Nat.reduceSub, Nat.reduceMul, Nat.reduceLT, Nat.reduceLeDiff, Nat.reduceEqDiff, Nat.reduceMod, Nat.reduceDiv, Int.reduceAdd, Int.reduceSub, Int.reduceMul, Int.reduceLT, Int.reduceLE, Int.reduceEq, Int.reduceNeg, Int.reduceToNat, reduceIte, reduceCtorEq, Int.reduceBEq, Int.reduceBNe, h, wrap_i64' (show -9223372036854775808 ≤ c + 1 ∧ c + 1 ≤ 9223372036854775807 by omega), hn0, e2, wrap_i64' (show -9223372036854775808 ≤ -(c + 1) ∧ -(c + 1) ≤ 9223372036854775807 by omega), e1]
  · have h' : ¬ c < 0 := by omega
    have e1 : pickN c n = c.tmod n := by
      have := Int.emod_nonneg c hn0
      unfold pickN; rw [if_neg h', Int.tmod_eq_emod_of_nonneg (by omega)]; omega
    simp only [push_cast, Nat.reduceAdd, Nat.reduceSub, Nat.reduceMul, Nat.reduceLT, Nat.reduceLeDiff, Nat.reduceEqDiff, Nat.reduceMod, Nat.reduceDiv, Int.reduceAdd, Int.reduceSub, Int.reduceMul, Int.reduceLT, Int.reduceLE, Int.reduceEq, Int.reduceNeg, Int.reduceToNat, reduceIte, reduceCtorEq, Int.reduceBEq, Int.reduceBNe, h', hn0, e1]
theorem pick09G_ok (args : List Value) (v : Value) (h : pickG args = some v) : CallsV Tryz.prog 9 args [] (Ret0 v) := by
  unfold pickG at h
  split at h
  · split at h
    · rename_i c n hh; cases h; exact pick09_ok c n hh.1 hh.2.1 hh.2.2
    · cases h
  · cases h
theorem ofWG_ok (args : List Value) (v : Value) (h : ofG args = some v) : CallsV Tryz.prog 32 args [] (Ret0 v) := by
  unfold ofG at h
  split at h
  · split at h
    · rename_i n hh; cases h; exact refOf n hh
    · cases h
  · cases h
noncomputable def gV0 : Gam := (addG 32 ofG (addG 9 pickG (addG 31 pickG gJ1)))
attribute [push_cast] gV0
theorem gV0_ok : GamOk Tryz.prog gV0 := (addG_ok ofWG_ok (addG_ok pick09G_ok (addG_ok pick08G_ok gJ1_ok)))
theorem addr_ok (n : Int) (hn : i64In n) : CallsV Tryz.prog 11 [.int .i64 n] [] (Ret0 (addrA n).v) := by
  have j1 : i64In 9 := by decide
  have hp := pickN_lt n (show (0 : Int) < 9 by decide)
  rw [addrA_eq]
  obtain ⟨k, hk⟩ : ∃ k, k = pickN n 9 := ⟨_, rfl⟩
  have hk9 : k < 9 := by omega
  have hv : (⟨addrL (pickN n 9), addrL_len _⟩ : Ad).v = .agg (.int .u8 (if 5 < k then 1 else 0) :: (List.replicate 18 (.int .u8 0) ++ [.int .u8 k])).toArray := by
    unfold Ad.v Ad.cells
    dsimp only
    rw [← hk, addr_cells k hk9]
  rw [hv]
  refine callsO gV0_ok Tryz.mix Tryz.pl11 Tryz.func11 rfl Tryz.ntmps11 Tryz.results11 rfl (by first | rfl | assumption) (Nat.le_of_ble_eq_true rfl) (by kernel_rfl) ?_
  simp only [push_cast, Nat.reduceAdd, Nat.reduceSub, Nat.reduceMul, Nat.reduceLT, Nat.reduceLeDiff, Nat.reduceEqDiff, Nat.reduceMod, Nat.reduceDiv, Int.reduceAdd, Int.reduceSub, Int.reduceMul, Int.reduceLT, Int.reduceLE, Int.reduceEq, Int.reduceNeg, Int.reduceToNat, reduceIte, reduceCtorEq, Int.reduceBEq, Int.reduceBNe]
  intro b2 b3 hb3
  by_cases h5 : 5 < k
  · have i5 : (5 : Int) < (k : Int) := by omega
    rw [if_pos h5]
    simp only [push_cast, Nat.reduceAdd, Nat.reduceSub, Nat.reduceMul, Nat.reduceLT, Nat.reduceLeDiff, Nat.reduceEqDiff, Nat.reduceMod, Nat.reduceDiv, Int.reduceAdd, Int.reduceSub, Int.reduceMul, Int.reduceLT, Int.reduceLE, Int.reduceEq, Int.reduceNeg, Int.reduceToNat, reduceIte, reduceCtorEq, Int.reduceBEq, Int.reduceBNe, hb3, hn, j1, ← hk, i5, h5, wrap_u8' (n := (k : Int)) (by omega)]
    rfl
  · have i5 : ¬ (5 : Int) < (k : Int) := by omega
    rw [if_neg h5]
    simp only [push_cast, Nat.reduceAdd, Nat.reduceSub, Nat.reduceMul, Nat.reduceLT, Nat.reduceLeDiff, Nat.reduceEqDiff, Nat.reduceMod, Nat.reduceDiv, Int.reduceAdd, Int.reduceSub, Int.reduceMul, Int.reduceLT, Int.reduceLE, Int.reduceEq, Int.reduceNeg, Int.reduceToNat, reduceIte, reduceCtorEq, Int.reduceBEq, Int.reduceBNe, hb3, hn, j1, ← hk, i5, h5, wrap_u8' (n := (k : Int)) (by omega)]
    rfl
theorem addrG_ok (args : List Value) (v : Value) (h : addrG args = some v) : CallsV Tryz.prog 11 args [] (Ret0 v) := by
  unfold addrG at h
  split at h
  · split at h
    · rename_i n hh; cases h; exact addr_ok n hh
    · cases h
  · cases h
noncomputable def gV1 : Gam := (addG 11 addrG gV0)
attribute [push_cast] gV1
theorem gV1_ok : GamOk Tryz.prog gV1 := (addG_ok addrG_ok gV0_ok)
end Go.Proofs.YtkhpncfgimlleaaGreat
set_option linter.unusedSimpArgs false
set_option linter.unusedVariables false
namespace Go.Ev
structure R4 where
  a : Int
  b : Int
  c : Int
  d : Int
def R4.cells (r : R4) : List Value := [.int .i64 r.a, .int .i64 r.b, .int .i64 r.c, .int .i64 r.d]
def R4.v (r : R4) : Value := .agg #[.int .i64 r.a, .int .i64 r.b, .int .i64 r.c, .int .i64 r.d]
def R4.In (r : R4) : Prop := i64In r.a ∧ i64In r.b ∧ i64In r.c ∧ i64In r.d
def codeN (n : Nat) : ByteArray := if n = 0 then ⟨#[]⟩ else if n = 1 then ⟨#[0]⟩ else if n = 2 then ⟨#[96, 1]⟩ else ⟨#[99, 111, 100, 101]⟩
noncomputable def chR (r : R4) : Ch :=
  if pickN r.a 4 = 0 then ⟨1, addrA r.b, W.zero, W.ofInt (pickN r.c 1000 : Nat), 0, .empty⟩
  else if pickN r.a 4 = 1 then ⟨2, addrA r.b, W.zero, W.zero, (pickN r.c 4 : Nat), .empty⟩
  else if pickN r.a 4 = 2 then ⟨3, addrA r.b, W.zero, W.zero, 0, codeN (pickN r.c 4)⟩
  else ⟨4, addrA r.b, W.ofInt (pickN r.c 5 : Nat), W.ofInt (pickN r.d 3 : Nat), 0, .empty⟩
end Go.Ev
namespace Go.Proofs.YtkhpncfgimlleaaGreat
open Go Go.Ev Go.Proofs
set_option maxRecDepth 100000
set_option maxHeartbeats 4000000
theorem change_ok (r : R4) (hr : r.In) : CallsV Tryz.prog 12 [r.v] [] (Ret0 (chR r).v) := by
  obtain ⟨a, b, c, d⟩ := r
  obtain ⟨ia, ib, ic, id⟩ := hr
  dsimp only at ia ib ic id
  have j4 : i64In 4 := by decide
  have j5 : i64In 5 := by decide
  have j3 : i64In 3 := by decide
  have jk : i64In 1000 := by decide
  have pa := pickN_lt a (show (0 : Int) < 4 by decide)
  have pc := pickN_lt c (show (0 : Int) < 4 by decide)
  have pk := pickN_lt c (show (0 : Int) < 1000 by decide)
  have p5 := pickN_lt c (show (0 : Int) < 5 by decide)
  have p3 := pickN_lt d (show (0 : Int) < 3 by decide)
  unfold chR
  dsimp only
  obtain ⟨x, hx⟩ : ∃ x, x = pickN a 4 := ⟨_, rfl⟩
  rw [← hx] at pa ⊢
  show CallsV Tryz.prog _ [.agg #[.int .i64 a, .int .i64 b, .int .i64 c, .int .i64 d]] _ _
  have hx4 : x = 0 ∨ x = 1 ∨ x = 2 ∨ x = 3 := by omega
  refine callsO gV1_ok Tryz.mix Tryz.pl12 Tryz.func12 rfl Tryz.ntmps12 Tryz.results12 rfl (by first | rfl | assumption) (Nat.le_of_ble_eq_true rfl) (by kernel_rfl) ?_
  simp only [push_cast, Nat.reduceAdd, Nat.reduceSub, Nat.reduceMul, Nat.reduceLT, Nat.reduceLeDiff, Nat.reduceEqDiff, Nat.reduceMod, Nat.reduceDiv, Int.reduceAdd, Int.reduceSub, Int.reduceMul, Int.reduceLT, Int.reduceLE, Int.reduceEq, Int.reduceNeg, Int.reduceToNat, reduceIte, reduceCtorEq, Int.reduceBEq, Int.reduceBNe]
  intro b1 b2 hb2
  rcases hx4 with rfl | rfl | rfl | rfl
  · simp only [push_cast, Nat.reduceAdd, Nat.reduceSub, Nat.reduceMul, Nat.reduceLT, Nat.reduceLeDiff, Nat.reduceEqDiff, Nat.reduceMod, Nat.reduceDiv, Int.reduceAdd, Int.reduceSub, Int.reduceMul, Int.reduceLT, Int.reduceLE, Int.reduceEq, Int.reduceNeg, Int.reduceToNat, reduceIte, reduceCtorEq, Int.reduceBEq, Int.reduceBNe, hb2, ia, ib, ic, id, j4, j5, j3, jk, ← hx]
    intro b3 hb3
    have k1 : -9223372036854775808 ≤ ((pickN c 1000 : Nat) : Int) ∧ ((pickN c 1000 : Nat) : Int) ≤ 9223372036854775807 := by omega
    simp only [push_cast, Nat.reduceAdd, Nat.reduceSub, Nat.reduceMul, Nat.reduceLT, Nat.reduceLeDiff, Nat.reduceEqDiff, Nat.reduceMod, Nat.reduceDiv, Int.reduceAdd, Int.reduceSub, Int.reduceMul, Int.reduceLT, Int.reduceLE, Int.reduceEq, Int.reduceNeg, Int.reduceToNat, reduceIte, reduceCtorEq, Int.reduceBEq, Int.reduceBNe, hb2, hb3, ia, ib, ic, id, j4, j5, j3, jk, ← hx, k1.1, k1.2]
  · simp only [push_cast, Nat.reduceAdd, Nat.reduceSub, Nat.reduceMul, Nat.reduceLT, Nat.reduceLeDiff, Nat.reduceEqDiff, Nat.reduceMod, Nat.reduceDiv, Int.reduceAdd, Int.reduceSub, Int.reduceMul, Int.reduceLT, Int.reduceLE, Int.reduceEq, Int.reduceNeg, Int.reduceToNat, reduceIte, reduceCtorEq, Int.reduceBEq, Int.reduceBNe, hb2, ia, ib, ic, id, j4, j5, j3, jk, ← hx]
    intro b3 hb3
    simp only [push_cast, Nat.reduceAdd, Nat.reduceSub, Nat.reduceMul, Nat.reduceLT, Nat.reduceLeDiff, Nat.reduceEqDiff, Nat.reduceMod, Nat.reduceDiv, Int.reduceAdd, Int.reduceSub, Int.reduceMul, Int.reduceLT, Int.reduceLE, Int.reduceEq, Int.reduceNeg, Int.reduceToNat, reduceIte, reduceCtorEq, Int.reduceBEq, Int.reduceBNe, hb2, hb3, ia, ib, ic, id, j4, j5, j3, jk, ← hx]
  · simp only [push_cast, Nat.reduceAdd, Nat.reduceSub, Nat.reduceMul, Nat.reduceLT, Nat.reduceLeDiff, Nat.reduceEqDiff, Nat.reduceMod, Nat.reduceDiv, Int.reduceAdd, Int.reduceSub, Int.reduceMul, Int.reduceLT, Int.reduceLE, Int.reduceEq, Int.reduceNeg, Int.reduceToNat, reduceIte, reduceCtorEq, Int.reduceBEq, Int.reduceBNe, hb2, ia, ib, ic, id, j4, j5, j3, jk, ← hx]
    intro b3 hb3
    simp only [push_cast, Nat.reduceAdd, Nat.reduceSub, Nat.reduceMul, Nat.reduceLT, Nat.reduceLeDiff, Nat.reduceEqDiff, Nat.reduceMod, Nat.reduceDiv, Int.reduceAdd, Int.reduceSub, Int.reduceMul, Int.reduceLT, Int.reduceLE, Int.reduceEq, Int.reduceNeg, Int.reduceToNat, reduceIte, reduceCtorEq, Int.reduceBEq, Int.reduceBNe, hb2, hb3, ia, ib, ic, id, j4, j5, j3, jk, ← hx]
    intro b4 hb4
    obtain ⟨y, hy⟩ : ∃ y, y = pickN c 4 := ⟨_, rfl⟩
    rw [← hy]
    have hy4 : y = 0 ∨ y = 1 ∨ y = 2 ∨ y = 3 := by omega
    rcases hy4 with rfl | rfl | rfl | rfl <;> simp only [push_cast, Nat.reduceAdd, Nat.reduceSub, Nat.reduceMul, Nat.reduceLT, Nat.reduceLeDiff, Nat.reduceEqDiff, Nat.reduceMod, Nat.reduceDiv, Int.reduceAdd, Int.reduceSub, Int.reduceMul, Int.reduceLT, Int.reduceLE, Int.reduceEq, Int.reduceNeg, Int.reduceToNat, reduceIte, reduceCtorEq, Int.reduceBEq, Int.reduceBNe, hb2, hb3, hb4, ia, ib, ic, id, j4, j5, j3, jk, ← hx, ← hy, codeN]
    all_goals trace_state
  · simp only [push_cast, Nat.reduceAdd, Nat.reduceSub, Nat.reduceMul, Nat.reduceLT, Nat.reduceLeDiff, Nat.reduceEqDiff, Nat.reduceMod, Nat.reduceDiv, Int.reduceAdd, Int.reduceSub, Int.reduceMul, Int.reduceLT, Int.reduceLE, Int.reduceEq, Int.reduceNeg, Int.reduceToNat, reduceIte, reduceCtorEq, Int.reduceBEq, Int.reduceBNe, hb2, ia, ib, ic, id, j4, j5, j3, jk, ← hx]
    intro b3 hb3
    have k1 : -9223372036854775808 ≤ ((pickN c 5 : Nat) : Int) ∧ ((pickN c 5 : Nat) : Int) ≤ 9223372036854775807 := by omega
    have k2 : -9223372036854775808 ≤ ((pickN d 3 : Nat) : Int) ∧ ((pickN d 3 : Nat) : Int) ≤ 9223372036854775807 := by omega
    simp only [push_cast, Nat.reduceAdd, Nat.reduceSub, Nat.reduceMul, Nat.reduceLT, Nat.reduceLeDiff, Nat.reduceEqDiff, Nat.reduceMod, Nat.reduceDiv, Int.reduceAdd, Int.reduceSub, Int.reduceMul, Int.reduceLT, Int.reduceLE, Int.reduceEq, Int.reduceNeg, Int.reduceToNat, reduceIte, reduceCtorEq, Int.reduceBEq, Int.reduceBNe, hb2, hb3, ia, ib, ic, id, j4, j5, j3, jk, ← hx, k1.1, k1.2, k2.1, k2.2]
end Go.Proofs.YtkhpncfgimlleaaGreat
set_option linter.unusedSimpArgs false
set_option linter.unusedVariables false
namespace Go.Ev
noncomputable def chG : List Value → Option Value
  | [.agg cs] => match cs.toList with
    | [.int .i64 a, .int .i64 b, .int .i64 c, .int .i64 d] => if i64In a ∧ i64In b ∧ i64In c ∧ i64In d then some (chR ⟨a, b, c, d⟩).v else none
    | _ => none
  | _ => none
attribute [push_cast] chG
theorem R4.len (r : R4) : r.cells.length = 4 := rfl
noncomputable def stepS (s : List Ac) (r : R4) : List Ac := if (doS s (chR r)).2.2 = 0 then (doS s (chR r)).1 else s
noncomputable def stateR (l : List R4) : List Ac := (l.take 30).foldl stepS []
theorem stepS_ri {s : List Ac} (h : RiS s) (r : R4) : RiS (stepS s r) := by
  unfold stepS
  split
  · rename_i hd; exact (doS_iff.1 hd).right
  · exact h
theorem foldS_ri : ∀ (l : List R4) {s : List Ac}, RiS s → RiS (l.foldl stepS s)
  | [], _, h => h
  | r :: l, s, h => by rw [List.foldl_cons]; exact foldS_ri l (stepS_ri h r)
theorem stateR_ri (l : List R4) : RiS (stateR l) := foldS_ri _ RiS.nil
end Go.Ev
namespace Go.Proofs.YtkhpncfgimlleaaGreat
open Go Go.Ev Go.Proofs
set_option maxRecDepth 100000
set_option maxHeartbeats 4000000
theorem chG_ok (args : List Value) (v : Value) (h : chG args = some v) : CallsV Tryz.prog 12 args [] (Ret0 v) := by
  unfold chG at h
  split at h
  · rename_i cs
    split at h
    · rename_i a b c d hcs
      split at h
      · rename_i hh
        cases h
        have : cs = #[.int .i64 a, .int .i64 b, .int .i64 c, .int .i64 d] := Array.toList_inj.1 hcs
        subst this
        exact change_ok ⟨a, b, c, d⟩ hh
      · cases h
    · cases h
  · cases h
noncomputable def gV2 : Gam := (addG 12 chG gV1)
attribute [push_cast] gV2
theorem gV2_ok : GamOk Tryz.prog gV2 := (addG_ok chG_ok gV1_ok)
theorem state_ok {M : Hp} {l : List R4} {v : Value} (hl : LiR R4.cells 4 M l v) (hin : ∀ r ∈ l, r.In) : CallsR Tryz.prog 28 [v] M (StR (stateR l)) := by
  intro M0 hr he
  have hm := hr.marks
  replace hl := hl.congr he.symm
  obtain ⟨p, k, rfl, hla⟩ := hl.openC R4.len (by decide)
  refine callsO gV2_ok Tryz.mix Tryz.pl28 Tryz.func28 rfl Tryz.ntmps28 Tryz.results28 rfl (by first | rfl | assumption) (Nat.le_of_ble_eq_true rfl) (by kernel_rfl) ?_
  simp only [push_cast, Nat.reduceAdd, Nat.reduceSub, Nat.reduceMul, Nat.reduceLT, Nat.reduceLeDiff, Nat.reduceEqDiff, Nat.reduceMod, Nat.reduceDiv, Int.reduceAdd, Int.reduceSub, Int.reduceMul, Int.reduceLT, Int.reduceLE, Int.reduceEq, Int.reduceNeg, Int.reduceToNat, reduceIte, reduceCtorEq, Int.reduceBEq, Int.reduceBNe]
  refine loopO gV2_ok (pl := Tryz.pl28) Tryz.mix (X := {x : (Nat × Value) × Hp // Gr M0 x.2})
    (fun x => ([(0, .slice p l.length k), (2, .slice none 0 0), (3, x.1.1.2), (4, .int .i64 x.1.1.1)], x.1.2))
    (fun x => x.1.1.1 ≤ l.length ∧ x.1.1.1 ≤ 30 ∧ StR ((l.take x.1.1.1).foldl stepS []) x.1.1.2 x.1.2) (fun x => l.length - x.1.1.1) ⟨((0, .slice none 0 0), M0), Gr.refl hm⟩ ?_ ?_ (by kernel_rfl) ?_
  · exact ⟨Nat.zero_le _, Nat.zero_le _, StR.nil _ _⟩
  · simp only [push_cast, Nat.reduceAdd, Nat.reduceSub, Nat.reduceMul, Nat.reduceLT, Nat.reduceLeDiff, Nat.reduceEqDiff, Nat.reduceMod, Nat.reduceDiv, Int.reduceAdd, Int.reduceSub, Int.reduceMul, Int.reduceLT, Int.reduceLE, Int.reduceEq, Int.reduceNeg, Int.reduceToNat, reduceIte, reduceCtorEq, Int.reduceBEq, Int.reduceBNe]
  · rintro ⟨⟨⟨ix, w⟩, M1⟩, hg1⟩ ⟨hi, h30, hw⟩
    dsimp only at hi h30 hw hg1 ⊢
    have hri : RiS ((l.take ix).foldl stepS []) := foldS_ri _ RiS.nil
    obtain ⟨t, ht⟩ : ∃ t, t = (l.take ix).foldl stepS [] := ⟨_, rfl⟩
    rw [← ht] at hw hri
    obtain ⟨pw, kw, rfl⟩ := hw.slice
    by_cases hc : ix < l.length ∧ ix < 30
    · obtain ⟨hlt, hl30⟩ := hc
      obtain ⟨r, hr'⟩ : ∃ r, l[ix]? = some r := ⟨l[ix], List.getElem?_eq_getElem hlt⟩
      obtain ⟨ia, ib, ic, id⟩ := hin r (List.mem_of_getElem? hr')
      rcases hla with rfl | ⟨b, f, d, kd, cs, rfl, hfe, hat⟩
      · simp at hlt
      obtain ⟨a1, a2⟩ := hat ix r hr'
      rw [show r.cells = [.int .i64 r.a, .int .i64 r.b, .int .i64 r.c, .int .i64 r.d] from rfl] at a2
      have hee := hg1.find hfe
      have i1 : (ix : Int) < (l.length : Int) := by omega
      have i2 : (ix : Int) < 30 := by omega
      have hs1 : (l.take (ix + 1)).foldl stepS [] = stepS t r := by
        rw [List.take_add_one, hr', List.foldl_append, ← ht]; rfl
      have hrl := hri.len
      simp only [push_cast, Nat.reduceAdd, Nat.reduceSub, Nat.reduceMul, Nat.reduceLT, Nat.reduceLeDiff, Nat.reduceEqDiff, Nat.reduceMod, Nat.reduceDiv, Int.reduceAdd, Int.reduceSub, Int.reduceMul, Int.reduceLT, Int.reduceLE, Int.reduceEq, Int.reduceNeg, Int.reduceToNat, reduceIte, reduceCtorEq, Int.reduceBEq, Int.reduceBNe, i1, i2, hlt, hl30, hee, a1, a2, ia, ib, ic, id]
      refine useB [] (refDo_ok hw (by omega) (fun y hy => by have := (mayA_slots (hri.may y hy)).len; omega)) (DoO.rd _ _) hg1.marks trivial fun w' N1 M2 hg2 hf hL hwN hmN hq => ?_
      obtain ⟨w1, rfl, hq⟩ := hq
      obtain ⟨pw2, kw2, rfl⟩ : ∃ p k, w1 = .slice p (doS t (chR r)).1.length k := (hq.r hf).slice
      simp only [push_cast, Nat.reduceAdd, Nat.reduceSub, Nat.reduceMul, Nat.reduceLT, Nat.reduceLeDiff, Nat.reduceEqDiff, Nat.reduceMod, Nat.reduceDiv, Int.reduceAdd, Int.reduceSub, Int.reduceMul, Int.reduceLT, Int.reduceLE, Int.reduceEq, Int.reduceNeg, Int.reduceToNat, reduceIte, reduceCtorEq, Int.reduceBEq, Int.reduceBNe]
      intro b6 hb6
      have sw : ∀ {b}, fresh b (N1 ++ M2) → fresh b (M2 ++ N1) := fun h => fresh_appS (fresh_app_iff.1 h).2 (fresh_app_iff.1 h).1
      have hg3 : Gr M0 (M2 ++ N1) := hg1.trans (hg2.trans ⟨hg2.marks, N1, rfl, hwN, hmN⟩)
      have e3 : -9223372036854775808 ≤ (ix : Int) + 1 ∧ (ix : Int) + 1 ≤ 9223372036854775807 := by omega
      have hsub : subH (⟨b6, 0, .cel 31, (doS t (chR r)).2.1.cells⟩ :: (N1 ++ M2)) (M2 ++ N1) := by
        rw [subH_skip (e := ⟨b6, 0, .cel 31, (doS t (chR r)).2.1.cells⟩) (L := N1 ++ M2) (sw hb6)]
        exact subH_turn fun e he x hx h => freshN_iff.1 hf x hx e he h
      have hmk : marksOf (M2 ++ N1) = marksOf (N1 ++ M2) := by rw [marks_append, marks_append, hmN, hg2.marks]
      split
      · rename_i hd
        have hd : (doS t (chR r)).2.2 = 0 := eq_of_beq hd
        have hs2 : stepS t r = (doS t (chR r)).1 := by unfold stepS; rw [if_pos hd]
        exact ⟨⟨((ix + 1, .slice pw2 (doS t (chR r)).1.length kw2), M2 ++ N1), hg3⟩, ⟨hlt, by dsimp only; omega, by rw [hs1, hs2]; exact StR.rd _ _ _ _ (cellsAt_swap hf) (hq.r hf)⟩, by dsimp only; omega, ⟨rfl, by rw [wrap_i64' e3]; rfl⟩, hsub, hmk⟩
      · rename_i hd
        have hd : ¬ (doS t (chR r)).2.2 = 0 := fun h => by rw [beq_eq_false_iff_ne] at hd; exact hd h
        have hs2 : stepS t r = t := by unfold stepS; rw [if_neg hd]
        exact ⟨⟨((ix + 1, .slice pw t.length kw), M2 ++ N1), hg3⟩, ⟨hlt, by dsimp only; omega, by rw [hs1, hs2]; exact hw.ext (hg2.trans ⟨hg2.marks, N1, rfl, hwN, hmN⟩).ext⟩, by dsimp only; omega, ⟨rfl, by rw [wrap_i64' e3]; rfl⟩, hsub, hmk⟩
    · have hfin : (l.take ix).foldl stepS [] = stateR l := by
        unfold stateR
        rcases Nat.lt_or_ge ix 30 with h | h
        · obtain rfl : ix = l.length := by omega
          rw [List.take_length, List.take_of_length_le (by omega)]
        · obtain rfl : ix = 30 := by omega
          rfl
      rw [← ht] at hfin
      rw [hfin] at hw
      rw [hfin]
      by_cases hlt : ix < l.length
      · have i1 : (ix : Int) < (l.length : Int) := by omega
        have i2 : ¬ (ix : Int) < 30 := by omega
        have i3 : ¬ ix < 30 := by omega
        simp only [push_cast, Nat.reduceAdd, Nat.reduceSub, Nat.reduceMul, Nat.reduceLT, Nat.reduceLeDiff, Nat.reduceEqDiff, Nat.reduceMod, Nat.reduceDiv, Int.reduceAdd, Int.reduceSub, Int.reduceMul, Int.reduceLT, Int.reduceLE, Int.reduceEq, Int.reduceNeg, Int.reduceToNat, reduceIte, reduceCtorEq, Int.reduceBEq, Int.reduceBNe, i1, i2, hlt, i3]
        exact doneK2 [] hg1 (StR.rd _) hw
      · have i1 : ¬ (ix : Int) < (l.length : Int) := by omega
        simp only [push_cast, Nat.reduceAdd, Nat.reduceSub, Nat.reduceMul, Nat.reduceLT, Nat.reduceLeDiff, Nat.reduceEqDiff, Nat.reduceMod, Nat.reduceDiv, Int.reduceAdd, Int.reduceSub, Int.reduceMul, Int.reduceLT, Int.reduceLE, Int.reduceEq, Int.reduceNeg, Int.reduceToNat, reduceIte, reduceCtorEq, Int.reduceBEq, Int.reduceBNe, i1, hlt]
        exact doneK2 [] hg1 (StR.rd _) hw
end Go.Proofs.YtkhpncfgimlleaaGreat
