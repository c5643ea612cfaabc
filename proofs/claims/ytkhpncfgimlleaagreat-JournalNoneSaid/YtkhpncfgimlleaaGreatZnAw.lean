/- Texts of this claim, merged by program: Vt Vu. -/
import Derived.Test.YtkhpncfgimlleaaGreatZnAv
set_option linter.unusedSimpArgs false
set_option linter.unusedVariables false
namespace Go.Ev
theorem doneE {M M1 : Hp} (L Nq : Hp) {E : Ent} {Q : Value → Hp → Prop} {v : Value} (hg : Gr M M1) (hn : marksOf Nq = []) (hQ : RdOnly Q) (hq : Q v M1) : ∃ H', H'.Sublist (L ++ dropM (Nq ++ M1)) ∧ (allWr H' ∧ marksOf H' = [] ∧ (freshN H' (E :: M) → Q v (H' ++ M))) := by
  have hgm := hg.marks
  obtain ⟨hm, N, rfl, hw, hmN⟩ := hg
  refine ⟨N, ?_, hw, hmN, fun hf => hQ _ _ _ (cellsAt_swap (freshN_cons hf)).symm hq⟩
  rw [dropM_eq (by rw [marks_append, hn, hgm]; rfl)]
  exact (List.sublist_append_right M N).trans ((List.sublist_append_right Nq _).trans (List.sublist_append_right L _))
end Go.Ev
namespace Go.Proofs.YtkhpncfgimlleaaGreat
open Go Go.Ev Go.Proofs
set_option maxRecDepth 100000
set_option maxHeartbeats 4000000
theorem jdoE_ok {M0 : Hp} {j : Jo} {v : Value} {l : List Ch} {bE kl : Nat} {zs : List Value} {er : Int} (hv : JoR j v M0) (hE : fresh bE M0) (hm : marksOf M0 = []) (hri0 : RiJ j) (hd0 : doJ j l = (j, er)) (her : er ≠ 0) (hll : l.length ≤ 1000000000000) :
    CallsV Tryz.prog 18 [v, .slice (some ⟨bE, 0, none⟩) l.length kl] (⟨bE, 0, .ro, l.flatMap Ch.cells ++ zs⟩ :: M0) (fun u N => allWr N ∧ marksOf N = [] ∧ (freshN N (⟨bE, 0, .ro, l.flatMap Ch.cells ++ zs⟩ :: M0) → JeR (j, er) u (N ++ M0))) := by
  have hn : j.state.length ≤ 1000000000 := by have := hri0.st.len; omega
  have hu : j.undo.length ≤ 1000000000 := by have := hri0.ul; omega
  have hma : j.marks.length ≤ 1000000000000 := by have := hri0.ml; omega
  have hsl : ∀ y ∈ j.state, y.slots.length ≤ 1000000000000 := fun y hy => by have := (mayA_slots (hri0.st.may y hy)).len; omega
  have hv0 := hv
  obtain ⟨vs, vu, vm, rfl, h1, h2, h3⟩ := hv
  obtain ⟨ps, ks, rfl⟩ := h1.slice
  obtain ⟨pu, ku, rfl⟩ := h2.slice
  obtain ⟨pm, km, rfl⟩ := h3.slice
  have hat : ∀ i x, l[i]? = some x → i * 31 + 31 ≤ (l.flatMap Ch.cells ++ zs).length ∧ List.take 31 (List.drop (i * 31) (l.flatMap Ch.cells ++ zs)) = x.cells := fun i x hx => by
    have hi := (List.getElem?_eq_some_iff.1 hx).1
    have h1 : i * 31 + 31 ≤ (l.flatMap Ch.cells).length := by rw [chFlat]; omega
    refine ⟨by rw [List.length_append]; omega, ?_⟩
    have h2 := flatMap_at (c := Ch.cells) (s := 31) (fun x => x.len) hx (q := 0) (n := 31) (Nat.le_refl _)
    rw [Nat.add_zero, List.drop_zero, List.take_of_length_le (Nat.le_of_eq x.len)] at h2
    rw [List.drop_append_of_le_length (by omega), List.take_append_of_le_length (by rw [List.length_drop]; omega)]
    exact h2
  obtain ⟨R, hR⟩ : ∃ R, R = doJ j l := ⟨_, rfl⟩
  have hRe : R = (j, er) := hR.trans hd0
  refine callsO gJ1_ok Tryz.mix plJD Tryz.func18 rfl Tryz.ntmps18 Tryz.results18 rfl (by first | rfl | assumption) (Nat.le_of_ble_eq_true rfl) (by kernel_rfl) ?_
  simp only [push_cast, Nat.reduceAdd, Nat.reduceSub, Nat.reduceMul, Nat.reduceLT, Nat.reduceLeDiff, Nat.reduceEqDiff, Nat.reduceMod, Nat.reduceDiv, Int.reduceAdd, Int.reduceSub, Int.reduceMul, Int.reduceLT, Int.reduceLE, Int.reduceEq, Int.reduceNeg, Int.reduceToNat, reduceIte, reduceCtorEq, Int.reduceBEq, Int.reduceBNe]
  intro b2 hb2 b4 hb4
  have f2 : fresh b2 M0 := hb2.2.2
  have f4 : fresh b4 M0 := hb4.2.2.2.2
  simp only [push_cast, Nat.reduceAdd, Nat.reduceSub, Nat.reduceMul, Nat.reduceLT, Nat.reduceLeDiff, Nat.reduceEqDiff, Nat.reduceMod, Nat.reduceDiv, Int.reduceAdd, Int.reduceSub, Int.reduceMul, Int.reduceLT, Int.reduceLE, Int.reduceEq, Int.reduceNeg, Int.reduceToNat, reduceIte, reduceCtorEq, Int.reduceBEq, Int.reduceBNe, hb2, hb4]
  refine useB [_, _, _] (jown_ok hv0 hn hu hma hsl) (JoO.rd _ _ _) hm ⟨f4, f2, hE, trivial⟩ fun w Nj M1 hg1 hf1 hL1 hw1 hm1 hq1 => ?_
  obtain ⟨vs', vu', vm', Nu, Nm, rfl, rfl, hum, ho2, ho3, hq1⟩ := hq1
  obtain ⟨pw, kw, rfl⟩ := hq1.slice
  obtain ⟨pn, kn, rfl⟩ := ho2.slice
  obtain ⟨pk, kk, rfl⟩ := ho3.slice
  simp only [push_cast, Nat.reduceAdd, Nat.reduceSub, Nat.reduceMul, Nat.reduceLT, Nat.reduceLeDiff, Nat.reduceEqDiff, Nat.reduceMod, Nat.reduceDiv, Int.reduceAdd, Int.reduceSub, Int.reduceMul, Int.reduceLT, Int.reduceLE, Int.reduceEq, Int.reduceNeg, Int.reduceToNat, reduceIte, reduceCtorEq, Int.reduceBEq, Int.reduceBNe, hb2, hb4]
  intro b6 hb6
  refine WpV.perm (H' := ⟨b6, 0, .cel 37, [.slice pw j.state.length kw, .slice pn j.undo.length kn, .slice pk j.marks.length kk]⟩ :: ⟨b4, 0, .cel 37, [.slice none 0 0, .slice none 0 0, .slice none 0 0]⟩ :: ⟨b2, 0, .cel 37, [.slice ps j.state.length ks, .slice pu j.undo.length ku, .slice pm j.marks.length km]⟩ :: ⟨bE, 0, .ro, l.flatMap Ch.cells ++ zs⟩ :: (Nu ++ (M1 ++ Nm))) ?_ ?_ ?_
  · exact ((((List.Perm.append_left Nu List.perm_append_comm).cons _).cons _).cons _).cons _
  · simp [marksOf, marks_append, ho3.wr.2]
  obtain ⟨Mb, hMb⟩ : ∃ Mb, Mb = M1 ++ Nm := ⟨_, rfl⟩
  have hgb : Gr M0 Mb := hg1.trans ⟨hg1.marks, Nm, hMb, ho3.wr.1, ho3.wr.2⟩
  have hfb : freshN Nu Mb := by rw [hMb]; exact freshN_comb (freshN_appL.1 hf1).1 hum
  have hsb : StR j.state (.slice pw j.state.length kw) Mb := hq1.ext (Gr.ext ⟨hg1.marks, Nm, hMb, ho3.wr.1, ho3.wr.2⟩)
  have hmb : LiR intC 1 Mb j.marks (.slice pk j.marks.length kk) := by rw [hMb]; exact (ho3.liR rfl rfl M1).congr (cellsAt_swap (freshN_appL.1 hf1).2)
  rw [← hMb]
  have g6 : fresh b6 (Nu ++ Mb) := by
    have := hb6.2.2.2.2.2.2
    rw [hMb]
    have h := fresh_app_iff.1 this
    have h' := fresh_app_iff.1 h.2
    exact fresh_appS h.1 (fresh_appS h'.2 h'.1)
  have sw : ∀ {b}, fresh b (Nu ++ (Nm ++ M1)) → fresh b (Nu ++ Mb) := fun {b} this => by
    rw [hMb]
    have h := fresh_app_iff.1 this
    have h' := fresh_app_iff.1 h.2
    exact fresh_appS h.1 (fresh_appS h'.2 h'.1)
  have g4 : fresh b4 (Nu ++ Mb) := sw (by have := hL1.1; rw [List.append_assoc] at this; exact this)
  have g2 : fresh b2 (Nu ++ Mb) := sw (by have := hL1.2.1; rw [List.append_assoc] at this; exact this)
  have gE : fresh bE (Nu ++ Mb) := sw (by have := hL1.2.2.1; rw [List.append_assoc] at this; exact this)
  have hb6 : ¬ b6 = b4 ∧ ¬ b4 = b6 ∧ ¬ b6 = b2 ∧ ¬ b2 = b6 ∧ ¬ b6 = bE ∧ ¬ bE = b6 := ⟨hb6.1, hb6.2.1, hb6.2.2.1, hb6.2.2.2.1, hb6.2.2.2.2.1, hb6.2.2.2.2.2.1⟩
  have hb2 : ¬ b2 = bE ∧ ¬ bE = b2 := ⟨hb2.1, hb2.2.1⟩
  have hb4 : ¬ b4 = b2 ∧ ¬ b2 = b4 ∧ ¬ b4 = bE ∧ ¬ bE = b4 := ⟨hb4.1, hb4.2.1, hb4.2.2.1, hb4.2.2.2.1⟩
  have hvb := hv0.ext hgb.ext
  refine regO gJ1_ok ?_
  simp only [push_cast, Nat.reduceAdd, Nat.reduceSub, Nat.reduceMul, Nat.reduceLT, Nat.reduceLeDiff, Nat.reduceEqDiff, Nat.reduceMod, Nat.reduceDiv, Int.reduceAdd, Int.reduceSub, Int.reduceMul, Int.reduceLT, Int.reduceLE, Int.reduceEq, Int.reduceNeg, Int.reduceToNat, reduceIte, reduceCtorEq, Int.reduceBEq, Int.reduceBNe, hb2, hb4, hb6]
  refine useP (_ :: _ :: _ :: _ :: Nu) (fun M2 hr2 he2 => jright_ok (JoR.rd _ _ _ _ he2.symm hvb) hr2.marks hn (by omega) hma hsl) ⟨(fresh_app_iff.1 g6).2, (fresh_app_iff.1 g4).2, (fresh_app_iff.1 g2).2, (fresh_app_iff.1 gE).2, hfb⟩ ?_
  have hrj := rightJ_iff.2 hri0
  rw [hrj]
  have e : R = runJ j j l := by rw [hR]; unfold doJ; rw [if_pos hrj]
  have hrij := rightJ_iff.1 hrj
  simp only [push_cast, Nat.reduceAdd, Nat.reduceSub, Nat.reduceMul, Nat.reduceLT, Nat.reduceLeDiff, Nat.reduceEqDiff, Nat.reduceMod, Nat.reduceDiv, Int.reduceAdd, Int.reduceSub, Int.reduceMul, Int.reduceLT, Int.reduceLE, Int.reduceEq, Int.reduceNeg, Int.reduceToNat, reduceIte, reduceCtorEq, Int.reduceBEq, Int.reduceBNe, hb2, hb4, hb6]
  refine loopO gJ1_ok (pl := plJD) Tryz.mix (X := {x : ((Nat × Jo) × (Value × Value)) × (Hp × Hp) // Gr Mb x.2.2 ∧ freshN x.2.1 x.2.2 ∧ fresh b6 (x.2.1 ++ x.2.2) ∧ fresh b4 (x.2.1 ++ x.2.2) ∧ fresh b2 (x.2.1 ++ x.2.2) ∧ fresh bE (x.2.1 ++ x.2.2)})
    (fun x => ([(0, .agg #[.slice ps j.state.length ks, .slice pu j.undo.length ku, .slice pm j.marks.length km]), (1, .slice (some ⟨bE, 0, none⟩) l.length kl), (2, .pointer (some ⟨b2, 0, none⟩)), (4, .pointer (some ⟨b4, 0, none⟩)), (5, .int .i64 0), (6, .pointer (some ⟨b6, 0, none⟩)), (18, .slice (some ⟨bE, 0, none⟩) l.length kl), (19, .int .i64 l.length), (20, .int .i64 x.1.1.1.1)],
      ⟨b6, 0, .cel 37, [x.1.1.2.1, x.1.1.2.2, .slice pk j.marks.length kk]⟩ :: ⟨b4, 0, .cel 37, [.slice none 0 0, .slice none 0 0, .slice none 0 0]⟩ :: ⟨b2, 0, .cel 37, [.slice ps j.state.length ks, .slice pu j.undo.length ku, .slice pm j.marks.length km]⟩ :: ⟨bE, 0, .ro, l.flatMap Ch.cells ++ zs⟩ :: (x.1.2.1 ++ x.1.2.2)))
    (fun x => x.1.1.1.1 ≤ l.length ∧ R = runJ j x.1.1.1.2 (l.drop x.1.1.1.1) ∧ x.1.1.1.2.marks = j.marks ∧ RiS x.1.1.1.2.state ∧ x.1.1.1.2.undo.length ≤ 2000 ∧ StR x.1.1.1.2.state x.1.1.2.1 x.1.2.2 ∧ OutG 31 31 (x.1.1.1.2.undo.flatMap Ch.cells) x.1.1.1.2.undo.length x.1.1.2.2 x.1.2.1) (fun x => l.length - x.1.1.1.1) ⟨(((0, j), (.slice pw j.state.length kw, .slice pn j.undo.length kn)), (Nu, Mb)), Gr.refl hgb.marks, hfb, g6, g4, g2, gE⟩ ?_ ?_ (by kernel_rfl) ?_
  · exact ⟨Nat.zero_le _, e, rfl, hrij.st, hrij.ul, hsb, ho2⟩
  · simp only [push_cast, Nat.reduceAdd, Nat.reduceSub, Nat.reduceMul, Nat.reduceLT, Nat.reduceLeDiff, Nat.reduceEqDiff, Nat.reduceMod, Nat.reduceDiv, Int.reduceAdd, Int.reduceSub, Int.reduceMul, Int.reduceLT, Int.reduceLE, Int.reduceEq, Int.reduceNeg, Int.reduceToNat, reduceIte, reduceCtorEq, Int.reduceBEq, Int.reduceBNe]
  · rintro ⟨⟨⟨⟨i, now⟩, ⟨w, u⟩⟩, ⟨Nq, Mq⟩⟩, hgq, hfq, q6, q4, q2, qE⟩ ⟨hi, hrun, hnm, hri, hul, hw, ho⟩
    dsimp only at hi hrun hnm hri hul hw ho hgq hfq q6 q4 q2 qE ⊢
    obtain ⟨pw1, kw1, rfl⟩ := hw.slice
    obtain ⟨pn1, kn1, rfl⟩ := ho.slice
    have hmq : LiR intC 1 Mq j.marks (.slice pk j.marks.length kk) := hmb.ext hgq.ext
    have hvq := hvb.ext hgq.ext
    have p6 := (fresh_app_iff.1 q6).2
    have p4 := (fresh_app_iff.1 q4).2
    have p2 := (fresh_app_iff.1 q2).2
    have pE := (fresh_app_iff.1 qE).2
    rcases Nat.lt_or_ge i l.length with hlt | hge
    · obtain ⟨c, hc⟩ : ∃ y, l[i]? = some y := ⟨l[i]'(by omega), List.getElem?_eq_getElem (by omega)⟩
      obtain ⟨a1, a2⟩ := hat i c hc
      rw [List.length_append] at a1
      have i1 : (i : Int) < (l.length : Int) := by omega
      rw [show l.drop i = c :: l.drop (i + 1) by obtain ⟨h1, h2⟩ := List.getElem?_eq_some_iff.1 hc; rw [List.drop_eq_getElem_cons h1, h2], runJ] at hrun
      simp only [push_cast, Nat.reduceAdd, Nat.reduceSub, Nat.reduceMul, Nat.reduceLT, Nat.reduceLeDiff, Nat.reduceEqDiff, Nat.reduceMod, Nat.reduceDiv, Int.reduceAdd, Int.reduceSub, Int.reduceMul, Int.reduceLT, Int.reduceLE, Int.reduceEq, Int.reduceNeg, Int.reduceToNat, reduceIte, reduceCtorEq, Int.reduceBEq, Int.reduceBNe, i1, hlt, a1, a2, hb2, hb4, hb6]
      intro b8 hb8
      refine regO gJ1_ok ?_
      by_cases h2k : now.undo.length = 2000
      · rw [if_pos (by omega)] at hrun
        have e2 : ((now.undo.length : Int) == 2000) = true := by rw [beq_iff_eq]; omega
        simp only [push_cast, Nat.reduceAdd, Nat.reduceSub, Nat.reduceMul, Nat.reduceLT, Nat.reduceLeDiff, Nat.reduceEqDiff, Nat.reduceMod, Nat.reduceDiv, Int.reduceAdd, Int.reduceSub, Int.reduceMul, Int.reduceLT, Int.reduceLE, Int.reduceEq, Int.reduceNeg, Int.reduceToNat, reduceIte, reduceCtorEq, Int.reduceBEq, Int.reduceBNe, hb2, hb4, hb6, hb8, e2]
        refine useL (_ :: _ :: _ :: _ :: _ :: Nq) (jown_R hvq hn hu hma hsl) (JoR.rd _) hgq.marks ⟨(fresh_app_iff.1 hb8.2.2.2.2.2.2.2.2).2, p6, p4, p2, pE, hfq⟩ fun w' M2 hg2 hL2 hq2 => ?_
        obtain ⟨vs2, vu2, vm2, rfl, y1, y2, y3⟩ := hq2
        obtain ⟨x1, k1, rfl⟩ := y1.slice
        obtain ⟨x2, k2, rfl⟩ := y2.slice
        obtain ⟨x3, k3, rfl⟩ := y3.slice
        simp only [push_cast, Nat.reduceAdd, Nat.reduceSub, Nat.reduceMul, Nat.reduceLT, Nat.reduceLeDiff, Nat.reduceEqDiff, Nat.reduceMod, Nat.reduceDiv, Int.reduceAdd, Int.reduceSub, Int.reduceMul, Int.reduceLT, Int.reduceLE, Int.reduceEq, Int.reduceNeg, Int.reduceToNat, reduceIte, reduceCtorEq, Int.reduceBEq, Int.reduceBNe, hb2, hb4, hb6, hb8]
        exact doneE [_, _, _, _, _] Nq ((hgb.trans hgq).trans hg2) ho.wr.2 (JeR.rd (j, er)) (by rw [← hRe, hrun]; exact ⟨_, rfl, _, _, _, rfl, y1, y2, y3⟩)
      have hul2 : now.undo.length < 2000 := by omega
      have e2 : ((now.undo.length : Int) == 2000) = false := by rw [beq_eq_false_iff_ne]; omega
      rw [if_neg (by omega)] at hrun
      have hrl := hri.len
      simp only [push_cast, Nat.reduceAdd, Nat.reduceSub, Nat.reduceMul, Nat.reduceLT, Nat.reduceLeDiff, Nat.reduceEqDiff, Nat.reduceMod, Nat.reduceDiv, Int.reduceAdd, Int.reduceSub, Int.reduceMul, Int.reduceLT, Int.reduceLE, Int.reduceEq, Int.reduceNeg, Int.reduceToNat, reduceIte, reduceCtorEq, Int.reduceBEq, Int.reduceBNe, hb2, hb4, hb6, hb8, e2]
      refine useB (_ :: _ :: _ :: _ :: _ :: Nq) (sdo_ok hw (by omega) (fun y hy => by have := (mayA_slots (hri.may y hy)).len; omega)) (DoO.rd _ _) hgq.marks ⟨(fresh_app_iff.1 hb8.2.2.2.2.2.2.2.2).2, p6, p4, p2, pE, hfq⟩ fun w' N1 M2 hg2 hf hL hwN hmN hq => ?_
      obtain ⟨w1, rfl, hq⟩ := hq
      obtain ⟨pw2, kw2, rfl⟩ : ∃ p k, w1 = .slice p (doS now.state c).1.length k := (hq.r hf).slice
      simp only [push_cast, Nat.reduceAdd, Nat.reduceSub, Nat.reduceMul, Nat.reduceLT, Nat.reduceLeDiff, Nat.reduceEqDiff, Nat.reduceMod, Nat.reduceDiv, Int.reduceAdd, Int.reduceSub, Int.reduceMul, Int.reduceLT, Int.reduceLE, Int.reduceEq, Int.reduceNeg, Int.reduceToNat, reduceIte, reduceCtorEq, Int.reduceBEq, Int.reduceBNe, hb2, hb4, hb6, hb8]
      intro b10 hb10
      refine WpV.perm (H' := ⟨b10, 0, .cel 31, (doS now.state c).2.1.cells⟩ :: ⟨b8, 0, .cel 31, c.cells⟩ :: ⟨b6, 0, .cel 37, [.slice pw1 now.state.length kw1, .slice pn1 now.undo.length kn1, .slice pk j.marks.length kk]⟩ :: ⟨b4, 0, .cel 37, [.slice none 0 0, .slice none 0 0, .slice none 0 0]⟩ :: ⟨b2, 0, .cel 37, [.slice ps j.state.length ks, .slice pu j.undo.length ku, .slice pm j.marks.length km]⟩ :: ⟨bE, 0, .ro, l.flatMap Ch.cells ++ zs⟩ :: (Nq ++ (M2 ++ N1))) ?_ ?_ ?_
      · exact ((((((List.Perm.append_left Nq List.perm_append_comm).cons _).cons _).cons _).cons _).cons _).cons _
      · simp [marksOf, marks_append, hmN]
      obtain ⟨x8, x6, x4, x2, xE, xq⟩ := hL
      obtain ⟨M3, hM3⟩ : ∃ M3, M3 = M2 ++ N1 := ⟨_, rfl⟩
      have sw2 : ∀ {b}, fresh b (N1 ++ M2) → fresh b M3 := fun h => by rw [hM3]; exact fresh_appS (fresh_app_iff.1 h).2 (fresh_app_iff.1 h).1
      have hg3 : Gr Mq M3 := hg2.trans ⟨hg2.marks, N1, hM3, hwN, hmN⟩
      have hsw : StR (doS now.state c).1 (.slice pw2 (doS now.state c).1.length kw2) M3 := by rw [hM3]; exact StR.rd _ _ _ _ (cellsAt_swap hf) (hq.r hf)
      have hfq3 : freshN Nq M3 := by rw [hM3]; exact freshN_comb (freshN_mono xq).2 (freshN_mono xq).1
      have y10 : fresh b10 M3 := sw2 (fresh_app_iff.1 hb10.2.2.2.2.2.2.2.2.2.2).2
      have z10 : fresh b10 Nq := (fresh_app_iff.1 hb10.2.2.2.2.2.2.2.2.2.2).1
      have z8 : fresh b8 Nq := (fresh_app_iff.1 hb8.2.2.2.2.2.2.2.2).1
      have z6 : fresh b6 Nq := (fresh_app_iff.1 q6).1
      have z4 : fresh b4 Nq := (fresh_app_iff.1 q4).1
      have z2 : fresh b2 Nq := (fresh_app_iff.1 q2).1
      have zE : fresh bE Nq := (fresh_app_iff.1 qE).1
      have y8 := sw2 x8
      have y6 := sw2 x6
      have y4 := sw2 x4
      have y2 := sw2 x2
      have yE := sw2 xE
      rw [← hM3]
      refine regO gJ1_ok ?_
      by_cases hd : (doS now.state c).2.2 = 0
      case neg =>
        rw [if_neg hd] at hrun
        have hbn : ((doS now.state c).2.2 != 0) = true := bne_iff_ne.2 hd
        simp only [push_cast, Nat.reduceAdd, Nat.reduceSub, Nat.reduceMul, Nat.reduceLT, Nat.reduceLeDiff, Nat.reduceEqDiff, Nat.reduceMod, Nat.reduceDiv, Int.reduceAdd, Int.reduceSub, Int.reduceMul, Int.reduceLT, Int.reduceLE, Int.reduceEq, Int.reduceNeg, Int.reduceToNat, reduceIte, reduceCtorEq, Int.reduceBEq, Int.reduceBNe, hb2, hb4, hb6, hb8, hb10, hbn]
        refine useL (_ :: _ :: _ :: _ :: _ :: _ :: Nq) (jown_R (hvq.ext hg3.ext) hn hu hma hsl) (JoR.rd _) hg3.marks ⟨y10, y8, y6, y4, y2, yE, hfq3⟩ fun w' M4 hg4 hL4 hq4 => ?_
        obtain ⟨vs2, vu2, vm2, rfl, t1, t2, t3⟩ := hq4
        obtain ⟨x1, k1, rfl⟩ := t1.slice
        obtain ⟨x2, k2, rfl⟩ := t2.slice
        obtain ⟨x3, k3, rfl⟩ := t3.slice
        simp only [push_cast, Nat.reduceAdd, Nat.reduceSub, Nat.reduceMul, Nat.reduceLT, Nat.reduceLeDiff, Nat.reduceEqDiff, Nat.reduceMod, Nat.reduceDiv, Int.reduceAdd, Int.reduceSub, Int.reduceMul, Int.reduceLT, Int.reduceLE, Int.reduceEq, Int.reduceNeg, Int.reduceToNat, reduceIte, reduceCtorEq, Int.reduceBEq, Int.reduceBNe, hb2, hb4, hb6, hb8, hb10]
        exact doneE [_, _, _, _, _, _] Nq (((hgb.trans hgq).trans hg3).trans hg4) ho.wr.2 (JeR.rd (j, er)) (by rw [← hRe, hrun]; exact ⟨_, rfl, _, _, _, rfl, t1, t2, t3⟩)
      rw [if_pos hd] at hrun
      have hri2 := (doS_iff.1 hd).right
      have hbn : ((doS now.state c).2.2 != 0) = false := by rw [hd]; rfl
      obtain ⟨uc, huc⟩ : ∃ uc, uc = (doS now.state c).2.1 := ⟨_, rfl⟩
      obtain ⟨t, ht⟩ : ∃ t, t = (doS now.state c).1 := ⟨_, rfl⟩
      rw [← huc, ← ht] at hrun
      rw [← ht] at hri2 hsw
      rw [← huc, ← ht]
      simp only [push_cast, Nat.reduceAdd, Nat.reduceSub, Nat.reduceMul, Nat.reduceLT, Nat.reduceLeDiff, Nat.reduceEqDiff, Nat.reduceMod, Nat.reduceDiv, Int.reduceAdd, Int.reduceSub, Int.reduceMul, Int.reduceLT, Int.reduceLE, Int.reduceEq, Int.reduceNeg, Int.reduceToNat, reduceIte, reduceCtorEq, Int.reduceBEq, Int.reduceBNe, hb2, hb4, hb6, hb8, hb10, hbn]
      intro bs hbs
      have zs : fresh bs Nq := (fresh_app_iff.1 hbs.2.2.2.2.2.2.2.2.2.2.2.2).1
      refine push_gA (P := Tryz.prog) [_, _, _, _, _, _] (by_ := 120) (q := 31) (ag := true) ho ⟨zs, z10, z8, z6, z4, z2, zE, trivial⟩ (by simp only [push_cast, Nat.reduceAdd, Nat.reduceSub, Nat.reduceMul, Nat.reduceLT, Nat.reduceLeDiff, Nat.reduceEqDiff, Nat.reduceMod, Nat.reduceDiv, Int.reduceAdd, Int.reduceSub, Int.reduceMul, Int.reduceLT, Int.reduceLE, Int.reduceEq, Int.reduceNeg, Int.reduceToNat, reduceIte, reduceCtorEq, Int.reduceBEq, Int.reduceBNe]) (by simp only [push_cast, Nat.reduceAdd, Nat.reduceSub, Nat.reduceMul, Nat.reduceLT, Nat.reduceLeDiff, Nat.reduceEqDiff, Nat.reduceMod, Nat.reduceDiv, Int.reduceAdd, Int.reduceSub, Int.reduceMul, Int.reduceLT, Int.reduceLE, Int.reduceEq, Int.reduceNeg, Int.reduceToNat, reduceIte, reduceCtorEq, Int.reduceBEq, Int.reduceBNe]) uc.len (by have := chAll [uc]; simpa using this) (by unfold two47; omega) fun v3 N3 ho4 hf4 => ?_
      obtain ⟨p3, k3, hv3⟩ := ho4.slice
      subst hv3
      rcases ho4 with ⟨r1, -⟩ | ⟨bu, cu, r3, r4, r5, hN3⟩
      · rw [List.length_append] at r1; simp at r1
      obtain ⟨hq3, -⟩ := (show freshN [⟨bu, 0, .vec 31 31 cu, (now.undo ++ [uc]).flatMap Ch.cells⟩] _ from hN3 ▸ hf4)
      rw [hN3]
      have hbu := hq3
      simp only [push_cast, Nat.reduceAdd, Nat.reduceSub, Nat.reduceMul, Nat.reduceLT, Nat.reduceLeDiff, Nat.reduceEqDiff, Nat.reduceMod, Nat.reduceDiv, Int.reduceAdd, Int.reduceSub, Int.reduceMul, Int.reduceLT, Int.reduceLE, Int.reduceEq, Int.reduceNeg, Int.reduceToNat, reduceIte, reduceCtorEq, Int.reduceBEq, Int.reduceBNe] at hbu
      simp only [push_cast, Nat.reduceAdd, Nat.reduceSub, Nat.reduceMul, Nat.reduceLT, Nat.reduceLeDiff, Nat.reduceEqDiff, Nat.reduceMod, Nat.reduceDiv, Int.reduceAdd, Int.reduceSub, Int.reduceMul, Int.reduceLT, Int.reduceLE, Int.reduceEq, Int.reduceNeg, Int.reduceToNat, reduceIte, reduceCtorEq, Int.reduceBEq, Int.reduceBNe, hb2, hb4, hb6, hb8, hb10, hbs, hbu, wrap_i64' (show -9223372036854775808 ≤ (i : Int) + 1 ∧ (i : Int) + 1 ≤ 9223372036854775807 by omega)]
      obtain ⟨-, -, -, -, -, -, u6, u6', u4, u4', u2, u2', uE, uE', uM⟩ := hbu
      have ys : fresh bs M3 := (fresh_app_iff.1 hbs.2.2.2.2.2.2.2.2.2.2.2.2).2
      have hl2 : (now.undo ++ [uc]).length = now.undo.length + 1 := by simp
      refine ⟨⟨(((i + 1, ⟨t, now.undo ++ [uc], now.marks⟩), (.slice pw2 t.length kw2, .slice p3 (now.undo.length + 1) k3)), ([⟨bu, 0, .vec 31 31 cu, (now.undo ++ [uc]).flatMap Ch.cells⟩], M3)), hgq.trans hg3, ⟨uM, trivial⟩, ⟨u6', u6, y6⟩, ⟨u4', u4, y4⟩, ⟨u2', u2, y2⟩, ⟨uE', uE, yE⟩⟩, ⟨hlt, hrun, hnm, hri2, by dsimp only; omega, hsw, .inr ⟨bu, cu, ?_, r4, r5, rfl⟩⟩, by dsimp only; omega, rfl, ⟨rfl, by simp [findE], ?_⟩, ?_⟩
      · dsimp only
        rw [← r3, hl2]
      · simp only [remE, if_true]
        show subH (_ :: _ :: _ :: M3) M3
        rw [subH_skip ys, subH_skip y10, subH_skip y8]
        exact subH_self M3
      · simp [marksOf, marks_append]
    · obtain rfl : i = l.length := by omega
      rw [List.drop_length, runJ] at hrun
      exact absurd (congrArg (fun r : Jo × Int => r.2) (hRe.symm.trans hrun)) her
end Go.Proofs.YtkhpncfgimlleaaGreat
set_option linter.unusedSimpArgs false
set_option linter.unusedVariables false
namespace Go.Ev
open Go.RowKit
theorem fresh_roAll {b : Nat} {M : Hp} (h : fresh b M) : fresh b (roAll M) := by
  refine fresh_of fun e he hb => ?_
  have h2 := (roAll_mem he).2
  rw [hb, findE_roAll, findE_freshS h] at h2
  cases h2
end Go.Ev
namespace Go.Proofs.YtkhpncfgimlleaaGreat
open Go Go.Ev Go.Proofs
set_option maxRecDepth 100000
set_option maxHeartbeats 4000000
theorem doE_use {M Y : Hp} {j : Jo} {v : Value} {l : List Ch} {bE c e : Nat} {zs : List Value} {er : Int} {K' : Value → Hp → Prop} (hv : JoR j v M) (hE : fresh bE M) (hri : RiJ j) (hd0 : doJ j l = (j, er)) (her : er ≠ 0) (hll : l.length ≤ 1000000000000)
    (hfe : findE Y bE = some ⟨bE, 0, .vec e 31 c, l.flatMap Ch.cells ++ zs⟩) (hMY : ∀ b x, findE M b = some x → findE Y b = some x) (hk : ∀ v N, allWr N → marksOf N = [] → freshN N Y → JeR (j, er) v (N ++ M) → K' v (N ++ Y)) :
    CallsV Tryz.prog 18 [v, .slice (some ⟨bE, 0, none⟩) l.length c] Y K' := by
  refine (jdoE_ok (M0 := roAll M) (kl := c) (zs := zs) (JoR.rd _ _ _ _ (cellsAt_roAll M).symm hv) (fresh_roAll hE) (roAll_ro M).marks hri hd0 her hll).use ⟨⟨rfl, ?_⟩, derE_sub hMY⟩ ?_
  · unfold cellsAt
    dsimp only
    rw [hfe]
    simp only [Nat.le_refl, if_true, Nat.sub_zero, subL, List.drop_zero, Nat.zero_add]
    rw [List.take_of_length_le (Nat.le_refl _)]
  · rintro v N ⟨h1, h2, h3⟩
    refine ⟨h1, h2, fun hf => hk v N h1 h2 hf (JeR.rd _ _ _ _ (cellsAt_app_ro N M) (h3 ?_))⟩
    refine freshN_iff.2 fun n hn x hx => ?_
    rcases List.mem_cons.1 hx with rfl | hx
    · obtain ⟨h5, h6⟩ := findE_mem hfe
      have := freshN_iff.1 hf n hn _ h5
      exact this
    · exact freshN_iff.1 (freshN_sub hf fun b x h => ⟨x, hMY b x h⟩) n hn x hx
theorem jkeepE {M : Hp} {j : Jo} {v : Value} {m : Int} (hv : JoR j v M) (h : RiJ j) : CallsR Tryz.prog 24 [v, .int .i64 m] M (JeR (keepJ j m)) :=
  (jkeep_ok hv (by have := h.st.len; omega) (by have := h.ul; omega) (by have := h.ml; omega) (fun y hy => by have := (mayA_slots (h.st.may y hy)).len; omega)).toR fun v N1 A _ _ hf hq => by
    obtain ⟨v1, pw, kw, v3, rfl, -, hj⟩ := hq
    exact ⟨_, rfl, hj⟩
end Go.Proofs.YtkhpncfgimlleaaGreat
