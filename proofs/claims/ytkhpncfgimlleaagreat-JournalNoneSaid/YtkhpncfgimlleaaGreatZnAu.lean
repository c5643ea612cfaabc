/- Texts of this claim, merged by program: Vd Rn Ve Vf Vg. -/
import Derived.Test.YtkhpncfgimlleaaGreatZnAt
import Derived.Test.YtkhpncfgimlleaaGreatZnAh
set_option linter.unusedSimpArgs false
set_option linter.unusedVariables false
namespace Go.Ev
structure R5 where
  a : Int
  b : Int
  c : Int
  d : Int
  e : Int
def R5.cells (r : R5) : List Value := [.int .i64 r.a, .int .i64 r.b, .int .i64 r.c, .int .i64 r.d, .int .i64 r.e]
def R5.v (r : R5) : Value := .agg #[.int .i64 r.a, .int .i64 r.b, .int .i64 r.c, .int .i64 r.d, .int .i64 r.e]
def R5.In (r : R5) : Prop := i64In r.a ∧ i64In r.b ∧ i64In r.c ∧ i64In r.d ∧ i64In r.e
def R5.ch (r : R5) : R4 := ⟨r.b, r.c, r.d, r.e⟩
theorem R5.len (r : R5) : r.cells.length = 5 := rfl
noncomputable def stepJ (j : Jo) (r : R5) : Jo :=
  if pickN r.a 6 = 0 then (markJ j).1
  else if pickN r.a 6 = 1 then (if 0 < j.marks.length then (backJ j (pickN r.b j.marks.length : Nat)).1 else j)
  else if pickN r.a 6 = 2 then (if 0 < j.marks.length then (keepJ j (pickN r.b j.marks.length : Nat)).1 else j)
  else (doJ j [chR r.ch]).1
noncomputable def journalR (s : List R4) (l : List R5) : Jo := (l.take 20).foldl stepJ ⟨stateR s, [], []⟩
theorem runJ_ri {j : Jo} (hj : RiJ j) : ∀ (l : List Ch) {now : Jo}, RiJ now → RiJ (runJ j now l).1
  | [], now, h => h
  | c :: l, now, h => by
    rw [runJ]
    split
    · exact hj
    · split
      · rename_i h1 h2
        exact runJ_ri hj l (h.step (doS_iff.1 h2) (by omega))
      · exact hj
theorem JoR.app {N M : Hp} {j : Jo} {v : Value} (h : JoR j v M) (hf : freshN N M) : JoR j v (N ++ M) := by
  obtain ⟨vs, vu, vm, rfl, h1, h2, h3⟩ := h
  exact ⟨vs, vu, vm, rfl, h1.app hf, h2.app hf, h3.app hf⟩
theorem stepJ_ri {j : Jo} (h : RiJ j) (r : R5) : RiJ (stepJ j r) := by
  have hr := rightJ_iff.2 h
  have hk : ∀ m : Nat, RiJ (keepJ j m).1 := fun m => by
    unfold keepJ
    rw [if_pos hr]
    split
    · exact h
    · exact h.keep _
  unfold stepJ
  split
  · unfold markJ
    rw [if_pos hr]
    split
    · exact h
    · exact h.mark (by omega)
  split
  · split
    · rename_i hm
      unfold backJ
      split
      · have hp := pickN_lt r.b (show (0 : Int) < (j.marks.length : Int) by omega)
        have := h.back (m := pickN r.b j.marks.length) (by omega)
        simpa using this
      · exact hk _
    · exact h
  split
  · split
    · exact hk _
    · exact h
  · unfold doJ
    rw [if_pos hr]
    exact runJ_ri h _ h
theorem RiJ.open {s : List Ac} (h : RiS s) : RiJ ⟨s, [], []⟩ := ⟨by simp, by simp, rfl, fun m hm => by simp at hm, h, rfl⟩
theorem foldJ_ri : ∀ (l : List R5) {j : Jo}, RiJ j → RiJ (l.foldl stepJ j)
  | [], _, h => h
  | r :: l, j, h => by rw [List.foldl_cons]; exact foldJ_ri l (stepJ_ri h r)
theorem journalR_ri (s : List R4) (l : List R5) : RiJ (journalR s l) := foldJ_ri _ (RiJ.open (stateR_ri s))
theorem CallsV.pre {P : Program} {g : FuncId} {args : List Value} {H H' : Hp} {K : Value → Hp → Prop} (hp : H.Perm H') (hm : marksOf H' = marksOf H) (hc : CallsV P g args H' K) : CallsV P g args H K := by
  refine ⟨hc.1, fun w0 mu w hs => (hc.2 w0 mu w (hs.perm hp)).mono ?_⟩
  rintro e w' ⟨v, H'', h1, h2, h3, h4⟩
  exact ⟨v, H'', h1, h2, h3, h4.trans hm⟩
theorem LiR.one1 {P : Ch} {b c : Nat} {k : Kind} {H : Hp} : LiR Ch.cells 31 (⟨b, 0, k, P.cells⟩ :: H) [P] (.slice (some ⟨b, 0, none⟩) 1 c) := by
  refine ⟨_, c, rfl, .inr ⟨b, 0, rfl, ?_⟩⟩
  have hl := P.len
  unfold cellsAt
  simp only [findE, if_true, Nat.sub_zero, subL, List.drop_zero, List.length_singleton, Nat.one_mul, Nat.zero_add, List.flatMap_cons, List.flatMap_nil, List.append_nil]
  rw [if_pos (Nat.zero_le _), if_pos (by omega), List.take_of_length_le (by omega)]
end Go.Ev
namespace Go.Proofs.YtkhpncfgimlleaaGreat
open Go Go.Ev Go.Proofs
set_option maxRecDepth 100000
set_option maxHeartbeats 4000000
theorem refJmark_R {M : Hp} {j : Jo} {v : Value} (hv : JoR j v M) (h : RiJ j) : CallsR Tryz.prog 21 [v] M (JmR (markJ j)) :=
  (refJmark_ok hv (by have := h.st.len; omega) (by have := h.ul; omega) (by have := h.ml; omega) (fun y hy => by have := (mayA_slots (h.st.may y hy)).len; omega)).toR fun v N1 A _ _ hf hq => hq
theorem refJdo_R {M : Hp} {j : Jo} {v lv : Value} {l : List Ch} (hv : JoR j v M) (hl : LiR Ch.cells 31 M l lv) (h : RiJ j) (hll : l.length ≤ 1000000000000) : CallsR Tryz.prog 19 [v, lv] M (JeR (doJ j l)) :=
  (refJdo_ok hv hl (by have := h.st.len; omega) (by have := h.ul; omega) (by have := h.ml; omega) (fun y hy => by have := (mayA_slots (h.st.may y hy)).len; omega) hll).toR fun v N1 A _ _ hf hq => hq
theorem step_ok {M : Hp} {j : Jo} {v : Value} {r : R5} (hv : JoR j v M) (h : RiJ j) (hr5 : r.In) : CallsR Tryz.prog 29 [v, r.v] M (JoR (stepJ j r)) := by
  intro M0 hr he
  have hm := hr.marks
  replace hv := JoR.rd _ _ _ _ he.symm hv
  have hv0 := hv
  obtain ⟨vs, vu, vm, rfl, h1, h2, h3⟩ := hv
  obtain ⟨ps, ks, rfl⟩ := h1.slice
  obtain ⟨pu, ku, rfl⟩ := h2.slice
  obtain ⟨pm, km, rfl⟩ := h3.slice
  obtain ⟨a, b, c, d, e⟩ := r
  obtain ⟨ia, ib, ic, id, ie⟩ := hr5
  dsimp only at ia ib ic id ie
  have j6 : i64In 6 := by decide
  have pa := pickN_lt a (show (0 : Int) < 6 by decide)
  have hul := h.ul
  have hml := h.ml
  have hsl := h.st.len
  have hss : ∀ y ∈ j.state, y.slots.length ≤ 2000 := fun y hy => by have := (mayA_slots (h.st.may y hy)).len; omega
  obtain ⟨R, hR⟩ : ∃ R, R = stepJ j ⟨a, b, c, d, e⟩ := ⟨_, rfl⟩
  rw [← hR]
  unfold stepJ at hR
  dsimp only at hR
  obtain ⟨x, hx⟩ : ∃ x, x = pickN a 6 := ⟨_, rfl⟩
  rw [← hx] at pa hR
  show CallsV Tryz.prog _ [_, .agg #[.int .i64 a, .int .i64 b, .int .i64 c, .int .i64 d, .int .i64 e]] _ _
  refine callsO gV2_ok Tryz.mix Tryz.pl29 Tryz.func29 rfl Tryz.ntmps29 Tryz.results29 rfl (by first | rfl | assumption) (Nat.le_of_ble_eq_true rfl) (by kernel_rfl) ?_
  simp only [push_cast, Nat.reduceAdd, Nat.reduceSub, Nat.reduceMul, Nat.reduceLT, Nat.reduceLeDiff, Nat.reduceEqDiff, Nat.reduceMod, Nat.reduceDiv, Int.reduceAdd, Int.reduceSub, Int.reduceMul, Int.reduceLT, Int.reduceLE, Int.reduceEq, Int.reduceNeg, Int.reduceToNat, reduceIte, reduceCtorEq, Int.reduceBEq, Int.reduceBNe]
  intro b2 hb2 b3 hb3 b4 hb4
  simp only [push_cast, Nat.reduceAdd, Nat.reduceSub, Nat.reduceMul, Nat.reduceLT, Nat.reduceLeDiff, Nat.reduceEqDiff, Nat.reduceMod, Nat.reduceDiv, Int.reduceAdd, Int.reduceSub, Int.reduceMul, Int.reduceLT, Int.reduceLE, Int.reduceEq, Int.reduceNeg, Int.reduceToNat, reduceIte, reduceCtorEq, Int.reduceBEq, Int.reduceBNe, hb3, hb4]
  intro b5 hb5
  have f2 : fresh b2 M0 := hb2
  have f3 : fresh b3 M0 := hb3.2.2
  have f4 : fresh b4 M0 := hb4.2.2.2.2
  have f5 : fresh b5 M0 := hb5.2.2.2.2.2.2
  rcases (show x = 0 ∨ x = 1 ∨ x = 2 ∨ (3 ≤ x ∧ x < 6) by omega) with rfl | rfl | rfl | ⟨x3, x6⟩
  · simp only [push_cast, Nat.reduceAdd, Nat.reduceSub, Nat.reduceMul, Nat.reduceLT, Nat.reduceLeDiff, Nat.reduceEqDiff, Nat.reduceMod, Nat.reduceDiv, Int.reduceAdd, Int.reduceSub, Int.reduceMul, Int.reduceLT, Int.reduceLE, Int.reduceEq, Int.reduceNeg, Int.reduceToNat, reduceIte, reduceCtorEq, Int.reduceBEq, Int.reduceBNe, hb3, hb4, hb5, ia, j6, ← hx]
    refine useL [_, _, _, _] (refJmark_R hv0 h) (JmR.rd _) hm ⟨f5, f4, f3, f2, trivial⟩ fun w M1 hg1 hL1 hq1 => ?_
    obtain ⟨w1, rfl, vs2, vu2, vm2, rfl, y1, y2, y3⟩ := hq1
    obtain ⟨x1, k1, rfl⟩ := y1.slice
    obtain ⟨x2, k2, rfl⟩ := y2.slice
    obtain ⟨x3, k3, rfl⟩ := y3.slice
    simp only [push_cast, Nat.reduceAdd, Nat.reduceSub, Nat.reduceMul, Nat.reduceLT, Nat.reduceLeDiff, Nat.reduceEqDiff, Nat.reduceMod, Nat.reduceDiv, Int.reduceAdd, Int.reduceSub, Int.reduceMul, Int.reduceLT, Int.reduceLE, Int.reduceEq, Int.reduceNeg, Int.reduceToNat, reduceIte, reduceCtorEq, Int.reduceBEq, Int.reduceBNe, hb3, hb4, hb5]
    exact doneK2 [_, _, _, _] hg1 (JoR.rd _) (by rw [hR]; exact ⟨_, _, _, rfl, y1, y2, y3⟩)
  · have jm : i64In (j.marks.length : Int) := ⟨by omega, by omega⟩
    by_cases hm0 : 0 < j.marks.length
    · have hm1 : (0 : Int) < (j.marks.length : Int) := by omega
      rw [if_neg (by decide), if_pos rfl, if_pos hm0] at hR
      simp only [push_cast, Nat.reduceAdd, Nat.reduceSub, Nat.reduceMul, Nat.reduceLT, Nat.reduceLeDiff, Nat.reduceEqDiff, Nat.reduceMod, Nat.reduceDiv, Int.reduceAdd, Int.reduceSub, Int.reduceMul, Int.reduceLT, Int.reduceLE, Int.reduceEq, Int.reduceNeg, Int.reduceToNat, reduceIte, reduceCtorEq, Int.reduceBEq, Int.reduceBNe, hb3, hb4, hb5, ia, ib, j6, jm, hm0, hm1, ← hx]
      refine useL [_, _, _, _] (refJback_ok (m := (pickN b j.marks.length : Nat)) hv0 (by omega) (by omega) (by omega) hss) (JeR.rd _) hm ⟨f5, f4, f3, f2, trivial⟩ fun w M1 hg1 hL1 hq1 => ?_
      obtain ⟨w1, rfl, vs2, vu2, vm2, rfl, y1, y2, y3⟩ := hq1
      obtain ⟨x1, k1, rfl⟩ := y1.slice
      obtain ⟨x2, k2, rfl⟩ := y2.slice
      obtain ⟨x3, k3, rfl⟩ := y3.slice
      simp only [push_cast, Nat.reduceAdd, Nat.reduceSub, Nat.reduceMul, Nat.reduceLT, Nat.reduceLeDiff, Nat.reduceEqDiff, Nat.reduceMod, Nat.reduceDiv, Int.reduceAdd, Int.reduceSub, Int.reduceMul, Int.reduceLT, Int.reduceLE, Int.reduceEq, Int.reduceNeg, Int.reduceToNat, reduceIte, reduceCtorEq, Int.reduceBEq, Int.reduceBNe, hb3, hb4, hb5]
      refine ⟨subH_gr (N := []) trivial hg1, ?_⟩
      exact doneK2 [_, _, _, _] hg1 (JoR.rd _) (by rw [hR]; exact ⟨_, _, _, rfl, y1, y2, y3⟩)
    · have hm1 : ¬ (0 : Int) < (j.marks.length : Int) := by omega
      rw [if_neg (by decide), if_pos rfl, if_neg hm0] at hR
      simp only [push_cast, Nat.reduceAdd, Nat.reduceSub, Nat.reduceMul, Nat.reduceLT, Nat.reduceLeDiff, Nat.reduceEqDiff, Nat.reduceMod, Nat.reduceDiv, Int.reduceAdd, Int.reduceSub, Int.reduceMul, Int.reduceLT, Int.reduceLE, Int.reduceEq, Int.reduceNeg, Int.reduceToNat, reduceIte, reduceCtorEq, Int.reduceBEq, Int.reduceBNe, hb3, hb4, hb5, ia, j6, hm0, hm1, ← hx]
      exact doneK2 [_, _, _, _] (Gr.refl hm) (JoR.rd _) (by rw [hR]; exact hv0)
  · have jm : i64In (j.marks.length : Int) := ⟨by omega, by omega⟩
    by_cases hm0 : 0 < j.marks.length
    · have hm1 : (0 : Int) < (j.marks.length : Int) := by omega
      rw [if_neg (by decide), if_neg (by decide), if_pos rfl, if_pos hm0] at hR
      simp only [push_cast, Nat.reduceAdd, Nat.reduceSub, Nat.reduceMul, Nat.reduceLT, Nat.reduceLeDiff, Nat.reduceEqDiff, Nat.reduceMod, Nat.reduceDiv, Int.reduceAdd, Int.reduceSub, Int.reduceMul, Int.reduceLT, Int.reduceLE, Int.reduceEq, Int.reduceNeg, Int.reduceToNat, reduceIte, reduceCtorEq, Int.reduceBEq, Int.reduceBNe, hb3, hb4, hb5, ia, ib, j6, jm, hm0, hm1, ← hx]
      refine useL [_, _, _, _] (refJkeep_R (m := (pickN b j.marks.length : Nat)) hv0 (by omega) (by omega) (by omega) hss) (JeC.rd _) hm ⟨f5, f4, f3, f2, trivial⟩ fun w M1 hg1 hL1 hq1 => ?_
      obtain ⟨v1, pw, kw, v3, rfl, -, vs2, vu2, vm2, hve, y1, y2, y3⟩ := hq1
      rw [hve]
      obtain ⟨x1, k1, rfl⟩ := y1.slice
      obtain ⟨x2, k2, rfl⟩ := y2.slice
      obtain ⟨x3, k3, rfl⟩ := y3.slice
      simp only [push_cast, Nat.reduceAdd, Nat.reduceSub, Nat.reduceMul, Nat.reduceLT, Nat.reduceLeDiff, Nat.reduceEqDiff, Nat.reduceMod, Nat.reduceDiv, Int.reduceAdd, Int.reduceSub, Int.reduceMul, Int.reduceLT, Int.reduceLE, Int.reduceEq, Int.reduceNeg, Int.reduceToNat, reduceIte, reduceCtorEq, Int.reduceBEq, Int.reduceBNe, hb3, hb4, hb5]
      refine ⟨subH_gr (N := []) trivial hg1, ?_⟩
      exact doneK2 [_, _, _, _] hg1 (JoR.rd _) (by rw [hR]; exact ⟨_, _, _, rfl, y1, y2, y3⟩)
    · have hm1 : ¬ (0 : Int) < (j.marks.length : Int) := by omega
      rw [if_neg (by decide), if_neg (by decide), if_pos rfl, if_neg hm0] at hR
      simp only [push_cast, Nat.reduceAdd, Nat.reduceSub, Nat.reduceMul, Nat.reduceLT, Nat.reduceLeDiff, Nat.reduceEqDiff, Nat.reduceMod, Nat.reduceDiv, Int.reduceAdd, Int.reduceSub, Int.reduceMul, Int.reduceLT, Int.reduceLE, Int.reduceEq, Int.reduceNeg, Int.reduceToNat, reduceIte, reduceCtorEq, Int.reduceBEq, Int.reduceBNe, hb3, hb4, hb5, ia, j6, hm0, hm1, ← hx]
      exact doneK2 [_, _, _, _] (Gr.refl hm) (JoR.rd _) (by rw [hR]; exact hv0)
  · rw [if_neg (by omega), if_neg (by omega), if_neg (by omega)] at hR
    have e0 : ((x : Int) == 0) = false := by rw [beq_eq_false_iff_ne]; omega
    have e1 : ((x : Int) == 1) = false := by rw [beq_eq_false_iff_ne]; omega
    have e2 : ((x : Int) == 2) = false := by rw [beq_eq_false_iff_ne]; omega
    simp only [push_cast, Nat.reduceAdd, Nat.reduceSub, Nat.reduceMul, Nat.reduceLT, Nat.reduceLeDiff, Nat.reduceEqDiff, Nat.reduceMod, Nat.reduceDiv, Int.reduceAdd, Int.reduceSub, Int.reduceMul, Int.reduceLT, Int.reduceLE, Int.reduceEq, Int.reduceNeg, Int.reduceToNat, reduceIte, reduceCtorEq, Int.reduceBEq, Int.reduceBNe, hb3, hb4, hb5, ia, ib, ic, id, ie, j6, ← hx, e0, e1, e2]
    intro bs hbs
    simp only [push_cast, Nat.reduceAdd, Nat.reduceSub, Nat.reduceMul, Nat.reduceLT, Nat.reduceLeDiff, Nat.reduceEqDiff, Nat.reduceMod, Nat.reduceDiv, Int.reduceAdd, Int.reduceSub, Int.reduceMul, Int.reduceLT, Int.reduceLE, Int.reduceEq, Int.reduceNeg, Int.reduceToNat, reduceIte, reduceCtorEq, Int.reduceBEq, Int.reduceBNe, hb3, hb4, hb5, hbs]
    have fs : fresh bs M0 := hbs.2.2.2.2.2.2.2.2
    refine CallsV.pre (H' := _ :: _ :: _ :: _ :: (_ :: M0)) ((((List.Perm.swap _ _ _).trans ((List.Perm.swap _ _ _).cons _)).trans (((List.Perm.swap _ _ _).cons _).cons _)).trans ((((List.Perm.swap _ _ _).cons _).cons _).cons _)) (by simp [marksOf]) ?_
    refine useL [_, _, _, _] (refJdo_R (l := [chR ⟨b, c, d, e⟩]) (hv0.app (N := [_]) ⟨fs, trivial⟩) LiR.one1 h (by simp)) (JeR.rd _) (by simpa [marksOf] using hm) ⟨?_, ?_, ?_, ?_, trivial⟩ fun w M1 hg1 hL1 hq1 => ?_
    · exact ⟨hbs.2.1, hbs.1, f5⟩
    · exact ⟨hbs.2.2.2.1, hbs.2.2.1, f4⟩
    · exact ⟨hbs.2.2.2.2.2.1, hbs.2.2.2.2.1, f3⟩
    · exact ⟨hbs.2.2.2.2.2.2.2.1, hbs.2.2.2.2.2.2.1, f2⟩
    obtain ⟨w1, rfl, vs2, vu2, vm2, rfl, y1, y2, y3⟩ := hq1
    obtain ⟨x1, k1, rfl⟩ := y1.slice
    obtain ⟨x2, k2, rfl⟩ := y2.slice
    obtain ⟨x3, k3, rfl⟩ := y3.slice
    obtain ⟨-, N, rfl, hwN, hmN⟩ := hg1
    simp only [push_cast, Nat.reduceAdd, Nat.reduceSub, Nat.reduceMul, Nat.reduceLT, Nat.reduceLeDiff, Nat.reduceEqDiff, Nat.reduceMod, Nat.reduceDiv, Int.reduceAdd, Int.reduceSub, Int.reduceMul, Int.reduceLT, Int.reduceLE, Int.reduceEq, Int.reduceNeg, Int.reduceToNat, reduceIte, reduceCtorEq, Int.reduceBEq, Int.reduceBNe, hb3, hb4, hb5, hbs]
    refine ⟨subH_front N M0, ⟨bs, 0, .vec 31 31 1, (chR ⟨b, c, d, e⟩).cells⟩ :: N, ?_, ⟨trivial, hwN⟩, by simpa [marksOf] using hmN, fun hf => ?_⟩
    · rw [dropM_eq (by rw [marks_append, hm, hmN]; rfl)]
      exact (((((List.sublist_append_right M0 N).cons_cons _).cons _).cons _).cons _).cons _
    · rw [hR]
      refine JoR.rd _ _ _ _ ?_ (show JoR (doJ j [chR ⟨b, c, d, e⟩]).1 _ ([⟨bs, 0, .vec 31 31 1, (chR ⟨b, c, d, e⟩).cells⟩] ++ (M0 ++ N)) from ⟨_, _, _, rfl, y1, y2, y3⟩)
      exact (cellsAt_front [_] (cellsAt_swap hf.2)).symm
end Go.Proofs.YtkhpncfgimlleaaGreat
set_option linter.unusedSimpArgs false
set_option linter.unusedVariables false
namespace Go.Ev
open Go.ChangeShapes Go.WideShapes Go.ChangeAt Go.RowKit
section
variable {H : Type} {enc : TypeId × Value → H} {P : Program} {w : World} {base : Nat} {spare : Nat → Bool} {held : Bool} {T : TypeId → Prop}
theorem slice_of_cells (K : Kids P T) {d fuel : Nat} {t e : TypeId} {ks : List FK} {cs : List Value} {x : DataW H × List MemPlace} (ht : P.underlying t = some (.slice e)) (hT : T t) (hks : flatT P d e = some ks) (hpos : 0 < P.cellsOf e)
    (hf : DataW.trod enc P w base spare held fuel t cs = some x) : ∃ (p : Option Addr) (len cap : Nat) (f : Nat → List Value), cs = [.slice p len cap] ∧ len ≤ cap ∧ cap ≤ maxLen ∧ (∀ i, i < len → All2 FK.ok ks (f i)) ∧
      (len = 0 ∨ ∃ b o, p = some ⟨b, o, none⟩ ∧ cellsAt (roW w) b o (len * P.cellsOf e) = some ((List.range len).flatMap f)) := by
  obtain ⟨dd, ps⟩ := x
  rcases Deep.open_slice ht hf with ⟨h1, _⟩ | ⟨a', len, cap, m, n, D, Pl, h1, hb, hl, hm, hmm, _, hx⟩
  · exact ⟨none, 0, 0, fun _ => [], h1, Nat.le_refl _, Nat.zero_le _, fun i hi => absurd hi (Nat.not_lt_zero _), .inl rfl⟩
  · have hlm : len ≤ m := by rw [hmm]; split <;> omega
    obtain ⟨f, hf⟩ := Deep.choose_lt (α := List Value) (n := len) (p := fun i cs' => w.cells? base (a'.add (i * P.cellsOf e)) (P.cellsOf e) = some cs' ∧ All2 FK.ok ks cs') fun i hi => by
      obtain ⟨cs', h2, h3⟩ := hx i (by omega)
      exact ⟨cs', h2, flat_of_trod K d (K.slice hT ht) hks h3⟩
    refine ⟨some a', len, cap, f, h1, hl, hm, fun i hi => (hf i hi).2, ?_⟩
    rcases Nat.eq_zero_or_pos len with h0 | h0
    · exact .inl h0
    · obtain ⟨h4, h5⟩ := roW_row f hpos (fun i hi => (hf i hi).1) h0
      refine .inr ⟨a'.block, a'.off, ?_, h5⟩
      rw [← h4]
theorem liR_of_cells (K : Kids P T) {α : Type} {c : α → List Value} {s d fuel : Nat} {t e : TypeId} {ks : List FK} {cs : List Value} {x : DataW H × List MemPlace} (Q : α → Prop) (hc : ∀ cs, All2 FK.ok ks cs → ∃ y, cs = c y ∧ Q y) (ht : P.underlying t = some (.slice e)) (hT : T t) (hks : flatT P d e = some ks) (hpos : 0 < s) (hs : P.cellsOf e = s)
    (hf : DataW.trod enc P w base spare held fuel t cs = some x) : ∃ l p cap, cs = [.slice p l.length cap] ∧ LiR c s (roW w) l (.slice p l.length cap) ∧ l.length ≤ cap ∧ cap ≤ maxLen ∧ ∀ y ∈ l, Q y := by
  obtain ⟨p, len, cap, f, rfl, hl, hm, hf, hcc⟩ := slice_of_cells K ht hT hks (by omega) hf
  by_cases h0 : len = 0
  · subst h0
    exact ⟨[], p, cap, rfl, ⟨p, cap, rfl, .inl rfl⟩, hl, hm, fun y hy => by cases hy⟩
  obtain ⟨y0, _, _⟩ := hc _ (hf 0 (Nat.pos_of_ne_zero h0))
  haveI : Inhabited α := ⟨y0⟩
  obtain ⟨g, hg⟩ := Deep.choose_lt (α := α) (n := len) (p := fun i y => f i = c y ∧ Q y) fun i hi => hc _ (hf i hi)
  refine ⟨(List.range len).map g, p, cap, by simp, ⟨p, cap, by simp, ?_⟩, by simpa using hl, hm, fun y hy => ?_⟩
  · rcases hcc with rfl | ⟨b, o, rfl, hcc⟩
    · exact .inl rfl
    · refine .inr ⟨b, o, rfl, ?_⟩
      rw [hs] at hcc
      simp only [List.length_map, List.length_range]
      rw [hcc, List.flatMap_map, List.flatMap_def, List.flatMap_def]
      congr 2
      exact List.map_congr_left fun i hi => (hg i (List.mem_range.1 hi)).1
  · obtain ⟨i, hi, rfl⟩ := List.mem_map.1 hy
    exact (hg i (List.mem_range.1 hi)).2
end
end Go.Ev
namespace Go.Proofs.YtkhpncfgimlleaaGreat
open Go Go.Ev Go.Proofs Go.ChangeShapes Go.WideShapes Go.ChangeAt Go.RowKit
set_option maxRecDepth 100000
set_option maxHeartbeats 4000000
theorem r4_cells {cs : List Value} (h : All2 FK.ok [.int .i64, .int .i64, .int .i64, .int .i64] cs) : ∃ x : R4, cs = x.cells ∧ x.In := by
  cases h with
  | cons a0 h =>
    cases h with
    | cons a1 h =>
      cases h with
      | cons a2 h =>
        cases h with
        | cons a3 h =>
          cases h
          obtain ⟨x0, rfl, w0⟩ := a0
          obtain ⟨x1, rfl, w1⟩ := a1
          obtain ⟨x2, rfl, w2⟩ := a2
          obtain ⟨x3, rfl, w3⟩ := a3
          exact ⟨⟨x0, x1, x2, x3⟩, rfl, i64_wf w0, i64_wf w1, i64_wf w2, i64_wf w3⟩
theorem r5_cells {cs : List Value} (h : All2 FK.ok [.int .i64, .int .i64, .int .i64, .int .i64, .int .i64] cs) : ∃ x : R5, cs = x.cells ∧ x.In := by
  cases h with
  | cons a0 h =>
    cases h with
    | cons a1 h =>
      cases h with
      | cons a2 h =>
        cases h with
        | cons a3 h =>
          cases h with
          | cons a4 h =>
            cases h
            obtain ⟨x0, rfl, w0⟩ := a0
            obtain ⟨x1, rfl, w1⟩ := a1
            obtain ⟨x2, rfl, w2⟩ := a2
            obtain ⟨x3, rfl, w3⟩ := a3
            obtain ⟨x4, rfl, w4⟩ := a4
            exact ⟨⟨x0, x1, x2, x3, x4⟩, rfl, i64_wf w0, i64_wf w1, i64_wf w2, i64_wf w3, i64_wf w4⟩
theorem raw4_of {H : Type} {enc : TypeId × Value → H} {W0 : World} {r : Reach} {b0 base : Nat} {spare : Nat → Bool} {held : Bool} {v : Value} {dd : DataW H} {ps : List MemPlace} (hval : Value.okWide Tryz.prog W0 r b0 22 v)
    (h : DataW.Trod enc Tryz.prog W0 base spare held 22 v dd ps) : ∃ l, LiR R4.cells 4 (roW W0) l v ∧ ∀ x ∈ l, x.In := by
  have hu : Tryz.prog.underlying 22 = some (.slice 46) := by kernel_rfl
  obtain ⟨a, len, cap, rfl⟩ := okWide_slice hu hval
  obtain ⟨fuel, hf⟩ := h
  obtain ⟨l, p, k, g, r0, _, _, q⟩ := liR_of_cells kids (c := R4.cells) (s := 4) (d := 8) (e := 46) (ks := [.int .i64, .int .i64, .int .i64, .int .i64]) _ (fun _ => r4_cells) hu (by show _ < _; decide +kernel) (by kernel_rfl) (by decide) (by decide +kernel) hf
  simp only [Value.cells, List.cons.injEq, Value.slice.injEq, and_true] at g
  obtain ⟨rfl, rfl, rfl⟩ := g
  exact ⟨l, r0, q⟩
theorem raw5_of {H : Type} {enc : TypeId × Value → H} {W0 : World} {r : Reach} {b0 base : Nat} {spare : Nat → Bool} {held : Bool} {v : Value} {dd : DataW H} {ps : List MemPlace} (hval : Value.okWide Tryz.prog W0 r b0 23 v)
    (h : DataW.Trod enc Tryz.prog W0 base spare held 23 v dd ps) : ∃ l, LiR R5.cells 5 (roW W0) l v ∧ ∀ x ∈ l, x.In := by
  have hu : Tryz.prog.underlying 23 = some (.slice 60) := by kernel_rfl
  obtain ⟨a, len, cap, rfl⟩ := okWide_slice hu hval
  obtain ⟨fuel, hf⟩ := h
  obtain ⟨l, p, k, g, r0, _, _, q⟩ := liR_of_cells kids (c := R5.cells) (s := 5) (d := 8) (e := 60) (ks := [.int .i64, .int .i64, .int .i64, .int .i64, .int .i64]) _ (fun _ => r5_cells) hu (by show _ < _; decide +kernel) (by kernel_rfl) (by decide) (by decide +kernel) hf
  simp only [Value.cells, List.cons.injEq, Value.slice.injEq, and_true] at g
  obtain ⟨rfl, rfl, rfl⟩ := g
  exact ⟨l, r0, q⟩
end Go.Proofs.YtkhpncfgimlleaaGreat
set_option linter.unusedSimpArgs false
set_option linter.unusedVariables false
namespace Go.Proofs.YtkhpncfgimlleaaGreat
open Go Go.Ev Go.Proofs
set_option maxRecDepth 100000
set_option maxHeartbeats 4000000
theorem jour_ok {M : Hp} {s : List R4} {l : List R5} {v u : Value} (hv : LiR R4.cells 4 M s v) (hl : LiR R5.cells 5 M l u) (hs : ∀ r ∈ s, r.In) (hin : ∀ r ∈ l, r.In) : CallsR Tryz.prog 8 [v, u] M (JoR (journalR s l)) := by
  intro M0 hr he
  have hm := hr.marks
  replace hv := hv.congr he.symm
  replace hl := hl.congr he.symm
  obtain ⟨ps, ks, rfl⟩ := hv.slice
  obtain ⟨p, k, rfl, hla⟩ := hl.openC R5.len (by decide)
  have hri := stateR_ri s
  have hrl := hri.len
  have hrs : ∀ y ∈ stateR s, y.slots.length ≤ 2000 := fun y hy => by have := (mayA_slots (hri.may y hy)).len; omega
  have ho : openJ (stateR s) = (⟨stateR s, [], []⟩, 0) := by unfold openJ; rw [if_pos (rightS_iff.2 hri)]
  refine callsO gV2_ok Tryz.mix Tryz.pl8 Tryz.func8 rfl Tryz.ntmps8 Tryz.results8 rfl (by first | rfl | assumption) (Nat.le_of_ble_eq_true rfl) (by kernel_rfl) ?_
  simp only [push_cast, Nat.reduceAdd, Nat.reduceSub, Nat.reduceMul, Nat.reduceLT, Nat.reduceLeDiff, Nat.reduceEqDiff, Nat.reduceMod, Nat.reduceDiv, Int.reduceAdd, Int.reduceSub, Int.reduceMul, Int.reduceLT, Int.reduceLE, Int.reduceEq, Int.reduceNeg, Int.reduceToNat, reduceIte, reduceCtorEq, Int.reduceBEq, Int.reduceBNe]
  intro b4 hb4
  have f4 : fresh b4 M0 := hb4
  refine useL [_] (state_ok hv hs) (StR.rd _) hm ⟨f4, trivial⟩ fun w M1 hg1 hL1 hq1 => ?_
  obtain ⟨pw, kw, rfl⟩ := hq1.slice
  simp only [push_cast, Nat.reduceAdd, Nat.reduceSub, Nat.reduceMul, Nat.reduceLT, Nat.reduceLeDiff, Nat.reduceEqDiff, Nat.reduceMod, Nat.reduceDiv, Int.reduceAdd, Int.reduceSub, Int.reduceMul, Int.reduceLT, Int.reduceLE, Int.reduceEq, Int.reduceNeg, Int.reduceToNat, reduceIte, reduceCtorEq, Int.reduceBEq, Int.reduceBNe]
  refine useL [_] (refJopen_ok hq1 (by omega) hrs) (JeR.rd _) hg1.marks hL1 fun w M2 hg2 hL2 hq2 => ?_
  rw [ho] at hq2
  obtain ⟨w1, rfl, vs2, vu2, vm2, rfl, y1, y2, y3⟩ := hq2
  obtain ⟨x1, k1, rfl⟩ := y1.slice
  obtain ⟨x2, k2, rfl⟩ := y2.slice
  obtain ⟨x3, k3, rfl⟩ := y3.slice
  simp only [push_cast, Nat.reduceAdd, Nat.reduceSub, Nat.reduceMul, Nat.reduceLT, Nat.reduceLeDiff, Nat.reduceEqDiff, Nat.reduceMod, Nat.reduceDiv, Int.reduceAdd, Int.reduceSub, Int.reduceMul, Int.reduceLT, Int.reduceLE, Int.reduceEq, Int.reduceNeg, Int.reduceToNat, reduceIte, reduceCtorEq, Int.reduceBEq, Int.reduceBNe]
  intro b5 hb5
  have f5 : fresh b5 M2 := hb5.2.2
  have f4 : fresh b4 M2 := hL2.1
  refine loopO gV2_ok (pl := Tryz.pl8) Tryz.mix (X := {x : (Nat × (Value × Value × Value)) × Hp // Gr M0 x.2 ∧ fresh b5 x.2 ∧ fresh b4 x.2})
    (fun x => ([(1, .slice p l.length k), (4, .pointer (some ⟨b4, 0, none⟩)), (5, .pointer (some ⟨b5, 0, none⟩)), (7, .int .i64 x.1.1.1)], ⟨b5, 0, .cel 37, [x.1.1.2.1, x.1.1.2.2.1, x.1.1.2.2.2]⟩ :: ⟨b4, 0, .cel 37, [.slice none 0 0, .slice none 0 0, .slice none 0 0]⟩ :: x.1.2))
    (fun x => x.1.1.1 ≤ l.length ∧ x.1.1.1 ≤ 20 ∧ JoR ((l.take x.1.1.1).foldl stepJ ⟨stateR s, [], []⟩) (.agg #[x.1.1.2.1, x.1.1.2.2.1, x.1.1.2.2.2]) x.1.2) (fun x => l.length - x.1.1.1) ⟨((0, (.slice x1 (stateR s).length k1, .slice x2 0 k2, .slice x3 0 k3)), M2), hg1.trans hg2, f5, f4⟩ ?_ ?_ (by kernel_rfl) ?_
  · exact ⟨Nat.zero_le _, Nat.zero_le _, _, _, _, rfl, y1, y2, y3⟩
  · simp only [push_cast, Nat.reduceAdd, Nat.reduceSub, Nat.reduceMul, Nat.reduceLT, Nat.reduceLeDiff, Nat.reduceEqDiff, Nat.reduceMod, Nat.reduceDiv, Int.reduceAdd, Int.reduceSub, Int.reduceMul, Int.reduceLT, Int.reduceLE, Int.reduceEq, Int.reduceNeg, Int.reduceToNat, reduceIte, reduceCtorEq, Int.reduceBEq, Int.reduceBNe]
  · rintro ⟨⟨⟨ix, va, vb, vc⟩, Mq⟩, hgq, q5, q4⟩ ⟨hi, h20, hw⟩
    dsimp only at hi h20 hw hgq q5 q4 ⊢
    have hrj : RiJ ((l.take ix).foldl stepJ ⟨stateR s, [], []⟩) := foldJ_ri _ (RiJ.open hri)
    obtain ⟨t, ht⟩ : ∃ t, t = (l.take ix).foldl stepJ ⟨stateR s, [], []⟩ := ⟨_, rfl⟩
    rw [← ht] at hw hrj
    have hw0 := hw
    obtain ⟨vs3, vu3, vm3, hve, z1, z2, z3⟩ := hw
    injection hve with hve
    injection hve with hve
    simp only [List.cons.injEq, and_true] at hve
    obtain ⟨rfl, rfl, rfl⟩ := hve
    obtain ⟨p1, n1, rfl⟩ := z1.slice
    obtain ⟨p2, n2, rfl⟩ := z2.slice
    obtain ⟨p3, n3, rfl⟩ := z3.slice
    by_cases hc : ix < l.length ∧ ix < 20
    · obtain ⟨hlt, hl20⟩ := hc
      obtain ⟨r, hr'⟩ : ∃ r, l[ix]? = some r := ⟨l[ix], List.getElem?_eq_getElem hlt⟩
      rcases hla with rfl | ⟨b, f, d, kd, cs, rfl, hfe, hat⟩
      · simp at hlt
      obtain ⟨a1, a2⟩ := hat ix r hr'
      have hee := hgq.find hfe
      have m5 := (fresh_findS q5 hee).2
      have m4 := (fresh_findS q4 hee).2
      have i1 : (ix : Int) < (l.length : Int) := by omega
      have i2 : (ix : Int) < 20 := by omega
      have hs1 : (l.take (ix + 1)).foldl stepJ ⟨stateR s, [], []⟩ = stepJ t r := by
        rw [List.take_add_one, hr', List.foldl_append, ← ht]; rfl
      have hcs := hin r (List.mem_of_getElem? hr')
      have e3 : -9223372036854775808 ≤ (ix : Int) + 1 ∧ (ix : Int) + 1 ≤ 9223372036854775807 := by omega
      have a3 : r.cells.all oneC = true := rfl
      simp only [push_cast, Nat.reduceAdd, Nat.reduceSub, Nat.reduceMul, Nat.reduceLT, Nat.reduceLeDiff, Nat.reduceEqDiff, Nat.reduceMod, Nat.reduceDiv, Int.reduceAdd, Int.reduceSub, Int.reduceMul, Int.reduceLT, Int.reduceLE, Int.reduceEq, Int.reduceNeg, Int.reduceToNat, reduceIte, reduceCtorEq, Int.reduceBEq, Int.reduceBNe, hb5, i1, i2, hlt, hl20, hee, a1, a2, a3, m5, m4, R5.len]
      refine useL [_, _] (step_ok (r := r) hw0 hrj hcs) (JoR.rd _) hgq.marks ⟨q5, q4, trivial⟩ fun w M3 hg3 hL3 hq3 => ?_
      obtain ⟨vs4, vu4, vm4, rfl, t1, t2, t3⟩ := hq3
      obtain ⟨w1, o1, rfl⟩ := t1.slice
      obtain ⟨w2, o2, rfl⟩ := t2.slice
      obtain ⟨w3, o3, rfl⟩ := t3.slice
      simp only [push_cast, Nat.reduceAdd, Nat.reduceSub, Nat.reduceMul, Nat.reduceLT, Nat.reduceLeDiff, Nat.reduceEqDiff, Nat.reduceMod, Nat.reduceDiv, Int.reduceAdd, Int.reduceSub, Int.reduceMul, Int.reduceLT, Int.reduceLE, Int.reduceEq, Int.reduceNeg, Int.reduceToNat, reduceIte, reduceCtorEq, Int.reduceBEq, Int.reduceBNe, hb5, wrap_i64' e3]
      refine ⟨subH_gr (N := []) trivial hg3, ?_⟩
      obtain ⟨v5, v4, -⟩ := hL3
      exact ⟨⟨((ix + 1, .slice w1 (stepJ t r).state.length o1, .slice w2 (stepJ t r).undo.length o2, .slice w3 (stepJ t r).marks.length o3), M3), hgq.trans hg3, v5, v4⟩, ⟨hlt, by dsimp only; omega, by rw [hs1]; exact ⟨_, _, _, rfl, t1, t2, t3⟩⟩, by dsimp only; omega, rfl, ⟨rfl, subH_self _⟩, rfl⟩
    · have hfin : (l.take ix).foldl stepJ ⟨stateR s, [], []⟩ = journalR s l := by
        unfold journalR
        rcases Nat.lt_or_ge ix 20 with h | h
        · obtain rfl : ix = l.length := by omega
          rw [List.take_length, List.take_of_length_le (by omega)]
        · obtain rfl : ix = 20 := by omega
          rfl
      rw [← ht] at hfin
      rw [hfin] at hw0
      rw [hfin]
      by_cases hlt : ix < l.length
      · have i1 : (ix : Int) < (l.length : Int) := by omega
        have i2 : ¬ (ix : Int) < 20 := by omega
        have i3 : ¬ ix < 20 := by omega
        simp only [push_cast, Nat.reduceAdd, Nat.reduceSub, Nat.reduceMul, Nat.reduceLT, Nat.reduceLeDiff, Nat.reduceEqDiff, Nat.reduceMod, Nat.reduceDiv, Int.reduceAdd, Int.reduceSub, Int.reduceMul, Int.reduceLT, Int.reduceLE, Int.reduceEq, Int.reduceNeg, Int.reduceToNat, reduceIte, reduceCtorEq, Int.reduceBEq, Int.reduceBNe, hb5, i1, i2, hlt, i3]
        rw [hfin] at *
        exact doneK2 [_, _] hgq (JoR.rd _) hw0
      · have i1 : ¬ (ix : Int) < (l.length : Int) := by omega
        simp only [push_cast, Nat.reduceAdd, Nat.reduceSub, Nat.reduceMul, Nat.reduceLT, Nat.reduceLeDiff, Nat.reduceEqDiff, Nat.reduceMod, Nat.reduceDiv, Int.reduceAdd, Int.reduceSub, Int.reduceMul, Int.reduceLT, Int.reduceLE, Int.reduceEq, Int.reduceNeg, Int.reduceToNat, reduceIte, reduceCtorEq, Int.reduceBEq, Int.reduceBNe, hb5, i1, hlt]
        rw [hfin] at *
        exact doneK2 [_, _] hgq (JoR.rd _) hw0
end Go.Proofs.YtkhpncfgimlleaaGreat
set_option linter.unusedSimpArgs false
set_option linter.unusedVariables false
namespace Go.Ev
noncomputable def balC (a : Ad) (n : Int) : Ch := ⟨1, a, W.zero, W.ofInt n, 0, .empty⟩
noncomputable def balG : List Value → Option Value
  | [x, .int .i64 n] => if i64In n then (adOf x).bind fun a => some (balC a n).v else none
  | _ => none
attribute [push_cast] balG
end Go.Ev
namespace Go.Proofs.YtkhpncfgimlleaaGreat
open Go Go.Ev Go.Proofs
set_option maxRecDepth 100000
set_option maxHeartbeats 4000000
theorem bal_ok (a : Ad) (n : Int) (hn : i64In n) : CallsV Tryz.prog 26 [a.v, .int .i64 n] [] (Ret0 (balC a n).v) := by
  unfold balC
  have h1 := hn.1
  have h2 := hn.2
  have al : a.cells.all oneC = true := a.all1
  have t24 : ∀ Z : List Value, List.take 24 (a.cells ++ Z) = a.cells ++ List.take 4 Z := fun Z => by
    rw [List.take_append, List.take_of_length_le (by rw [a.len]; decide), a.len]
  have d29 : List.drop 29 (Ch.mk 1 a W.zero W.zero 0 .empty).cells = [.int .i64 0, .string .empty] := by
    unfold Ch.cells
    rw [List.drop_succ_cons, List.drop_append, List.drop_of_length_le (by rw [a.len]; decide), a.len]
    rfl
  have wl : (W.ofInt n).cells.all oneC = true := rfl
  refine callsO gV2_ok Tryz.mix Tryz.pl26 Tryz.func26 rfl Tryz.ntmps26 Tryz.results26 rfl (by first | rfl | assumption) (Nat.le_of_ble_eq_true rfl) (by kernel_rfl) ?_
  simp only [push_cast, Nat.reduceAdd, Nat.reduceSub, Nat.reduceMul, Nat.reduceLT, Nat.reduceLeDiff, Nat.reduceEqDiff, Nat.reduceMod, Nat.reduceDiv, Int.reduceAdd, Int.reduceSub, Int.reduceMul, Int.reduceLT, Int.reduceLE, Int.reduceEq, Int.reduceNeg, Int.reduceToNat, reduceIte, reduceCtorEq, Int.reduceBEq, Int.reduceBNe, al, Ad.len]
  intro b2 b4 hb4
  simp only [push_cast, Nat.reduceAdd, Nat.reduceSub, Nat.reduceMul, Nat.reduceLT, Nat.reduceLeDiff, Nat.reduceEqDiff, Nat.reduceMod, Nat.reduceDiv, Int.reduceAdd, Int.reduceSub, Int.reduceMul, Int.reduceLT, Int.reduceLE, Int.reduceEq, Int.reduceNeg, Int.reduceToNat, reduceIte, reduceCtorEq, Int.reduceBEq, Int.reduceBNe, hb4, al, Ad.len, h1, h2, t24, d29, List.all_append, List.length_append]
  rw [List.take_of_length_le (by rw [List.length_append, a.len]; exact Nat.le_refl _)]
  rfl
theorem balG_ok (args : List Value) (v : Value) (h : balG args = some v) : CallsV Tryz.prog 26 args [] (Ret0 v) := by
  unfold balG at h
  split at h
  · rename_i x n
    split at h
    · rename_i hn
      obtain ⟨a, ha, h⟩ := Option.bind_eq_some_iff.1 h
      cases h
      rw [adOf_some ha]
      exact bal_ok a n hn
    · cases h
  · cases h
noncomputable def gV3 : Gam := (addG 26 balG gV2)
attribute [push_cast] gV3
theorem gV3_ok : GamOk Tryz.prog gV3 := (addG_ok balG_ok gV2_ok)
end Go.Proofs.YtkhpncfgimlleaaGreat
set_option linter.unusedSimpArgs false
set_option linter.unusedVariables false
namespace Go.Ev
def at5 : Ad := ⟨5 :: List.replicate 19 0, by decide⟩
def x5 : Ac := ⟨at5, W.ofInt 5, 0, .empty, []⟩
def x7 : Ac := ⟨at5, W.ofInt 7, 0, .empty, []⟩
noncomputable def c5 : Ch := balC at5 5
noncomputable def c7 : Ch := balC at5 7
def u5 : Ch := ⟨1, at5, W.zero, W.zero, 0, .empty⟩
def u7 : Ch := ⟨1, at5, W.zero, W.ofInt 5, 0, .empty⟩
theorem may_no {a : Ad} {b : W} : mayA ⟨a, b, 0, .empty, []⟩ = true := by
  unfold mayA
  rw [rightB_iff.2 ⟨List.Pairwise.nil, fun x h => (by cases h), by simp⟩]
  simp
theorem x5_ne : emptyA x5 = false := by decide
theorem x7_ne : emptyA x7 = false := by decide
theorem do5 : doS [] c5 = ([x5], u5, 0) := by
  have hc : chA (findS [] c5.at_) c5 = (x5, u5, 0) := by
    show chA (findS [] at5) c5 = _
    rw [findS_none fun x hx => by cases hx]
    unfold chA
    rw [if_pos (show c5.kind = 1 from rfl)]
    rfl
  have hp : putS [] x5 = [x5] := by
    unfold putS
    rw [x5_ne]
    rfl
  have hd : Did [] c5 := ⟨RiS.nil, by rw [hc], by rw [hc]; exact may_no, by rw [hc, hp]; decide⟩
  rw [hd.val, hc, hp]
theorem ri5 : RiS [x5] := by
  have h := (doS_iff.1 (show (doS [] c5).2.2 = 0 by rw [do5])).right
  rw [do5] at h
  exact h
theorem do7 : doS [x5] c7 = ([x7], u7, 0) := by
  have hc : chA (findS [x5] c7.at_) c7 = (x7, u7, 0) := by
    show chA (findS [x5] at5) c7 = _
    rw [show findS [x5] at5 = x5 from findS_some ri5.srt (x := x5) (by simp)]
    unfold chA
    rw [if_pos (show c7.kind = 1 from rfl)]
    rfl
  have hp : putS [x5] x7 = [x7] := by
    unfold putS
    rw [x7_ne]
    have h1 : decide (x5.at_.num < x7.at_.num) = false := decide_eq_false (Nat.lt_irrefl _)
    have h2 : decide (x7.at_.num < x5.at_.num) = false := decide_eq_false (Nat.lt_irrefl _)
    simp [h1, h2]
  have hd : Did [x5] c7 := ⟨ri5, by rw [hc], by rw [hc]; exact may_no, by rw [hc, hp]; decide⟩
  rw [hd.val, hc, hp]
def jA : Jo := ⟨[], [], [0]⟩
def jK : Jo := ⟨[x5], [u5], [0]⟩
def jL : Jo := ⟨[x5], [u5], [0, 1]⟩
def jM : Jo := ⟨[x7], [u5, u7], [0, 1]⟩
theorem riA : RiJ jA := (RiJ.open RiS.nil).mark (by decide)
theorem mk0 : markJ ⟨[], [], []⟩ = (jA, 0, 0) := by
  unfold markJ
  rw [if_pos (rightJ_iff.2 (RiJ.open RiS.nil)), if_neg (by decide)]
  rfl
theorem doK : doJ jA [c5] = (jK, 0) := by
  unfold doJ
  rw [if_pos (rightJ_iff.2 riA), runJ, if_neg (by decide), show doS jA.state c5 = ([x5], u5, 0) from do5, if_pos rfl]
  rfl
theorem riK : RiJ jK := by
  have h := riA.step (doS_iff.1 (show (doS jA.state c5).2.2 = 0 by rw [show doS jA.state c5 = ([x5], u5, 0) from do5])) (by decide)
  rw [show doS jA.state c5 = ([x5], u5, 0) from do5] at h
  exact h
theorem mkL : markJ jK = (jL, 1, 0) := by
  unfold markJ
  rw [if_pos (rightJ_iff.2 riK), if_neg (by decide)]
  rfl
theorem riL : RiJ jL := riK.mark (by decide)
theorem doM : doJ jL [c7] = (jM, 0) := by
  unfold doJ
  rw [if_pos (rightJ_iff.2 riL), runJ, if_neg (by decide), show doS jL.state c7 = ([x7], u7, 0) from do7, if_pos rfl]
  rfl
theorem riM : RiJ jM := by
  have h := riL.step (doS_iff.1 (show (doS jL.state c7).2.2 = 0 by rw [show doS jL.state c7 = ([x7], u7, 0) from do7])) (by decide)
  rw [show doS jL.state c7 = ([x7], u7, 0) from do7] at h
  exact h
theorem back7 : ∃ w, doS [x7] u7 = ([x5], w, 0) := by
  have h := (doS_iff.1 (show (doS [x5] c7).2.2 = 0 by rw [do7])).back
  rw [do7] at h
  exact h
theorem back5 : ∃ w, doS [x5] u5 = ([], w, 0) := by
  have h := (doS_iff.1 (show (doS [] c5).2.2 = 0 by rw [do5])).back
  rw [do5] at h
  exact h
theorem keepM (m : Nat) (h : m < 2) : keepJ jM m = (⟨[x7], [u5, u7], [0, 1].take m⟩, 0) := by
  unfold keepJ
  have h2 : jM.marks.length = 2 := rfl
  rw [if_pos (rightJ_iff.2 riM), if_neg (by omega), Int.toNat_natCast]
  rfl
theorem backM0 : backJ jM 0 = (⟨[], [], []⟩, 0) := by
  obtain ⟨w7, h7⟩ := back7
  obtain ⟨w5, h5⟩ := back5
  have hk := keepM 0 (by decide)
  have hu : undoE jM.state (jM.undo.drop (stayJ jM 0)).reverse = ([], 0) := by
    show undoE [x7] [u7, u5] = _
    rw [undoE, h7, if_pos rfl, undoE, h5, if_pos rfl, undoE]
  unfold backJ
  rw [show keepJ jM 0 = _ from hk, if_pos rfl, hu]
  rfl
theorem backM1 : backJ jM 1 = (jK, 0) := by
  obtain ⟨w7, h7⟩ := back7
  have hk := keepM 1 (by decide)
  have hu : undoE jM.state (jM.undo.drop (stayJ jM 1)).reverse = ([x5], 0) := by
    show undoE [x7] [u7] = _
    rw [undoE, h7, if_pos rfl, undoE]
  unfold backJ
  rw [show keepJ jM 1 = _ from hk, if_pos rfl, hu]
  rfl
theorem backN : backJ ⟨[], [], []⟩ 0 = (⟨[], [], []⟩, 20) := by
  have hk : keepJ ⟨[], [], []⟩ 0 = (⟨[], [], []⟩, 20) := by
    unfold keepJ
    rw [if_pos (rightJ_iff.2 (RiJ.open RiS.nil)), if_pos (.inr (by decide))]
  unfold backJ
  rw [hk, if_neg (by decide)]
def c9 : Ch := ⟨9, Ad.zero, W.zero, W.zero, 0, .empty⟩
theorem doU : doJ jA [c5, c9] = (jA, 1) := by
  have h9 : (doS [x5] c9).2.2 = 1 := by
    have hc : (chA (findS [x5] c9.at_) c9).2.2 = 1 := by
      unfold chA
      rw [if_neg (by decide), if_neg (by decide), if_neg (by decide), if_neg (by decide)]
    unfold doS
    rw [if_neg (by rw [rightS_iff.2 ri5]; simp), if_pos (by rw [hc]; decide), hc]
  unfold doJ
  rw [if_pos (rightJ_iff.2 riA), runJ, if_neg (by decide), show doS jA.state c5 = ([x5], u5, 0) from do5, if_pos rfl, runJ, if_neg (by decide)]
  dsimp only
  rw [h9, if_neg (by decide)]
theorem rightM : rightJ jM = true := rightJ_iff.2 riM
theorem right1 : rightJ ⟨[], [], [1]⟩ = false := by
  unfold rightJ
  simp
end Go.Ev
