/- Texts of this claim, merged by program: Jk Jl Jm. -/
import Derived.Test.YtkhpncfgimlleaaGreatZnAq
set_option linter.unusedSimpArgs false
set_option linter.unusedVariables false
namespace Go.Ev
theorem append_gA {P : Program} {A X N : Hp} {st xt e sz by_ n m : Nat} {cs ys : List Value} {v x : Value} {K : Value → Hp → Prop} (ho : OutG e sz cs n v N) (hA : freshN A N) (hs : slI P st = some (e, sz, by_)) (hx : srcL P (A ++ (N ++ X)) xt x sz = some (ys, m)) (hl : ys.length = m * sz) (h1 : ys.all oneC = true) (hb : (n + m) * by_ ≤ two47)
    (hk : ∀ v' N', OutG e sz (cs ++ ys) (n + m) v' N' → freshN N' (A ++ X) → K v' (N' ++ (A ++ X))) : evAppend P (A ++ (N ++ X)) st xt v x K := by
  have hsz : 0 < sz := (slI_eq hs).2.elim fun _ h => h.elim fun _ h => h.2.2.2.2.2.1
  unfold evAppend
  rw [hs]
  dsimp only
  rw [hx]
  dsimp only
  rcases ho with ⟨rfl, rfl, rfl, rfl⟩ | ⟨b, c, rfl, hc, hcl, rfl⟩
  · refine ⟨⟨rfl, rfl⟩, fun hm => ?_, fun hm => ⟨by simpa using hb, fun b c' hf hc' => ?_⟩⟩
    · subst hm
      have : ys = [] := List.length_eq_zero_iff.1 (by simpa using hl)
      subst this
      exact hk _ [] (.inl ⟨rfl, rfl, rfl, rfl⟩) trivial
    · have := hk (.slice (some ⟨b, 0, none⟩) (0 + m) c') [⟨b, 0, .vec e sz c', [] ++ ys⟩] (.inr ⟨b, c', rfl, by omega, by simpa using hl, rfl⟩) ⟨hf, trivial⟩
      rw [Nat.zero_add] at this
      exact this
  · have hb' : ∀ a ∈ A, ¬ b = a.blk := fun a ha h => by
      have := freshN_iff.1 hA a ha _ (List.mem_singleton.2 rfl)
      exact this h
    have e1 : findE (A ++ ([⟨b, 0, .vec e sz c, cs⟩] ++ X)) b = some ⟨b, 0, .vec e sz c, cs⟩ := by rw [findE_A hb']; simp [findE]
    have e2 : remE (A ++ ([⟨b, 0, .vec e sz c, cs⟩] ++ X)) b = A ++ X := by rw [remE_A hb']; simp [remE]
    dsimp only
    rw [e1, e2]
    dsimp only
    rw [if_pos hcl]
    refine ⟨⟨rfl, rfl, rfl, rfl, hcl⟩, hb, h1, fun b' c' hf hc' => ?_⟩
    exact hk _ [⟨b', 0, .vec e sz c', cs ++ ys⟩] (.inr ⟨b', c', rfl, hc', by rw [List.length_append, hcl, hl, Nat.add_mul], rfl⟩) ⟨hf, trivial⟩
theorem push_gA {P : Program} {α : Type} {c : α → List Value} {e e' s' sz by_ st q : Nat} {ag : Bool} {l : List α} {x : α} {v : Value} (A : Hp) {N X : Hp} {b k : Nat} {K : Value → Hp → Prop} (ho : OutG e sz (l.flatMap c) l.length v N) (hA : freshN (⟨b, 0, .vec e' s' 1, c x⟩ :: A) N) (hs : slI P st = some (e, sz, by_)) (he : elemI P st = some (none, q, ag))
    (hl : (c x).length = sz) (h1 : (c x).all oneC = true) (hb : (l.length + 1) * by_ ≤ two47)
    (hk : ∀ v' N', OutG e sz ((l ++ [x]).flatMap c) (l ++ [x]).length v' N' → freshN N' (⟨b, 0, .vec e' s' 1, c x⟩ :: (A ++ X)) → K v' (N' ++ ⟨b, 0, .vec e' s' 1, c x⟩ :: (A ++ X))) : evAppend P (⟨b, 0, .vec e' s' 1, c x⟩ :: (A ++ (N ++ X))) st st v (.slice (some ⟨b, 0, none⟩) 1 k) K := by
  refine append_gA (A := ⟨b, 0, .vec e' s' 1, c x⟩ :: A) (e := e) (sz := sz) (by_ := by_) (n := l.length) (m := 1) (ys := c x) ho hA hs ?_ (by rw [hl, Nat.one_mul]) h1 hb fun v' N' ho' hf' => hk v' N' ?_ hf'
  · unfold srcL
    rw [he]
    dsimp only
    unfold cellsAt
    simp only [List.cons_append, findE, if_true, Nat.le_refl, Nat.sub_self, subL, Nat.zero_add, List.drop_zero, Nat.one_mul]
    rw [if_pos (Nat.le_of_eq hl.symm), List.take_of_length_le (Nat.le_of_eq hl)]
  · rw [List.flatMap_append, List.length_append, List.flatMap_cons, List.flatMap_nil, List.append_nil]
    exact ho'
theorem JeR.own (r : Jo × Int) : RdOwn (fun v N1 H => JeR r v (N1 ++ H)) := by
  intro v N1 A B h hq
  refine JeR.rd _ _ _ _ ?_ hq
  funext b o n
  have h2 := congrFun (congrFun (congrFun h b) o) n
  unfold cellsAt at h2 ⊢
  rw [findE_app, findE_app]
  cases findE N1 b with
  | some e => rfl
  | none => exact h2
theorem doneX {M M1 : Hp} (L Nq : Hp) {Q : Value → Hp → Hp → Prop} {v : Value} (hg : Gr M M1) (hn : marksOf Nq = []) (hQ : RdOwn Q) (hq : Q v [] M1) : ∃ H', H'.Sublist (L ++ dropM (Nq ++ M1)) ∧ OwnK M Q v H' := by
  obtain ⟨H', h1, h2⟩ := doneN [] hg (N1 := []) trivial rfl trivial hQ hq
  refine ⟨H', ?_, h2⟩
  rw [List.nil_append, List.nil_append, dropM_eq hg.marks] at h1
  rw [dropM_eq (by rw [marks_append, hn, hg.marks]; rfl)]
  exact h1.trans ((List.sublist_append_right Nq M1).trans (List.sublist_append_right L _))
end Go.Ev
namespace Go.Proofs.YtkhpncfgimlleaaGreat
open Go Go.Ev Go.Proofs
set_option maxRecDepth 100000
set_option maxHeartbeats 4000000
def plJD : Plans := fun i => if i = 2 then [(0, 9)] else if i = 7 then [(0, 9)] else if i = 10 then [(0, 9)] else Tryz.pl18 i
attribute [push_cast] plJD
theorem jdo_ok {M : Hp} {j : Jo} {v lv : Value} {l : List Ch} (hv : JoR j v M) (hl : LiR Ch.cells 31 M l lv) (hn : j.state.length ≤ 1000000000) (hu : j.undo.length ≤ 1000000000) (hma : j.marks.length ≤ 1000000000000) (hsl : ∀ y ∈ j.state, y.slots.length ≤ 1000000000000) (hll : l.length ≤ 1000000000000) : CallsW Tryz.prog 18 [v, lv] M (fun u N1 H => JeR (doJ j l) u (N1 ++ H)) := by
  intro M0 hr he
  have hm := hr.marks
  replace hv := JoR.rd _ _ _ _ he.symm hv
  replace hl := hl.congr he.symm
  have hv0 := hv
  obtain ⟨vs, vu, vm, rfl, h1, h2, h3⟩ := hv
  obtain ⟨ps, ks, rfl⟩ := h1.slice
  obtain ⟨pu, ku, rfl⟩ := h2.slice
  obtain ⟨pm, km, rfl⟩ := h3.slice
  obtain ⟨pl, kl, rfl, hla⟩ := hl.openC Ch.len (by decide)
  obtain ⟨R, hR⟩ : ∃ R, R = doJ j l := ⟨_, rfl⟩
  rw [← hR]
  refine callsO gJ1_ok Tryz.mix plJD Tryz.func18 rfl Tryz.ntmps18 Tryz.results18 rfl (by first | rfl | assumption) (Nat.le_of_ble_eq_true rfl) (by kernel_rfl) ?_
  simp only [push_cast, Nat.reduceAdd, Nat.reduceSub, Nat.reduceMul, Nat.reduceLT, Nat.reduceLeDiff, Nat.reduceEqDiff, Nat.reduceMod, Nat.reduceDiv, Int.reduceAdd, Int.reduceSub, Int.reduceMul, Int.reduceLT, Int.reduceLE, Int.reduceEq, Int.reduceNeg, Int.reduceToNat, reduceIte, reduceCtorEq, Int.reduceBEq, Int.reduceBNe]
  intro b2 hb2 b4 hb4
  have f2 : fresh b2 M0 := hb2
  have f4 : fresh b4 M0 := hb4.2.2
  simp only [push_cast, Nat.reduceAdd, Nat.reduceSub, Nat.reduceMul, Nat.reduceLT, Nat.reduceLeDiff, Nat.reduceEqDiff, Nat.reduceMod, Nat.reduceDiv, Int.reduceAdd, Int.reduceSub, Int.reduceMul, Int.reduceLT, Int.reduceLE, Int.reduceEq, Int.reduceNeg, Int.reduceToNat, reduceIte, reduceCtorEq, Int.reduceBEq, Int.reduceBNe, hb4]
  refine useB [_, _] (jown_ok hv0 hn hu hma hsl) (JoO.rd _ _ _) hm ⟨f4, f2, trivial⟩ fun w Nj M1 hg1 hf1 hL1 hw1 hm1 hq1 => ?_
  obtain ⟨vs', vu', vm', Nu, Nm, rfl, rfl, hum, ho2, ho3, hq1⟩ := hq1
  obtain ⟨pw, kw, rfl⟩ := hq1.slice
  obtain ⟨pn, kn, rfl⟩ := ho2.slice
  obtain ⟨pk, kk, rfl⟩ := ho3.slice
  simp only [push_cast, Nat.reduceAdd, Nat.reduceSub, Nat.reduceMul, Nat.reduceLT, Nat.reduceLeDiff, Nat.reduceEqDiff, Nat.reduceMod, Nat.reduceDiv, Int.reduceAdd, Int.reduceSub, Int.reduceMul, Int.reduceLT, Int.reduceLE, Int.reduceEq, Int.reduceNeg, Int.reduceToNat, reduceIte, reduceCtorEq, Int.reduceBEq, Int.reduceBNe, hb4]
  intro b6 hb6
  refine WpV.perm (H' := ⟨b6, 0, .cel 37, [.slice pw j.state.length kw, .slice pn j.undo.length kn, .slice pk j.marks.length kk]⟩ :: ⟨b4, 0, .cel 37, [.slice none 0 0, .slice none 0 0, .slice none 0 0]⟩ :: ⟨b2, 0, .cel 37, [.slice ps j.state.length ks, .slice pu j.undo.length ku, .slice pm j.marks.length km]⟩ :: (Nu ++ (M1 ++ Nm))) ?_ ?_ ?_
  · exact (((List.Perm.append_left Nu List.perm_append_comm).cons _).cons _).cons _
  · simp [marksOf, marks_append, ho3.wr.2]
  obtain ⟨Mb, hMb⟩ : ∃ Mb, Mb = M1 ++ Nm := ⟨_, rfl⟩
  have hgb : Gr M0 Mb := hg1.trans ⟨hg1.marks, Nm, hMb, ho3.wr.1, ho3.wr.2⟩
  have hfb : freshN Nu Mb := by rw [hMb]; exact freshN_comb (freshN_appL.1 hf1).1 hum
  have hsb : StR j.state (.slice pw j.state.length kw) Mb := hq1.ext (Gr.ext ⟨hg1.marks, Nm, hMb, ho3.wr.1, ho3.wr.2⟩)
  have hmb : LiR intC 1 Mb j.marks (.slice pk j.marks.length kk) := by rw [hMb]; exact (ho3.liR rfl rfl M1).congr (cellsAt_swap (freshN_appL.1 hf1).2)
  rw [← hMb]
  have g6 : fresh b6 (Nu ++ Mb) := by
    have := hb6.2.2.2.2
    rw [hMb]
    have h := fresh_app_iff.1 this
    have h' := fresh_app_iff.1 h.2
    exact fresh_appS h.1 (fresh_appS h'.2 h'.1)
  have sw : ∀ {b}, fresh b (Nu ++ (Nm ++ M1)) → fresh b (Nu ++ Mb) := fun {b} this => by
    rw [hMb]
    have h := fresh_app_iff.1 this
    have h' := fresh_app_iff.1 h.2
    exact fresh_appS h.1 (fresh_appS h'.2 h'.1)
  have g4 : fresh b4 (Nu ++ Mb) := sw (by have := hL1.1; rw [List.append_assoc] at this; exact this)
  have g2 : fresh b2 (Nu ++ Mb) := sw (by have := hL1.2.1; rw [List.append_assoc] at this; exact this)
  have hb6 : ¬ b6 = b4 ∧ ¬ b4 = b6 ∧ ¬ b6 = b2 ∧ ¬ b2 = b6 ∧ True := ⟨hb6.1, hb6.2.1, hb6.2.2.1, hb6.2.2.2.1, trivial⟩
  have hvb := hv0.ext hgb.ext
  have hlb := hl.ext hgb.ext
  refine regO gJ1_ok ?_
  simp only [push_cast, Nat.reduceAdd, Nat.reduceSub, Nat.reduceMul, Nat.reduceLT, Nat.reduceLeDiff, Nat.reduceEqDiff, Nat.reduceMod, Nat.reduceDiv, Int.reduceAdd, Int.reduceSub, Int.reduceMul, Int.reduceLT, Int.reduceLE, Int.reduceEq, Int.reduceNeg, Int.reduceToNat, reduceIte, reduceCtorEq, Int.reduceBEq, Int.reduceBNe, hb4, hb6]
  refine useP (_ :: _ :: _ :: Nu) (fun M2 hr2 he2 => jright_ok (JoR.rd _ _ _ _ he2.symm hvb) hr2.marks hn (by omega) hma hsl) ⟨(fresh_app_iff.1 g6).2, (fresh_app_iff.1 g4).2, (fresh_app_iff.1 g2).2, hfb⟩ ?_
  cases hrj : rightJ j
  · have e : R = (j, 1) := by rw [hR]; unfold doJ; rw [if_neg (by rw [hrj]; simp)]
    simp only [push_cast, Nat.reduceAdd, Nat.reduceSub, Nat.reduceMul, Nat.reduceLT, Nat.reduceLeDiff, Nat.reduceEqDiff, Nat.reduceMod, Nat.reduceDiv, Int.reduceAdd, Int.reduceSub, Int.reduceMul, Int.reduceLT, Int.reduceLE, Int.reduceEq, Int.reduceNeg, Int.reduceToNat, reduceIte, reduceCtorEq, Int.reduceBEq, Int.reduceBNe, hb4, hb6]
    exact doneN [_, _, _] hgb ho2.wr.1 ho2.wr.2 hfb (JeR.own R) ⟨.agg #[.slice pw j.state.length kw, .slice pn j.undo.length kn, .slice pk j.marks.length kk], by rw [e], by rw [e]; exact ⟨_, _, _, rfl, hsb.app hfb, ho2.liR rfl rfl _, hmb.app hfb⟩⟩
  have e : R = runJ j j l := by rw [hR]; unfold doJ; rw [if_pos hrj]
  have hrij := rightJ_iff.1 hrj
  simp only [push_cast, Nat.reduceAdd, Nat.reduceSub, Nat.reduceMul, Nat.reduceLT, Nat.reduceLeDiff, Nat.reduceEqDiff, Nat.reduceMod, Nat.reduceDiv, Int.reduceAdd, Int.reduceSub, Int.reduceMul, Int.reduceLT, Int.reduceLE, Int.reduceEq, Int.reduceNeg, Int.reduceToNat, reduceIte, reduceCtorEq, Int.reduceBEq, Int.reduceBNe, hb4, hb6]
  refine loopO gJ1_ok (pl := plJD) Tryz.mix (X := {x : ((Nat × Jo) × (Value × Value)) × (Hp × Hp) // Gr Mb x.2.2 ∧ freshN x.2.1 x.2.2 ∧ fresh b6 (x.2.1 ++ x.2.2) ∧ fresh b4 (x.2.1 ++ x.2.2) ∧ fresh b2 (x.2.1 ++ x.2.2)})
    (fun x => ([(0, .agg #[.slice ps j.state.length ks, .slice pu j.undo.length ku, .slice pm j.marks.length km]), (1, .slice pl l.length kl), (2, .pointer (some ⟨b2, 0, none⟩)), (4, .pointer (some ⟨b4, 0, none⟩)), (5, .int .i64 0), (6, .pointer (some ⟨b6, 0, none⟩)), (18, .slice pl l.length kl), (19, .int .i64 l.length), (20, .int .i64 x.1.1.1.1)],
      ⟨b6, 0, .cel 37, [x.1.1.2.1, x.1.1.2.2, .slice pk j.marks.length kk]⟩ :: ⟨b4, 0, .cel 37, [.slice none 0 0, .slice none 0 0, .slice none 0 0]⟩ :: ⟨b2, 0, .cel 37, [.slice ps j.state.length ks, .slice pu j.undo.length ku, .slice pm j.marks.length km]⟩ :: (x.1.2.1 ++ x.1.2.2)))
    (fun x => x.1.1.1.1 ≤ l.length ∧ R = runJ j x.1.1.1.2 (l.drop x.1.1.1.1) ∧ x.1.1.1.2.marks = j.marks ∧ RiS x.1.1.1.2.state ∧ x.1.1.1.2.undo.length ≤ 2000 ∧ StR x.1.1.1.2.state x.1.1.2.1 x.1.2.2 ∧ OutG 31 31 (x.1.1.1.2.undo.flatMap Ch.cells) x.1.1.1.2.undo.length x.1.1.2.2 x.1.2.1) (fun x => l.length - x.1.1.1.1) ⟨(((0, j), (.slice pw j.state.length kw, .slice pn j.undo.length kn)), (Nu, Mb)), Gr.refl hgb.marks, hfb, g6, g4, g2⟩ ?_ ?_ (by kernel_rfl) ?_
  · exact ⟨Nat.zero_le _, e, rfl, hrij.st, hrij.ul, hsb, ho2⟩
  · simp only [push_cast, Nat.reduceAdd, Nat.reduceSub, Nat.reduceMul, Nat.reduceLT, Nat.reduceLeDiff, Nat.reduceEqDiff, Nat.reduceMod, Nat.reduceDiv, Int.reduceAdd, Int.reduceSub, Int.reduceMul, Int.reduceLT, Int.reduceLE, Int.reduceEq, Int.reduceNeg, Int.reduceToNat, reduceIte, reduceCtorEq, Int.reduceBEq, Int.reduceBNe]
  · rintro ⟨⟨⟨⟨i, now⟩, ⟨w, u⟩⟩, ⟨Nq, Mq⟩⟩, hgq, hfq, q6, q4, q2⟩ ⟨hi, hrun, hnm, hri, hul, hw, ho⟩
    dsimp only at hi hrun hnm hri hul hw ho hgq hfq q6 q4 q2 ⊢
    obtain ⟨pw1, kw1, rfl⟩ := hw.slice
    obtain ⟨pn1, kn1, rfl⟩ := ho.slice
    have hmq : LiR intC 1 Mq j.marks (.slice pk j.marks.length kk) := hmb.ext hgq.ext
    have hvq := hvb.ext hgq.ext
    have p6 := (fresh_app_iff.1 q6).2
    have p4 := (fresh_app_iff.1 q4).2
    have p2 := (fresh_app_iff.1 q2).2
    rcases Nat.lt_or_ge i l.length with hlt | hge
    · obtain ⟨c, hc⟩ : ∃ y, l[i]? = some y := ⟨l[i]'(by omega), List.getElem?_eq_getElem (by omega)⟩
      rcases hla with rfl | ⟨b, f, d, kd, cs, rfl, hfe, hat⟩
      · simp at hlt
      obtain ⟨a1, a2⟩ := hat i c hc
      have hee : findE (Nq ++ Mq) b = some ⟨b, f, kd, cs⟩ := find_behind hfq _ _ (hgq.find (hgb.find hfe))
      have n6 := (fresh_findS q6 hee).2
      have n4 := (fresh_findS q4 hee).2
      have n2 := (fresh_findS q2 hee).2
      have i1 : (i : Int) < (l.length : Int) := by omega
      rw [show l.drop i = c :: l.drop (i + 1) by obtain ⟨h1, h2⟩ := List.getElem?_eq_some_iff.1 hc; rw [List.drop_eq_getElem_cons h1, h2], runJ] at hrun
      simp only [push_cast, Nat.reduceAdd, Nat.reduceSub, Nat.reduceMul, Nat.reduceLT, Nat.reduceLeDiff, Nat.reduceEqDiff, Nat.reduceMod, Nat.reduceDiv, Int.reduceAdd, Int.reduceSub, Int.reduceMul, Int.reduceLT, Int.reduceLE, Int.reduceEq, Int.reduceNeg, Int.reduceToNat, reduceIte, reduceCtorEq, Int.reduceBEq, Int.reduceBNe, i1, hlt, hee, a1, a2, hb4, hb6, n6, n4, n2]
      intro b8 hb8
      refine regO gJ1_ok ?_
      by_cases h2k : now.undo.length = 2000
      · rw [if_pos (by omega)] at hrun
        have e2 : ((now.undo.length : Int) == 2000) = true := by rw [beq_iff_eq]; omega
        simp only [push_cast, Nat.reduceAdd, Nat.reduceSub, Nat.reduceMul, Nat.reduceLT, Nat.reduceLeDiff, Nat.reduceEqDiff, Nat.reduceMod, Nat.reduceDiv, Int.reduceAdd, Int.reduceSub, Int.reduceMul, Int.reduceLT, Int.reduceLE, Int.reduceEq, Int.reduceNeg, Int.reduceToNat, reduceIte, reduceCtorEq, Int.reduceBEq, Int.reduceBNe, hb4, hb6, hb8, e2]
        refine useL (_ :: _ :: _ :: _ :: Nq) (jown_R hvq hn hu hma hsl) (JoR.rd _) hgq.marks ⟨(fresh_app_iff.1 hb8.2.2.2.2.2.2).2, p6, p4, p2, hfq⟩ fun w' M2 hg2 hL2 hq2 => ?_
        obtain ⟨vs2, vu2, vm2, rfl, y1, y2, y3⟩ := hq2
        obtain ⟨x1, k1, rfl⟩ := y1.slice
        obtain ⟨x2, k2, rfl⟩ := y2.slice
        obtain ⟨x3, k3, rfl⟩ := y3.slice
        simp only [push_cast, Nat.reduceAdd, Nat.reduceSub, Nat.reduceMul, Nat.reduceLT, Nat.reduceLeDiff, Nat.reduceEqDiff, Nat.reduceMod, Nat.reduceDiv, Int.reduceAdd, Int.reduceSub, Int.reduceMul, Int.reduceLT, Int.reduceLE, Int.reduceEq, Int.reduceNeg, Int.reduceToNat, reduceIte, reduceCtorEq, Int.reduceBEq, Int.reduceBNe, hb4, hb6, hb8]
        exact doneX [_, _, _, _] Nq ((hgb.trans hgq).trans hg2) ho.wr.2 (JeR.own R) ⟨_, by rw [hrun], by rw [hrun]; exact ⟨_, _, _, rfl, y1, y2, y3⟩⟩
      have hul2 : now.undo.length < 2000 := by omega
      have e2 : ((now.undo.length : Int) == 2000) = false := by rw [beq_eq_false_iff_ne]; omega
      rw [if_neg (by omega)] at hrun
      have hrl := hri.len
      simp only [push_cast, Nat.reduceAdd, Nat.reduceSub, Nat.reduceMul, Nat.reduceLT, Nat.reduceLeDiff, Nat.reduceEqDiff, Nat.reduceMod, Nat.reduceDiv, Int.reduceAdd, Int.reduceSub, Int.reduceMul, Int.reduceLT, Int.reduceLE, Int.reduceEq, Int.reduceNeg, Int.reduceToNat, reduceIte, reduceCtorEq, Int.reduceBEq, Int.reduceBNe, hb4, hb6, hb8, e2]
      refine useB (_ :: _ :: _ :: _ :: Nq) (sdo_ok hw (by omega) (fun y hy => by have := (mayA_slots (hri.may y hy)).len; omega)) (DoO.rd _ _) hgq.marks ⟨(fresh_app_iff.1 hb8.2.2.2.2.2.2).2, p6, p4, p2, hfq⟩ fun w' N1 M2 hg2 hf hL hwN hmN hq => ?_
      obtain ⟨w1, rfl, hq⟩ := hq
      obtain ⟨pw2, kw2, rfl⟩ : ∃ p k, w1 = .slice p (doS now.state c).1.length k := (hq.r hf).slice
      simp only [push_cast, Nat.reduceAdd, Nat.reduceSub, Nat.reduceMul, Nat.reduceLT, Nat.reduceLeDiff, Nat.reduceEqDiff, Nat.reduceMod, Nat.reduceDiv, Int.reduceAdd, Int.reduceSub, Int.reduceMul, Int.reduceLT, Int.reduceLE, Int.reduceEq, Int.reduceNeg, Int.reduceToNat, reduceIte, reduceCtorEq, Int.reduceBEq, Int.reduceBNe, hb4, hb6, hb8]
      intro b10 hb10
      refine WpV.perm (H' := ⟨b10, 0, .cel 31, (doS now.state c).2.1.cells⟩ :: ⟨b8, 0, .cel 31, c.cells⟩ :: ⟨b6, 0, .cel 37, [.slice pw1 now.state.length kw1, .slice pn1 now.undo.length kn1, .slice pk j.marks.length kk]⟩ :: ⟨b4, 0, .cel 37, [.slice none 0 0, .slice none 0 0, .slice none 0 0]⟩ :: ⟨b2, 0, .cel 37, [.slice ps j.state.length ks, .slice pu j.undo.length ku, .slice pm j.marks.length km]⟩ :: (Nq ++ (M2 ++ N1))) ?_ ?_ ?_
      · exact (((((List.Perm.append_left Nq List.perm_append_comm).cons _).cons _).cons _).cons _).cons _
      · simp [marksOf, marks_append, hmN]
      obtain ⟨x8, x6, x4, x2, xq⟩ := hL
      obtain ⟨M3, hM3⟩ : ∃ M3, M3 = M2 ++ N1 := ⟨_, rfl⟩
      have sw2 : ∀ {b}, fresh b (N1 ++ M2) → fresh b M3 := fun h => by rw [hM3]; exact fresh_appS (fresh_app_iff.1 h).2 (fresh_app_iff.1 h).1
      have hg3 : Gr Mq M3 := hg2.trans ⟨hg2.marks, N1, hM3, hwN, hmN⟩
      have hsw : StR (doS now.state c).1 (.slice pw2 (doS now.state c).1.length kw2) M3 := by rw [hM3]; exact StR.rd _ _ _ _ (cellsAt_swap hf) (hq.r hf)
      have hfq3 : freshN Nq M3 := by rw [hM3]; exact freshN_comb (freshN_mono xq).2 (freshN_mono xq).1
      have y10 : fresh b10 M3 := sw2 (fresh_app_iff.1 hb10.2.2.2.2.2.2.2.2).2
      have z10 : fresh b10 Nq := (fresh_app_iff.1 hb10.2.2.2.2.2.2.2.2).1
      have z8 : fresh b8 Nq := (fresh_app_iff.1 hb8.2.2.2.2.2.2).1
      have z6 : fresh b6 Nq := (fresh_app_iff.1 q6).1
      have z4 : fresh b4 Nq := (fresh_app_iff.1 q4).1
      have z2 : fresh b2 Nq := (fresh_app_iff.1 q2).1
      have y8 := sw2 x8
      have y6 := sw2 x6
      have y4 := sw2 x4
      have y2 := sw2 x2
      rw [← hM3]
      refine regO gJ1_ok ?_
      by_cases hd : (doS now.state c).2.2 = 0
      case neg =>
        rw [if_neg hd] at hrun
        have hbn : ((doS now.state c).2.2 != 0) = true := bne_iff_ne.2 hd
        simp only [push_cast, Nat.reduceAdd, Nat.reduceSub, Nat.reduceMul, Nat.reduceLT, Nat.reduceLeDiff, Nat.reduceEqDiff, Nat.reduceMod, Nat.reduceDiv, Int.reduceAdd, Int.reduceSub, Int.reduceMul, Int.reduceLT, Int.reduceLE, Int.reduceEq, Int.reduceNeg, Int.reduceToNat, reduceIte, reduceCtorEq, Int.reduceBEq, Int.reduceBNe, hb4, hb6, hb8, hb10, hbn]
        refine useL (_ :: _ :: _ :: _ :: _ :: Nq) (jown_R (hvq.ext hg3.ext) hn hu hma hsl) (JoR.rd _) hg3.marks ⟨y10, y8, y6, y4, y2, hfq3⟩ fun w' M4 hg4 hL4 hq4 => ?_
        obtain ⟨vs2, vu2, vm2, rfl, t1, t2, t3⟩ := hq4
        obtain ⟨x1, k1, rfl⟩ := t1.slice
        obtain ⟨x2, k2, rfl⟩ := t2.slice
        obtain ⟨x3, k3, rfl⟩ := t3.slice
        simp only [push_cast, Nat.reduceAdd, Nat.reduceSub, Nat.reduceMul, Nat.reduceLT, Nat.reduceLeDiff, Nat.reduceEqDiff, Nat.reduceMod, Nat.reduceDiv, Int.reduceAdd, Int.reduceSub, Int.reduceMul, Int.reduceLT, Int.reduceLE, Int.reduceEq, Int.reduceNeg, Int.reduceToNat, reduceIte, reduceCtorEq, Int.reduceBEq, Int.reduceBNe, hb4, hb6, hb8, hb10]
        exact doneX [_, _, _, _, _] Nq (((hgb.trans hgq).trans hg3).trans hg4) ho.wr.2 (JeR.own R) ⟨_, by rw [hrun], by rw [hrun]; exact ⟨_, _, _, rfl, t1, t2, t3⟩⟩
      rw [if_pos hd] at hrun
      have hri2 := (doS_iff.1 hd).right
      have hbn : ((doS now.state c).2.2 != 0) = false := by rw [hd]; rfl
      obtain ⟨uc, huc⟩ : ∃ uc, uc = (doS now.state c).2.1 := ⟨_, rfl⟩
      obtain ⟨t, ht⟩ : ∃ t, t = (doS now.state c).1 := ⟨_, rfl⟩
      rw [← huc, ← ht] at hrun
      rw [← ht] at hri2 hsw
      rw [← huc, ← ht]
      simp only [push_cast, Nat.reduceAdd, Nat.reduceSub, Nat.reduceMul, Nat.reduceLT, Nat.reduceLeDiff, Nat.reduceEqDiff, Nat.reduceMod, Nat.reduceDiv, Int.reduceAdd, Int.reduceSub, Int.reduceMul, Int.reduceLT, Int.reduceLE, Int.reduceEq, Int.reduceNeg, Int.reduceToNat, reduceIte, reduceCtorEq, Int.reduceBEq, Int.reduceBNe, hb4, hb6, hb8, hb10, hbn]
      intro bs hbs
      have zs : fresh bs Nq := (fresh_app_iff.1 hbs.2.2.2.2.2.2.2.2.2.2).1
      refine push_gA (P := Tryz.prog) [_, _, _, _, _] (by_ := 120) (q := 31) (ag := true) ho ⟨zs, z10, z8, z6, z4, z2, trivial⟩ (by simp only [push_cast, Nat.reduceAdd, Nat.reduceSub, Nat.reduceMul, Nat.reduceLT, Nat.reduceLeDiff, Nat.reduceEqDiff, Nat.reduceMod, Nat.reduceDiv, Int.reduceAdd, Int.reduceSub, Int.reduceMul, Int.reduceLT, Int.reduceLE, Int.reduceEq, Int.reduceNeg, Int.reduceToNat, reduceIte, reduceCtorEq, Int.reduceBEq, Int.reduceBNe]) (by simp only [push_cast, Nat.reduceAdd, Nat.reduceSub, Nat.reduceMul, Nat.reduceLT, Nat.reduceLeDiff, Nat.reduceEqDiff, Nat.reduceMod, Nat.reduceDiv, Int.reduceAdd, Int.reduceSub, Int.reduceMul, Int.reduceLT, Int.reduceLE, Int.reduceEq, Int.reduceNeg, Int.reduceToNat, reduceIte, reduceCtorEq, Int.reduceBEq, Int.reduceBNe]) uc.len (by have := chAll [uc]; simpa using this) (by unfold two47; omega) fun v3 N3 ho4 hf4 => ?_
      obtain ⟨p3, k3, hv3⟩ := ho4.slice
      subst hv3
      rcases ho4 with ⟨r1, -⟩ | ⟨bu, cu, r3, r4, r5, hN3⟩
      · rw [List.length_append] at r1; simp at r1
      obtain ⟨hq3, -⟩ := (show freshN [⟨bu, 0, .vec 31 31 cu, (now.undo ++ [uc]).flatMap Ch.cells⟩] _ from hN3 ▸ hf4)
      rw [hN3]
      have hbu := hq3
      simp only [push_cast, Nat.reduceAdd, Nat.reduceSub, Nat.reduceMul, Nat.reduceLT, Nat.reduceLeDiff, Nat.reduceEqDiff, Nat.reduceMod, Nat.reduceDiv, Int.reduceAdd, Int.reduceSub, Int.reduceMul, Int.reduceLT, Int.reduceLE, Int.reduceEq, Int.reduceNeg, Int.reduceToNat, reduceIte, reduceCtorEq, Int.reduceBEq, Int.reduceBNe] at hbu
      simp only [push_cast, Nat.reduceAdd, Nat.reduceSub, Nat.reduceMul, Nat.reduceLT, Nat.reduceLeDiff, Nat.reduceEqDiff, Nat.reduceMod, Nat.reduceDiv, Int.reduceAdd, Int.reduceSub, Int.reduceMul, Int.reduceLT, Int.reduceLE, Int.reduceEq, Int.reduceNeg, Int.reduceToNat, reduceIte, reduceCtorEq, Int.reduceBEq, Int.reduceBNe, hb4, hb6, hb8, hb10, hbs, hbu, wrap_i64' (show -9223372036854775808 ≤ (i : Int) + 1 ∧ (i : Int) + 1 ≤ 9223372036854775807 by omega)]
      obtain ⟨-, -, -, -, -, -, u6, u6', u4, u4', u2, u2', uM⟩ := hbu
      have ys : fresh bs M3 := (fresh_app_iff.1 hbs.2.2.2.2.2.2.2.2.2.2).2
      have hl2 : (now.undo ++ [uc]).length = now.undo.length + 1 := by simp
      refine ⟨⟨(((i + 1, ⟨t, now.undo ++ [uc], now.marks⟩), (.slice pw2 t.length kw2, .slice p3 (now.undo.length + 1) k3)), ([⟨bu, 0, .vec 31 31 cu, (now.undo ++ [uc]).flatMap Ch.cells⟩], M3)), hgq.trans hg3, ⟨uM, trivial⟩, ⟨u6', u6, y6⟩, ⟨u4', u4, y4⟩, ⟨u2', u2, y2⟩⟩, ⟨hlt, hrun, hnm, hri2, by dsimp only; omega, hsw, .inr ⟨bu, cu, ?_, r4, r5, rfl⟩⟩, by dsimp only; omega, rfl, ⟨rfl, by simp [findE], ?_⟩, ?_⟩
      · dsimp only
        rw [← r3, hl2]
      · simp only [remE, if_true]
        show subH (_ :: _ :: _ :: M3) M3
        rw [subH_skip ys, subH_skip y10, subH_skip y8]
        exact subH_self M3
      · simp [marksOf, marks_append]
    · obtain rfl : i = l.length := by omega
      rw [List.drop_length, runJ] at hrun
      simp only [push_cast, Nat.reduceAdd, Nat.reduceSub, Nat.reduceMul, Nat.reduceLT, Nat.reduceLeDiff, Nat.reduceEqDiff, Nat.reduceMod, Nat.reduceDiv, Int.reduceAdd, Int.reduceSub, Int.reduceMul, Int.reduceLT, Int.reduceLE, Int.reduceEq, Int.reduceNeg, Int.reduceToNat, reduceIte, reduceCtorEq, Int.reduceBEq, Int.reduceBNe, Nat.lt_irrefl, Int.lt_irrefl, hb4, hb6]
      exact doneN [_, _, _] (hgb.trans hgq) ho.wr.1 ho.wr.2 hfq (JeR.own R) ⟨.agg #[.slice pw1 now.state.length kw1, .slice pn1 now.undo.length kn1, .slice pk j.marks.length kk], by rw [hrun], by rw [hrun]; exact ⟨_, _, _, rfl, hw.app hfq, ho.liR rfl rfl _, by dsimp only; rw [hnm]; exact hmq.app hfq⟩⟩
end Go.Proofs.YtkhpncfgimlleaaGreat
set_option linter.unusedSimpArgs false
set_option linter.unusedVariables false
namespace Go.Ev
theorem LiR.take {α : Type} {c : α → List Value} {s : Nat} {H : Hp} {l : List α} {p : Option Addr} {n k : Nat} (hs : ∀ x, (c x).length = s) (h : LiR c s H l (.slice p n k)) {m : Nat} (hm : m ≤ l.length) : LiR c s H (l.take m) (.slice p m k) := by
  obtain ⟨p', k', hv, h1⟩ := h
  cases hv
  have hl : (l.take m).length = m := by rw [List.length_take, Nat.min_eq_left hm]
  refine ⟨p, k, by rw [hl], ?_⟩
  rcases h1 with h1 | ⟨b, o, rfl, h1⟩
  · exact .inl (by rw [h1]; simp)
  · refine .inr ⟨b, o, rfl, ?_⟩
    rw [hl]
    have hle : m * s ≤ l.length * s := Nat.mul_le_mul_right s hm
    have htk : (l.take m).flatMap c = (l.flatMap c).take (m * s) := by
      have h0 : l.flatMap c = (l.take m).flatMap c ++ (l.drop m).flatMap c := by rw [← List.flatMap_append, List.take_append_drop]
      have h2 : ((l.take m).flatMap c).length = m * s := by rw [flatMap_len hs, hl]
      rw [h0, List.take_append_of_le_length (Nat.le_of_eq h2.symm), List.take_of_length_le (Nat.le_of_eq h2)]
    rw [htk]
    unfold cellsAt at h1 ⊢
    cases he : findE H b with
    | none => rw [he] at h1; cases h1
    | some e =>
      rw [he] at h1
      dsimp only at h1 ⊢
      by_cases ho : e.off ≤ o
      · rw [if_pos ho] at h1 ⊢
        unfold subL at h1 ⊢
        by_cases h2 : o - e.off + l.length * s ≤ e.cells.length
        · rw [if_pos h2] at h1
          rw [if_pos (by omega)]
          have h1 := Option.some.inj h1
          rw [← h1, List.take_take, Nat.min_eq_left hle]
        · rw [if_neg h2] at h1; cases h1
      · rw [if_neg ho] at h1; cases h1
def JeC (r : Jo × Int) : Value → Hp → Prop := fun v H => ∃ vs pu ku vm, v = .tuple #[.agg #[vs, .slice pu r.1.undo.length ku, vm], .int .i64 r.2] ∧ (r.1.undo.length ≤ ku ∧ ((pu = none ∧ ku = 0) ∨ ∃ b, pu = some ⟨b, 0, none⟩)) ∧ JoR r.1 (.agg #[vs, .slice pu r.1.undo.length ku, vm]) H
theorem JeC.rd (r : Jo × Int) : RdOnly (JeC r) := by
  rintro v A B h ⟨vs, pu, ku, vm, rfl, h1, h2⟩
  exact ⟨vs, pu, ku, vm, rfl, h1, JoR.rd _ _ _ _ h h2⟩
theorem cellsAt_front {A B : Hp} (N : Hp) (h : cellsAt A = cellsAt B) : cellsAt (N ++ A) = cellsAt (N ++ B) := by
  funext b o n
  have h2 := congrFun (congrFun (congrFun h b) o) n
  unfold cellsAt at h2 ⊢
  rw [findE_app, findE_app]
  cases findE N b with
  | some e => rfl
  | none => exact h2
theorem JeC.own (r : Jo × Int) : RdOwn (fun v N1 H => JeC r v (N1 ++ H)) := fun _ N1 _ _ h hq => JeC.rd _ _ _ _ (cellsAt_front N1 h) hq
theorem OutG.cap {e s n : Nat} {cs : List Value} {v : Value} {N : Hp} (h : OutG e s cs n v N) : ∃ p k, v = .slice p n k ∧ n ≤ k ∧ ((p = none ∧ k = 0) ∨ ∃ b, p = some ⟨b, 0, none⟩) := by
  rcases h with ⟨rfl, _, rfl, _⟩ | ⟨b, c, rfl, h, _, _⟩
  · exact ⟨_, _, rfl, Nat.le_refl _, .inl ⟨rfl, rfl⟩⟩
  · exact ⟨_, _, rfl, h, .inr ⟨_, rfl⟩⟩
end Go.Ev
namespace Go.Proofs.YtkhpncfgimlleaaGreat
open Go Go.Ev Go.Proofs
set_option maxRecDepth 100000
set_option maxHeartbeats 4000000
def plKp : Plans := fun i => if i = 2 then [(0, 9)] else Tryz.pl24 i
attribute [push_cast] plKp
theorem jkeep_ok {M : Hp} {j : Jo} {v : Value} {m : Int} (hv : JoR j v M) (hn : j.state.length ≤ 1000000000) (hu : j.undo.length ≤ 1000000000) (hma : j.marks.length ≤ 1000000000000) (hsl : ∀ y ∈ j.state, y.slots.length ≤ 1000000000000) : CallsW Tryz.prog 24 [v, .int .i64 m] M (fun u N1 H => JeC (keepJ j m) u (N1 ++ H)) := by
  intro M0 hr he
  have hm := hr.marks
  replace hv := JoR.rd _ _ _ _ he.symm hv
  have hv0 := hv
  obtain ⟨vs, vu, vm, rfl, h1, h2, h3⟩ := hv
  obtain ⟨ps, ks, rfl⟩ := h1.slice
  obtain ⟨pu, ku, rfl⟩ := h2.slice
  obtain ⟨pm, km, rfl⟩ := h3.slice
  obtain ⟨R, hR⟩ : ∃ R, R = keepJ j m := ⟨_, rfl⟩
  rw [← hR]
  unfold keepJ at hR
  refine callsO gJ1_ok Tryz.mix plKp Tryz.func24 rfl Tryz.ntmps24 Tryz.results24 rfl (by first | rfl | assumption) (Nat.le_of_ble_eq_true rfl) (by kernel_rfl) ?_
  simp only [push_cast, Nat.reduceAdd, Nat.reduceSub, Nat.reduceMul, Nat.reduceLT, Nat.reduceLeDiff, Nat.reduceEqDiff, Nat.reduceMod, Nat.reduceDiv, Int.reduceAdd, Int.reduceSub, Int.reduceMul, Int.reduceLT, Int.reduceLE, Int.reduceEq, Int.reduceNeg, Int.reduceToNat, reduceIte, reduceCtorEq, Int.reduceBEq, Int.reduceBNe]
  intro b2 hb2 b4 hb4
  have f2 : fresh b2 M0 := hb2
  have f4 : fresh b4 M0 := hb4.2.2
  simp only [push_cast, Nat.reduceAdd, Nat.reduceSub, Nat.reduceMul, Nat.reduceLT, Nat.reduceLeDiff, Nat.reduceEqDiff, Nat.reduceMod, Nat.reduceDiv, Int.reduceAdd, Int.reduceSub, Int.reduceMul, Int.reduceLT, Int.reduceLE, Int.reduceEq, Int.reduceNeg, Int.reduceToNat, reduceIte, reduceCtorEq, Int.reduceBEq, Int.reduceBNe, hb4]
  refine useB [_, _] (jown_ok hv0 hn hu hma hsl) (JoO.rd _ _ _) hm ⟨f4, f2, trivial⟩ fun w Nj M1 hg1 hf1 hL1 hw1 hm1 hq1 => ?_
  have hq1r := hq1.r hf1
  obtain ⟨vs', vu', vm', Nu, Nm, rfl, hNj, hum, ho2, ho3, hq1⟩ := hq1
  obtain ⟨pw, kw, rfl⟩ := hq1.slice
  obtain ⟨pn, kn, rfl, hkn⟩ := ho2.cap
  obtain ⟨pk, kk, rfl, hkk, hpk⟩ := ho3.cap
  simp only [push_cast, Nat.reduceAdd, Nat.reduceSub, Nat.reduceMul, Nat.reduceLT, Nat.reduceLeDiff, Nat.reduceEqDiff, Nat.reduceMod, Nat.reduceDiv, Int.reduceAdd, Int.reduceSub, Int.reduceMul, Int.reduceLT, Int.reduceLE, Int.reduceEq, Int.reduceNeg, Int.reduceToNat, reduceIte, reduceCtorEq, Int.reduceBEq, Int.reduceBNe, hb4]
  intro b6 hb6
  have x6 : fresh b6 Nj ∧ fresh b6 M1 := fresh_app_iff.1 hb6.2.2.2.2
  have x4 := fresh_app_iff.1 hL1.1
  have x2 := fresh_app_iff.1 hL1.2.1
  refine regO gJ1_ok ?_
  simp only [push_cast, Nat.reduceAdd, Nat.reduceSub, Nat.reduceMul, Nat.reduceLT, Nat.reduceLeDiff, Nat.reduceEqDiff, Nat.reduceMod, Nat.reduceDiv, Int.reduceAdd, Int.reduceSub, Int.reduceMul, Int.reduceLT, Int.reduceLE, Int.reduceEq, Int.reduceNeg, Int.reduceToNat, reduceIte, reduceCtorEq, Int.reduceBEq, Int.reduceBNe, hb4, hb6]
  refine useP (_ :: _ :: _ :: Nj) (fun M2 hr2 he2 => jright_ok (JoR.rd _ _ _ _ he2.symm (hv0.ext hg1.ext)) hr2.marks hn (by omega) hma hsl) ⟨x6.2, x4.2, x2.2, hf1⟩ ?_
  cases hrj : rightJ j
  · rw [if_neg (by rw [hrj]; simp)] at hR
    simp only [push_cast, Nat.reduceAdd, Nat.reduceSub, Nat.reduceMul, Nat.reduceLT, Nat.reduceLeDiff, Nat.reduceEqDiff, Nat.reduceMod, Nat.reduceDiv, Int.reduceAdd, Int.reduceSub, Int.reduceMul, Int.reduceLT, Int.reduceLE, Int.reduceEq, Int.reduceNeg, Int.reduceToNat, reduceIte, reduceCtorEq, Int.reduceBEq, Int.reduceBNe, hb4, hb6]
    exact doneN [_, _, _] hg1 hw1 hm1 hf1 (JeC.own R) (by rw [hR]; exact ⟨_, _, _, _, rfl, hkn, hq1r⟩)
  rw [if_pos hrj] at hR
  by_cases c1 : m < 0
  · rw [if_pos (.inl c1)] at hR
    simp only [push_cast, Nat.reduceAdd, Nat.reduceSub, Nat.reduceMul, Nat.reduceLT, Nat.reduceLeDiff, Nat.reduceEqDiff, Nat.reduceMod, Nat.reduceDiv, Int.reduceAdd, Int.reduceSub, Int.reduceMul, Int.reduceLT, Int.reduceLE, Int.reduceEq, Int.reduceNeg, Int.reduceToNat, reduceIte, reduceCtorEq, Int.reduceBEq, Int.reduceBNe, hb4, hb6, c1]
    exact doneN [_, _, _] hg1 hw1 hm1 hf1 (JeC.own R) (by rw [hR]; exact ⟨_, _, _, _, rfl, hkn, hq1r⟩)
  by_cases c2 : (j.marks.length : Int) ≤ m
  · rw [if_pos (.inr c2)] at hR
    simp only [push_cast, Nat.reduceAdd, Nat.reduceSub, Nat.reduceMul, Nat.reduceLT, Nat.reduceLeDiff, Nat.reduceEqDiff, Nat.reduceMod, Nat.reduceDiv, Int.reduceAdd, Int.reduceSub, Int.reduceMul, Int.reduceLT, Int.reduceLE, Int.reduceEq, Int.reduceNeg, Int.reduceToNat, reduceIte, reduceCtorEq, Int.reduceBEq, Int.reduceBNe, hb4, hb6, c1, c2]
    exact doneN [_, _, _] hg1 hw1 hm1 hf1 (JeC.own R) (by rw [hR]; exact ⟨_, _, _, _, rfl, hkn, hq1r⟩)
  rw [if_neg (by omega)] at hR
  obtain ⟨q, rfl⟩ : ∃ q : Nat, m = (q : Int) := ⟨m.toNat, by omega⟩
  rw [Int.toNat_natCast] at hR
  have c3 : q ≤ kk := by omega
  obtain ⟨vs2, vu2, vm2, hve, y1, y2, y3⟩ := hq1r
  injection hve with hve
  injection hve with hve
  simp only [List.cons.injEq, and_true] at hve
  obtain ⟨rfl, rfl, rfl⟩ := hve
  have hfin : JeC R (.tuple #[.agg #[.slice pw j.state.length kw, .slice pn j.undo.length kn, .slice pk q kk], .int .i64 0]) (Nj ++ M1) := by
    rw [hR]; exact ⟨_, _, _, _, rfl, hkn, _, _, _, rfl, y1, y2, LiR.take (c := intC) (s := 1) (m := q) (fun _ => rfl) y3 (show q ≤ j.marks.length by omega)⟩
  rcases hpk with ⟨rfl, rfl⟩ | ⟨bk, rfl⟩
  · simp only [push_cast, Nat.reduceAdd, Nat.reduceSub, Nat.reduceMul, Nat.reduceLT, Nat.reduceLeDiff, Nat.reduceEqDiff, Nat.reduceMod, Nat.reduceDiv, Int.reduceAdd, Int.reduceSub, Int.reduceMul, Int.reduceLT, Int.reduceLE, Int.reduceEq, Int.reduceNeg, Int.reduceToNat, reduceIte, reduceCtorEq, Int.reduceBEq, Int.reduceBNe, hb4, hb6, c1, c2, c3]
    exact doneN [_, _, _] hg1 hw1 hm1 hf1 (JeC.own R) hfin
  · simp only [push_cast, Nat.reduceAdd, Nat.reduceSub, Nat.reduceMul, Nat.reduceLT, Nat.reduceLeDiff, Nat.reduceEqDiff, Nat.reduceMod, Nat.reduceDiv, Int.reduceAdd, Int.reduceSub, Int.reduceMul, Int.reduceLT, Int.reduceLE, Int.reduceEq, Int.reduceNeg, Int.reduceToNat, reduceIte, reduceCtorEq, Int.reduceBEq, Int.reduceBNe, hb4, hb6, c1, c2, c3, ite_self]
    exact doneN [_, _, _] hg1 hw1 hm1 hf1 (JeC.own R) hfin
def plRK : Plans := fun i => if i = 1 then [(0, 9)] else Tryz.pl25 i
attribute [push_cast] plRK
theorem refJkeep_ok {M : Hp} {j : Jo} {v : Value} {m : Int} (hv : JoR j v M) (hn : j.state.length ≤ 1000000000) (hu : j.undo.length ≤ 1000000000) (hma : j.marks.length ≤ 1000000000000) (hsl : ∀ y ∈ j.state, y.slots.length ≤ 2000) : CallsW Tryz.prog 25 [v, .int .i64 m] M (fun u N1 H => JeC (keepJ j m) u (N1 ++ H)) := by
  intro M0 hr he
  have hm := hr.marks
  have hsl' : ∀ y ∈ j.state, y.slots.length ≤ 1000000000000 := fun y hy => by have := hsl y hy; omega
  replace hv := JoR.rd _ _ _ _ he.symm hv
  have hv0 := hv
  obtain ⟨vs, vu, vm, rfl, h1, h2, h3⟩ := hv
  obtain ⟨ps, ks, rfl⟩ := h1.slice
  obtain ⟨pu, ku, rfl⟩ := h2.slice
  obtain ⟨pm, km, rfl⟩ := h3.slice
  obtain ⟨R, hR⟩ : ∃ R, R = keepJ j m := ⟨_, rfl⟩
  rw [← hR]
  unfold keepJ at hR
  refine callsO gJ1_ok Tryz.mix plRK Tryz.func25 rfl Tryz.ntmps25 Tryz.results25 rfl (by first | rfl | assumption) (Nat.le_of_ble_eq_true rfl) (by kernel_rfl) ?_
  simp only [push_cast, Nat.reduceAdd, Nat.reduceSub, Nat.reduceMul, Nat.reduceLT, Nat.reduceLeDiff, Nat.reduceEqDiff, Nat.reduceMod, Nat.reduceDiv, Int.reduceAdd, Int.reduceSub, Int.reduceMul, Int.reduceLT, Int.reduceLE, Int.reduceEq, Int.reduceNeg, Int.reduceToNat, reduceIte, reduceCtorEq, Int.reduceBEq, Int.reduceBNe]
  intro b2 hb2 b4 hb4
  have f2 : fresh b2 M0 := hb2
  have f4 : fresh b4 M0 := hb4.2.2
  refine regO gJ1_ok ?_
  simp only [push_cast, Nat.reduceAdd, Nat.reduceSub, Nat.reduceMul, Nat.reduceLT, Nat.reduceLeDiff, Nat.reduceEqDiff, Nat.reduceMod, Nat.reduceDiv, Int.reduceAdd, Int.reduceSub, Int.reduceMul, Int.reduceLT, Int.reduceLE, Int.reduceEq, Int.reduceNeg, Int.reduceToNat, reduceIte, reduceCtorEq, Int.reduceBEq, Int.reduceBNe, hb4]
  refine useP [_, _] (fun M2 hr2 he2 => refJRight_ok (JoR.rd _ _ _ _ he2.symm hv0) hr2.marks hn (by omega) hma hsl) ⟨f4, f2, trivial⟩ ?_
  cases hrj : rightJ j
  · rw [if_neg (by rw [hrj]; simp)] at hR
    simp only [push_cast, Nat.reduceAdd, Nat.reduceSub, Nat.reduceMul, Nat.reduceLT, Nat.reduceLeDiff, Nat.reduceEqDiff, Nat.reduceMod, Nat.reduceDiv, Int.reduceAdd, Int.reduceSub, Int.reduceMul, Int.reduceLT, Int.reduceLE, Int.reduceEq, Int.reduceNeg, Int.reduceToNat, reduceIte, reduceCtorEq, Int.reduceBEq, Int.reduceBNe, hb4]
    refine useB [_, _] (refJown_ok hv0 hn hu hma hsl') (JoO.rd _ _ _) hm ⟨f4, f2, trivial⟩ fun w Nj M1 hg1 hf1 hL1 hw1 hm1 hq1 => ?_
    have hq1r := hq1.r hf1
    obtain ⟨vs', vu', vm', Nu, Nm, rfl, hNj, hum, ho2, ho3, hq1⟩ := hq1
    obtain ⟨pw, kw, rfl⟩ := hq1.slice
    obtain ⟨pn, kn, rfl, hkn⟩ := ho2.cap
    obtain ⟨pk, kk, rfl, hkk, hpk⟩ := ho3.cap
    simp only [push_cast, Nat.reduceAdd, Nat.reduceSub, Nat.reduceMul, Nat.reduceLT, Nat.reduceLeDiff, Nat.reduceEqDiff, Nat.reduceMod, Nat.reduceDiv, Int.reduceAdd, Int.reduceSub, Int.reduceMul, Int.reduceLT, Int.reduceLE, Int.reduceEq, Int.reduceNeg, Int.reduceToNat, reduceIte, reduceCtorEq, Int.reduceBEq, Int.reduceBNe, hb4]
    exact doneN [_, _] hg1 hw1 hm1 hf1 (JeC.own R) (by rw [hR]; exact ⟨_, _, _, _, rfl, hkn, hq1r⟩)
  rw [if_pos hrj] at hR
  by_cases c0 : m < 0 ∨ (j.marks.length : Int) ≤ m
  · rw [if_pos c0] at hR
    by_cases c1 : m < 0
    · simp only [push_cast, Nat.reduceAdd, Nat.reduceSub, Nat.reduceMul, Nat.reduceLT, Nat.reduceLeDiff, Nat.reduceEqDiff, Nat.reduceMod, Nat.reduceDiv, Int.reduceAdd, Int.reduceSub, Int.reduceMul, Int.reduceLT, Int.reduceLE, Int.reduceEq, Int.reduceNeg, Int.reduceToNat, reduceIte, reduceCtorEq, Int.reduceBEq, Int.reduceBNe, hb4, c1]
      refine useB [_, _] (refJown_ok hv0 hn hu hma hsl') (JoO.rd _ _ _) hm ⟨f4, f2, trivial⟩ fun w Nj M1 hg1 hf1 hL1 hw1 hm1 hq1 => ?_
      have hq1r := hq1.r hf1
      obtain ⟨vs', vu', vm', Nu, Nm, rfl, hNj, hum, ho2, ho3, hq1⟩ := hq1
      obtain ⟨pw, kw, rfl⟩ := hq1.slice
      obtain ⟨pn, kn, rfl, hkn⟩ := ho2.cap
      obtain ⟨pk, kk, rfl, hkk, hpk⟩ := ho3.cap
      simp only [push_cast, Nat.reduceAdd, Nat.reduceSub, Nat.reduceMul, Nat.reduceLT, Nat.reduceLeDiff, Nat.reduceEqDiff, Nat.reduceMod, Nat.reduceDiv, Int.reduceAdd, Int.reduceSub, Int.reduceMul, Int.reduceLT, Int.reduceLE, Int.reduceEq, Int.reduceNeg, Int.reduceToNat, reduceIte, reduceCtorEq, Int.reduceBEq, Int.reduceBNe, hb4]
      exact doneN [_, _] hg1 hw1 hm1 hf1 (JeC.own R) (by rw [hR]; exact ⟨_, _, _, _, rfl, hkn, hq1r⟩)
    · have c2 : (j.marks.length : Int) ≤ m := by omega
      simp only [push_cast, Nat.reduceAdd, Nat.reduceSub, Nat.reduceMul, Nat.reduceLT, Nat.reduceLeDiff, Nat.reduceEqDiff, Nat.reduceMod, Nat.reduceDiv, Int.reduceAdd, Int.reduceSub, Int.reduceMul, Int.reduceLT, Int.reduceLE, Int.reduceEq, Int.reduceNeg, Int.reduceToNat, reduceIte, reduceCtorEq, Int.reduceBEq, Int.reduceBNe, hb4, c1, c2]
      refine useB [_, _] (refJown_ok hv0 hn hu hma hsl') (JoO.rd _ _ _) hm ⟨f4, f2, trivial⟩ fun w Nj M1 hg1 hf1 hL1 hw1 hm1 hq1 => ?_
      have hq1r := hq1.r hf1
      obtain ⟨vs', vu', vm', Nu, Nm, rfl, hNj, hum, ho2, ho3, hq1⟩ := hq1
      obtain ⟨pw, kw, rfl⟩ := hq1.slice
      obtain ⟨pn, kn, rfl, hkn⟩ := ho2.cap
      obtain ⟨pk, kk, rfl, hkk, hpk⟩ := ho3.cap
      simp only [push_cast, Nat.reduceAdd, Nat.reduceSub, Nat.reduceMul, Nat.reduceLT, Nat.reduceLeDiff, Nat.reduceEqDiff, Nat.reduceMod, Nat.reduceDiv, Int.reduceAdd, Int.reduceSub, Int.reduceMul, Int.reduceLT, Int.reduceLE, Int.reduceEq, Int.reduceNeg, Int.reduceToNat, reduceIte, reduceCtorEq, Int.reduceBEq, Int.reduceBNe, hb4]
      exact doneN [_, _] hg1 hw1 hm1 hf1 (JeC.own R) (by rw [hR]; exact ⟨_, _, _, _, rfl, hkn, hq1r⟩)
  have c1 : ¬ m < 0 := fun h => c0 (.inl h)
  have c2 : ¬ (j.marks.length : Int) ≤ m := fun h => c0 (.inr h)
  rw [if_neg c0] at hR
  obtain ⟨q, rfl⟩ : ∃ q : Nat, m = (q : Int) := ⟨m.toNat, by omega⟩
  rw [Int.toNat_natCast] at hR
  simp only [push_cast, Nat.reduceAdd, Nat.reduceSub, Nat.reduceMul, Nat.reduceLT, Nat.reduceLeDiff, Nat.reduceEqDiff, Nat.reduceMod, Nat.reduceDiv, Int.reduceAdd, Int.reduceSub, Int.reduceMul, Int.reduceLT, Int.reduceLE, Int.reduceEq, Int.reduceNeg, Int.reduceToNat, reduceIte, reduceCtorEq, Int.reduceBEq, Int.reduceBNe, hb4, c1, c2]
  refine useB [_, _] (refJown_ok hv0 hn hu hma hsl') (JoO.rd _ _ _) hm ⟨f4, f2, trivial⟩ fun w Nj M1 hg1 hf1 hL1 hw1 hm1 hq1 => ?_
  have hq1r := hq1.r hf1
  obtain ⟨vs', vu', vm', Nu, Nm, rfl, hNj, hum, ho2, ho3, hq1⟩ := hq1
  obtain ⟨pw, kw, rfl⟩ := hq1.slice
  obtain ⟨pn, kn, rfl, hkn⟩ := ho2.cap
  obtain ⟨pk, kk, rfl, hkk, hpk⟩ := ho3.cap
  have c3 : q ≤ kk := by omega
  obtain ⟨vs2, vu2, vm2, hve, y1, y2, y3⟩ := hq1r
  injection hve with hve
  injection hve with hve
  simp only [List.cons.injEq, and_true] at hve
  obtain ⟨rfl, rfl, rfl⟩ := hve
  have hfin : JeC R (.tuple #[.agg #[.slice pw j.state.length kw, .slice pn j.undo.length kn, .slice pk q kk], .int .i64 0]) (Nj ++ M1) := by
    rw [hR]; exact ⟨_, _, _, _, rfl, hkn, _, _, _, rfl, y1, y2, LiR.take (c := intC) (s := 1) (m := q) (fun _ => rfl) y3 (show q ≤ j.marks.length by omega)⟩
  simp only [push_cast, Nat.reduceAdd, Nat.reduceSub, Nat.reduceMul, Nat.reduceLT, Nat.reduceLeDiff, Nat.reduceEqDiff, Nat.reduceMod, Nat.reduceDiv, Int.reduceAdd, Int.reduceSub, Int.reduceMul, Int.reduceLT, Int.reduceLE, Int.reduceEq, Int.reduceNeg, Int.reduceToNat, reduceIte, reduceCtorEq, Int.reduceBEq, Int.reduceBNe, hb4]
  intro b6 hb6
  rcases hpk with ⟨rfl, rfl⟩ | ⟨bk, rfl⟩
  · simp only [push_cast, Nat.reduceAdd, Nat.reduceSub, Nat.reduceMul, Nat.reduceLT, Nat.reduceLeDiff, Nat.reduceEqDiff, Nat.reduceMod, Nat.reduceDiv, Int.reduceAdd, Int.reduceSub, Int.reduceMul, Int.reduceLT, Int.reduceLE, Int.reduceEq, Int.reduceNeg, Int.reduceToNat, reduceIte, reduceCtorEq, Int.reduceBEq, Int.reduceBNe, hb4, hb6, c3]
    exact doneN [_, _, _] hg1 hw1 hm1 hf1 (JeC.own R) hfin
  · simp only [push_cast, Nat.reduceAdd, Nat.reduceSub, Nat.reduceMul, Nat.reduceLT, Nat.reduceLeDiff, Nat.reduceEqDiff, Nat.reduceMod, Nat.reduceDiv, Int.reduceAdd, Int.reduceSub, Int.reduceMul, Int.reduceLT, Int.reduceLE, Int.reduceEq, Int.reduceNeg, Int.reduceToNat, reduceIte, reduceCtorEq, Int.reduceBEq, Int.reduceBNe, hb4, hb6, c3, ite_self]
    exact doneN [_, _, _] hg1 hw1 hm1 hf1 (JeC.own R) hfin
end Go.Proofs.YtkhpncfgimlleaaGreat
set_option linter.unusedSimpArgs false
set_option linter.unusedVariables false
namespace Go.Proofs.YtkhpncfgimlleaaGreat
open Go Go.Ev Go.Proofs
set_option maxRecDepth 100000
set_option maxHeartbeats 4000000
theorem jkeep_R {M : Hp} {j : Jo} {v : Value} {m : Int} (hv : JoR j v M) (hn : j.state.length ≤ 1000000000) (hu : j.undo.length ≤ 1000000000) (hma : j.marks.length ≤ 1000000000000) (hsl : ∀ y ∈ j.state, y.slots.length ≤ 1000000000000) : CallsR Tryz.prog 24 [v, .int .i64 m] M (JeC (keepJ j m)) :=
  (jkeep_ok hv hn hu hma hsl).toR fun v N1 A _ _ hf hq => hq
theorem refJkeep_R {M : Hp} {j : Jo} {v : Value} {m : Int} (hv : JoR j v M) (hn : j.state.length ≤ 1000000000) (hu : j.undo.length ≤ 1000000000) (hma : j.marks.length ≤ 1000000000000) (hsl : ∀ y ∈ j.state, y.slots.length ≤ 2000) : CallsR Tryz.prog 25 [v, .int .i64 m] M (JeC (keepJ j m)) :=
  (refJkeep_ok hv hn hu hma hsl).toR fun v N1 A _ _ hf hq => hq
def plBk : Plans := fun i => if i = 2 then [(0, 9)] else if i = 6 then [] else Tryz.pl22 i
attribute [push_cast] plBk
theorem jback_ok {M : Hp} {j : Jo} {v : Value} {m : Int} (hv : JoR j v M) (hn : j.state.length ≤ 1000000000) (hu : j.undo.length ≤ 1000000000) (hma : j.marks.length ≤ 1000000000000) (hsl : ∀ y ∈ j.state, y.slots.length ≤ 1000000000000) : CallsR Tryz.prog 22 [v, .int .i64 m] M (JeR (backJ j m)) := by
  intro M0 hr he
  have hm := hr.marks
  replace hv := JoR.rd _ _ _ _ he.symm hv
  have hv0 := hv
  obtain ⟨vs, vu, vm, rfl, h1, h2, h3⟩ := hv
  obtain ⟨ps, ks, rfl⟩ := h1.slice
  obtain ⟨pu, ku, rfl⟩ := h2.slice
  obtain ⟨pm, km, rfl, hmm⟩ := LiR.openI h3
  obtain ⟨R, hR⟩ : ∃ R, R = backJ j m := ⟨_, rfl⟩
  rw [← hR]
  unfold backJ at hR
  refine callsO gJ1_ok Tryz.mix plBk Tryz.func22 rfl Tryz.ntmps22 Tryz.results22 rfl (by first | rfl | assumption) (Nat.le_of_ble_eq_true rfl) (by kernel_rfl) ?_
  simp only [push_cast, Nat.reduceAdd, Nat.reduceSub, Nat.reduceMul, Nat.reduceLT, Nat.reduceLeDiff, Nat.reduceEqDiff, Nat.reduceMod, Nat.reduceDiv, Int.reduceAdd, Int.reduceSub, Int.reduceMul, Int.reduceLT, Int.reduceLE, Int.reduceEq, Int.reduceNeg, Int.reduceToNat, reduceIte, reduceCtorEq, Int.reduceBEq, Int.reduceBNe]
  intro b2 hb2 b4 hb4
  have f2 : fresh b2 M0 := hb2
  have f4 : fresh b4 M0 := hb4.2.2
  simp only [push_cast, Nat.reduceAdd, Nat.reduceSub, Nat.reduceMul, Nat.reduceLT, Nat.reduceLeDiff, Nat.reduceEqDiff, Nat.reduceMod, Nat.reduceDiv, Int.reduceAdd, Int.reduceSub, Int.reduceMul, Int.reduceLT, Int.reduceLE, Int.reduceEq, Int.reduceNeg, Int.reduceToNat, reduceIte, reduceCtorEq, Int.reduceBEq, Int.reduceBNe, hb4]
  refine useL [_, _] (jkeep_R (m := m) hv0 hn hu hma hsl) (JeC.rd _) hm ⟨f4, f2, trivial⟩ fun w M1 hg1 hL1 hq1 => ?_
  obtain ⟨v1, pw, kw, v3, rfl, ⟨hkw, hpw⟩, vs2, vu2, vm2, hve, y1, y2, y3⟩ := hq1
  injection hve with hve
  injection hve with hve
  simp only [List.cons.injEq, and_true] at hve
  obtain ⟨rfl, rfl, rfl⟩ := hve
  obtain ⟨p5, k5, rfl⟩ := y1.slice
  obtain ⟨p7, k7, rfl⟩ := y3.slice
  simp only [push_cast, Nat.reduceAdd, Nat.reduceSub, Nat.reduceMul, Nat.reduceLT, Nat.reduceLeDiff, Nat.reduceEqDiff, Nat.reduceMod, Nat.reduceDiv, Int.reduceAdd, Int.reduceSub, Int.reduceMul, Int.reduceLT, Int.reduceLE, Int.reduceEq, Int.reduceNeg, Int.reduceToNat, reduceIte, reduceCtorEq, Int.reduceBEq, Int.reduceBNe, hb4]
  intro b6 hb6
  refine regO gJ1_ok ?_
  by_cases hz : (keepJ j m).2 = 0
  case neg =>
    rw [if_neg hz] at hR
    have hbn : ((keepJ j m).2 != 0) = true := bne_iff_ne.2 hz
    simp only [push_cast, Nat.reduceAdd, Nat.reduceSub, Nat.reduceMul, Nat.reduceLT, Nat.reduceLeDiff, Nat.reduceEqDiff, Nat.reduceMod, Nat.reduceDiv, Int.reduceAdd, Int.reduceSub, Int.reduceMul, Int.reduceLT, Int.reduceLE, Int.reduceEq, Int.reduceNeg, Int.reduceToNat, reduceIte, reduceCtorEq, Int.reduceBEq, Int.reduceBNe, hb4, hb6, hbn]
    exact doneK2 [_, _, _] hg1 (JeR.rd _) ⟨_, by rw [hR], by rw [hR]; exact ⟨_, _, _, rfl, y1, y2, y3⟩⟩
  rw [if_pos hz] at hR
  have hbn : ((keepJ j m).2 != 0) = false := by rw [hz]; rfl
  have hke : keepJ j m = (⟨j.state, j.undo, j.marks.take m.toNat⟩, 0) ∧ rightJ j = true ∧ 0 ≤ m ∧ m < j.marks.length := by
    unfold keepJ at hz ⊢
    by_cases hrj : rightJ j = true
    · rw [if_pos hrj] at hz ⊢
      by_cases c0 : m < 0 ∨ (j.marks.length : Int) ≤ m
      · rw [if_pos c0] at hz; cases hz
      · rw [if_neg c0]; exact ⟨rfl, hrj, by omega, by omega⟩
    · rw [if_neg hrj] at hz; cases hz
  obtain ⟨hke, hrj, m0, m1⟩ := hke
  have hri := rightJ_iff.1 hrj
  rw [hke] at y1 y2 y3 hkw hbn ⊢
  dsimp only at y1 y2 y3 hkw hbn ⊢
  obtain ⟨q, rfl⟩ : ∃ q : Nat, m = (q : Int) := ⟨m.toNat, by omega⟩
  rw [Int.toNat_natCast] at *
  obtain ⟨x, hx⟩ : ∃ x, j.marks[q]? = some x := ⟨j.marks[q]'(by omega), List.getElem?_eq_getElem (by omega)⟩
  have hxm := List.mem_of_getElem? hx
  have hx0 := upB_ge hri.up x hxm
  have hxl := hri.le x hxm
  have hs : stayJ j (q : Int) = x.toNat := by
    unfold stayJ
    rw [Int.toNat_natCast, hx]; rfl
  obtain ⟨st, rfl⟩ : ∃ st : Nat, x = (st : Int) := ⟨x.toNat, by omega⟩
  rw [Int.toNat_natCast] at hs
  rw [hs] at hR
  rcases hmm with h0 | ⟨b, f, d, kd, cs, rfl, hfe, hat⟩
  · rw [h0] at hx; simp at hx
  obtain ⟨a1, a2⟩ := hat q _ hx
  have hee := hg1.find hfe
  have n2 := (fresh_findS (hL1.2.1) hee).2
  have n4 := (fresh_findS (hL1.1) hee).2
  have n6 := (fresh_findS (show fresh b6 M1 from hb6.2.2.2.2) hee).2
  have i1 : q < j.marks.length := by omega
  have i2 : (q : Int) < (j.marks.length : Int) := by omega
  simp only [push_cast, Nat.reduceAdd, Nat.reduceSub, Nat.reduceMul, Nat.reduceLT, Nat.reduceLeDiff, Nat.reduceEqDiff, Nat.reduceMod, Nat.reduceDiv, Int.reduceAdd, Int.reduceSub, Int.reduceMul, Int.reduceLT, Int.reduceLE, Int.reduceEq, Int.reduceNeg, Int.reduceToNat, reduceIte, reduceCtorEq, Int.reduceBEq, Int.reduceBNe, hb4, hb6, hbn, hee, n2, n4, n6, a1, a2, i1, i2]
  refine useL [_, _, _] (undone_ok (stay := st) (h1.ext hg1.ext) (h2.ext hg1.ext) hn hsl (by omega) (by omega)) (UndR.rd _) hg1.marks ⟨hb6.2.2.2.2, hL1.1, hL1.2.1, trivial⟩ fun w M2 hg2 hL2 hq2 => ?_
  obtain ⟨w2, rfl, hq2⟩ := hq2
  obtain ⟨p9, k9, rfl⟩ := hq2.slice
  have hus := undoE_ri _ hri.st (hri.undo st).1
  have hul := hus.len
  have hst : st ≤ j.undo.length := by omega
  have hu0 : (undoE j.state (j.undo.drop st).reverse).2 = 0 := (hri.undo st).1
  have hkst : st ≤ kw := by omega
  have y2' : LiR Ch.cells 31 M1 (j.undo.take st) (.slice pw st kw) := LiR.take (fun x => x.len) y2 hst
  rcases hpw with ⟨rfl, rfl⟩ | ⟨bw, rfl⟩
  all_goals
    simp only [push_cast, Nat.reduceAdd, Nat.reduceSub, Nat.reduceMul, Nat.reduceLT, Nat.reduceLeDiff, Nat.reduceEqDiff, Nat.reduceMod, Nat.reduceDiv, Int.reduceAdd, Int.reduceSub, Int.reduceMul, Int.reduceLT, Int.reduceLE, Int.reduceEq, Int.reduceNeg, Int.reduceToNat, reduceIte, reduceCtorEq, Int.reduceBEq, Int.reduceBNe, hb4, hb6]
    refine drawO gJ1_ok Tryz.mix (Tryz.pl22 6) (by kernel_rfl) ?_
    simp only [push_cast, Nat.reduceAdd, Nat.reduceSub, Nat.reduceMul, Nat.reduceLT, Nat.reduceLeDiff, Nat.reduceEqDiff, Nat.reduceMod, Nat.reduceDiv, Int.reduceAdd, Int.reduceSub, Int.reduceMul, Int.reduceLT, Int.reduceLE, Int.reduceEq, Int.reduceNeg, Int.reduceToNat, reduceIte, reduceCtorEq, Int.reduceBEq, Int.reduceBNe, hb4, hb6, hkst, ite_self]
    refine useL [_, _, _] (copied_R hq2 (by omega) (fun y hy => by have := (mayA_slots (hus.may y hy)).len; omega)) (StR.rd _) hg2.marks hL2 fun w M3 hg3 hL3 hq3 => ?_
    obtain ⟨p8, k8, rfl⟩ := hq3.slice
    simp only [push_cast, Nat.reduceAdd, Nat.reduceSub, Nat.reduceMul, Nat.reduceLT, Nat.reduceLeDiff, Nat.reduceEqDiff, Nat.reduceMod, Nat.reduceDiv, Int.reduceAdd, Int.reduceSub, Int.reduceMul, Int.reduceLT, Int.reduceLE, Int.reduceEq, Int.reduceNeg, Int.reduceToNat, reduceIte, reduceCtorEq, Int.reduceBEq, Int.reduceBNe, hb4, hb6]
    refine ⟨subH_gr (N := []) trivial hg3, ?_⟩
    exact doneK2 [_, _, _] ((hg1.trans hg2).trans hg3) (JeR.rd _) ⟨_, by rw [hR], by rw [hR]; exact ⟨_, _, _, rfl, hq3, y2'.ext (hg2.trans hg3).ext, y3.ext (hg2.trans hg3).ext⟩⟩
def plRB : Plans := fun i => if i = 2 then [(0, 9)] else Tryz.pl23 i
attribute [push_cast] plRB
theorem refJback_ok {M : Hp} {j : Jo} {v : Value} {m : Int} (hv : JoR j v M) (hn : j.state.length ≤ 1000000000) (hu : j.undo.length ≤ 1000000000) (hma : j.marks.length ≤ 1000000000000) (hsl : ∀ y ∈ j.state, y.slots.length ≤ 2000) : CallsR Tryz.prog 23 [v, .int .i64 m] M (JeR (backJ j m)) := by
  intro M0 hr he
  have hm := hr.marks
  replace hv := JoR.rd _ _ _ _ he.symm hv
  have hv0 := hv
  obtain ⟨vs, vu, vm, rfl, h1, h2, h3⟩ := hv
  obtain ⟨ps, ks, rfl⟩ := h1.slice
  obtain ⟨pu, ku, rfl⟩ := h2.slice
  obtain ⟨pm, km, rfl, hmm⟩ := LiR.openI h3
  obtain ⟨R, hR⟩ : ∃ R, R = backJ j m := ⟨_, rfl⟩
  rw [← hR]
  unfold backJ at hR
  refine callsO gJ1_ok Tryz.mix plRB Tryz.func23 rfl Tryz.ntmps23 Tryz.results23 rfl (by first | rfl | assumption) (Nat.le_of_ble_eq_true rfl) (by kernel_rfl) ?_
  simp only [push_cast, Nat.reduceAdd, Nat.reduceSub, Nat.reduceMul, Nat.reduceLT, Nat.reduceLeDiff, Nat.reduceEqDiff, Nat.reduceMod, Nat.reduceDiv, Int.reduceAdd, Int.reduceSub, Int.reduceMul, Int.reduceLT, Int.reduceLE, Int.reduceEq, Int.reduceNeg, Int.reduceToNat, reduceIte, reduceCtorEq, Int.reduceBEq, Int.reduceBNe]
  intro b2 hb2 b4 hb4
  have f2 : fresh b2 M0 := hb2
  have f4 : fresh b4 M0 := hb4.2.2
  simp only [push_cast, Nat.reduceAdd, Nat.reduceSub, Nat.reduceMul, Nat.reduceLT, Nat.reduceLeDiff, Nat.reduceEqDiff, Nat.reduceMod, Nat.reduceDiv, Int.reduceAdd, Int.reduceSub, Int.reduceMul, Int.reduceLT, Int.reduceLE, Int.reduceEq, Int.reduceNeg, Int.reduceToNat, reduceIte, reduceCtorEq, Int.reduceBEq, Int.reduceBNe, hb4]
  refine useL [_, _] (refJkeep_R (m := m) hv0 hn hu hma hsl) (JeC.rd _) hm ⟨f4, f2, trivial⟩ fun w M1 hg1 hL1 hq1 => ?_
  obtain ⟨v1, pw, kw, v3, rfl, ⟨hkw, hpw⟩, vs2, vu2, vm2, hve, y1, y2, y3⟩ := hq1
  injection hve with hve
  injection hve with hve
  simp only [List.cons.injEq, and_true] at hve
  obtain ⟨rfl, rfl, rfl⟩ := hve
  obtain ⟨p5, k5, rfl⟩ := y1.slice
  obtain ⟨p7, k7, rfl⟩ := y3.slice
  simp only [push_cast, Nat.reduceAdd, Nat.reduceSub, Nat.reduceMul, Nat.reduceLT, Nat.reduceLeDiff, Nat.reduceEqDiff, Nat.reduceMod, Nat.reduceDiv, Int.reduceAdd, Int.reduceSub, Int.reduceMul, Int.reduceLT, Int.reduceLE, Int.reduceEq, Int.reduceNeg, Int.reduceToNat, reduceIte, reduceCtorEq, Int.reduceBEq, Int.reduceBNe, hb4]
  intro b6 hb6
  refine regO gJ1_ok ?_
  by_cases hz : (keepJ j m).2 = 0
  case neg =>
    rw [if_neg hz] at hR
    have hbn : ((keepJ j m).2 != 0) = true := bne_iff_ne.2 hz
    simp only [push_cast, Nat.reduceAdd, Nat.reduceSub, Nat.reduceMul, Nat.reduceLT, Nat.reduceLeDiff, Nat.reduceEqDiff, Nat.reduceMod, Nat.reduceDiv, Int.reduceAdd, Int.reduceSub, Int.reduceMul, Int.reduceLT, Int.reduceLE, Int.reduceEq, Int.reduceNeg, Int.reduceToNat, reduceIte, reduceCtorEq, Int.reduceBEq, Int.reduceBNe, hb4, hb6, hbn]
    exact doneK2 [_, _, _] hg1 (JeR.rd _) ⟨_, by rw [hR], by rw [hR]; exact ⟨_, _, _, rfl, y1, y2, y3⟩⟩
  rw [if_pos hz] at hR
  have hbn : ((keepJ j m).2 != 0) = false := by rw [hz]; rfl
  have hke : keepJ j m = (⟨j.state, j.undo, j.marks.take m.toNat⟩, 0) ∧ rightJ j = true ∧ 0 ≤ m ∧ m < j.marks.length := by
    unfold keepJ at hz ⊢
    by_cases hrj : rightJ j = true
    · rw [if_pos hrj] at hz ⊢
      by_cases c0 : m < 0 ∨ (j.marks.length : Int) ≤ m
      · rw [if_pos c0] at hz; cases hz
      · rw [if_neg c0]; exact ⟨rfl, hrj, by omega, by omega⟩
    · rw [if_neg hrj] at hz; cases hz
  obtain ⟨hke, hrj, m0, m1⟩ := hke
  have hri := rightJ_iff.1 hrj
  rw [hke] at y1 y2 y3 hkw hbn ⊢
  dsimp only at y1 y2 y3 hkw hbn ⊢
  obtain ⟨q, rfl⟩ : ∃ q : Nat, m = (q : Int) := ⟨m.toNat, by omega⟩
  rw [Int.toNat_natCast] at *
  obtain ⟨x, hx⟩ : ∃ x, j.marks[q]? = some x := ⟨j.marks[q]'(by omega), List.getElem?_eq_getElem (by omega)⟩
  have hxm := List.mem_of_getElem? hx
  have hx0 := upB_ge hri.up x hxm
  have hxl := hri.le x hxm
  have hs : stayJ j (q : Int) = x.toNat := by
    unfold stayJ
    rw [Int.toNat_natCast, hx]; rfl
  obtain ⟨st, rfl⟩ : ∃ st : Nat, x = (st : Int) := ⟨x.toNat, by omega⟩
  rw [Int.toNat_natCast] at hs
  rw [hs] at hR
  rcases hmm with h0 | ⟨b, f, d, kd, cs, rfl, hfe, hat⟩
  · rw [h0] at hx; simp at hx
  obtain ⟨a1, a2⟩ := hat q _ hx
  have hee := hg1.find hfe
  have n2 := (fresh_findS (hL1.2.1) hee).2
  have n4 := (fresh_findS (hL1.1) hee).2
  have n6 := (fresh_findS (show fresh b6 M1 from hb6.2.2.2.2) hee).2
  have i1 : q < j.marks.length := by omega
  have i2 : (q : Int) < (j.marks.length : Int) := by omega
  simp only [push_cast, Nat.reduceAdd, Nat.reduceSub, Nat.reduceMul, Nat.reduceLT, Nat.reduceLeDiff, Nat.reduceEqDiff, Nat.reduceMod, Nat.reduceDiv, Int.reduceAdd, Int.reduceSub, Int.reduceMul, Int.reduceLT, Int.reduceLE, Int.reduceEq, Int.reduceNeg, Int.reduceToNat, reduceIte, reduceCtorEq, Int.reduceBEq, Int.reduceBNe, hb4, hb6, hbn, hee, n2, n4, n6, a1, a2, i1, i2]
  refine useL [_, _, _] (refUndone_ok (stay := st) (h1.ext hg1.ext) (h2.ext hg1.ext) hn hsl (by omega) (by omega)) (UndR.rd _) hg1.marks ⟨hb6.2.2.2.2, hL1.1, hL1.2.1, trivial⟩ fun w M2 hg2 hL2 hq2 => ?_
  obtain ⟨w2, rfl, hq2⟩ := hq2
  obtain ⟨p9, k9, rfl⟩ := hq2.slice
  have hus := undoE_ri _ hri.st (hri.undo st).1
  have hul := hus.len
  have hst : st ≤ j.undo.length := by omega
  have hu0 : (undoE j.state (j.undo.drop st).reverse).2 = 0 := (hri.undo st).1
  have hkst : st ≤ kw := by omega
  have y2' : LiR Ch.cells 31 M1 (j.undo.take st) (.slice pw st kw) := LiR.take (fun x => x.len) y2 hst
  rcases hpw with ⟨rfl, rfl⟩ | ⟨bw, rfl⟩
  all_goals
    simp only [push_cast, Nat.reduceAdd, Nat.reduceSub, Nat.reduceMul, Nat.reduceLT, Nat.reduceLeDiff, Nat.reduceEqDiff, Nat.reduceMod, Nat.reduceDiv, Int.reduceAdd, Int.reduceSub, Int.reduceMul, Int.reduceLT, Int.reduceLE, Int.reduceEq, Int.reduceNeg, Int.reduceToNat, reduceIte, reduceCtorEq, Int.reduceBEq, Int.reduceBNe, hb4, hb6]
    refine useL [_, _, _] (refOwn_R hq2 (by omega) (fun y hy => by have := (mayA_slots (hus.may y hy)).len; omega)) (StR.rd _) hg2.marks hL2 fun w M3 hg3 hL3 hq3 => ?_
    obtain ⟨p8, k8, rfl⟩ := hq3.slice
    simp only [push_cast, Nat.reduceAdd, Nat.reduceSub, Nat.reduceMul, Nat.reduceLT, Nat.reduceLeDiff, Nat.reduceEqDiff, Nat.reduceMod, Nat.reduceDiv, Int.reduceAdd, Int.reduceSub, Int.reduceMul, Int.reduceLT, Int.reduceLE, Int.reduceEq, Int.reduceNeg, Int.reduceToNat, reduceIte, reduceCtorEq, Int.reduceBEq, Int.reduceBNe, hb4, hb6, hkst, ite_self]
    exact doneK2 [_, _, _] ((hg1.trans hg2).trans hg3) (JeR.rd _) ⟨_, by rw [hR], by rw [hR]; exact ⟨_, _, _, rfl, hq3, y2'.ext (hg2.trans hg3).ext, y3.ext (hg2.trans hg3).ext⟩⟩
end Go.Proofs.YtkhpncfgimlleaaGreat
