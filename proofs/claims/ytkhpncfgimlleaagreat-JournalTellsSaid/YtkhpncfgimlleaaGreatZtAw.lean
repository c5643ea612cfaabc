/- Texts of this claim, merged by program: Vq. -/
import Derived.Test.YtkhpncfgimlleaaGreatZtAv
import Derived.Test.YtkhpncfgimlleaaGreatZtAu
set_option linter.unusedSimpArgs false
set_option linter.unusedVariables false
namespace Go.Ev
theorem JoR.three {j : Jo} {a b c : Value} {H : Hp} (h : JoR j (.agg #[a, b, c]) H) : StR j.state a H ∧ LiR Ch.cells 31 H j.undo b ∧ LiR intC 1 H j.marks c := by
  obtain ⟨vs, vu, vm, hve, h1, h2, h3⟩ := h
  injection hve with hve
  injection hve with hve
  simp only [List.cons.injEq, and_true] at hve
  obtain ⟨rfl, rfl, rfl⟩ := hve
  exact ⟨h1, h2, h3⟩
theorem LiR.two1i {n m : Int} {b c : Nat} {k : Kind} {H : Hp} : LiR intC 1 (⟨b, 0, k, [.int .i64 n, .int .i64 m]⟩ :: H) [n, m] (.slice (some ⟨b, 0, none⟩) 2 c) := by
  refine ⟨_, c, rfl, .inr ⟨b, 0, rfl, ?_⟩⟩
  unfold cellsAt
  simp only [findE, if_true, Nat.sub_zero, subL, List.drop_zero, List.length_cons, List.length_nil, Nat.zero_add, List.flatMap_cons, List.flatMap_nil, List.append_nil]
  rw [if_pos (Nat.zero_le _), if_pos (by simp), List.take_of_length_le (by simp)]
  rfl
theorem subH_last {e : Ent} {M : Hp} (h : fresh e.blk M) : Ev.subH (e :: M) (M ++ [e]) := by
  have h0 := subH_move (N := []) h
  rwa [List.append_nil] at h0
theorem takeP {P : Program} {g : FuncId} {args : List Value} (L : Hp) {M : Hp} {v : Value} {K : Value → Prop} (hc : ∀ M0, roM M0 → cellsAt M0 = cellsAt M → CallsV P g args M0 (Ret0 v)) (hL : freshN L M) (hk : K v) : TakeV P g args (L ++ M) K := TakeV.mk (derE_behind hL) (hc (roAll M) (roAll_ro M) (cellsAt_roAll M)) hk
end Go.Ev
namespace Go.Proofs.YtkhpncfgimlleaaGreat
open Go Go.Ev Go.Proofs
set_option maxRecDepth 100000
set_option maxHeartbeats 4000000
def plTells : Plans := fun i => if i = 12 then [(0, 9)] else if i = 21 then [(0, 9)] else Tryz.pl3 i
attribute [push_cast] plTells
attribute [-push_cast] evAppend_nil evAppend_some slAddr
theorem jright_B {A : Hp} {j : Jo} {v : Value} (h : Bn j) (h1 : JoR j v A) (hA : marksOf A = []) : CallsV Tryz.prog 16 [v] A (Ret0 (.bool (rightJ j))) :=
  jright_ok h1 hA (by have := h.sl; omega) (by have := h.ul; omega) (by have := h.ml; omega) (fun y hy => by have := h.hl y hy; omega)
theorem refJright_B {A : Hp} {j : Jo} {v : Value} (h : Bn j) (h1 : JoR j v A) (hA : marksOf A = []) : CallsV Tryz.prog 17 [v] A (Ret0 (.bool (rightJ j))) :=
  refJRight_ok h1 hA (by have := h.sl; omega) (by have := h.ul; omega) (by have := h.ml; omega) h.hl
theorem jdo_B {M : Hp} {j : Jo} {v lv : Value} {l : List Ch} (hv : JoR j v M) (hl : LiR Ch.cells 31 M l lv) (h : Bn j) (hll : l.length ≤ 1000000000000) : CallsR Tryz.prog 18 [v, lv] M (JeR (doJ j l)) :=
  (jdo_ok hv hl (by have := h.sl; omega) (by have := h.ul; omega) (by have := h.ml; omega) (fun y hy => by have := h.hl y hy; omega) hll).toR fun v N1 A _ _ hf hq => hq
theorem refJdo_B {M : Hp} {j : Jo} {v lv : Value} {l : List Ch} (hv : JoR j v M) (hl : LiR Ch.cells 31 M l lv) (h : Bn j) (hll : l.length ≤ 1000000000000) : CallsR Tryz.prog 19 [v, lv] M (JeR (doJ j l)) :=
  (refJdo_ok hv hl (by have := h.sl; omega) (by have := h.ul; omega) (by have := h.ml; omega) h.hl hll).toR fun v N1 A _ _ hf hq => hq
theorem jmark_B {M : Hp} {j : Jo} {v : Value} (hv : JoR j v M) (h : Bn j) : CallsR Tryz.prog 20 [v] M (JmR (markJ j)) :=
  (jmark_ok hv (by have := h.sl; omega) (by have := h.ul; omega) (by have := h.ml; omega) (fun y hy => by have := h.hl y hy; omega)).toR fun v N1 A _ _ hf hq => hq
theorem refJmark_B {M : Hp} {j : Jo} {v : Value} (hv : JoR j v M) (h : Bn j) : CallsR Tryz.prog 21 [v] M (JmR (markJ j)) :=
  (refJmark_ok hv (by have := h.sl; omega) (by have := h.ul; omega) (by have := h.ml; omega) h.hl).toR fun v N1 A _ _ hf hq => hq
theorem jback_B {M : Hp} {j : Jo} {v : Value} {m : Int} (hv : JoR j v M) (h : Bn j) : CallsR Tryz.prog 22 [v, .int .i64 m] M (JeR (backJ j m)) :=
  jback_ok hv (by have := h.sl; omega) (by have := h.ul; omega) (by have := h.ml; omega) (fun y hy => by have := h.hl y hy; omega)
theorem refJback_B {M : Hp} {j : Jo} {v : Value} {m : Int} (hv : JoR j v M) (h : Bn j) : CallsR Tryz.prog 23 [v, .int .i64 m] M (JeR (backJ j m)) :=
  refJback_ok hv (by have := h.sl; omega) (by have := h.ul; omega) (by have := h.ml; omega) h.hl
theorem jkeep_B {M : Hp} {j : Jo} {v : Value} {m : Int} (hv : JoR j v M) (h : Bn j) : CallsR Tryz.prog 24 [v, .int .i64 m] M (JeC (keepJ j m)) :=
  jkeep_R hv (by have := h.sl; omega) (by have := h.ul; omega) (by have := h.ml; omega) (fun y hy => by have := h.hl y hy; omega)
theorem refJkeep_B {M : Hp} {j : Jo} {v : Value} {m : Int} (hv : JoR j v M) (h : Bn j) : CallsR Tryz.prog 25 [v, .int .i64 m] M (JeC (keepJ j m)) :=
  refJkeep_R hv (by have := h.sl; omega) (by have := h.ul; omega) (by have := h.ml; omega) h.hl
theorem sameB {A : Hp} {j : Jo} {v u : Value} (h : Bn j) (h1 : JoR j v A) (h2 : JoR j u A) (hA : marksOf A = []) : CallsV Tryz.prog 15 [v, u] A (Ret0 (.bool true)) := by
  obtain ⟨hl, hu, hm, hs⟩ := h
  have := sameJ_ok h1 h2 hA (by omega) (by omega) (fun y hy => by have := hs y hy; omega) (fun y hy => by have := hs y hy; omega) (by omega) (by omega)
  rw [decide_eq_true rfl] at this
  exact this
theorem journalTells_ok {M : Hp} {s : List R4} {l : List R5} {o : R3} {c : Ch} {cs : List R4} {mk : Int} {v u w : Value} (hm : marksOf M = []) (hv : LiR R4.cells 4 M s v) (hu : LiR R5.cells 5 M l u) (hio : o.In) (hw : LiR R4.cells 4 M cs w) (hk : i64In mk) (is : ∀ r ∈ s, r.In) (il : ∀ r ∈ l, r.In) (ic : ∀ r ∈ cs, r.In) : CallsV Tryz.prog 3 [v, u, o.v, c.v, w, .int .i64 mk] M (Ret0 (.bool true)) := by
  have hrj := journalR_ri s l
  obtain ⟨j, hj⟩ : ∃ j, j = journalR s l := ⟨_, rfl⟩
  have hc := jour_ok hv hu is il
  rw [← hj] at hrj hc
  obtain ⟨oa, ob, oc⟩ := o
  obtain ⟨ia, ib, ic'⟩ := hio
  dsimp only at ia ib ic'
  have j4 : i64In 4 := by decide
  have j5 : i64In 5 := by decide
  have pa := pickN_lt oa (show (0 : Int) < 4 by decide)
  obtain ⟨X, hX⟩ : ∃ X, X = oddJ j ⟨oa, ob, oc⟩ c := ⟨_, rfl⟩
  have hbX : Bn X := hX ▸ bn_odd hrj _ _
  unfold oddJ at hX
  dsimp only at hX
  obtain ⟨x, hx⟩ : ∃ x, x = pickN oa 4 := ⟨_, rfl⟩
  rw [← hx] at pa hX
  have hcl := c.len
  have hca : c.cells.all oneC = true := by have := chAll [c]; simpa using this
  obtain ⟨ps, ks, rfl⟩ := hv.slice
  obtain ⟨pu, ku, rfl⟩ := hu.slice
  obtain ⟨p, k, rfl, hla⟩ := hw.openC R4.len (by decide)
  show CallsV Tryz.prog _ [_, _, .agg #[.int .i64 oa, .int .i64 ob, .int .i64 oc], .agg c.cells.toArray, _, _] _ _
  refine callsO gV4_ok Tryz.mix plTells Tryz.func3 rfl Tryz.ntmps3 Tryz.results3 rfl (by first | rfl | assumption) (Nat.le_of_ble_eq_true rfl) (by kernel_rfl) ?_
  simp only [push_cast, Nat.reduceAdd, Nat.reduceSub, Nat.reduceMul, Nat.reduceLT, Nat.reduceLeDiff, Nat.reduceEqDiff, Nat.reduceMod, Nat.reduceDiv, Int.reduceAdd, Int.reduceSub, Int.reduceMul, Int.reduceLT, Int.reduceLE, Int.reduceEq, Int.reduceNeg, Int.reduceToNat, reduceIte, reduceCtorEq, Int.reduceBEq, Int.reduceBNe, hcl, hca]
  intro b8 hb8 b9 hb9
  refine useL [_, _] hc (JoR.rd _) hm ⟨hb9.2.2, hb8, trivial⟩ fun w M1 hg1 hL1 hj1 => ?_
  obtain ⟨p1, q1, p1', q1', p1'', q1'', rfl⟩ := hj1.e3
  simp only [push_cast, Nat.reduceAdd, Nat.reduceSub, Nat.reduceMul, Nat.reduceLT, Nat.reduceLeDiff, Nat.reduceEqDiff, Nat.reduceMod, Nat.reduceDiv, Int.reduceAdd, Int.reduceSub, Int.reduceMul, Int.reduceLT, Int.reduceLE, Int.reduceEq, Int.reduceNeg, Int.reduceToNat, reduceIte, reduceCtorEq, Int.reduceBEq, Int.reduceBNe, hb9]
  intro b14 hb14
  intro b15 hb15
  obtain ⟨h1s, h1u, h1m⟩ : StR j.state (.slice p1 j.state.length q1) M1 ∧ LiR Ch.cells 31 M1 j.undo (.slice p1' j.undo.length q1') ∧ LiR intC 1 M1 j.marks (.slice p1'' j.marks.length q1'') := hj1.three
  have h1l := hrj.st.len
  have hb8M : fresh b8 M1 := hL1.2.1
  have h1ul := hrj.ul
  have hbX0 : ∀ y ∈ j.state, y.slots.length ≤ 1000 := fun y hy => (mayA_slots (hrj.st.may y hy)).len
  have h1ml := hrj.ml
  have hL15 : freshN [⟨b15, 0, .cel 37, [.slice p1 j.state.length q1, .slice p1' j.undo.length q1', .slice p1'' j.marks.length q1'']⟩, ⟨b14, 0, .cel 37, [.slice p1 j.state.length q1, .slice p1' j.undo.length q1', .slice p1'' j.marks.length q1'']⟩, ⟨b9, 0, .cel 31, c.cells⟩, ⟨b8, 0, .cel 24, [.int .i64 oa, .int .i64 ob, .int .i64 oc]⟩] M1 := ⟨hb15.2.2.2.2.2.2, hb14.2.2.2.2, hL1⟩
  refine (fun rest => ?main : ((vs vu vm : Value) → (Mx : Hp) → (T : Tm) → marksOf Mx = [] → freshN [⟨b15, 0, .cel 37, [vs, vu, vm]⟩, ⟨b14, 0, .cel 37, [.slice p1 j.state.length q1, .slice p1' j.undo.length q1', .slice p1'' j.marks.length q1'']⟩, ⟨b9, 0, .cel 31, c.cells⟩] Mx → JoR X (.agg #[vs, vu, vm]) Mx → (∀ b e, findE M1 b = some e → findE Mx b = some e) → subT T [(4, .slice p cs.length k), (5, .int .i64 mk), (9, .pointer (some ⟨b9, 0, none⟩)), (13, .bool true), (14, .pointer (some ⟨b14, 0, none⟩)), (15, .pointer (some ⟨b15, 0, none⟩))] → WpV Tryz.prog none 257 (.region 12 ?o false) ?K T (⟨b15, 0, .cel 37, [vs, vu, vm]⟩ :: ⟨b14, 0, .cel 37, [.slice p1 j.state.length q1, .slice p1' j.undo.length q1', .slice p1'' j.marks.length q1'']⟩ :: ⟨b9, 0, .cel 31, c.cells⟩ :: Mx)) → _) ?rest
  case main =>
    rcases (show x = 0 ∨ x = 1 ∨ x = 2 ∨ x = 3 by omega) with rfl | rfl | rfl | rfl
    · simp only [push_cast, Nat.reduceAdd, Nat.reduceSub, Nat.reduceMul, Nat.reduceLT, Nat.reduceLeDiff, Nat.reduceEqDiff, Nat.reduceMod, Nat.reduceDiv, Int.reduceAdd, Int.reduceSub, Int.reduceMul, Int.reduceLT, Int.reduceLE, Int.reduceEq, Int.reduceNeg, Int.reduceToNat, reduceIte, reduceCtorEq, Int.reduceBEq, Int.reduceBNe, hb9, hb14, hb15, ia, j4, ← hx]
      refine drawO gV4_ok Tryz.mix [(0, 0), (1, 0), (3, 0), (4, 0), (2, 4), (5, 4), (6, 1), (7, 0), (8, 1)] (by kernel_rfl) ?_
      simp only [push_cast, Nat.reduceAdd, Nat.reduceSub, Nat.reduceMul, Nat.reduceLT, Nat.reduceLeDiff, Nat.reduceEqDiff, Nat.reduceMod, Nat.reduceDiv, Int.reduceAdd, Int.reduceSub, Int.reduceMul, Int.reduceLT, Int.reduceLE, Int.reduceEq, Int.reduceNeg, Int.reduceToNat, reduceIte, reduceCtorEq, Int.reduceBEq, Int.reduceBNe, hb9, hb14, hb15, hcl, hca]
      have hX0 : X = ⟨j.state, j.undo, j.marks ++ [ob]⟩ := hX
      have hbf : (0 + j.marks.length) * 8 ≤ two47 := by unfold two47; omega
      have hsrc := (h1m.app hL15).src (P := Tryz.prog) (xt := 35) (q := 1) (ag := false) (by simp only [push_cast, Nat.reduceAdd, Nat.reduceSub, Nat.reduceMul, Nat.reduceLT, Nat.reduceLeDiff, Nat.reduceEqDiff, Nat.reduceMod, Nat.reduceDiv, Int.reduceAdd, Int.reduceSub, Int.reduceMul, Int.reduceLT, Int.reduceLE, Int.reduceEq, Int.reduceNeg, Int.reduceToNat, reduceIte, reduceCtorEq, Int.reduceBEq, Int.reduceBNe])
      refine ⟨?_, ?_⟩
      · refine append_g (P := Tryz.prog) (e := 3) (sz := 1) (by_ := 8) (N := []) (cs := []) (n := 0) (m := j.marks.length) (ys := j.marks.flatMap intC) (.inl ⟨rfl, rfl, rfl, rfl⟩) (by simp only [push_cast, Nat.reduceAdd, Nat.reduceSub, Nat.reduceMul, Nat.reduceLT, Nat.reduceLeDiff, Nat.reduceEqDiff, Nat.reduceMod, Nat.reduceDiv, Int.reduceAdd, Int.reduceSub, Int.reduceMul, Int.reduceLT, Int.reduceLE, Int.reduceEq, Int.reduceNeg, Int.reduceToNat, reduceIte, reduceCtorEq, Int.reduceBEq, Int.reduceBNe]) hsrc (by rw [flatMap_len (s := 1) (fun _ => rfl)]) (intAll _) hbf fun v' N' ho hf => ?_
        have ho' : OutG 3 1 (j.marks.flatMap intC) j.marks.length v' N' := by simpa using ho
        refine ⟨(subH_new _ _ (freshN_iff.1 hf) : subH (N' ++ _) ([_, _, _, _] ++ M1)), fun bb hbb => ⟨subH_cons hbb, ?_⟩⟩
        refine push_gA (P := Tryz.prog) (c := intC) (x := ob) [] (by_ := 8) (q := 1) (ag := false) ho' ⟨(fresh_app_iff.1 hbb).1, trivial⟩ (by simp only [push_cast, Nat.reduceAdd, Nat.reduceSub, Nat.reduceMul, Nat.reduceLT, Nat.reduceLeDiff, Nat.reduceEqDiff, Nat.reduceMod, Nat.reduceDiv, Int.reduceAdd, Int.reduceSub, Int.reduceMul, Int.reduceLT, Int.reduceLE, Int.reduceEq, Int.reduceNeg, Int.reduceToNat, reduceIte, reduceCtorEq, Int.reduceBEq, Int.reduceBNe]) (by simp only [push_cast, Nat.reduceAdd, Nat.reduceSub, Nat.reduceMul, Nat.reduceLT, Nat.reduceLeDiff, Nat.reduceEqDiff, Nat.reduceMod, Nat.reduceDiv, Int.reduceAdd, Int.reduceSub, Int.reduceMul, Int.reduceLT, Int.reduceLE, Int.reduceEq, Int.reduceNeg, Int.reduceToNat, reduceIte, reduceCtorEq, Int.reduceBEq, Int.reduceBNe]) rfl rfl (by unfold two47; omega) fun v3 N3 ho4 hf4 => ?_
        have hbb := (fresh_app_iff.1 hbb).2
        simp only [push_cast, Nat.reduceAdd, Nat.reduceSub, Nat.reduceMul, Nat.reduceLT, Nat.reduceLeDiff, Nat.reduceEqDiff, Nat.reduceMod, Nat.reduceDiv, Int.reduceAdd, Int.reduceSub, Int.reduceMul, Int.reduceLT, Int.reduceLE, Int.reduceEq, Int.reduceNeg, Int.reduceToNat, reduceIte, reduceCtorEq, Int.reduceBEq, Int.reduceBNe] at hbb
        obtain ⟨p3, k3, hv3⟩ := ho4.slice
        subst hv3
        rcases ho4 with ⟨r1, -⟩ | ⟨bu, cu, r3, r4, r5, hN3⟩
        · rw [List.length_append] at r1; simp at r1
        have hl2 : (j.marks ++ [ob]).length = j.marks.length + 1 := by rw [List.length_append]; rfl
        obtain ⟨hq3, -⟩ := (show freshN [⟨bu, 0, .vec 3 1 cu, (j.marks ++ [ob]).flatMap intC⟩] _ from hN3 ▸ hf4)
        rw [hN3]
        have hbu := hq3
        simp only [push_cast, Nat.reduceAdd, Nat.reduceSub, Nat.reduceMul, Nat.reduceLT, Nat.reduceLeDiff, Nat.reduceEqDiff, Nat.reduceMod, Nat.reduceDiv, Int.reduceAdd, Int.reduceSub, Int.reduceMul, Int.reduceLT, Int.reduceLE, Int.reduceEq, Int.reduceNeg, Int.reduceToNat, reduceIte, reduceCtorEq, Int.reduceBEq, Int.reduceBNe] at hbu
        simp only [push_cast, Nat.reduceAdd, Nat.reduceSub, Nat.reduceMul, Nat.reduceLT, Nat.reduceLeDiff, Nat.reduceEqDiff, Nat.reduceMod, Nat.reduceDiv, Int.reduceAdd, Int.reduceSub, Int.reduceMul, Int.reduceLT, Int.reduceLE, Int.reduceEq, Int.reduceNeg, Int.reduceToNat, reduceIte, reduceCtorEq, Int.reduceBEq, Int.reduceBNe, hb9, hb14, hb15, hbb, hbu]
        have hfd := find_behind (L := [⟨bu, 0, .vec 3 1 cu, (j.marks ++ [ob]).flatMap intC⟩, ⟨bb, 0, .vec 3 1 1, [.int .i64 ob]⟩, ⟨b8, 0, .cel 24, [.int .i64 oa, .int .i64 ob, .int .i64 oc]⟩]) (M := M1) ⟨by simp only [hbu], by simp only [hbb], hb8M, trivial⟩
        have hlm : LiR intC 1 (⟨bu, 0, .vec 3 1 cu, (j.marks ++ [ob]).flatMap intC⟩ :: ⟨bb, 0, .vec 3 1 1, [.int .i64 ob]⟩ :: ⟨b8, 0, .cel 24, [.int .i64 oa, .int .i64 ob, .int .i64 oc]⟩ :: M1) (j.marks ++ [ob]) (.slice p3 (j.marks.length + 1) k3) := hl2 ▸ OutG.liR (N := [_]) (.inr ⟨bu, cu, r3, r4, r5, rfl⟩) rfl rfl _
        refine WpV.perm (H' := ⟨b15, 0, .cel 37, [.slice p1 j.state.length q1, .slice p1' j.undo.length q1', .slice p3 (j.marks.length + 1) k3]⟩ :: ⟨b14, 0, .cel 37, [.slice p1 j.state.length q1, .slice p1' j.undo.length q1', .slice p1'' j.marks.length q1'']⟩ :: ⟨b9, 0, .cel 31, c.cells⟩ :: ⟨bu, 0, .vec 3 1 cu, (j.marks ++ [ob]).flatMap intC⟩ :: ⟨bb, 0, .vec 3 1 1, [.int .i64 ob]⟩ :: ⟨b8, 0, .cel 24, [.int .i64 oa, .int .i64 ob, .int .i64 oc]⟩ :: M1) (List.perm_append_comm_assoc [_, _] [_, _, _] (_ :: M1)) (by simp [marksOf]) ?_
        refine rest _ _ _ (_ :: _ :: _ :: M1) _ ?_ ?_ ?_ ?_ ?_
        · simpa [marksOf] using hg1.marks
        · obtain ⟨f15, f14, f9, -⟩ := hL15
          simp only [push_cast, Nat.reduceAdd, Nat.reduceSub, Nat.reduceMul, Nat.reduceLT, Nat.reduceLeDiff, Nat.reduceEqDiff, Nat.reduceMod, Nat.reduceDiv, Int.reduceAdd, Int.reduceSub, Int.reduceMul, Int.reduceLT, Int.reduceLE, Int.reduceEq, Int.reduceNeg, Int.reduceToNat, reduceIte, reduceCtorEq, Int.reduceBEq, Int.reduceBNe, hbu, hbb, hb15, hb14, hb9, f15, f14, f9]
        · rw [hX0]; exact ⟨_, _, _, rfl, h1s.find hfd, h1u.find hfd, hlm⟩
        · exact hfd
        · simp only [push_cast, Nat.reduceAdd, Nat.reduceSub, Nat.reduceMul, Nat.reduceLT, Nat.reduceLeDiff, Nat.reduceEqDiff, Nat.reduceMod, Nat.reduceDiv, Int.reduceAdd, Int.reduceSub, Int.reduceMul, Int.reduceLT, Int.reduceLE, Int.reduceEq, Int.reduceNeg, Int.reduceToNat, reduceIte, reduceCtorEq, Int.reduceBEq, Int.reduceBNe]
      · intro bb hbb
        have hbb0 := hbb
        simp only [push_cast, Nat.reduceAdd, Nat.reduceSub, Nat.reduceMul, Nat.reduceLT, Nat.reduceLeDiff, Nat.reduceEqDiff, Nat.reduceMod, Nat.reduceDiv, Int.reduceAdd, Int.reduceSub, Int.reduceMul, Int.reduceLT, Int.reduceLE, Int.reduceEq, Int.reduceNeg, Int.reduceToNat, reduceIte, reduceCtorEq, Int.reduceBEq, Int.reduceBNe, hbb]
        refine append_g (P := Tryz.prog) (e := 3) (sz := 1) (by_ := 8) (N := []) (cs := []) (n := 0) (m := j.marks.length) (ys := j.marks.flatMap intC) (.inl ⟨rfl, rfl, rfl, rfl⟩) (by simp only [push_cast, Nat.reduceAdd, Nat.reduceSub, Nat.reduceMul, Nat.reduceLT, Nat.reduceLeDiff, Nat.reduceEqDiff, Nat.reduceMod, Nat.reduceDiv, Int.reduceAdd, Int.reduceSub, Int.reduceMul, Int.reduceLT, Int.reduceLE, Int.reduceEq, Int.reduceNeg, Int.reduceToNat, reduceIte, reduceCtorEq, Int.reduceBEq, Int.reduceBNe]) (((h1m.app hL15).app (N := [⟨bb, 0, .vec 3 1 1, [.int .i64 ob]⟩]) ⟨hbb0, trivial⟩).src (P := Tryz.prog) (xt := 35) (q := 1) (ag := false) (by simp only [push_cast, Nat.reduceAdd, Nat.reduceSub, Nat.reduceMul, Nat.reduceLT, Nat.reduceLeDiff, Nat.reduceEqDiff, Nat.reduceMod, Nat.reduceDiv, Int.reduceAdd, Int.reduceSub, Int.reduceMul, Int.reduceLT, Int.reduceLE, Int.reduceEq, Int.reduceNeg, Int.reduceToNat, reduceIte, reduceCtorEq, Int.reduceBEq, Int.reduceBNe])) (by rw [flatMap_len (s := 1) (fun _ => rfl)]) (intAll _) hbf fun v' N' ho hf => ?_
        have ho' : OutG 3 1 (j.marks.flatMap intC) j.marks.length v' N' := by simpa using ho
        refine ⟨(subH_new _ _ (freshN_iff.1 hf) : subH (N' ++ _) ([_, _, _, _, _] ++ M1)), ?_⟩
        refine append_g (P := Tryz.prog) (by_ := 8) (m := 1) (ys := [.int .i64 ob]) ho' (by simp only [push_cast, Nat.reduceAdd, Nat.reduceSub, Nat.reduceMul, Nat.reduceLT, Nat.reduceLeDiff, Nat.reduceEqDiff, Nat.reduceMod, Nat.reduceDiv, Int.reduceAdd, Int.reduceSub, Int.reduceMul, Int.reduceLT, Int.reduceLE, Int.reduceEq, Int.reduceNeg, Int.reduceToNat, reduceIte, reduceCtorEq, Int.reduceBEq, Int.reduceBNe]) (by first | exact (LiR.app (c := intC) (LiR.one1i (n := ob)) hf).src (P := Tryz.prog) (xt := 35) (q := 1) (ag := false) (by simp only [push_cast, Nat.reduceAdd, Nat.reduceSub, Nat.reduceMul, Nat.reduceLT, Nat.reduceLeDiff, Nat.reduceEqDiff, Nat.reduceMod, Nat.reduceDiv, Int.reduceAdd, Int.reduceSub, Int.reduceMul, Int.reduceLT, Int.reduceLE, Int.reduceEq, Int.reduceNeg, Int.reduceToNat, reduceIte, reduceCtorEq, Int.reduceBEq, Int.reduceBNe]) | (have h0 := (LiR.app (c := intC) (LiR.one1i (n := ob) (c := 1)) hf).src (P := Tryz.prog) (xt := 35) (q := 1) (ag := false) (by simp only [push_cast, Nat.reduceAdd, Nat.reduceSub, Nat.reduceMul, Nat.reduceLT, Nat.reduceLeDiff, Nat.reduceEqDiff, Nat.reduceMod, Nat.reduceDiv, Int.reduceAdd, Int.reduceSub, Int.reduceMul, Int.reduceLT, Int.reduceLE, Int.reduceEq, Int.reduceNeg, Int.reduceToNat, reduceIte, reduceCtorEq, Int.reduceBEq, Int.reduceBNe]); simpa using h0)) rfl rfl (by unfold two47; omega) fun v3 N3 ho4 hf4 => ?_
        have ho4 : OutG 3 1 ((j.marks ++ [ob]).flatMap intC) (j.marks ++ [ob]).length v3 N3 := by
          rw [List.flatMap_append, List.length_append]; first | exact ho4 | simpa using ho4
        obtain ⟨p3, k3, hv3⟩ := ho4.slice
        subst hv3
        rcases ho4 with ⟨r1, -⟩ | ⟨bu, cu, r3, r4, r5, hN3⟩
        · rw [List.length_append] at r1; simp at r1
        have hl2 : (j.marks ++ [ob]).length = j.marks.length + 1 := by rw [List.length_append]; rfl
        obtain ⟨hq3, -⟩ := (show freshN [⟨bu, 0, .vec 3 1 cu, (j.marks ++ [ob]).flatMap intC⟩] _ from hN3 ▸ hf4)
        rw [hN3]
        have hbu := hq3
        simp only [push_cast, Nat.reduceAdd, Nat.reduceSub, Nat.reduceMul, Nat.reduceLT, Nat.reduceLeDiff, Nat.reduceEqDiff, Nat.reduceMod, Nat.reduceDiv, Int.reduceAdd, Int.reduceSub, Int.reduceMul, Int.reduceLT, Int.reduceLE, Int.reduceEq, Int.reduceNeg, Int.reduceToNat, reduceIte, reduceCtorEq, Int.reduceBEq, Int.reduceBNe] at hbu
        simp only [push_cast, Nat.reduceAdd, Nat.reduceSub, Nat.reduceMul, Nat.reduceLT, Nat.reduceLeDiff, Nat.reduceEqDiff, Nat.reduceMod, Nat.reduceDiv, Int.reduceAdd, Int.reduceSub, Int.reduceMul, Int.reduceLT, Int.reduceLE, Int.reduceEq, Int.reduceNeg, Int.reduceToNat, reduceIte, reduceCtorEq, Int.reduceBEq, Int.reduceBNe, hb9, hb14, hb15, hbb, hbu]
        have hfd := find_behind (L := [⟨bu, 0, .vec 3 1 cu, (j.marks ++ [ob]).flatMap intC⟩, ⟨bb, 0, .vec 3 1 1, [.int .i64 ob]⟩, ⟨b8, 0, .cel 24, [.int .i64 oa, .int .i64 ob, .int .i64 oc]⟩]) (M := M1) ⟨by simp only [hbu], by simp only [hbb], hb8M, trivial⟩
        have hlm : LiR intC 1 (⟨bu, 0, .vec 3 1 cu, (j.marks ++ [ob]).flatMap intC⟩ :: ⟨bb, 0, .vec 3 1 1, [.int .i64 ob]⟩ :: ⟨b8, 0, .cel 24, [.int .i64 oa, .int .i64 ob, .int .i64 oc]⟩ :: M1) (j.marks ++ [ob]) (.slice p3 (j.marks.length + 1) k3) := hl2 ▸ OutG.liR (N := [_]) (.inr ⟨bu, cu, r3, r4, r5, rfl⟩) rfl rfl _
        refine WpV.perm (H' := ⟨b15, 0, .cel 37, [.slice p1 j.state.length q1, .slice p1' j.undo.length q1', .slice p3 (j.marks.length + 1) k3]⟩ :: ⟨b14, 0, .cel 37, [.slice p1 j.state.length q1, .slice p1' j.undo.length q1', .slice p1'' j.marks.length q1'']⟩ :: ⟨b9, 0, .cel 31, c.cells⟩ :: ⟨bu, 0, .vec 3 1 cu, (j.marks ++ [ob]).flatMap intC⟩ :: ⟨bb, 0, .vec 3 1 1, [.int .i64 ob]⟩ :: ⟨b8, 0, .cel 24, [.int .i64 oa, .int .i64 ob, .int .i64 oc]⟩ :: M1) (List.perm_append_comm_assoc [_, _] [_, _, _] (_ :: M1)) (by simp [marksOf]) ?_
        refine rest _ _ _ (_ :: _ :: _ :: M1) _ ?_ ?_ ?_ ?_ ?_
        · simpa [marksOf] using hg1.marks
        · obtain ⟨f15, f14, f9, -⟩ := hL15
          simp only [push_cast, Nat.reduceAdd, Nat.reduceSub, Nat.reduceMul, Nat.reduceLT, Nat.reduceLeDiff, Nat.reduceEqDiff, Nat.reduceMod, Nat.reduceDiv, Int.reduceAdd, Int.reduceSub, Int.reduceMul, Int.reduceLT, Int.reduceLE, Int.reduceEq, Int.reduceNeg, Int.reduceToNat, reduceIte, reduceCtorEq, Int.reduceBEq, Int.reduceBNe, hbu, hbb, hb15, hb14, hb9, f15, f14, f9]
        · rw [hX0]; exact ⟨_, _, _, rfl, h1s.find hfd, h1u.find hfd, hlm⟩
        · exact hfd
        · simp only [push_cast, Nat.reduceAdd, Nat.reduceSub, Nat.reduceMul, Nat.reduceLT, Nat.reduceLeDiff, Nat.reduceEqDiff, Nat.reduceMod, Nat.reduceDiv, Int.reduceAdd, Int.reduceSub, Int.reduceMul, Int.reduceLT, Int.reduceLE, Int.reduceEq, Int.reduceNeg, Int.reduceToNat, reduceIte, reduceCtorEq, Int.reduceBEq, Int.reduceBNe]
    · simp only [push_cast, Nat.reduceAdd, Nat.reduceSub, Nat.reduceMul, Nat.reduceLT, Nat.reduceLeDiff, Nat.reduceEqDiff, Nat.reduceMod, Nat.reduceDiv, Int.reduceAdd, Int.reduceSub, Int.reduceMul, Int.reduceLT, Int.reduceLE, Int.reduceEq, Int.reduceNeg, Int.reduceToNat, reduceIte, reduceCtorEq, Int.reduceBEq, Int.reduceBNe, hb9, hb14, hb15, ia, j4, ← hx]
      refine drawO gV4_ok Tryz.mix [(0, 0), (1, 0), (3, 0), (2, 4), (4, 4), (5, 1), (6, 0), (7, 1)] (by kernel_rfl) ?_
      simp only [push_cast, Nat.reduceAdd, Nat.reduceSub, Nat.reduceMul, Nat.reduceLT, Nat.reduceLeDiff, Nat.reduceEqDiff, Nat.reduceMod, Nat.reduceDiv, Int.reduceAdd, Int.reduceSub, Int.reduceMul, Int.reduceLT, Int.reduceLE, Int.reduceEq, Int.reduceNeg, Int.reduceToNat, reduceIte, reduceCtorEq, Int.reduceBEq, Int.reduceBNe, hb9, hb14, hb15, hcl, hca]
      have hX0 : X = ⟨j.state, j.undo ++ [c], j.marks⟩ := hX
      have hbf : (0 + j.undo.length) * 120 ≤ two47 := by unfold two47; omega
      have hsrc := (h1u.app hL15).src (P := Tryz.prog) (xt := 34) (q := 31) (ag := true) (by simp only [push_cast, Nat.reduceAdd, Nat.reduceSub, Nat.reduceMul, Nat.reduceLT, Nat.reduceLeDiff, Nat.reduceEqDiff, Nat.reduceMod, Nat.reduceDiv, Int.reduceAdd, Int.reduceSub, Int.reduceMul, Int.reduceLT, Int.reduceLE, Int.reduceEq, Int.reduceNeg, Int.reduceToNat, reduceIte, reduceCtorEq, Int.reduceBEq, Int.reduceBNe])
      refine ⟨?_, ?_⟩
      · refine append_g (P := Tryz.prog) (e := 31) (sz := 31) (by_ := 120) (N := []) (cs := []) (n := 0) (m := j.undo.length) (ys := j.undo.flatMap Ch.cells) (.inl ⟨rfl, rfl, rfl, rfl⟩) (by simp only [push_cast, Nat.reduceAdd, Nat.reduceSub, Nat.reduceMul, Nat.reduceLT, Nat.reduceLeDiff, Nat.reduceEqDiff, Nat.reduceMod, Nat.reduceDiv, Int.reduceAdd, Int.reduceSub, Int.reduceMul, Int.reduceLT, Int.reduceLE, Int.reduceEq, Int.reduceNeg, Int.reduceToNat, reduceIte, reduceCtorEq, Int.reduceBEq, Int.reduceBNe]) hsrc (by rw [flatMap_len (s := 31) (fun x => x.len)]) (chAll _) hbf fun v' N' ho hf => ?_
        have ho' : OutG 31 31 (j.undo.flatMap Ch.cells) j.undo.length v' N' := by simpa using ho
        refine ⟨(subH_new _ _ (freshN_iff.1 hf) : subH (N' ++ _) ([_, _, _, _] ++ M1)), fun bb hbb => ⟨subH_cons hbb, ?_⟩⟩
        refine push_gA (P := Tryz.prog) (c := Ch.cells) (x := c) [] (by_ := 120) (q := 31) (ag := true) ho' ⟨(fresh_app_iff.1 hbb).1, trivial⟩ (by simp only [push_cast, Nat.reduceAdd, Nat.reduceSub, Nat.reduceMul, Nat.reduceLT, Nat.reduceLeDiff, Nat.reduceEqDiff, Nat.reduceMod, Nat.reduceDiv, Int.reduceAdd, Int.reduceSub, Int.reduceMul, Int.reduceLT, Int.reduceLE, Int.reduceEq, Int.reduceNeg, Int.reduceToNat, reduceIte, reduceCtorEq, Int.reduceBEq, Int.reduceBNe]) (by simp only [push_cast, Nat.reduceAdd, Nat.reduceSub, Nat.reduceMul, Nat.reduceLT, Nat.reduceLeDiff, Nat.reduceEqDiff, Nat.reduceMod, Nat.reduceDiv, Int.reduceAdd, Int.reduceSub, Int.reduceMul, Int.reduceLT, Int.reduceLE, Int.reduceEq, Int.reduceNeg, Int.reduceToNat, reduceIte, reduceCtorEq, Int.reduceBEq, Int.reduceBNe]) hcl hca (by unfold two47; omega) fun v3 N3 ho4 hf4 => ?_
        have hbb := (fresh_app_iff.1 hbb).2
        simp only [push_cast, Nat.reduceAdd, Nat.reduceSub, Nat.reduceMul, Nat.reduceLT, Nat.reduceLeDiff, Nat.reduceEqDiff, Nat.reduceMod, Nat.reduceDiv, Int.reduceAdd, Int.reduceSub, Int.reduceMul, Int.reduceLT, Int.reduceLE, Int.reduceEq, Int.reduceNeg, Int.reduceToNat, reduceIte, reduceCtorEq, Int.reduceBEq, Int.reduceBNe] at hbb
        obtain ⟨p3, k3, hv3⟩ := ho4.slice
        subst hv3
        rcases ho4 with ⟨r1, -⟩ | ⟨bu, cu, r3, r4, r5, hN3⟩
        · rw [List.length_append] at r1; simp at r1
        have hl2 : (j.undo ++ [c]).length = j.undo.length + 1 := by rw [List.length_append]; rfl
        obtain ⟨hq3, -⟩ := (show freshN [⟨bu, 0, .vec 31 31 cu, (j.undo ++ [c]).flatMap Ch.cells⟩] _ from hN3 ▸ hf4)
        rw [hN3]
        have hbu := hq3
        simp only [push_cast, Nat.reduceAdd, Nat.reduceSub, Nat.reduceMul, Nat.reduceLT, Nat.reduceLeDiff, Nat.reduceEqDiff, Nat.reduceMod, Nat.reduceDiv, Int.reduceAdd, Int.reduceSub, Int.reduceMul, Int.reduceLT, Int.reduceLE, Int.reduceEq, Int.reduceNeg, Int.reduceToNat, reduceIte, reduceCtorEq, Int.reduceBEq, Int.reduceBNe] at hbu
        simp only [push_cast, Nat.reduceAdd, Nat.reduceSub, Nat.reduceMul, Nat.reduceLT, Nat.reduceLeDiff, Nat.reduceEqDiff, Nat.reduceMod, Nat.reduceDiv, Int.reduceAdd, Int.reduceSub, Int.reduceMul, Int.reduceLT, Int.reduceLE, Int.reduceEq, Int.reduceNeg, Int.reduceToNat, reduceIte, reduceCtorEq, Int.reduceBEq, Int.reduceBNe, hb9, hb14, hb15, hbb, hbu]
        have hfd := find_behind (L := [⟨bu, 0, .vec 31 31 cu, (j.undo ++ [c]).flatMap Ch.cells⟩, ⟨bb, 0, .vec 31 31 1, c.cells⟩, ⟨b8, 0, .cel 24, [.int .i64 oa, .int .i64 ob, .int .i64 oc]⟩]) (M := M1) ⟨by simp only [hbu], by simp only [hbb], hb8M, trivial⟩
        have hlm : LiR Ch.cells 31 (⟨bu, 0, .vec 31 31 cu, (j.undo ++ [c]).flatMap Ch.cells⟩ :: ⟨bb, 0, .vec 31 31 1, c.cells⟩ :: ⟨b8, 0, .cel 24, [.int .i64 oa, .int .i64 ob, .int .i64 oc]⟩ :: M1) (j.undo ++ [c]) (.slice p3 (j.undo.length + 1) k3) := hl2 ▸ OutG.liR (N := [_]) (.inr ⟨bu, cu, r3, r4, r5, rfl⟩) rfl rfl _
        refine WpV.perm (H' := ⟨b15, 0, .cel 37, [.slice p1 j.state.length q1, .slice p3 (j.undo.length + 1) k3, .slice p1'' j.marks.length q1'']⟩ :: ⟨b14, 0, .cel 37, [.slice p1 j.state.length q1, .slice p1' j.undo.length q1', .slice p1'' j.marks.length q1'']⟩ :: ⟨b9, 0, .cel 31, c.cells⟩ :: ⟨bu, 0, .vec 31 31 cu, (j.undo ++ [c]).flatMap Ch.cells⟩ :: ⟨bb, 0, .vec 31 31 1, c.cells⟩ :: ⟨b8, 0, .cel 24, [.int .i64 oa, .int .i64 ob, .int .i64 oc]⟩ :: M1) (List.perm_append_comm_assoc [_, _] [_, _, _] (_ :: M1)) (by simp [marksOf]) ?_
        refine rest _ _ _ (_ :: _ :: _ :: M1) _ ?_ ?_ ?_ ?_ ?_
        · simpa [marksOf] using hg1.marks
        · obtain ⟨f15, f14, f9, -⟩ := hL15
          simp only [push_cast, Nat.reduceAdd, Nat.reduceSub, Nat.reduceMul, Nat.reduceLT, Nat.reduceLeDiff, Nat.reduceEqDiff, Nat.reduceMod, Nat.reduceDiv, Int.reduceAdd, Int.reduceSub, Int.reduceMul, Int.reduceLT, Int.reduceLE, Int.reduceEq, Int.reduceNeg, Int.reduceToNat, reduceIte, reduceCtorEq, Int.reduceBEq, Int.reduceBNe, hbu, hbb, hb15, hb14, hb9, f15, f14, f9]
        · rw [hX0]; exact ⟨_, _, _, rfl, h1s.find hfd, hlm, h1m.find hfd⟩
        · exact hfd
        · simp only [push_cast, Nat.reduceAdd, Nat.reduceSub, Nat.reduceMul, Nat.reduceLT, Nat.reduceLeDiff, Nat.reduceEqDiff, Nat.reduceMod, Nat.reduceDiv, Int.reduceAdd, Int.reduceSub, Int.reduceMul, Int.reduceLT, Int.reduceLE, Int.reduceEq, Int.reduceNeg, Int.reduceToNat, reduceIte, reduceCtorEq, Int.reduceBEq, Int.reduceBNe]
      · intro bb hbb
        have hbb0 := hbb
        simp only [push_cast, Nat.reduceAdd, Nat.reduceSub, Nat.reduceMul, Nat.reduceLT, Nat.reduceLeDiff, Nat.reduceEqDiff, Nat.reduceMod, Nat.reduceDiv, Int.reduceAdd, Int.reduceSub, Int.reduceMul, Int.reduceLT, Int.reduceLE, Int.reduceEq, Int.reduceNeg, Int.reduceToNat, reduceIte, reduceCtorEq, Int.reduceBEq, Int.reduceBNe, hbb]
        refine append_g (P := Tryz.prog) (e := 31) (sz := 31) (by_ := 120) (N := []) (cs := []) (n := 0) (m := j.undo.length) (ys := j.undo.flatMap Ch.cells) (.inl ⟨rfl, rfl, rfl, rfl⟩) (by simp only [push_cast, Nat.reduceAdd, Nat.reduceSub, Nat.reduceMul, Nat.reduceLT, Nat.reduceLeDiff, Nat.reduceEqDiff, Nat.reduceMod, Nat.reduceDiv, Int.reduceAdd, Int.reduceSub, Int.reduceMul, Int.reduceLT, Int.reduceLE, Int.reduceEq, Int.reduceNeg, Int.reduceToNat, reduceIte, reduceCtorEq, Int.reduceBEq, Int.reduceBNe]) (((h1u.app hL15).app (N := [⟨bb, 0, .vec 31 31 1, c.cells⟩]) ⟨hbb0, trivial⟩).src (P := Tryz.prog) (xt := 34) (q := 31) (ag := true) (by simp only [push_cast, Nat.reduceAdd, Nat.reduceSub, Nat.reduceMul, Nat.reduceLT, Nat.reduceLeDiff, Nat.reduceEqDiff, Nat.reduceMod, Nat.reduceDiv, Int.reduceAdd, Int.reduceSub, Int.reduceMul, Int.reduceLT, Int.reduceLE, Int.reduceEq, Int.reduceNeg, Int.reduceToNat, reduceIte, reduceCtorEq, Int.reduceBEq, Int.reduceBNe])) (by rw [flatMap_len (s := 31) (fun x => x.len)]) (chAll _) hbf fun v' N' ho hf => ?_
        have ho' : OutG 31 31 (j.undo.flatMap Ch.cells) j.undo.length v' N' := by simpa using ho
        refine ⟨(subH_new _ _ (freshN_iff.1 hf) : subH (N' ++ _) ([_, _, _, _, _] ++ M1)), ?_⟩
        refine append_g (P := Tryz.prog) (by_ := 120) (m := 1) (ys := c.cells) ho' (by simp only [push_cast, Nat.reduceAdd, Nat.reduceSub, Nat.reduceMul, Nat.reduceLT, Nat.reduceLeDiff, Nat.reduceEqDiff, Nat.reduceMod, Nat.reduceDiv, Int.reduceAdd, Int.reduceSub, Int.reduceMul, Int.reduceLT, Int.reduceLE, Int.reduceEq, Int.reduceNeg, Int.reduceToNat, reduceIte, reduceCtorEq, Int.reduceBEq, Int.reduceBNe]) (by first | exact (LiR.app (c := Ch.cells) (LiR.one1 (P := c)) hf).src (P := Tryz.prog) (xt := 34) (q := 31) (ag := true) (by simp only [push_cast, Nat.reduceAdd, Nat.reduceSub, Nat.reduceMul, Nat.reduceLT, Nat.reduceLeDiff, Nat.reduceEqDiff, Nat.reduceMod, Nat.reduceDiv, Int.reduceAdd, Int.reduceSub, Int.reduceMul, Int.reduceLT, Int.reduceLE, Int.reduceEq, Int.reduceNeg, Int.reduceToNat, reduceIte, reduceCtorEq, Int.reduceBEq, Int.reduceBNe]) | (have h0 := (LiR.app (c := Ch.cells) (LiR.one1 (P := c) (c := 1)) hf).src (P := Tryz.prog) (xt := 34) (q := 31) (ag := true) (by simp only [push_cast, Nat.reduceAdd, Nat.reduceSub, Nat.reduceMul, Nat.reduceLT, Nat.reduceLeDiff, Nat.reduceEqDiff, Nat.reduceMod, Nat.reduceDiv, Int.reduceAdd, Int.reduceSub, Int.reduceMul, Int.reduceLT, Int.reduceLE, Int.reduceEq, Int.reduceNeg, Int.reduceToNat, reduceIte, reduceCtorEq, Int.reduceBEq, Int.reduceBNe]); simpa using h0)) hcl hca (by unfold two47; omega) fun v3 N3 ho4 hf4 => ?_
        have ho4 : OutG 31 31 ((j.undo ++ [c]).flatMap Ch.cells) (j.undo ++ [c]).length v3 N3 := by
          rw [List.flatMap_append, List.length_append]; first | exact ho4 | simpa using ho4
        obtain ⟨p3, k3, hv3⟩ := ho4.slice
        subst hv3
        rcases ho4 with ⟨r1, -⟩ | ⟨bu, cu, r3, r4, r5, hN3⟩
        · rw [List.length_append] at r1; simp at r1
        have hl2 : (j.undo ++ [c]).length = j.undo.length + 1 := by rw [List.length_append]; rfl
        obtain ⟨hq3, -⟩ := (show freshN [⟨bu, 0, .vec 31 31 cu, (j.undo ++ [c]).flatMap Ch.cells⟩] _ from hN3 ▸ hf4)
        rw [hN3]
        have hbu := hq3
        simp only [push_cast, Nat.reduceAdd, Nat.reduceSub, Nat.reduceMul, Nat.reduceLT, Nat.reduceLeDiff, Nat.reduceEqDiff, Nat.reduceMod, Nat.reduceDiv, Int.reduceAdd, Int.reduceSub, Int.reduceMul, Int.reduceLT, Int.reduceLE, Int.reduceEq, Int.reduceNeg, Int.reduceToNat, reduceIte, reduceCtorEq, Int.reduceBEq, Int.reduceBNe] at hbu
        simp only [push_cast, Nat.reduceAdd, Nat.reduceSub, Nat.reduceMul, Nat.reduceLT, Nat.reduceLeDiff, Nat.reduceEqDiff, Nat.reduceMod, Nat.reduceDiv, Int.reduceAdd, Int.reduceSub, Int.reduceMul, Int.reduceLT, Int.reduceLE, Int.reduceEq, Int.reduceNeg, Int.reduceToNat, reduceIte, reduceCtorEq, Int.reduceBEq, Int.reduceBNe, hb9, hb14, hb15, hbb, hbu]
        have hfd := find_behind (L := [⟨bu, 0, .vec 31 31 cu, (j.undo ++ [c]).flatMap Ch.cells⟩, ⟨bb, 0, .vec 31 31 1, c.cells⟩, ⟨b8, 0, .cel 24, [.int .i64 oa, .int .i64 ob, .int .i64 oc]⟩]) (M := M1) ⟨by simp only [hbu], by simp only [hbb], hb8M, trivial⟩
        have hlm : LiR Ch.cells 31 (⟨bu, 0, .vec 31 31 cu, (j.undo ++ [c]).flatMap Ch.cells⟩ :: ⟨bb, 0, .vec 31 31 1, c.cells⟩ :: ⟨b8, 0, .cel 24, [.int .i64 oa, .int .i64 ob, .int .i64 oc]⟩ :: M1) (j.undo ++ [c]) (.slice p3 (j.undo.length + 1) k3) := hl2 ▸ OutG.liR (N := [_]) (.inr ⟨bu, cu, r3, r4, r5, rfl⟩) rfl rfl _
        refine WpV.perm (H' := ⟨b15, 0, .cel 37, [.slice p1 j.state.length q1, .slice p3 (j.undo.length + 1) k3, .slice p1'' j.marks.length q1'']⟩ :: ⟨b14, 0, .cel 37, [.slice p1 j.state.length q1, .slice p1' j.undo.length q1', .slice p1'' j.marks.length q1'']⟩ :: ⟨b9, 0, .cel 31, c.cells⟩ :: ⟨bu, 0, .vec 31 31 cu, (j.undo ++ [c]).flatMap Ch.cells⟩ :: ⟨bb, 0, .vec 31 31 1, c.cells⟩ :: ⟨b8, 0, .cel 24, [.int .i64 oa, .int .i64 ob, .int .i64 oc]⟩ :: M1) (List.perm_append_comm_assoc [_, _] [_, _, _] (_ :: M1)) (by simp [marksOf]) ?_
        refine rest _ _ _ (_ :: _ :: _ :: M1) _ ?_ ?_ ?_ ?_ ?_
        · simpa [marksOf] using hg1.marks
        · obtain ⟨f15, f14, f9, -⟩ := hL15
          simp only [push_cast, Nat.reduceAdd, Nat.reduceSub, Nat.reduceMul, Nat.reduceLT, Nat.reduceLeDiff, Nat.reduceEqDiff, Nat.reduceMod, Nat.reduceDiv, Int.reduceAdd, Int.reduceSub, Int.reduceMul, Int.reduceLT, Int.reduceLE, Int.reduceEq, Int.reduceNeg, Int.reduceToNat, reduceIte, reduceCtorEq, Int.reduceBEq, Int.reduceBNe, hbu, hbb, hb15, hb14, hb9, f15, f14, f9]
        · rw [hX0]; exact ⟨_, _, _, rfl, h1s.find hfd, hlm, h1m.find hfd⟩
        · exact hfd
        · simp only [push_cast, Nat.reduceAdd, Nat.reduceSub, Nat.reduceMul, Nat.reduceLT, Nat.reduceLeDiff, Nat.reduceEqDiff, Nat.reduceMod, Nat.reduceDiv, Int.reduceAdd, Int.reduceSub, Int.reduceMul, Int.reduceLT, Int.reduceLE, Int.reduceEq, Int.reduceNeg, Int.reduceToNat, reduceIte, reduceCtorEq, Int.reduceBEq, Int.reduceBNe]
    · simp only [push_cast, Nat.reduceAdd, Nat.reduceSub, Nat.reduceMul, Nat.reduceLT, Nat.reduceLeDiff, Nat.reduceEqDiff, Nat.reduceMod, Nat.reduceDiv, Int.reduceAdd, Int.reduceSub, Int.reduceMul, Int.reduceLT, Int.reduceLE, Int.reduceEq, Int.reduceNeg, Int.reduceToNat, reduceIte, reduceCtorEq, Int.reduceBEq, Int.reduceBNe, hb9, hb14, hb15, ia, ib, ic', j4, j5, ← hx]
      have hX0 : X = ⟨j.state, j.undo, [(pickN ob 5 : Int), (pickN oc 5 : Int)]⟩ := hX
      intro bu hbu
      have hbu0 := hbu
      simp only [push_cast, Nat.reduceAdd, Nat.reduceSub, Nat.reduceMul, Nat.reduceLT, Nat.reduceLeDiff, Nat.reduceEqDiff, Nat.reduceMod, Nat.reduceDiv, Int.reduceAdd, Int.reduceSub, Int.reduceMul, Int.reduceLT, Int.reduceLE, Int.reduceEq, Int.reduceNeg, Int.reduceToNat, reduceIte, reduceCtorEq, Int.reduceBEq, Int.reduceBNe, hb9, hb14, hb15, hbu]
      have hfd := find_behind (L := [⟨bu, 0, .vec 3 1 2, [.int .i64 (pickN ob 5), .int .i64 (pickN oc 5)]⟩, ⟨b8, 0, .cel 24, [.int .i64 oa, .int .i64 ob, .int .i64 oc]⟩]) (M := M1) ⟨by simp only [hbu], hb8M, trivial⟩
      refine WpV.perm (H' := ⟨b15, 0, .cel 37, [.slice p1 j.state.length q1, .slice p1' j.undo.length q1', .slice (some ⟨bu, 0, none⟩) 2 2]⟩ :: ⟨b14, 0, .cel 37, [.slice p1 j.state.length q1, .slice p1' j.undo.length q1', .slice p1'' j.marks.length q1'']⟩ :: ⟨b9, 0, .cel 31, c.cells⟩ :: ⟨bu, 0, .vec 3 1 2, [.int .i64 (pickN ob 5), .int .i64 (pickN oc 5)]⟩ :: ⟨b8, 0, .cel 24, [.int .i64 oa, .int .i64 ob, .int .i64 oc]⟩ :: M1) (List.perm_append_comm_assoc [_] [_, _, _] (_ :: M1)) (by simp [marksOf]) ?_
      refine rest _ _ _ (_ :: _ :: M1) _ ?_ ?_ ?_ ?_ ?_
      · simpa [marksOf] using hg1.marks
      · obtain ⟨f15, f14, f9, -⟩ := hL15
        simp only [push_cast, Nat.reduceAdd, Nat.reduceSub, Nat.reduceMul, Nat.reduceLT, Nat.reduceLeDiff, Nat.reduceEqDiff, Nat.reduceMod, Nat.reduceDiv, Int.reduceAdd, Int.reduceSub, Int.reduceMul, Int.reduceLT, Int.reduceLE, Int.reduceEq, Int.reduceNeg, Int.reduceToNat, reduceIte, reduceCtorEq, Int.reduceBEq, Int.reduceBNe, hbu, hb15, hb14, hb9, f15, f14, f9]
      · rw [hX0]; exact ⟨_, _, _, rfl, h1s.find hfd, h1u.find hfd, LiR.two1i⟩
      · exact hfd
      · simp only [push_cast, Nat.reduceAdd, Nat.reduceSub, Nat.reduceMul, Nat.reduceLT, Nat.reduceLeDiff, Nat.reduceEqDiff, Nat.reduceMod, Nat.reduceDiv, Int.reduceAdd, Int.reduceSub, Int.reduceMul, Int.reduceLT, Int.reduceLE, Int.reduceEq, Int.reduceNeg, Int.reduceToNat, reduceIte, reduceCtorEq, Int.reduceBEq, Int.reduceBNe]
    · have hX0 : X = ⟨j.state ++ [⟨addrA ob, W.zero, oc, .empty, []⟩], j.undo, j.marks⟩ := hX
      have hal := (addrA ob).len
      have hac : (addrA ob).cells.all oneC = true := (addrA ob).all1
      have t24 : ∀ Z : List Value, List.take 24 ((addrA ob).cells ++ Z) = (addrA ob).cells ++ List.take 4 Z := fun Z => by
        rw [List.take_append, List.take_of_length_le (by rw [hal]; decide), hal]
      have d25 : ∀ Z : List Value, List.drop 25 ((addrA ob).cells ++ Z) = List.drop 5 Z := fun Z => by
        rw [List.drop_append, List.drop_of_length_le (by rw [hal]; decide), hal]; rfl
      simp only [push_cast, Nat.reduceAdd, Nat.reduceSub, Nat.reduceMul, Nat.reduceLT, Nat.reduceLeDiff, Nat.reduceEqDiff, Nat.reduceMod, Nat.reduceDiv, Int.reduceAdd, Int.reduceSub, Int.reduceMul, Int.reduceLT, Int.reduceLE, Int.reduceEq, Int.reduceNeg, Int.reduceToNat, reduceIte, reduceCtorEq, Int.reduceBEq, Int.reduceBNe, hb9, hb14, hb15, ia, j4, ← hx]
      refine drawO gV4_ok Tryz.mix [(0, 0), (1, 0), (3, 0), (6, 0), (7, 0), (2, 4), (4, 4), (5, 0), (8, 0), (9, 2), (10, 1), (11, 0), (12, 1)] (by kernel_rfl) ?_
      simp only [push_cast, Nat.reduceAdd, Nat.reduceSub, Nat.reduceMul, Nat.reduceLT, Nat.reduceLeDiff, Nat.reduceEqDiff, Nat.reduceMod, Nat.reduceDiv, Int.reduceAdd, Int.reduceSub, Int.reduceMul, Int.reduceLT, Int.reduceLE, Int.reduceEq, Int.reduceNeg, Int.reduceToNat, reduceIte, reduceCtorEq, Int.reduceBEq, Int.reduceBNe, hb9, hb14, hb15, ib, hal, hac, t24, d25, List.length_append]
      refine ⟨?_, ?_⟩
      · refine useB [_, _, _, _] (refOwn_ok h1s (by omega) (fun y hy => by have := hbX0 y hy; omega)) (StO.rd _ _) hg1.marks hL15 fun w1 No M2 hg2 hf hL hwN hmN hq => ?_
        obtain ⟨LL, hLL, ho, hLs⟩ := hq
        have hll : LL.length = j.state.length := by rw [← hLL, List.length_map]
        obtain ⟨po, ko, rfl⟩ := ho.slice
        simp only [push_cast, Nat.reduceAdd, Nat.reduceSub, Nat.reduceMul, Nat.reduceLT, Nat.reduceLeDiff, Nat.reduceEqDiff, Nat.reduceMod, Nat.reduceDiv, Int.reduceAdd, Int.reduceSub, Int.reduceMul, Int.reduceLT, Int.reduceLE, Int.reduceEq, Int.reduceNeg, Int.reduceToNat, reduceIte, reduceCtorEq, Int.reduceBEq, Int.reduceBNe, hb9, hb14, hb15, ib, hal, hac, t24, d25, List.length_append]
        refine ⟨subH_gr hf hg2, fun bb hbb => ?_⟩
        have hbb0 := hbb
        simp only [push_cast, Nat.reduceAdd, Nat.reduceSub, Nat.reduceMul, Nat.reduceLT, Nat.reduceLeDiff, Nat.reduceEqDiff, Nat.reduceMod, Nat.reduceDiv, Int.reduceAdd, Int.reduceSub, Int.reduceMul, Int.reduceLT, Int.reduceLE, Int.reduceEq, Int.reduceNeg, Int.reduceToNat, reduceIte, reduceCtorEq, Int.reduceBEq, Int.reduceBNe, hbb]
        obtain ⟨f15, f14, f9, f8, -⟩ := hL
        have zs := fresh_app_iff.1 hbb0.2.2.2.2.2.2.2.2
        have hax : acC ((⟨addrA ob, W.zero, oc, .empty, []⟩ : Ac), Value.slice none 0 0) = (addrA ob).cells ++ [.int .u64 0, .int .u64 0, .int .u64 0, .int .u64 0, .int .i64 oc, .string .empty, .slice none 0 0] := rfl
        rw [← hax]
        refine push_gA (P := Tryz.prog) (c := acC) (x := ((⟨addrA ob, W.zero, oc, .empty, []⟩ : Ac), Value.slice none 0 0)) [_, _, _, _] (by_ := 104) (q := 27) (ag := true) ho ⟨zs.1, (fresh_app_iff.1 f15).1, (fresh_app_iff.1 f14).1, (fresh_app_iff.1 f9).1, (fresh_app_iff.1 f8).1, trivial⟩ (by simp only [push_cast, Nat.reduceAdd, Nat.reduceSub, Nat.reduceMul, Nat.reduceLT, Nat.reduceLeDiff, Nat.reduceEqDiff, Nat.reduceMod, Nat.reduceDiv, Int.reduceAdd, Int.reduceSub, Int.reduceMul, Int.reduceLT, Int.reduceLE, Int.reduceEq, Int.reduceNeg, Int.reduceToNat, reduceIte, reduceCtorEq, Int.reduceBEq, Int.reduceBNe]) (by simp only [push_cast, Nat.reduceAdd, Nat.reduceSub, Nat.reduceMul, Nat.reduceLT, Nat.reduceLeDiff, Nat.reduceEqDiff, Nat.reduceMod, Nat.reduceDiv, Int.reduceAdd, Int.reduceSub, Int.reduceMul, Int.reduceLT, Int.reduceLE, Int.reduceEq, Int.reduceNeg, Int.reduceToNat, reduceIte, reduceCtorEq, Int.reduceBEq, Int.reduceBNe]) (acC_len _) (by rw [hax, List.all_append, hac]; rfl) (by unfold two47; omega) fun v3 N3 ho4 hf4 => ?_
        obtain ⟨p3, k3, hv3⟩ := ho4.slice
        subst hv3
        rcases ho4 with ⟨r1, -⟩ | ⟨bu, cu, r3, r4, r5, hN3⟩
        · rw [List.length_append] at r1; simp at r1
        have hl2 : (LL ++ [((⟨addrA ob, W.zero, oc, .empty, []⟩ : Ac), Value.slice none 0 0)]).length = j.state.length + 1 := by rw [List.length_append, hll]; rfl
        obtain ⟨hq3, -⟩ := (show freshN [⟨bu, 0, .vec 44 27 cu, (LL ++ [((⟨addrA ob, W.zero, oc, .empty, []⟩ : Ac), Value.slice none 0 0)]).flatMap acC⟩] _ from hN3 ▸ hf4)
        rw [hN3]
        have hbu := hq3
        simp only [push_cast, Nat.reduceAdd, Nat.reduceSub, Nat.reduceMul, Nat.reduceLT, Nat.reduceLeDiff, Nat.reduceEqDiff, Nat.reduceMod, Nat.reduceDiv, Int.reduceAdd, Int.reduceSub, Int.reduceMul, Int.reduceLT, Int.reduceLE, Int.reduceEq, Int.reduceNeg, Int.reduceToNat, reduceIte, reduceCtorEq, Int.reduceBEq, Int.reduceBNe] at hbu
        simp only [push_cast, Nat.reduceAdd, Nat.reduceSub, Nat.reduceMul, Nat.reduceLT, Nat.reduceLeDiff, Nat.reduceEqDiff, Nat.reduceMod, Nat.reduceDiv, Int.reduceAdd, Int.reduceSub, Int.reduceMul, Int.reduceLT, Int.reduceLE, Int.reduceEq, Int.reduceNeg, Int.reduceToNat, reduceIte, reduceCtorEq, Int.reduceBEq, Int.reduceBNe, hb9, hb14, hb15, hbb, hbu, hl2]
        have hb8M2 : fresh b8 M2 := (fresh_app_iff.1 f8).2
        have hfd2 := find_behind (L := [⟨bu, 0, .vec 44 27 cu, (LL ++ [((⟨addrA ob, W.zero, oc, .empty, []⟩ : Ac), Value.slice none 0 0)]).flatMap acC⟩, ⟨bb, 0, .vec 44 27 1, acC ((⟨addrA ob, W.zero, oc, .empty, []⟩ : Ac), Value.slice none 0 0)⟩, ⟨b8, 0, .cel 24, [.int .i64 oa, .int .i64 ob, .int .i64 oc]⟩]) (M := M2) ⟨by simp only [hbu], zs.2, hb8M2, trivial⟩
        have hfd : ∀ b e, findE M1 b = some e → findE (⟨bu, 0, .vec 44 27 cu, (LL ++ [((⟨addrA ob, W.zero, oc, .empty, []⟩ : Ac), Value.slice none 0 0)]).flatMap acC⟩ :: ⟨bb, 0, .vec 44 27 1, acC ((⟨addrA ob, W.zero, oc, .empty, []⟩ : Ac), Value.slice none 0 0)⟩ :: ⟨b8, 0, .cel 24, [.int .i64 oa, .int .i64 ob, .int .i64 oc]⟩ :: M2) b = some e := fun b e h => hfd2 b e (hg2.find h)
        have hlm : LiR acC 27 (⟨bu, 0, .vec 44 27 cu, (LL ++ [((⟨addrA ob, W.zero, oc, .empty, []⟩ : Ac), Value.slice none 0 0)]).flatMap acC⟩ :: ⟨bb, 0, .vec 44 27 1, acC ((⟨addrA ob, W.zero, oc, .empty, []⟩ : Ac), Value.slice none 0 0)⟩ :: ⟨b8, 0, .cel 24, [.int .i64 oa, .int .i64 ob, .int .i64 oc]⟩ :: M2) (LL ++ [((⟨addrA ob, W.zero, oc, .empty, []⟩ : Ac), Value.slice none 0 0)]) (.slice p3 (j.state.length + 1) k3) := hl2 ▸ OutG.liR (N := [_]) (.inr ⟨bu, cu, r3, r4, r5, rfl⟩) rfl rfl _
        refine WpV.perm (H' := ⟨b15, 0, .cel 37, [.slice p3 (j.state.length + 1) k3, .slice p1' j.undo.length q1', .slice p1'' j.marks.length q1'']⟩ :: ⟨b14, 0, .cel 37, [.slice p1 j.state.length q1, .slice p1' j.undo.length q1', .slice p1'' j.marks.length q1'']⟩ :: ⟨b9, 0, .cel 31, c.cells⟩ :: ⟨bu, 0, .vec 44 27 cu, (LL ++ [((⟨addrA ob, W.zero, oc, .empty, []⟩ : Ac), Value.slice none 0 0)]).flatMap acC⟩ :: ⟨bb, 0, .vec 44 27 1, acC ((⟨addrA ob, W.zero, oc, .empty, []⟩ : Ac), Value.slice none 0 0)⟩ :: ⟨b8, 0, .cel 24, [.int .i64 oa, .int .i64 ob, .int .i64 oc]⟩ :: M2) (List.perm_append_comm_assoc [_, _] [_, _, _] (_ :: M2)) (by simp [marksOf]) ?_
        refine rest _ _ _ (_ :: _ :: _ :: M2) _ ?_ ?_ ?_ ?_ ?_
        · simpa [marksOf] using hg2.marks
        · have f15 := (fresh_app_iff.1 f15).2
          have f14 := (fresh_app_iff.1 f14).2
          have f9 := (fresh_app_iff.1 f9).2
          simp only [push_cast, Nat.reduceAdd, Nat.reduceSub, Nat.reduceMul, Nat.reduceLT, Nat.reduceLeDiff, Nat.reduceEqDiff, Nat.reduceMod, Nat.reduceDiv, Int.reduceAdd, Int.reduceSub, Int.reduceMul, Int.reduceLT, Int.reduceLE, Int.reduceEq, Int.reduceNeg, Int.reduceToNat, reduceIte, reduceCtorEq, Int.reduceBEq, Int.reduceBNe, hbu, hbb, hb15, hb14, hb9, f15, f14, f9]
        · rw [hX0]
          refine ⟨_, _, _, rfl, ⟨_, ?_, hlm, fun y hy => ?_⟩, h1u.find hfd, h1m.find hfd⟩
          · rw [List.map_append, hLL]; rfl
          · rcases List.mem_append.1 hy with hy | hy
            · exact (hLs y hy).find hfd2
            · rw [List.mem_singleton.1 hy]; exact LiR.nil _ _
        · exact hfd
        · simp only [push_cast, Nat.reduceAdd, Nat.reduceSub, Nat.reduceMul, Nat.reduceLT, Nat.reduceLeDiff, Nat.reduceEqDiff, Nat.reduceMod, Nat.reduceDiv, Int.reduceAdd, Int.reduceSub, Int.reduceMul, Int.reduceLT, Int.reduceLE, Int.reduceEq, Int.reduceNeg, Int.reduceToNat, reduceIte, reduceCtorEq, Int.reduceBEq, Int.reduceBNe]
      · refine useB [_, _, _, _] (refOwn_ok h1s (by omega) (fun y hy => by have := hbX0 y hy; omega)) (StO.rd _ _) hg1.marks hL15 fun w1 No M2 hg2 hf hL hwN hmN hq => ?_
        obtain ⟨LL, hLL, ho, hLs⟩ := hq
        have hll : LL.length = j.state.length := by rw [← hLL, List.length_map]
        obtain ⟨po, ko, rfl⟩ := ho.slice
        simp only [push_cast, Nat.reduceAdd, Nat.reduceSub, Nat.reduceMul, Nat.reduceLT, Nat.reduceLeDiff, Nat.reduceEqDiff, Nat.reduceMod, Nat.reduceDiv, Int.reduceAdd, Int.reduceSub, Int.reduceMul, Int.reduceLT, Int.reduceLE, Int.reduceEq, Int.reduceNeg, Int.reduceToNat, reduceIte, reduceCtorEq, Int.reduceBEq, Int.reduceBNe, hb9, hb14, hb15, ib, hal, hac, t24, d25, List.length_append]
        refine ⟨subH_gr hf hg2, fun bb hbb => ?_⟩
        have hbb0 := hbb
        simp only [push_cast, Nat.reduceAdd, Nat.reduceSub, Nat.reduceMul, Nat.reduceLT, Nat.reduceLeDiff, Nat.reduceEqDiff, Nat.reduceMod, Nat.reduceDiv, Int.reduceAdd, Int.reduceSub, Int.reduceMul, Int.reduceLT, Int.reduceLE, Int.reduceEq, Int.reduceNeg, Int.reduceToNat, reduceIte, reduceCtorEq, Int.reduceBEq, Int.reduceBNe, hbb]
        obtain ⟨f15, f14, f9, f8, -⟩ := hL
        have zs := fresh_app_iff.1 hbb0.2.2.2.2.2.2.2.2
        have hax : acC ((⟨addrA ob, W.zero, oc, .empty, []⟩ : Ac), Value.slice none 0 0) = (addrA ob).cells ++ [.int .u64 0, .int .u64 0, .int .u64 0, .int .u64 0, .int .i64 oc, .string .empty, .slice none 0 0] := rfl
        rw [← hax]
        refine push_gA (P := Tryz.prog) (c := acC) (x := ((⟨addrA ob, W.zero, oc, .empty, []⟩ : Ac), Value.slice none 0 0)) [_, _, _, _] (by_ := 104) (q := 27) (ag := true) ho ⟨zs.1, (fresh_app_iff.1 f15).1, (fresh_app_iff.1 f14).1, (fresh_app_iff.1 f9).1, (fresh_app_iff.1 f8).1, trivial⟩ (by simp only [push_cast, Nat.reduceAdd, Nat.reduceSub, Nat.reduceMul, Nat.reduceLT, Nat.reduceLeDiff, Nat.reduceEqDiff, Nat.reduceMod, Nat.reduceDiv, Int.reduceAdd, Int.reduceSub, Int.reduceMul, Int.reduceLT, Int.reduceLE, Int.reduceEq, Int.reduceNeg, Int.reduceToNat, reduceIte, reduceCtorEq, Int.reduceBEq, Int.reduceBNe]) (by simp only [push_cast, Nat.reduceAdd, Nat.reduceSub, Nat.reduceMul, Nat.reduceLT, Nat.reduceLeDiff, Nat.reduceEqDiff, Nat.reduceMod, Nat.reduceDiv, Int.reduceAdd, Int.reduceSub, Int.reduceMul, Int.reduceLT, Int.reduceLE, Int.reduceEq, Int.reduceNeg, Int.reduceToNat, reduceIte, reduceCtorEq, Int.reduceBEq, Int.reduceBNe]) (acC_len _) (by rw [hax, List.all_append, hac]; rfl) (by unfold two47; omega) fun v3 N3 ho4 hf4 => ?_
        obtain ⟨p3, k3, hv3⟩ := ho4.slice
        subst hv3
        rcases ho4 with ⟨r1, -⟩ | ⟨bu, cu, r3, r4, r5, hN3⟩
        · rw [List.length_append] at r1; simp at r1
        have hl2 : (LL ++ [((⟨addrA ob, W.zero, oc, .empty, []⟩ : Ac), Value.slice none 0 0)]).length = j.state.length + 1 := by rw [List.length_append, hll]; rfl
        obtain ⟨hq3, -⟩ := (show freshN [⟨bu, 0, .vec 44 27 cu, (LL ++ [((⟨addrA ob, W.zero, oc, .empty, []⟩ : Ac), Value.slice none 0 0)]).flatMap acC⟩] _ from hN3 ▸ hf4)
        rw [hN3]
        have hbu := hq3
        simp only [push_cast, Nat.reduceAdd, Nat.reduceSub, Nat.reduceMul, Nat.reduceLT, Nat.reduceLeDiff, Nat.reduceEqDiff, Nat.reduceMod, Nat.reduceDiv, Int.reduceAdd, Int.reduceSub, Int.reduceMul, Int.reduceLT, Int.reduceLE, Int.reduceEq, Int.reduceNeg, Int.reduceToNat, reduceIte, reduceCtorEq, Int.reduceBEq, Int.reduceBNe] at hbu
        simp only [push_cast, Nat.reduceAdd, Nat.reduceSub, Nat.reduceMul, Nat.reduceLT, Nat.reduceLeDiff, Nat.reduceEqDiff, Nat.reduceMod, Nat.reduceDiv, Int.reduceAdd, Int.reduceSub, Int.reduceMul, Int.reduceLT, Int.reduceLE, Int.reduceEq, Int.reduceNeg, Int.reduceToNat, reduceIte, reduceCtorEq, Int.reduceBEq, Int.reduceBNe, hb9, hb14, hb15, hbb, hbu, hl2]
        have hb8M2 : fresh b8 M2 := (fresh_app_iff.1 f8).2
        have hfd2 := find_behind (L := [⟨bu, 0, .vec 44 27 cu, (LL ++ [((⟨addrA ob, W.zero, oc, .empty, []⟩ : Ac), Value.slice none 0 0)]).flatMap acC⟩, ⟨bb, 0, .vec 44 27 1, acC ((⟨addrA ob, W.zero, oc, .empty, []⟩ : Ac), Value.slice none 0 0)⟩, ⟨b8, 0, .cel 24, [.int .i64 oa, .int .i64 ob, .int .i64 oc]⟩]) (M := M2) ⟨by simp only [hbu], zs.2, hb8M2, trivial⟩
        have hfd : ∀ b e, findE M1 b = some e → findE (⟨bu, 0, .vec 44 27 cu, (LL ++ [((⟨addrA ob, W.zero, oc, .empty, []⟩ : Ac), Value.slice none 0 0)]).flatMap acC⟩ :: ⟨bb, 0, .vec 44 27 1, acC ((⟨addrA ob, W.zero, oc, .empty, []⟩ : Ac), Value.slice none 0 0)⟩ :: ⟨b8, 0, .cel 24, [.int .i64 oa, .int .i64 ob, .int .i64 oc]⟩ :: M2) b = some e := fun b e h => hfd2 b e (hg2.find h)
        have hlm : LiR acC 27 (⟨bu, 0, .vec 44 27 cu, (LL ++ [((⟨addrA ob, W.zero, oc, .empty, []⟩ : Ac), Value.slice none 0 0)]).flatMap acC⟩ :: ⟨bb, 0, .vec 44 27 1, acC ((⟨addrA ob, W.zero, oc, .empty, []⟩ : Ac), Value.slice none 0 0)⟩ :: ⟨b8, 0, .cel 24, [.int .i64 oa, .int .i64 ob, .int .i64 oc]⟩ :: M2) (LL ++ [((⟨addrA ob, W.zero, oc, .empty, []⟩ : Ac), Value.slice none 0 0)]) (.slice p3 (j.state.length + 1) k3) := hl2 ▸ OutG.liR (N := [_]) (.inr ⟨bu, cu, r3, r4, r5, rfl⟩) rfl rfl _
        refine WpV.perm (H' := ⟨b15, 0, .cel 37, [.slice p3 (j.state.length + 1) k3, .slice p1' j.undo.length q1', .slice p1'' j.marks.length q1'']⟩ :: ⟨b14, 0, .cel 37, [.slice p1 j.state.length q1, .slice p1' j.undo.length q1', .slice p1'' j.marks.length q1'']⟩ :: ⟨b9, 0, .cel 31, c.cells⟩ :: ⟨bu, 0, .vec 44 27 cu, (LL ++ [((⟨addrA ob, W.zero, oc, .empty, []⟩ : Ac), Value.slice none 0 0)]).flatMap acC⟩ :: ⟨bb, 0, .vec 44 27 1, acC ((⟨addrA ob, W.zero, oc, .empty, []⟩ : Ac), Value.slice none 0 0)⟩ :: ⟨b8, 0, .cel 24, [.int .i64 oa, .int .i64 ob, .int .i64 oc]⟩ :: M2) (List.perm_append_comm_assoc [_, _] [_, _, _] (_ :: M2)) (by simp [marksOf]) ?_
        refine rest _ _ _ (_ :: _ :: _ :: M2) _ ?_ ?_ ?_ ?_ ?_
        · simpa [marksOf] using hg2.marks
        · have f15 := (fresh_app_iff.1 f15).2
          have f14 := (fresh_app_iff.1 f14).2
          have f9 := (fresh_app_iff.1 f9).2
          simp only [push_cast, Nat.reduceAdd, Nat.reduceSub, Nat.reduceMul, Nat.reduceLT, Nat.reduceLeDiff, Nat.reduceEqDiff, Nat.reduceMod, Nat.reduceDiv, Int.reduceAdd, Int.reduceSub, Int.reduceMul, Int.reduceLT, Int.reduceLE, Int.reduceEq, Int.reduceNeg, Int.reduceToNat, reduceIte, reduceCtorEq, Int.reduceBEq, Int.reduceBNe, hbu, hbb, hb15, hb14, hb9, f15, f14, f9]
        · rw [hX0]
          refine ⟨_, _, _, rfl, ⟨_, ?_, hlm, fun y hy => ?_⟩, h1u.find hfd, h1m.find hfd⟩
          · rw [List.map_append, hLL]; rfl
          · rcases List.mem_append.1 hy with hy | hy
            · exact (hLs y hy).find hfd2
            · rw [List.mem_singleton.1 hy]; exact LiR.nil _ _
        · exact hfd
        · simp only [push_cast, Nat.reduceAdd, Nat.reduceSub, Nat.reduceMul, Nat.reduceLT, Nat.reduceLeDiff, Nat.reduceEqDiff, Nat.reduceMod, Nat.reduceDiv, Int.reduceAdd, Int.reduceSub, Int.reduceMul, Int.reduceLT, Int.reduceLE, Int.reduceEq, Int.reduceNeg, Int.reduceToNat, reduceIte, reduceCtorEq, Int.reduceBEq, Int.reduceBNe]
  case rest =>
    intro vs vu vm Mx T hmx hLx hjx hfx hT
    refine WpV.slots [(4, .slice p cs.length k), (5, .int .i64 mk), (9, .pointer (some ⟨b9, 0, none⟩)), (13, .bool true), (14, .pointer (some ⟨b14, 0, none⟩)), (15, .pointer (some ⟨b15, 0, none⟩))] hT ?_
    obtain ⟨f15, f14, f9, -⟩ := hLx
    have hjj := hj1.find hfx
    obtain ⟨p0, q0, p0', q0', p0'', q0'', hve⟩ := hjx.e3
    injection hve with hve
    injection hve with hve
    simp only [List.cons.injEq, and_true] at hve
    obtain ⟨rfl, rfl, rfl⟩ := hve
    obtain ⟨O, hO⟩ : ∃ O, O = openJ X.state := ⟨_, rfl⟩
    have hOb : Bn O.1 := hO ▸ bn_open X.state
    refine regO gV4_ok ?_
    simp only [push_cast, Nat.reduceAdd, Nat.reduceSub, Nat.reduceMul, Nat.reduceLT, Nat.reduceLeDiff, Nat.reduceEqDiff, Nat.reduceMod, Nat.reduceDiv, Int.reduceAdd, Int.reduceSub, Int.reduceMul, Int.reduceLT, Int.reduceLE, Int.reduceEq, Int.reduceNeg, Int.reduceToNat, reduceIte, reduceCtorEq, Int.reduceBEq, Int.reduceBNe, hb9, hb14, hb15, hcl, hca]
    intro bl hbl
    have flx : fresh bl Mx := hbl.2.2.2.2.2.2
    refine loopO gV4_ok (pl := plTells) Tryz.mix (X := {x : (Nat × Value) × Hp // Gr (⟨bl, 0, .vec 31 31 1, c.cells⟩ :: Mx) x.2 ∧ fresh b15 x.2 ∧ fresh b14 x.2 ∧ fresh b9 x.2})
      (fun x => ([(4, .slice p cs.length k), (5, .int .i64 mk), (13, .bool true), (14, .pointer (some ⟨b14, 0, none⟩)), (15, .pointer (some ⟨b15, 0, none⟩)), (16, x.1.1.2), (17, .int .i64 x.1.1.1)], ⟨b15, 0, .cel 37, [.slice p0 X.state.length q0, .slice p0' X.undo.length q0', .slice p0'' X.marks.length q0'']⟩ :: ⟨b14, 0, .cel 37, [.slice p1 j.state.length q1, .slice p1' j.undo.length q1', .slice p1'' j.marks.length q1'']⟩ :: ⟨b9, 0, .cel 31, c.cells⟩ :: x.1.2))
      (fun x => x.1.1.1 ≤ cs.length ∧ x.1.1.1 ≤ 4 ∧ LiR Ch.cells 31 x.1.2 (((cs.take x.1.1.1).map chR).reverse ++ [c]) x.1.1.2 ∧ ∃ b k, x.1.1.2 = .slice (some ⟨b, 0, none⟩) (x.1.1.1 + 1) k ∧ x.1.1.1 + 1 ≤ k) (fun x => cs.length - x.1.1.1) ⟨((0, .slice (some ⟨bl, 0, none⟩) 1 1), ⟨bl, 0, .vec 31 31 1, c.cells⟩ :: Mx), Gr.refl (by simpa [marksOf] using hmx), ⟨hbl.2.1, hbl.1, f15⟩, ⟨hbl.2.2.2.1, hbl.2.2.1, f14⟩, ⟨hbl.2.2.2.2.2.1, hbl.2.2.2.2.1, f9⟩⟩ ?_ ?_ (by kernel_rfl) ?_
    · exact ⟨Nat.zero_le _, Nat.zero_le _, LiR.one1, bl, 1, rfl, Nat.le_refl _⟩
    · simp only [push_cast, Nat.reduceAdd, Nat.reduceSub, Nat.reduceMul, Nat.reduceLT, Nat.reduceLeDiff, Nat.reduceEqDiff, Nat.reduceMod, Nat.reduceDiv, Int.reduceAdd, Int.reduceSub, Int.reduceMul, Int.reduceLT, Int.reduceLE, Int.reduceEq, Int.reduceNeg, Int.reduceToNat, reduceIte, reduceCtorEq, Int.reduceBEq, Int.reduceBNe, hbl]
    rintro ⟨⟨⟨ix, vl⟩, Mq⟩, hgq, q15, q14, q9⟩ ⟨hi, h4, hl, bl', kl, hvl, hkl⟩
    dsimp only at hi h4 hl hvl hkl hgq q15 q14 q9 ⊢
    subst hvl
    obtain ⟨Lo, hLo⟩ : ∃ Lo, Lo = ((cs.take ix).map chR).reverse ++ [c] := ⟨_, rfl⟩
    have hlen : Lo.length = ix + 1 := by
      rw [hLo, List.length_append, List.length_reverse, List.length_map, List.length_take]; simp; omega
    rw [← hLo] at hl
    by_cases hc : ix < cs.length ∧ ix < 4
    · obtain ⟨hlt, hl4⟩ := hc
      obtain ⟨r, hr'⟩ : ∃ r, cs[ix]? = some r := ⟨cs[ix], List.getElem?_eq_getElem hlt⟩
      obtain ⟨ra, rb, rc, rd⟩ := ic r (List.mem_of_getElem? hr')
      rcases hla with rfl | ⟨b, f, d, kd, cc, rfl, hfe, hat⟩
      · simp at hlt
      obtain ⟨a1, a2⟩ := hat ix r hr'
      rw [show r.cells = [.int .i64 r.a, .int .i64 r.b, .int .i64 r.c, .int .i64 r.d] from rfl] at a2
      have hee : findE Mq b = some ⟨b, f, kd, cc⟩ := hgq.find (find_behind (L := [_]) ⟨flx, trivial⟩ _ _ (hfx _ _ (hg1.find hfe)))
      have m15 := (fresh_findS q15 hee).2
      have m14 := (fresh_findS q14 hee).2
      have m9 := (fresh_findS q9 hee).2
      have i1 : (ix : Int) < (cs.length : Int) := by omega
      have i2 : (ix : Int) < 4 := by omega
      have e3 : -9223372036854775808 ≤ (ix : Int) + 1 ∧ (ix : Int) + 1 ≤ 9223372036854775807 := by omega
      have hs1 : ((cs.take (ix + 1)).map chR).reverse ++ [c] = chR r :: Lo := by
        rw [hLo, List.take_add_one, hr', List.map_append, List.reverse_append]; rfl
      simp only [push_cast, Nat.reduceAdd, Nat.reduceSub, Nat.reduceMul, Nat.reduceLT, Nat.reduceLeDiff, Nat.reduceEqDiff, Nat.reduceMod, Nat.reduceDiv, Int.reduceAdd, Int.reduceSub, Int.reduceMul, Int.reduceLT, Int.reduceLE, Int.reduceEq, Int.reduceNeg, Int.reduceToNat, reduceIte, reduceCtorEq, Int.reduceBEq, Int.reduceBNe, i1, i2, hlt, hl4, hee, a1, a2, ra, rb, rc, rd, m15, m14, m9, hb9, hb14, hb15]
      intro bs hbs
      have hsrc := (((hl.app (N := [⟨b15, 0, .cel 37, [.slice p0 X.state.length q0, .slice p0' X.undo.length q0', .slice p0'' X.marks.length q0'']⟩, ⟨b14, 0, .cel 37, [.slice p1 j.state.length q1, .slice p1' j.undo.length q1', .slice p1'' j.marks.length q1'']⟩, ⟨b9, 0, .cel 31, c.cells⟩]) ⟨q15, q14, q9, trivial⟩).app (N := [⟨bs, 0, .vec 31 31 1, (chR r).cells⟩]) ⟨hbs, trivial⟩).src (P := Tryz.prog) (xt := 34) (q := 31) (ag := true) (by simp only [push_cast, Nat.reduceAdd, Nat.reduceSub, Nat.reduceMul, Nat.reduceLT, Nat.reduceLeDiff, Nat.reduceEqDiff, Nat.reduceMod, Nat.reduceDiv, Int.reduceAdd, Int.reduceSub, Int.reduceMul, Int.reduceLT, Int.reduceLE, Int.reduceEq, Int.reduceNeg, Int.reduceToNat, reduceIte, reduceCtorEq, Int.reduceBEq, Int.reduceBNe]))
      refine append_g (P := Tryz.prog) (by_ := 120) (N := [⟨bs, 0, .vec 31 31 1, (chR r).cells⟩]) (cs := (chR r).cells) (n := 1) (m := Lo.length) (ys := Lo.flatMap Ch.cells) (.inr ⟨bs, 1, rfl, Nat.le_refl _, (chR r).len, rfl⟩) (by simp only [push_cast, Nat.reduceAdd, Nat.reduceSub, Nat.reduceMul, Nat.reduceLT, Nat.reduceLeDiff, Nat.reduceEqDiff, Nat.reduceMod, Nat.reduceDiv, Int.reduceAdd, Int.reduceSub, Int.reduceMul, Int.reduceLT, Int.reduceLE, Int.reduceEq, Int.reduceNeg, Int.reduceToNat, reduceIte, reduceCtorEq, Int.reduceBEq, Int.reduceBNe]) hsrc (by rw [flatMap_len (s := 31) (fun x => x.len)]) (chAll _) (by unfold two47; omega) fun v3 N3 ho4 hf4 => ?_
      rcases ho4 with ⟨r1, -⟩ | ⟨bu, cu, rfl, r4, r5, rfl⟩
      · omega
      obtain ⟨hq3, -⟩ := hf4
      have hbu := hq3
      simp only [push_cast, Nat.reduceAdd, Nat.reduceSub, Nat.reduceMul, Nat.reduceLT, Nat.reduceLeDiff, Nat.reduceEqDiff, Nat.reduceMod, Nat.reduceDiv, Int.reduceAdd, Int.reduceSub, Int.reduceMul, Int.reduceLT, Int.reduceLE, Int.reduceEq, Int.reduceNeg, Int.reduceToNat, reduceIte, reduceCtorEq, Int.reduceBEq, Int.reduceBNe] at hbu
      have hl2 : 1 + Lo.length = ix + 1 + 1 := by omega
      simp only [push_cast, Nat.reduceAdd, Nat.reduceSub, Nat.reduceMul, Nat.reduceLT, Nat.reduceLeDiff, Nat.reduceEqDiff, Nat.reduceMod, Nat.reduceDiv, Int.reduceAdd, Int.reduceSub, Int.reduceMul, Int.reduceLT, Int.reduceLE, Int.reduceEq, Int.reduceNeg, Int.reduceToNat, reduceIte, reduceCtorEq, Int.reduceBEq, Int.reduceBNe, hb9, hb14, hb15, hbu, hl2, wrap_i64' e3]
      obtain ⟨u15, u15', u14, u14', u9, u9', uM⟩ := hbu
      have hlm : LiR Ch.cells 31 ([⟨bu, 0, .vec 31 31 cu, (chR r).cells ++ Lo.flatMap Ch.cells⟩] ++ Mq) (chR r :: Lo) (.slice (some ⟨bu, 0, none⟩) (ix + 1 + 1) cu) := OutG.liR (n := ix + 1 + 1) (cs := (chR r).cells ++ Lo.flatMap Ch.cells) (.inr ⟨bu, cu, rfl, hl2 ▸ r4, hl2 ▸ r5, rfl⟩) (by rw [List.length_cons]; omega) rfl _
      exact ⟨⟨((ix + 1, .slice (some ⟨bu, 0, none⟩) (ix + 1 + 1) cu), Mq ++ [⟨bu, 0, .vec 31 31 cu, (chR r).cells ++ Lo.flatMap Ch.cells⟩]), hgq.trans ⟨hgq.marks, [⟨bu, 0, .vec 31 31 cu, (chR r).cells ++ Lo.flatMap Ch.cells⟩], rfl, ⟨trivial, trivial⟩, rfl⟩, fresh_appS q15 ⟨u15', u15, trivial⟩, fresh_appS q14 ⟨u14', u14, trivial⟩, fresh_appS q9 ⟨u9', u9, trivial⟩⟩,
        ⟨hlt, by dsimp only; omega, by dsimp only; rw [hs1]; exact hlm.congr (cellsAt_swap ⟨uM, trivial⟩), bu, cu, rfl, by dsimp only; omega⟩, by dsimp only; omega, ⟨rfl, rfl⟩, subH_turn (N := [_]) (fun e he x hx h => by rw [List.mem_singleton.1 hx] at h; exact freshN_iff.1 (show freshN [⟨bu, 0, .vec 31 31 cu, (chR r).cells ++ Lo.flatMap Ch.cells⟩] Mq from ⟨uM, trivial⟩) _ (List.mem_singleton.2 rfl) e he h), by simp [marks_append, marksOf]⟩
    · have hfl : ∀ b e, findE Mx b = some e → findE Mq b = some e := fun b e h => hgq.find (find_behind (L := [_]) ⟨flx, trivial⟩ _ _ h)
      have hjxq := hjx.find hfl
      have hjjq := hjj.find hfl
      have hxs := hjxq.three.1
      have hbs := hbX.sl
      have hbh := hbX.hl
      by_cases hlt : ix < cs.length
      have i1 : (ix : Int) < (cs.length : Int) := by omega
      have i2 : ¬ (ix : Int) < 4 := by omega
      have i3 : ¬ ix < 4 := by omega
      simp only [push_cast, Nat.reduceAdd, Nat.reduceSub, Nat.reduceMul, Nat.reduceLT, Nat.reduceLeDiff, Nat.reduceEqDiff, Nat.reduceMod, Nat.reduceDiv, Int.reduceAdd, Int.reduceSub, Int.reduceMul, Int.reduceLT, Int.reduceLE, Int.reduceEq, Int.reduceNeg, Int.reduceToNat, reduceIte, reduceCtorEq, Int.reduceBEq, Int.reduceBNe, i1, i2, hlt, i3, hb9, hb14, hb15]
      rotate_left
      have i1 : ¬ (ix : Int) < (cs.length : Int) := by omega
      simp only [push_cast, Nat.reduceAdd, Nat.reduceSub, Nat.reduceMul, Nat.reduceLT, Nat.reduceLeDiff, Nat.reduceEqDiff, Nat.reduceMod, Nat.reduceDiv, Int.reduceAdd, Int.reduceSub, Int.reduceMul, Int.reduceLT, Int.reduceLE, Int.reduceEq, Int.reduceNeg, Int.reduceToNat, reduceIte, reduceCtorEq, Int.reduceBEq, Int.reduceBNe, i1, hlt, hb9, hb14, hb15]
      all_goals
        refine useL [_, _, _] (jopen_ok (s := X.state) hxs (by omega) (fun y hy => by have := hbh y hy; omega)) (JeR.rd _) hgq.marks ⟨q15, q14, q9, trivial⟩ fun w M3 hg3 hL3 hq3 => ?_
        rw [← hO] at hq3
        obtain ⟨w1, rfl, hO1⟩ := hq3
        obtain ⟨p3, q3, p3', q3', p3'', q3'', rfl⟩ := hO1.e3
        simp only [push_cast, Nat.reduceAdd, Nat.reduceSub, Nat.reduceMul, Nat.reduceLT, Nat.reduceLeDiff, Nat.reduceEqDiff, Nat.reduceMod, Nat.reduceDiv, Int.reduceAdd, Int.reduceSub, Int.reduceMul, Int.reduceLT, Int.reduceLE, Int.reduceEq, Int.reduceNeg, Int.reduceToNat, reduceIte, reduceCtorEq, Int.reduceBEq, Int.reduceBNe, hb9, hb14, hb15]
        intro b18 hb18
        simp only [push_cast, Nat.reduceAdd, Nat.reduceSub, Nat.reduceMul, Nat.reduceLT, Nat.reduceLeDiff, Nat.reduceEqDiff, Nat.reduceMod, Nat.reduceDiv, Int.reduceAdd, Int.reduceSub, Int.reduceMul, Int.reduceLT, Int.reduceLE, Int.reduceEq, Int.reduceNeg, Int.reduceToNat, reduceIte, reduceCtorEq, Int.reduceBEq, Int.reduceBNe, hb9, hb14, hb15, hb18]
        refine useL [_, _, _, _] (refJopen_ok (s := X.state) (hxs.ext hg3.ext) (by omega) hbh) (JeR.rd _) hg3.marks ⟨hb18.2.2.2.2.2.2, hL3⟩ fun w M4 hg4 hL4 hq4 => ?_
        rw [← hO] at hq4
        obtain ⟨w1, rfl, hO2⟩ := hq4
        obtain ⟨p4, q4, p4', q4', p4'', q4'', rfl⟩ := hO2.e3
        simp only [push_cast, Nat.reduceAdd, Nat.reduceSub, Nat.reduceMul, Nat.reduceLT, Nat.reduceLeDiff, Nat.reduceEqDiff, Nat.reduceMod, Nat.reduceDiv, Int.reduceAdd, Int.reduceSub, Int.reduceMul, Int.reduceLT, Int.reduceLE, Int.reduceEq, Int.reduceNeg, Int.reduceToNat, reduceIte, reduceCtorEq, Int.reduceBEq, Int.reduceBNe, hb9, hb14, hb15, hb18]
        intro b20 hb20
        simp only [push_cast, Nat.reduceAdd, Nat.reduceSub, Nat.reduceMul, Nat.reduceLT, Nat.reduceLeDiff, Nat.reduceEqDiff, Nat.reduceMod, Nat.reduceDiv, Int.reduceAdd, Int.reduceSub, Int.reduceMul, Int.reduceLT, Int.reduceLE, Int.reduceEq, Int.reduceNeg, Int.reduceToNat, reduceIte, reduceCtorEq, Int.reduceBEq, Int.reduceBNe, hb9, hb14, hb15, hb18, hb20]
        refine useP [_, _, _, _, _] (v := .bool true) (fun MB hr2 he2 => sameB hOb (JoR.rd _ _ _ _ he2.symm (hO1.ext hg4.ext)) (JoR.rd _ _ _ _ he2.symm hO2) hr2.marks) ⟨hb20.2.2.2.2.2.2.2.2, hL4⟩ ?_
        simp only [push_cast, Nat.reduceAdd, Nat.reduceSub, Nat.reduceMul, Nat.reduceLT, Nat.reduceLeDiff, Nat.reduceEqDiff, Nat.reduceMod, Nat.reduceDiv, Int.reduceAdd, Int.reduceSub, Int.reduceMul, Int.reduceLT, Int.reduceLE, Int.reduceEq, Int.reduceNeg, Int.reduceToNat, reduceIte, reduceCtorEq, Int.reduceBEq, Int.reduceBNe, hb9, hb14, hb15, hb18, hb20, bne_self_eq_false]
        refine regO gV4_ok ?_
        simp only [push_cast, Nat.reduceAdd, Nat.reduceSub, Nat.reduceMul, Nat.reduceLT, Nat.reduceLeDiff, Nat.reduceEqDiff, Nat.reduceMod, Nat.reduceDiv, Int.reduceAdd, Int.reduceSub, Int.reduceMul, Int.reduceLT, Int.reduceLE, Int.reduceEq, Int.reduceNeg, Int.reduceToNat, reduceIte, reduceCtorEq, Int.reduceBEq, Int.reduceBNe, hb9, hb14, hb15, hb18, hb20]
        intro bj hbj
        have hL4' : freshN [⟨bj, 0, .vec 37 3 2, [.slice p1 j.state.length q1, .slice p1' j.undo.length q1', .slice p1'' j.marks.length q1'', .slice p0 X.state.length q0, .slice p0' X.undo.length q0', .slice p0'' X.marks.length q0'']⟩, ⟨b15, 0, .cel 37, [.slice p0 X.state.length q0, .slice p0' X.undo.length q0', .slice p0'' X.marks.length q0'']⟩, ⟨b14, 0, .cel 37, [.slice p1 j.state.length q1, .slice p1' j.undo.length q1', .slice p1'' j.marks.length q1'']⟩, ⟨b9, 0, .cel 31, c.cells⟩] M4 := ⟨hbj.2.2.2.2.2.2.2.2.2.2, hL4.2⟩
        have h20M : fresh b20 M4 := hb20.2.2.2.2.2.2.2.2
        have hfz : ∀ b e, findE Mq b = some e → findE (⟨bj, 0, .vec 37 3 2, [.slice p1 j.state.length q1, .slice p1' j.undo.length q1', .slice p1'' j.marks.length q1'', .slice p0 X.state.length q0, .slice p0' X.undo.length q0', .slice p0'' X.marks.length q0'']⟩ :: ⟨b15, 0, .cel 37, [.slice p0 X.state.length q0, .slice p0' X.undo.length q0', .slice p0'' X.marks.length q0'']⟩ :: ⟨b14, 0, .cel 37, [.slice p1 j.state.length q1, .slice p1' j.undo.length q1', .slice p1'' j.marks.length q1'']⟩ :: ⟨b9, 0, .cel 31, c.cells⟩ :: M4) b = some e := fun b e h => find_behind hL4' _ _ ((hg3.trans hg4).find h)
        refine loopO gV4_ok (pl := plTells) Tryz.mix (X := {x : (Nat × (Value × Value × Value) × (Value × Value × Value)) × Hp // Gr (⟨bj, 0, .vec 37 3 2, [.slice p1 j.state.length q1, .slice p1' j.undo.length q1', .slice p1'' j.marks.length q1'', .slice p0 X.state.length q0, .slice p0' X.undo.length q0', .slice p0'' X.marks.length q0'']⟩ :: ⟨b15, 0, .cel 37, [.slice p0 X.state.length q0, .slice p0' X.undo.length q0', .slice p0'' X.marks.length q0'']⟩ :: ⟨b14, 0, .cel 37, [.slice p1 j.state.length q1, .slice p1' j.undo.length q1', .slice p1'' j.marks.length q1'']⟩ :: ⟨b9, 0, .cel 31, c.cells⟩ :: M4) x.2 ∧ fresh b18 x.2 ∧ fresh b20 x.2})
          (fun x => ([(5, .int .i64 mk), (13, .bool true), (16, .slice (some ⟨bl', 0, none⟩) (ix + 1) kl), (18, .pointer (some ⟨b18, 0, none⟩)), (20, .pointer (some ⟨b20, 0, none⟩)), (130, .slice (some ⟨bj, 0, none⟩) 2 2), (131, .int .i64 2), (132, .int .i64 x.1.1.1)], ⟨b18, 0, .cel 37, [x.1.1.2.1.1, x.1.1.2.1.2.1, x.1.1.2.1.2.2]⟩ :: ⟨b20, 0, .cel 37, [x.1.1.2.2.1, x.1.1.2.2.2.1, x.1.1.2.2.2.2]⟩ :: x.1.2))
          (fun x => x.1.1.1 ≤ 2) (fun x => 2 - x.1.1.1) ⟨((0, (.slice p3 O.1.state.length q3, .slice p3' O.1.undo.length q3', .slice p3'' O.1.marks.length q3''), (.slice p4 O.1.state.length q4, .slice p4' O.1.undo.length q4', .slice p4'' O.1.marks.length q4'')), ⟨bj, 0, .vec 37 3 2, [.slice p1 j.state.length q1, .slice p1' j.undo.length q1', .slice p1'' j.marks.length q1'', .slice p0 X.state.length q0, .slice p0' X.undo.length q0', .slice p0'' X.marks.length q0'']⟩ :: ⟨b15, 0, .cel 37, [.slice p0 X.state.length q0, .slice p0' X.undo.length q0', .slice p0'' X.marks.length q0'']⟩ :: ⟨b14, 0, .cel 37, [.slice p1 j.state.length q1, .slice p1' j.undo.length q1', .slice p1'' j.marks.length q1'']⟩ :: ⟨b9, 0, .cel 31, c.cells⟩ :: M4), Gr.refl (by simpa [marksOf] using hg4.marks), ⟨hbj.2.2.2.1, hbj.2.2.1, hb18.1, hb18.2.1, hb18.2.2.1, hb18.2.2.2.1, hb18.2.2.2.2.1, hb18.2.2.2.2.2.1, hL4.1⟩, ⟨hbj.2.1, hbj.1, hb20.2.2⟩⟩ ?_ ?_ (by kernel_rfl) ?_
        · exact Nat.zero_le _
        · simp only [push_cast, Nat.reduceAdd, Nat.reduceSub, Nat.reduceMul, Nat.reduceLT, Nat.reduceLeDiff, Nat.reduceEqDiff, Nat.reduceMod, Nat.reduceDiv, Int.reduceAdd, Int.reduceSub, Int.reduceMul, Int.reduceLT, Int.reduceLE, Int.reduceEq, Int.reduceNeg, Int.reduceToNat, reduceIte, reduceCtorEq, Int.reduceBEq, Int.reduceBNe, hb9, hb14, hb15, hb18, hb20, hbj]
        rintro ⟨⟨⟨iy, ⟨u1, u2, u3⟩, ⟨w1, w2, w3⟩⟩, Mz⟩, hgz, z18, z20⟩ hi2
        dsimp only at hi2 hgz z18 z20 ⊢
        have hb20 : ¬ b20 = b18 ∧ ¬ b18 = b20 := ⟨hb20.1, hb20.2.1⟩
        obtain ⟨rc, hrc⟩ : ∃ rc : List Value, rc = [.slice p1 j.state.length q1, .slice p1' j.undo.length q1', .slice p1'' j.marks.length q1'', .slice p0 X.state.length q0, .slice p0' X.undo.length q0', .slice p0'' X.marks.length q0''] := ⟨_, rfl⟩
        have hrl : rc.length = 6 := by rw [hrc]; rfl
        have hfr : findE Mz bj = some ⟨bj, 0, .vec 37 3 2, rc⟩ := by rw [hrc]; exact hgz.find (by simp [findE])
        have hlz := hl.find fun b e h => hgz.find (hfz b e h)
        by_cases hi3 : iy < 2
        · obtain ⟨y, ya, yb, yc, hyR, hyB, hcell⟩ : ∃ y ya yb yc, JoR y (.agg #[ya, yb, yc]) Mz ∧ Bn y ∧ List.take 3 (List.drop (iy * 3) rc) = [ya, yb, yc] := by
            rcases (show iy = 0 ∨ iy = 1 by omega) with rfl | rfl
            · exact ⟨j, _, _, _, hjjq.find (fun b e h => hgz.find (hfz b e h)), hrj.bn, by rw [hrc]; rfl⟩
            · exact ⟨X, _, _, _, hjxq.find (fun b e h => hgz.find (hfz b e h)), hbX, by rw [hrc]; rfl⟩
          obtain ⟨p5, q5, p5', q5', p5'', q5'', hve⟩ := hyR.e3
          injection hve with hve
          injection hve with hve
          simp only [List.cons.injEq, and_true] at hve
          obtain ⟨rfl, rfl, rfl⟩ := hve
          have n18 := (fresh_findS z18 hfr).2
          have n20 := (fresh_findS z20 hfr).2
          have c1 : (iy : Int) < 2 := by omega
          have c2 : iy * 3 + 3 ≤ 6 := by omega
          simp only [push_cast, Nat.reduceAdd, Nat.reduceSub, Nat.reduceMul, Nat.reduceLT, Nat.reduceLeDiff, Nat.reduceEqDiff, Nat.reduceMod, Nat.reduceDiv, Int.reduceAdd, Int.reduceSub, Int.reduceMul, Int.reduceLT, Int.reduceLE, Int.reduceEq, Int.reduceNeg, Int.reduceToNat, reduceIte, reduceCtorEq, Int.reduceBEq, Int.reduceBNe, hb20, hi3, c1, c2, hfr, hrl, hcell, n18, n20]
          intro b23 hb23
          have f23 : fresh b23 Mz := hb23.2.2.2.2
          refine takeP [_, _, _] (v := .bool (rightJ y)) (fun MB hr2 he2 => jright_B hyB (JoR.rd _ _ _ _ he2.symm hyR) hr2.marks) ⟨f23, z18, z20, trivial⟩ ?_
          simp only [push_cast, Nat.reduceAdd, Nat.reduceSub, Nat.reduceMul, Nat.reduceLT, Nat.reduceLeDiff, Nat.reduceEqDiff, Nat.reduceMod, Nat.reduceDiv, Int.reduceAdd, Int.reduceSub, Int.reduceMul, Int.reduceLT, Int.reduceLE, Int.reduceEq, Int.reduceNeg, Int.reduceToNat, reduceIte, reduceCtorEq, Int.reduceBEq, Int.reduceBNe, hb20, hb23]
          refine takeP [_, _, _] (v := .bool (rightJ y)) (fun MB hr2 he2 => refJright_B hyB (JoR.rd _ _ _ _ he2.symm hyR) hr2.marks) ⟨f23, z18, z20, trivial⟩ ?_
          have e4 : -9223372036854775808 ≤ (ix : Int) ∧ (ix : Int) ≤ 9223372036854775807 := by omega
          have e5 : (ix : Int) + 1 - 1 = (ix : Int) := by omega
          have e6 : (ix : Int) ≤ (kl : Int) := by omega
          have e7 : ix ≤ kl := by omega
          have e8 : (0 : Int) ≤ (ix : Int) := by omega
          have hsa : slAddr (some ⟨bl', 0, none⟩) kl 0 31 = some ⟨bl', 0, none⟩ := slAddr0 (.inr ⟨bl', rfl⟩)
          simp only [push_cast, Nat.reduceAdd, Nat.reduceSub, Nat.reduceMul, Nat.reduceLT, Nat.reduceLeDiff, Nat.reduceEqDiff, Nat.reduceMod, Nat.reduceDiv, Int.reduceAdd, Int.reduceSub, Int.reduceMul, Int.reduceLT, Int.reduceLE, Int.reduceEq, Int.reduceNeg, Int.reduceToNat, reduceIte, reduceCtorEq, Int.reduceBEq, Int.reduceBNe, hb20, hb23, bne_self_eq_false, wrap_i64' e4, e5, e6, e7, e8, hsa]
          intro bm hbm
          have fm : fresh bm Mz := hbm.2.2.2.2.2.2
          have hbb : ¬ b23 = b18 ∧ ¬ b18 = b23 ∧ ¬ b23 = b20 ∧ ¬ b20 = b23 := ⟨hb23.1, hb23.2.1, hb23.2.2.1, hb23.2.2.2.1⟩
          obtain ⟨rm, hrm⟩ : ∃ rm : List Value, rm = [.slice (some ⟨bl', 0, none⟩) (ix + 1) kl, .slice (some ⟨bl', 0, none⟩) ix kl] := ⟨_, rfl⟩
          refine loopO gV4_ok (pl := plTells) Tryz.mix (X := {x : (Nat × (Value × Value × Value) × (Value × Value × Value)) × Hp // Gr Mz x.2 ∧ findE x.2 bm = some ⟨bm, 0, .vec 34 1 2, rm⟩ ∧ fresh b23 x.2 ∧ fresh b18 x.2 ∧ fresh b20 x.2})
            (fun x => ([(5, .int .i64 mk), (13, .bool true), (16, .slice (some ⟨bl', 0, none⟩) (ix + 1) kl), (18, .pointer (some ⟨b18, 0, none⟩)), (20, .pointer (some ⟨b20, 0, none⟩)), (23, .pointer (some ⟨b23, 0, none⟩)), (130, .slice (some ⟨bj, 0, none⟩) 2 2), (131, .int .i64 2), (132, .int .i64 iy), (147, .slice (some ⟨bm, 0, none⟩) 2 2), (148, .int .i64 2), (149, .int .i64 x.1.1.1)], ⟨b23, 0, .cel 37, [.slice p5 y.state.length q5, .slice p5' y.undo.length q5', .slice p5'' y.marks.length q5'']⟩ :: ⟨b18, 0, .cel 37, [x.1.1.2.1.1, x.1.1.2.1.2.1, x.1.1.2.1.2.2]⟩ :: ⟨b20, 0, .cel 37, [x.1.1.2.2.1, x.1.1.2.2.2.1, x.1.1.2.2.2.2]⟩ :: x.1.2))
            (fun x => x.1.1.1 ≤ 2) (fun x => 2 - x.1.1.1) ⟨((0, (u1, u2, u3), (w1, w2, w3)), Mz ++ [⟨bm, 0, .vec 34 1 2, rm⟩]), ⟨hgz.marks, [⟨bm, 0, .vec 34 1 2, rm⟩], rfl, ⟨trivial, trivial⟩, rfl⟩, by rw [findE_move fm, findE, if_pos rfl], fresh_appS f23 ⟨hbm.2.1, hbm.1, trivial⟩, fresh_appS z18 ⟨hbm.2.2.2.1, hbm.2.2.1, trivial⟩, fresh_appS z20 ⟨hbm.2.2.2.2.2.1, hbm.2.2.2.2.1, trivial⟩⟩ ?_ ?_ (by kernel_rfl) ?_
          · exact Nat.zero_le _
          · simp only [push_cast, Nat.reduceAdd, Nat.reduceSub, Nat.reduceMul, Nat.reduceLT, Nat.reduceLeDiff, Nat.reduceEqDiff, Nat.reduceMod, Nat.reduceDiv, Int.reduceAdd, Int.reduceSub, Int.reduceMul, Int.reduceLT, Int.reduceLE, Int.reduceEq, Int.reduceNeg, Int.reduceToNat, reduceIte, reduceCtorEq, Int.reduceBEq, Int.reduceBNe, hb20, hb23, hbm, hrm]
            exact ⟨subH_last fm, by simp [marks_append, marksOf]⟩
          rintro ⟨⟨⟨iz, ⟨u1, u2, u3⟩, ⟨w1, w2, w3⟩⟩, Mw⟩, hgw, hfm, y23, y18, y20⟩ hz2
          dsimp only at hz2 hgw hfm y23 y18 y20 ⊢
          have hzw : ∀ b e, findE Mz b = some e → findE Mw b = some e := fun b e h => hgw.find h
          have hyw := hyR.find hzw
          have hlw := hlz.find hzw
          have hrm2 : rm.length = 2 := by rw [hrm]; rfl
          by_cases hz3 : iz < 2
          · obtain ⟨m, hlm, hml, hcm⟩ : ∃ m : List Ch, LiR Ch.cells 31 Mw m (.slice (some ⟨bl', 0, none⟩) m.length kl) ∧ m.length ≤ 5 ∧ List.take 1 (List.drop iz rm) = [.slice (some ⟨bl', 0, none⟩) m.length kl] := by
              rcases (show iz = 0 ∨ iz = 1 by omega) with rfl | rfl
              · exact ⟨Lo, by rw [hlen]; exact hlw, by omega, by rw [hrm, hlen]; rfl⟩
              · have h1 : (Lo.take ix).length = ix := by rw [List.length_take]; omega
                exact ⟨Lo.take ix, by rw [h1]; exact LiR.take (fun x => x.len) hlw (by omega), by omega, by rw [hrm, h1]; rfl⟩
            have c5 : (iz : Int) < 2 := by omega
            have c6 : iz + 1 ≤ 2 := by omega
            have k23 := (fresh_findS y23 hfm).2
            have k18 := (fresh_findS y18 hfm).2
            have k20 := (fresh_findS y20 hfm).2
            simp only [push_cast, Nat.reduceAdd, Nat.reduceSub, Nat.reduceMul, Nat.reduceLT, Nat.reduceLeDiff, Nat.reduceEqDiff, Nat.reduceMod, Nat.reduceDiv, Int.reduceAdd, Int.reduceSub, Int.reduceMul, Int.reduceLT, Int.reduceLE, Int.reduceEq, Int.reduceNeg, Int.reduceToNat, reduceIte, reduceCtorEq, Int.reduceBEq, Int.reduceBNe, hb20, hbb, hz3, c5, c6, hfm, hrm2, hcm, k23, k18, k20]
            have hyD := hyB.do_ m
            obtain ⟨R, hR⟩ : ∃ R, R = doJ y m := ⟨_, rfl⟩
            rw [← hR] at hyD
            have e9 : -9223372036854775808 ≤ (iz : Int) + 1 ∧ (iz : Int) + 1 ≤ 9223372036854775807 := by omega
            refine useL [_, _, _] (jdo_B hyw hlm hyB (by omega)) (JeR.rd _) hgw.marks ⟨y23, y18, y20, trivial⟩ fun w M6 hg6 hL6 hq6 => ?_
            rw [← hR] at hq6
            obtain ⟨w1', rfl, hD1⟩ := hq6
            obtain ⟨p6, q6, p6', q6', p6'', q6'', rfl⟩ := hD1.e3
            simp only [push_cast, Nat.reduceAdd, Nat.reduceSub, Nat.reduceMul, Nat.reduceLT, Nat.reduceLeDiff, Nat.reduceEqDiff, Nat.reduceMod, Nat.reduceDiv, Int.reduceAdd, Int.reduceSub, Int.reduceMul, Int.reduceLT, Int.reduceLE, Int.reduceEq, Int.reduceNeg, Int.reduceToNat, reduceIte, reduceCtorEq, Int.reduceBEq, Int.reduceBNe, hb20, hbb]
            refine useL [_, _, _] (refJdo_B (hyw.ext hg6.ext) (hlm.ext hg6.ext) hyB (by omega)) (JeR.rd _) hg6.marks hL6 fun w M7 hg7 hL7 hq7 => ?_
            rw [← hR] at hq7
            obtain ⟨w1', rfl, hD2⟩ := hq7
            obtain ⟨p7, q7, p7', q7', p7'', q7'', rfl⟩ := hD2.e3
            simp only [push_cast, Nat.reduceAdd, Nat.reduceSub, Nat.reduceMul, Nat.reduceLT, Nat.reduceLeDiff, Nat.reduceEqDiff, Nat.reduceMod, Nat.reduceDiv, Int.reduceAdd, Int.reduceSub, Int.reduceMul, Int.reduceLT, Int.reduceLE, Int.reduceEq, Int.reduceNeg, Int.reduceToNat, reduceIte, reduceCtorEq, Int.reduceBEq, Int.reduceBNe, hb20, hbb]
            refine useP [_, _, _] (v := .bool true) (fun MB hr2 he2 => sameB hyD (JoR.rd _ _ _ _ he2.symm (hD1.ext hg7.ext)) (JoR.rd _ _ _ _ he2.symm hD2) hr2.marks) hL7 ?_
            simp only [push_cast, Nat.reduceAdd, Nat.reduceSub, Nat.reduceMul, Nat.reduceLT, Nat.reduceLeDiff, Nat.reduceEqDiff, Nat.reduceMod, Nat.reduceDiv, Int.reduceAdd, Int.reduceSub, Int.reduceMul, Int.reduceLT, Int.reduceLE, Int.reduceEq, Int.reduceNeg, Int.reduceToNat, reduceIte, reduceCtorEq, Int.reduceBEq, Int.reduceBNe, hb20, hbb, bne_self_eq_false, wrap_i64' e9]
            obtain ⟨t23, t18, t20, -⟩ := hL7
            exact ⟨⟨((iz + 1, (.slice p6 _ q6, .slice p6' _ q6', .slice p6'' _ q6''), (.slice p7 _ q7, .slice p7' _ q7', .slice p7'' _ q7'')), M7), hgw.trans (hg6.trans hg7), (hg6.trans hg7).find hfm, t23, t18, t20⟩, hz3, by dsimp only; omega, rfl, ⟨rfl, rfl, subH_self M7⟩, rfl⟩
          · have c5 : ¬ (iz : Int) < 2 := by omega
            have hyK := hyB.mark
            obtain ⟨R, hR⟩ : ∃ R, R = markJ y := ⟨_, rfl⟩
            rw [← hR] at hyK
            simp only [push_cast, Nat.reduceAdd, Nat.reduceSub, Nat.reduceMul, Nat.reduceLT, Nat.reduceLeDiff, Nat.reduceEqDiff, Nat.reduceMod, Nat.reduceDiv, Int.reduceAdd, Int.reduceSub, Int.reduceMul, Int.reduceLT, Int.reduceLE, Int.reduceEq, Int.reduceNeg, Int.reduceToNat, reduceIte, reduceCtorEq, Int.reduceBEq, Int.reduceBNe, hb20, hbb, hz3, c5]
            refine useL [_, _, _] (jmark_B hyw hyB) (JmR.rd _) hgw.marks ⟨y23, y18, y20, trivial⟩ fun w M6 hg6 hL6 hq6 => ?_
            rw [← hR] at hq6
            obtain ⟨w1', rfl, hD1⟩ := hq6
            obtain ⟨p6, q6, p6', q6', p6'', q6'', rfl⟩ := hD1.e3
            simp only [push_cast, Nat.reduceAdd, Nat.reduceSub, Nat.reduceMul, Nat.reduceLT, Nat.reduceLeDiff, Nat.reduceEqDiff, Nat.reduceMod, Nat.reduceDiv, Int.reduceAdd, Int.reduceSub, Int.reduceMul, Int.reduceLT, Int.reduceLE, Int.reduceEq, Int.reduceNeg, Int.reduceToNat, reduceIte, reduceCtorEq, Int.reduceBEq, Int.reduceBNe, hb20, hbb]
            intro b26 hb26
            simp only [push_cast, Nat.reduceAdd, Nat.reduceSub, Nat.reduceMul, Nat.reduceLT, Nat.reduceLeDiff, Nat.reduceEqDiff, Nat.reduceMod, Nat.reduceDiv, Int.reduceAdd, Int.reduceSub, Int.reduceMul, Int.reduceLT, Int.reduceLE, Int.reduceEq, Int.reduceNeg, Int.reduceToNat, reduceIte, reduceCtorEq, Int.reduceBEq, Int.reduceBNe, hb20, hbb, hb26]
            refine useL [_, _, _, _] (refJmark_B (hyw.ext hg6.ext) hyB) (JmR.rd _) hg6.marks ⟨hb26.2.2.2.2.2.2, hL6⟩ fun w M7 hg7 hL7 hq7 => ?_
            rw [← hR] at hq7
            obtain ⟨w1', rfl, hD2⟩ := hq7
            obtain ⟨p7, q7, p7', q7', p7'', q7'', rfl⟩ := hD2.e3
            simp only [push_cast, Nat.reduceAdd, Nat.reduceSub, Nat.reduceMul, Nat.reduceLT, Nat.reduceLeDiff, Nat.reduceEqDiff, Nat.reduceMod, Nat.reduceDiv, Int.reduceAdd, Int.reduceSub, Int.reduceMul, Int.reduceLT, Int.reduceLE, Int.reduceEq, Int.reduceNeg, Int.reduceToNat, reduceIte, reduceCtorEq, Int.reduceBEq, Int.reduceBNe, hb20, hbb, hb26]
            intro b29 hb29
            simp only [push_cast, Nat.reduceAdd, Nat.reduceSub, Nat.reduceMul, Nat.reduceLT, Nat.reduceLeDiff, Nat.reduceEqDiff, Nat.reduceMod, Nat.reduceDiv, Int.reduceAdd, Int.reduceSub, Int.reduceMul, Int.reduceLT, Int.reduceLE, Int.reduceEq, Int.reduceNeg, Int.reduceToNat, reduceIte, reduceCtorEq, Int.reduceBEq, Int.reduceBNe, hb20, hbb, hb26, hb29]
            refine useP [_, _, _, _, _] (v := .bool true) (fun MB hr2 he2 => sameB hyK (JoR.rd _ _ _ _ he2.symm (hD1.ext hg7.ext)) (JoR.rd _ _ _ _ he2.symm hD2) hr2.marks) ⟨hb29.2.2.2.2.2.2.2.2, hL7⟩ ?_
            simp only [push_cast, Nat.reduceAdd, Nat.reduceSub, Nat.reduceMul, Nat.reduceLT, Nat.reduceLeDiff, Nat.reduceEqDiff, Nat.reduceMod, Nat.reduceDiv, Int.reduceAdd, Int.reduceSub, Int.reduceMul, Int.reduceLT, Int.reduceLE, Int.reduceEq, Int.reduceNeg, Int.reduceToNat, reduceIte, reduceCtorEq, Int.reduceBEq, Int.reduceBNe, hb20, hbb, hb26, hb29, bne_self_eq_false, hk, j5]
            intro bk hbk
            have h29 : fresh b29 M7 := hb29.2.2.2.2.2.2.2.2
            obtain ⟨g26, g23, g18, g20, -⟩ := hL7
            obtain ⟨rk, hrk⟩ : ∃ rk : List Value, rk = [.int .i64 mk, .int .i64 (pickN mk 5)] := ⟨_, rfl⟩
            have hrk2 : rk.length = 2 := by rw [hrk]; rfl
            have hkM : fresh bk M7 := hbk.2.2.2.2.2.2.2.2.2.2
            refine loopO gV4_ok (pl := plTells) Tryz.mix (X := {x : (Nat × (Value × Value × Value) × (Value × Value × Value)) × Hp // Gr M7 x.2 ∧ findE x.2 bk = some ⟨bk, 0, .vec 3 1 2, rk⟩ ∧ fresh b26 x.2 ∧ fresh b29 x.2 ∧ fresh b23 x.2 ∧ fresh b18 x.2 ∧ fresh b20 x.2})
              (fun x => ([(5, .int .i64 mk), (13, .bool true), (16, .slice (some ⟨bl', 0, none⟩) (ix + 1) kl), (18, .pointer (some ⟨b18, 0, none⟩)), (20, .pointer (some ⟨b20, 0, none⟩)), (23, .pointer (some ⟨b23, 0, none⟩)), (130, .slice (some ⟨bj, 0, none⟩) 2 2), (131, .int .i64 2), (132, .int .i64 iy), (26, .pointer (some ⟨b26, 0, none⟩)), (29, .pointer (some ⟨b29, 0, none⟩)), (204, .slice (some ⟨bk, 0, none⟩) 2 2), (205, .int .i64 2), (206, .int .i64 x.1.1.1)], ⟨b26, 0, .cel 37, [x.1.1.2.1.1, x.1.1.2.1.2.1, x.1.1.2.1.2.2]⟩ :: ⟨b29, 0, .cel 37, [x.1.1.2.2.1, x.1.1.2.2.2.1, x.1.1.2.2.2.2]⟩ :: ⟨b23, 0, .cel 37, [.slice p5 y.state.length q5, .slice p5' y.undo.length q5', .slice p5'' y.marks.length q5'']⟩ :: ⟨b18, 0, .cel 37, [u1, u2, u3]⟩ :: ⟨b20, 0, .cel 37, [w1, w2, w3]⟩ :: x.1.2))
              (fun x => x.1.1.1 ≤ 2) (fun x => 2 - x.1.1.1) ⟨((0, (.slice p6 R.1.state.length q6, .slice p6' R.1.undo.length q6', .slice p6'' R.1.marks.length q6''), (.slice p7 R.1.state.length q7, .slice p7' R.1.undo.length q7', .slice p7'' R.1.marks.length q7'')), M7 ++ [⟨bk, 0, .vec 3 1 2, rk⟩]), ⟨hg7.marks, [⟨bk, 0, .vec 3 1 2, rk⟩], rfl, ⟨trivial, trivial⟩, rfl⟩, by rw [findE_move hkM, findE, if_pos rfl], fresh_appS g26 ⟨hbk.2.2.2.1, hbk.2.2.1, trivial⟩, fresh_appS h29 ⟨hbk.2.1, hbk.1, trivial⟩, fresh_appS g23 ⟨hbk.2.2.2.2.2.1, hbk.2.2.2.2.1, trivial⟩, fresh_appS g18 ⟨hbk.2.2.2.2.2.2.2.1, hbk.2.2.2.2.2.2.1, trivial⟩, fresh_appS g20 ⟨hbk.2.2.2.2.2.2.2.2.2.1, hbk.2.2.2.2.2.2.2.2.1, trivial⟩⟩ ?_ ?_ (by kernel_rfl) ?_
            · exact Nat.zero_le _
            · simp only [push_cast, Nat.reduceAdd, Nat.reduceSub, Nat.reduceMul, Nat.reduceLT, Nat.reduceLeDiff, Nat.reduceEqDiff, Nat.reduceMod, Nat.reduceDiv, Int.reduceAdd, Int.reduceSub, Int.reduceMul, Int.reduceLT, Int.reduceLE, Int.reduceEq, Int.reduceNeg, Int.reduceToNat, reduceIte, reduceCtorEq, Int.reduceBEq, Int.reduceBNe, hb20, hbb, hb26, hb29, hbk, hrk]
              exact ⟨subH_last hkM, by simp [marks_append, marksOf]⟩
            rintro ⟨⟨⟨iw, ⟨v1, v2, v3⟩, ⟨x1, x2, x3⟩⟩, Mv⟩, hgv, hfk, s26, s29, s23, s18, s20⟩ hw2
            dsimp only at hw2 hgv hfk s26 s29 s23 s18 s20 ⊢
            have hyv := hyw.find fun b e h => hgv.find ((hg6.trans hg7).find h)
            have d29 : ¬ b29 = b26 ∧ ¬ b26 = b29 ∧ ¬ b29 = b23 ∧ ¬ b23 = b29 ∧ ¬ b29 = b18 ∧ ¬ b18 = b29 ∧ ¬ b29 = b20 ∧ ¬ b20 = b29 := ⟨hb29.1, hb29.2.1, hb29.2.2.1, hb29.2.2.2.1, hb29.2.2.2.2.1, hb29.2.2.2.2.2.1, hb29.2.2.2.2.2.2.1, hb29.2.2.2.2.2.2.2.1⟩
            have d26 : ¬ b26 = b23 ∧ ¬ b23 = b26 ∧ ¬ b26 = b18 ∧ ¬ b18 = b26 ∧ ¬ b26 = b20 ∧ ¬ b20 = b26 := ⟨hb26.1, hb26.2.1, hb26.2.2.1, hb26.2.2.2.1, hb26.2.2.2.2.1, hb26.2.2.2.2.2.1⟩
            by_cases hw3 : iw < 2
            · obtain ⟨kv, hkv⟩ : ∃ kv : Int, List.take 1 (List.drop iw rk) = [.int .i64 kv] := by
                rcases (show iw = 0 ∨ iw = 1 by omega) with rfl | rfl
                · exact ⟨_, by rw [hrk]; rfl⟩
                · exact ⟨_, by rw [hrk]; rfl⟩
              have c7 : (iw : Int) < 2 := by omega
              have c8 : iw + 1 ≤ 2 := by omega
              have l26 := (fresh_findS s26 hfk).2
              have l29 := (fresh_findS s29 hfk).2
              have l23 := (fresh_findS s23 hfk).2
              have l18 := (fresh_findS s18 hfk).2
              have l20 := (fresh_findS s20 hfk).2
              have e9 : -9223372036854775808 ≤ (iw : Int) + 1 ∧ (iw : Int) + 1 ≤ 9223372036854775807 := by omega
              have hyA := hyB.back kv
              obtain ⟨A, hA⟩ : ∃ A, A = backJ y kv := ⟨_, rfl⟩
              rw [← hA] at hyA
              have hyC := hyB.keep kv
              obtain ⟨C, hC⟩ : ∃ C, C = keepJ y kv := ⟨_, rfl⟩
              rw [← hC] at hyC
              simp only [push_cast, Nat.reduceAdd, Nat.reduceSub, Nat.reduceMul, Nat.reduceLT, Nat.reduceLeDiff, Nat.reduceEqDiff, Nat.reduceMod, Nat.reduceDiv, Int.reduceAdd, Int.reduceSub, Int.reduceMul, Int.reduceLT, Int.reduceLE, Int.reduceEq, Int.reduceNeg, Int.reduceToNat, reduceIte, reduceCtorEq, Int.reduceBEq, Int.reduceBNe, hb20, hbb, d26, d29, hw3, c7, c8, hfk, hrk2, hkv, l26, l29, l23, l18, l20]
              refine useL [_, _, _, _, _] (jback_B (m := kv) hyv hyB) (JeR.rd _) hgv.marks ⟨s26, s29, s23, s18, s20, trivial⟩ fun w M8 hg8 hL8 hq8 => ?_
              rw [← hA] at hq8
              obtain ⟨w1', rfl, hD3⟩ := hq8
              obtain ⟨p8, q8, p8', q8', p8'', q8'', rfl⟩ := hD3.e3
              simp only [push_cast, Nat.reduceAdd, Nat.reduceSub, Nat.reduceMul, Nat.reduceLT, Nat.reduceLeDiff, Nat.reduceEqDiff, Nat.reduceMod, Nat.reduceDiv, Int.reduceAdd, Int.reduceSub, Int.reduceMul, Int.reduceLT, Int.reduceLE, Int.reduceEq, Int.reduceNeg, Int.reduceToNat, reduceIte, reduceCtorEq, Int.reduceBEq, Int.reduceBNe, hb20, hbb, d26, d29]
              refine useL [_, _, _, _, _] (refJback_B (m := kv) (hyv.ext hg8.ext) hyB) (JeR.rd _) hg8.marks hL8 fun w M9 hg9 hL9 hq9 => ?_
              rw [← hA] at hq9
              obtain ⟨w1', rfl, hD4⟩ := hq9
              obtain ⟨p9, q9, p9', q9', p9'', q9'', rfl⟩ := hD4.e3
              simp only [push_cast, Nat.reduceAdd, Nat.reduceSub, Nat.reduceMul, Nat.reduceLT, Nat.reduceLeDiff, Nat.reduceEqDiff, Nat.reduceMod, Nat.reduceDiv, Int.reduceAdd, Int.reduceSub, Int.reduceMul, Int.reduceLT, Int.reduceLE, Int.reduceEq, Int.reduceNeg, Int.reduceToNat, reduceIte, reduceCtorEq, Int.reduceBEq, Int.reduceBNe, hb20, hbb, d26, d29]
              refine useL [_, _, _, _, _] (jkeep_B (m := kv) (hyv.ext (hg8.trans hg9).ext) hyB) (JeC.rd _) hg9.marks hL9 fun w MA hgA hLA hqA => ?_
              rw [← hC] at hqA
              obtain ⟨z1, z2, z3, z4, rfl, -, hD5⟩ := hqA
              obtain ⟨pA, qA, pA', qA', pA'', qA'', hve⟩ := hD5.e3
              rw [hve] at hD5 ⊢
              simp only [push_cast, Nat.reduceAdd, Nat.reduceSub, Nat.reduceMul, Nat.reduceLT, Nat.reduceLeDiff, Nat.reduceEqDiff, Nat.reduceMod, Nat.reduceDiv, Int.reduceAdd, Int.reduceSub, Int.reduceMul, Int.reduceLT, Int.reduceLE, Int.reduceEq, Int.reduceNeg, Int.reduceToNat, reduceIte, reduceCtorEq, Int.reduceBEq, Int.reduceBNe, hb20, hbb, d26, d29]
              intro b34 hb34
              simp only [push_cast, Nat.reduceAdd, Nat.reduceSub, Nat.reduceMul, Nat.reduceLT, Nat.reduceLeDiff, Nat.reduceEqDiff, Nat.reduceMod, Nat.reduceDiv, Int.reduceAdd, Int.reduceSub, Int.reduceMul, Int.reduceLT, Int.reduceLE, Int.reduceEq, Int.reduceNeg, Int.reduceToNat, reduceIte, reduceCtorEq, Int.reduceBEq, Int.reduceBNe, hb20, hbb, d26, d29, hb34]
              refine useL [_, _, _, _, _, _] (refJkeep_B (m := kv) (hyv.ext (hg8.trans (hg9.trans hgA)).ext) hyB) (JeC.rd _) hgA.marks ⟨hb34.2.2.2.2.2.2.2.2.2.2, hLA⟩ fun w MB hgB hLB hqB => ?_
              rw [← hC] at hqB
              obtain ⟨z1, z2, z3, z4, rfl, -, hD6⟩ := hqB
              obtain ⟨pB, qB, pB', qB', pB'', qB'', hve⟩ := hD6.e3
              rw [hve] at hD6 ⊢
              simp only [push_cast, Nat.reduceAdd, Nat.reduceSub, Nat.reduceMul, Nat.reduceLT, Nat.reduceLeDiff, Nat.reduceEqDiff, Nat.reduceMod, Nat.reduceDiv, Int.reduceAdd, Int.reduceSub, Int.reduceMul, Int.reduceLT, Int.reduceLE, Int.reduceEq, Int.reduceNeg, Int.reduceToNat, reduceIte, reduceCtorEq, Int.reduceBEq, Int.reduceBNe, hb20, hbb, d26, d29, hb34]
              intro b36 hb36
              have f36 : fresh b36 MB := hb36.2.2.2.2.2.2.2.2.2.2.2.2
              simp only [push_cast, Nat.reduceAdd, Nat.reduceSub, Nat.reduceMul, Nat.reduceLT, Nat.reduceLeDiff, Nat.reduceEqDiff, Nat.reduceMod, Nat.reduceDiv, Int.reduceAdd, Int.reduceSub, Int.reduceMul, Int.reduceLT, Int.reduceLE, Int.reduceEq, Int.reduceNeg, Int.reduceToNat, reduceIte, reduceCtorEq, Int.reduceBEq, Int.reduceBNe, hb20, hbb, d26, d29, hb34, hb36]
              refine useP [_, _, _, _, _, _, _] (v := .bool true) (fun MB hr2 he2 => sameB hyA (JoR.rd _ _ _ _ he2.symm (hD3.ext (hg9.trans (hgA.trans hgB)).ext)) (JoR.rd _ _ _ _ he2.symm (hD4.ext (hgA.trans hgB).ext)) hr2.marks) ⟨f36, hLB⟩ ?_
              simp only [push_cast, Nat.reduceAdd, Nat.reduceSub, Nat.reduceMul, Nat.reduceLT, Nat.reduceLeDiff, Nat.reduceEqDiff, Nat.reduceMod, Nat.reduceDiv, Int.reduceAdd, Int.reduceSub, Int.reduceMul, Int.reduceLT, Int.reduceLE, Int.reduceEq, Int.reduceNeg, Int.reduceToNat, reduceIte, reduceCtorEq, Int.reduceBEq, Int.reduceBNe, hb20, hbb, d26, d29, hb34, hb36, bne_self_eq_false]
              refine useP [_, _, _, _, _, _, _] (v := .bool true) (fun MB hr2 he2 => sameB hyC (JoR.rd _ _ _ _ he2.symm (hD5.ext hgB.ext)) (JoR.rd _ _ _ _ he2.symm hD6) hr2.marks) ⟨f36, hLB⟩ ?_
              simp only [push_cast, Nat.reduceAdd, Nat.reduceSub, Nat.reduceMul, Nat.reduceLT, Nat.reduceLeDiff, Nat.reduceEqDiff, Nat.reduceMod, Nat.reduceDiv, Int.reduceAdd, Int.reduceSub, Int.reduceMul, Int.reduceLT, Int.reduceLE, Int.reduceEq, Int.reduceNeg, Int.reduceToNat, reduceIte, reduceCtorEq, Int.reduceBEq, Int.reduceBNe, hb20, hbb, d26, d29, hb34, hb36, bne_self_eq_false, wrap_i64' e9]
              obtain ⟨r34, r26, r29, r23, r18, r20, -⟩ := hLB
              exact ⟨⟨((iw + 1, (.slice p8 _ q8, .slice p8' _ q8', .slice p8'' _ q8''), (.slice p9 _ q9, .slice p9' _ q9', .slice p9'' _ q9'')), MB), hgv.trans (hg8.trans (hg9.trans (hgA.trans hgB))), (hg8.trans (hg9.trans (hgA.trans hgB))).find hfk, r26, r29, r23, r18, r20⟩, hw3, by dsimp only; omega, rfl, ⟨rfl, rfl, by dsimp only; rw [subH_skip f36, subH_skip (show fresh b34 MB from r34)]; exact subH_self MB⟩, rfl⟩
            · have c7 : ¬ (iw : Int) < 2 := by omega
              have e9 : -9223372036854775808 ≤ (iy : Int) + 1 ∧ (iy : Int) + 1 ≤ 9223372036854775807 := by omega
              simp only [push_cast, Nat.reduceAdd, Nat.reduceSub, Nat.reduceMul, Nat.reduceLT, Nat.reduceLeDiff, Nat.reduceEqDiff, Nat.reduceMod, Nat.reduceDiv, Int.reduceAdd, Int.reduceSub, Int.reduceMul, Int.reduceLT, Int.reduceLE, Int.reduceEq, Int.reduceNeg, Int.reduceToNat, reduceIte, reduceCtorEq, Int.reduceBEq, Int.reduceBNe, hb20, hbb, d26, d29, hw3, c7, wrap_i64' e9]
              exact ⟨⟨((iy + 1, (u1, u2, u3), (w1, w2, w3)), Mv), hgz.trans (hgw.trans (hg6.trans (hg7.trans hgv))), s18, s20⟩, hi3, by dsimp only; omega, rfl, ⟨rfl, rfl, by dsimp only; rw [subH_skip (show fresh b26 Mv from s26), subH_skip (show fresh b29 Mv from s29), subH_skip (show fresh b23 Mv from s23)]; exact subH_self Mv⟩, rfl⟩
        · have c1 : ¬ (iy : Int) < 2 := by omega
          simp only [push_cast, Nat.reduceAdd, Nat.reduceSub, Nat.reduceMul, Nat.reduceLT, Nat.reduceLeDiff, Nat.reduceEqDiff, Nat.reduceMod, Nat.reduceDiv, Int.reduceAdd, Int.reduceSub, Int.reduceMul, Int.reduceLT, Int.reduceLE, Int.reduceEq, Int.reduceNeg, Int.reduceToNat, reduceIte, reduceCtorEq, Int.reduceBEq, Int.reduceBNe, hb20, hi3, c1]
end Go.Proofs.YtkhpncfgimlleaaGreat
