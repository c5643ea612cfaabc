/- Texts of this claim, merged by program: Vk. -/
import Derived.Test.YtkhpncfgimlleaaGreatZbAw
set_option linter.unusedSimpArgs false
set_option linter.unusedVariables false
namespace Go.Ev
def awk9G : List Value → Option Value
  | [] => some (.bool true)
  | _ => none
theorem subH_move {e : Ent} {N : Hp} : ∀ {M : Hp}, fresh e.blk M → subH (e :: (M ++ N)) (M ++ e :: N)
  | [], _ => subH_self _
  | x :: r, h => by
    have h1 : ¬ x.blk = e.blk := h.2.1
    refine ⟨?_, ?_⟩
    · rw [findE, if_neg h1, List.cons_append, findE, if_pos rfl]
    · rw [remE, if_neg h1, List.cons_append, remE, if_pos rfl]
      exact subH_move h.2.2
theorem fresh_move {b : Nat} {e : Ent} {N : Hp} : ∀ {M : Hp}, fresh b (e :: (M ++ N)) → fresh b (M ++ e :: N)
  | [], h => h
  | x :: r, h => ⟨h.2.2.1, h.2.2.2.1, fresh_move (M := r) ⟨h.1, h.2.1, h.2.2.2.2⟩⟩
theorem findE_move {e : Ent} {N : Hp} : ∀ {M : Hp}, fresh e.blk M → ∀ b, findE (M ++ e :: N) b = findE (e :: (M ++ N)) b
  | [], _, _ => rfl
  | x :: r, h, b => by
    have h1 : ¬ x.blk = e.blk := h.2.1
    rw [List.cons_append, findE, findE_move h.2.2, findE, findE, List.cons_append, findE]
    by_cases hb : b = x.blk
    · subst hb; rw [if_pos rfl, if_neg h1, if_pos rfl]
    · rw [if_neg hb, if_neg hb]
end Go.Ev
namespace Go.Proofs.YtkhpncfgimlleaaGreat
open Go Go.Ev Go.Proofs
set_option maxRecDepth 100000
set_option maxHeartbeats 4000000
theorem awk9G_ok (args : List Value) (v : Value) (h : awk9G args = some v) : CallsV Tryz.prog 7 args [] (Ret0 v) := by
  unfold awk9G at h
  split at h
  · cases h; exact awk09_ok
  · cases h
noncomputable def gV4 : Gam := (addG 7 awk9G gV3)
attribute [push_cast] gV4
theorem gV4_ok : GamOk Tryz.prog gV4 := (addG_ok awk9G_ok gV3_ok)
attribute [push_cast] awk9G
theorem jkeepJ_R {M : Hp} {j : Jo} {v : Value} {m : Int} (hv : JoR j v M) (h : RiJ j) : CallsR Tryz.prog 24 [v, .int .i64 m] M (JeC (keepJ j m)) :=
  jkeep_R hv (by have := h.st.len; omega) (by have := h.ul; omega) (by have := h.ml; omega) (fun y hy => by have := (mayA_slots (h.st.may y hy)).len; omega)
theorem journalBack_ok {M : Hp} {s : List R4} {l m : List R5} {v u w : Value} (hm : marksOf M = []) (hv : LiR R4.cells 4 M s v) (hu : LiR R5.cells 5 M l u) (hw : LiR R5.cells 5 M m w) (is : ∀ r ∈ s, r.In) (il : ∀ r ∈ l, r.In) (im : ∀ r ∈ m, r.In) : CallsV Tryz.prog 4 [v, u, w] M (Ret0 (.bool true)) := by
  have hrj := journalR_ri s l
  have hsh := journalR_sh s l
  obtain ⟨j, hj⟩ : ∃ j, j = journalR s l := ⟨_, rfl⟩
  have hc := jour_ok hv hu is il
  rw [← hj] at hrj hsh hc
  obtain ⟨hml, hul⟩ := hsh
  have j6 : i64In 6 := by decide
  have j4 : i64In 4 := by decide
  obtain ⟨ps, ks, rfl⟩ := hv.slice
  obtain ⟨pu, ku, rfl⟩ := hu.slice
  obtain ⟨p, k, rfl, hla⟩ := hw.openC R5.len (by decide)
  have hbm := markJ_val hrj (by omega)
  refine callsO gV4_ok Tryz.mix Tryz.pl4 Tryz.func4 rfl Tryz.ntmps4 Tryz.results4 rfl (by first | rfl | assumption) (Nat.le_of_ble_eq_true rfl) (by kernel_rfl) ?_
  simp only [push_cast, Nat.reduceAdd, Nat.reduceSub, Nat.reduceMul, Nat.reduceLT, Nat.reduceLeDiff, Nat.reduceEqDiff, Nat.reduceMod, Nat.reduceDiv, Int.reduceAdd, Int.reduceSub, Int.reduceMul, Int.reduceLT, Int.reduceLE, Int.reduceEq, Int.reduceNeg, Int.reduceToNat, reduceIte, reduceCtorEq, Int.reduceBEq, Int.reduceBNe]
  refine useL [] hc (JoR.rd _) hm trivial fun w M1 hg1 hL1 hq1 => ?_
  obtain ⟨p1, q1, p1', q1', p1'', q1'', rfl⟩ := hq1.e3
  simp only [push_cast, Nat.reduceAdd, Nat.reduceSub, Nat.reduceMul, Nat.reduceLT, Nat.reduceLeDiff, Nat.reduceEqDiff, Nat.reduceMod, Nat.reduceDiv, Int.reduceAdd, Int.reduceSub, Int.reduceMul, Int.reduceLT, Int.reduceLE, Int.reduceEq, Int.reduceNeg, Int.reduceToNat, reduceIte, reduceCtorEq, Int.reduceBEq, Int.reduceBNe]
  intro b8 hb8
  refine useL [_] (jmark_R hq1 hrj) (JmR.rd _) hg1.marks ⟨hb8, trivial⟩ fun w M2 hg2 hL2 hq2 => ?_
  rw [hbm] at hq2
  obtain ⟨w1, rfl, hq2⟩ := hq2
  obtain ⟨p2, q2, p2', q2', p2'', q2'', rfl⟩ := hq2.e3
  simp only [push_cast, Nat.reduceAdd, Nat.reduceSub, Nat.reduceMul, Nat.reduceLT, Nat.reduceLeDiff, Nat.reduceEqDiff, Nat.reduceMod, Nat.reduceDiv, Int.reduceAdd, Int.reduceSub, Int.reduceMul, Int.reduceLT, Int.reduceLE, Int.reduceEq, Int.reduceNeg, Int.reduceToNat, reduceIte, reduceCtorEq, Int.reduceBEq, Int.reduceBNe, hb8]
  intro b9 hb9
  intro b12 hb12
  have f8 : fresh b8 M2 := hL2.1
  have f9 : fresh b9 M2 := hb9.2.2
  have f12 : fresh b12 M2 := hb12.2.2.2.2
  have g2 := hg1.trans hg2
  have hbeh0 := Beh.mark0 hrj (show j.marks.length < 1100 by omega)
  have hq1' := hq1.ext hg2.ext
  obtain ⟨m0, hm0⟩ : ∃ m0 : Jo, m0 = ⟨j.state, j.undo, j.marks ++ [(j.undo.length : Int)]⟩ := ⟨_, rfl⟩
  rw [← hm0] at hbeh0
  replace hq2 : JoR m0 (.agg #[.slice p2 j.state.length q2, .slice p2' j.undo.length q2', .slice p2'' (j.marks.length + 1) q2'']) M2 := by
    rw [hm0]; simpa using hq2
  refine loopO gV4_ok (pl := Tryz.pl4) Tryz.mix (X := {x : (Nat × (Value × Value × Value)) × Hp // Gr M2 x.2 ∧ fresh b12 x.2 ∧ fresh b9 x.2 ∧ fresh b8 x.2})
    (fun x => ([(2, .slice p m.length k), (7, .bool true), (8, .pointer (some ⟨b8, 0, none⟩)), (10, .int .i64 j.marks.length), (11, .int .i64 0), (12, .pointer (some ⟨b12, 0, none⟩)), (13, .int .i64 x.1.1.1)], ⟨b12, 0, .cel 37, [x.1.1.2.1, x.1.1.2.2.1, x.1.1.2.2.2]⟩ :: ⟨b9, 0, .cel 37, [.slice p2 j.state.length q2, .slice p2' j.undo.length q2', .slice p2'' (j.marks.length + 1) q2'']⟩ :: ⟨b8, 0, .cel 37, [.slice p1 j.state.length q1, .slice p1' j.undo.length q1', .slice p1'' j.marks.length q1'']⟩ :: x.1.2))
    (fun x => x.1.1.1 ≤ m.length ∧ x.1.1.1 ≤ 15 ∧ JoR ((m.take x.1.1.1).foldl (stepB j.marks.length) m0) (.agg #[x.1.1.2.1, x.1.1.2.2.1, x.1.1.2.2.2]) x.1.2) (fun x => m.length - x.1.1.1) ⟨((0, (.slice p2 j.state.length q2, .slice p2' j.undo.length q2', .slice p2'' (j.marks.length + 1) q2'')), M2), Gr.refl (hg2.marks), f12, f9, f8⟩ ?_ ?_ (by kernel_rfl) ?_
  · exact ⟨Nat.zero_le _, Nat.zero_le _, hq2⟩
  · simp only [push_cast, Nat.reduceAdd, Nat.reduceSub, Nat.reduceMul, Nat.reduceLT, Nat.reduceLeDiff, Nat.reduceEqDiff, Nat.reduceMod, Nat.reduceDiv, Int.reduceAdd, Int.reduceSub, Int.reduceMul, Int.reduceLT, Int.reduceLE, Int.reduceEq, Int.reduceNeg, Int.reduceToNat, reduceIte, reduceCtorEq, Int.reduceBEq, Int.reduceBNe]
  · rintro ⟨⟨⟨ix, va, vb, vc⟩, Mq⟩, hgq, q12, q9, q8⟩ ⟨hi, h15, hw0⟩
    dsimp only at hi h15 hw0 hgq q12 q9 q8 ⊢
    have hbeh : Beh j ((m.take ix).foldl (stepB j.marks.length) m0) := Beh.fold _ hbeh0
    obtain ⟨t, ht⟩ : ∃ t, t = (m.take ix).foldl (stepB j.marks.length) m0 := ⟨_, rfl⟩
    rw [← ht] at hw0 hbeh
    obtain ⟨p3, n1, p3', n2, p3'', n3, hve⟩ := hw0.e3
    injection hve with hve
    injection hve with hve
    simp only [List.cons.injEq, and_true] at hve
    obtain ⟨rfl, rfl, rfl⟩ := hve
    by_cases hc : ix < m.length ∧ ix < 15
    · obtain ⟨hlt, hl15⟩ := hc
      obtain ⟨r, hr'⟩ : ∃ r, m[ix]? = some r := ⟨m[ix], List.getElem?_eq_getElem hlt⟩
      rcases hla with rfl | ⟨b, f, d, kd, cs, rfl, hfe, hat⟩
      · simp at hlt
      obtain ⟨a1, a2⟩ := hat ix r hr'
      have hee := (g2.trans hgq).find hfe
      have m12 := (fresh_findS q12 hee).2
      have m9 := (fresh_findS q9 hee).2
      have m8 := (fresh_findS q8 hee).2
      have i1 : (ix : Int) < (m.length : Int) := by omega
      have i2 : (ix : Int) < 15 := by omega
      have hs1 : (m.take (ix + 1)).foldl (stepB j.marks.length) m0 = stepB j.marks.length t r := by
        rw [List.take_add_one, hr', List.foldl_append, ← ht]; rfl
      have hr5 := im r (List.mem_of_getElem? hr')
      have e3 : -9223372036854775808 ≤ (ix : Int) + 1 ∧ (ix : Int) + 1 ≤ 9223372036854775807 := by omega
      have a3 : r.cells.all oneC = true := rfl
      obtain ⟨ra, rb, rc, rd, re⟩ := r
      obtain ⟨ia, ib, ic, id, ie⟩ := hr5
      dsimp only at ia ib ic id ie
      have pa := pickN_lt ra (show (0 : Int) < 6 by decide)
      have pb := pickN_lt rb (show (0 : Int) < 4 by decide)
      obtain ⟨R, hR⟩ : ∃ R, R = stepB j.marks.length t ⟨ra, rb, rc, rd, re⟩ := ⟨_, rfl⟩
      rw [← hR] at hs1
      unfold stepB at hR
      dsimp only at hR
      obtain ⟨x, hx⟩ : ∃ x, x = pickN ra 6 := ⟨_, rfl⟩
      rw [← hx] at pa hR
      obtain ⟨y, hy⟩ : ∃ y, y = pickN rb 4 := ⟨_, rfl⟩
      rw [← hy] at pb hR
      have w1 : -9223372036854775808 ≤ (j.marks.length : Int) + 1 ∧ (j.marks.length : Int) + 1 ≤ 9223372036854775807 := by omega
      have w2 : -9223372036854775808 ≤ (j.marks.length : Int) + 1 + (y : Int) ∧ (j.marks.length : Int) + 1 + (y : Int) ≤ 9223372036854775807 := by omega
      have hyc : ((j.marks.length + 1 + y : Nat) : Int) = (j.marks.length : Int) + 1 + (y : Int) := by simp only [Int.natCast_add]; rfl
      rw [hyc] at hR
      rcases (show x = 0 ∨ x = 1 ∨ x = 2 ∨ (3 ≤ x ∧ x < 6) by omega) with rfl | rfl | rfl | ⟨x3, x6⟩
      · rw [if_pos rfl] at hR
        simp only [push_cast, Nat.reduceAdd, Nat.reduceSub, Nat.reduceMul, Nat.reduceLT, Nat.reduceLeDiff, Nat.reduceEqDiff, Nat.reduceMod, Nat.reduceDiv, Int.reduceAdd, Int.reduceSub, Int.reduceMul, Int.reduceLT, Int.reduceLE, Int.reduceEq, Int.reduceNeg, Int.reduceToNat, reduceIte, reduceCtorEq, Int.reduceBEq, Int.reduceBNe, hb8, hb9, hb12, i1, i2, hlt, hl15, hee, a1, a2, a3, m12, m9, m8, R5.len]
        intro b14 hb14
        simp only [push_cast, Nat.reduceAdd, Nat.reduceSub, Nat.reduceMul, Nat.reduceLT, Nat.reduceLeDiff, Nat.reduceEqDiff, Nat.reduceMod, Nat.reduceDiv, Int.reduceAdd, Int.reduceSub, Int.reduceMul, Int.reduceLT, Int.reduceLE, Int.reduceEq, Int.reduceNeg, Int.reduceToNat, reduceIte, reduceCtorEq, Int.reduceBEq, Int.reduceBNe, hb8, hb9, hb12, hb14, R5.cells, ia, j6, ← hx]
        refine useL [_, _, _, _] (jmark_R hw0 hbeh.ri) (JmR.rd _) hgq.marks ⟨hb14.2.2.2.2.2.2, q12, q9, q8, trivial⟩ fun w M3 hg3 hL3 hq3 => ?_
        obtain ⟨w1, rfl, hq3⟩ := hq3
        obtain ⟨x1, k1, x2, k2, x3, k3, rfl⟩ := hq3.e3
        simp only [push_cast, Nat.reduceAdd, Nat.reduceSub, Nat.reduceMul, Nat.reduceLT, Nat.reduceLeDiff, Nat.reduceEqDiff, Nat.reduceMod, Nat.reduceDiv, Int.reduceAdd, Int.reduceSub, Int.reduceMul, Int.reduceLT, Int.reduceLE, Int.reduceEq, Int.reduceNeg, Int.reduceToNat, reduceIte, reduceCtorEq, Int.reduceBEq, Int.reduceBNe, hb8, hb9, hb12, hb14, wrap_i64' e3]
        obtain ⟨v14, v12, v9, v8, -⟩ := hL3
        exact ⟨⟨((ix + 1, .slice x1 _ k1, .slice x2 _ k2, .slice x3 _ k3), M3), hgq.trans hg3, v12, v9, v8⟩, ⟨hlt, by dsimp only; omega, by dsimp only; rw [hs1, hR]; exact hq3⟩, by dsimp only; omega, rfl, ⟨rfl, subH_cons v14⟩, rfl⟩
      · rw [if_neg (by decide), if_pos rfl] at hR
        simp only [push_cast, Nat.reduceAdd, Nat.reduceSub, Nat.reduceMul, Nat.reduceLT, Nat.reduceLeDiff, Nat.reduceEqDiff, Nat.reduceMod, Nat.reduceDiv, Int.reduceAdd, Int.reduceSub, Int.reduceMul, Int.reduceLT, Int.reduceLE, Int.reduceEq, Int.reduceNeg, Int.reduceToNat, reduceIte, reduceCtorEq, Int.reduceBEq, Int.reduceBNe, hb8, hb9, hb12, i1, i2, hlt, hl15, hee, a1, a2, a3, m12, m9, m8, R5.len]
        intro b14 hb14
        simp only [push_cast, Nat.reduceAdd, Nat.reduceSub, Nat.reduceMul, Nat.reduceLT, Nat.reduceLeDiff, Nat.reduceEqDiff, Nat.reduceMod, Nat.reduceDiv, Int.reduceAdd, Int.reduceSub, Int.reduceMul, Int.reduceLT, Int.reduceLE, Int.reduceEq, Int.reduceNeg, Int.reduceToNat, reduceIte, reduceCtorEq, Int.reduceBEq, Int.reduceBNe, hb8, hb9, hb12, hb14, R5.cells, ia, ib, j6, j4, ← hx, ← hy, wrap_i64' w1, wrap_i64' w2]
        refine useL [_, _, _, _] (jback_R (m := (j.marks.length : Int) + 1 + (y : Int)) hw0 hbeh.ri) (JeR.rd _) hgq.marks ⟨hb14.2.2.2.2.2.2, q12, q9, q8, trivial⟩ fun w M3 hg3 hL3 hq3 => ?_
        obtain ⟨w1, rfl, hq3⟩ := hq3
        obtain ⟨x1, k1, x2, k2, x3, k3, rfl⟩ := hq3.e3
        simp only [push_cast, Nat.reduceAdd, Nat.reduceSub, Nat.reduceMul, Nat.reduceLT, Nat.reduceLeDiff, Nat.reduceEqDiff, Nat.reduceMod, Nat.reduceDiv, Int.reduceAdd, Int.reduceSub, Int.reduceMul, Int.reduceLT, Int.reduceLE, Int.reduceEq, Int.reduceNeg, Int.reduceToNat, reduceIte, reduceCtorEq, Int.reduceBEq, Int.reduceBNe, hb8, hb9, hb12, hb14, wrap_i64' e3]
        refine ⟨subH_gr (N := []) trivial hg3, ?_⟩
        obtain ⟨v14, v12, v9, v8, -⟩ := hL3
        exact ⟨⟨((ix + 1, .slice x1 _ k1, .slice x2 _ k2, .slice x3 _ k3), M3), hgq.trans hg3, v12, v9, v8⟩, ⟨hlt, by dsimp only; omega, by dsimp only; rw [hs1, hR]; exact hq3⟩, by dsimp only; omega, rfl, ⟨rfl, subH_cons v14⟩, rfl⟩
      · rw [if_neg (by decide), if_neg (by decide), if_pos rfl] at hR
        simp only [push_cast, Nat.reduceAdd, Nat.reduceSub, Nat.reduceMul, Nat.reduceLT, Nat.reduceLeDiff, Nat.reduceEqDiff, Nat.reduceMod, Nat.reduceDiv, Int.reduceAdd, Int.reduceSub, Int.reduceMul, Int.reduceLT, Int.reduceLE, Int.reduceEq, Int.reduceNeg, Int.reduceToNat, reduceIte, reduceCtorEq, Int.reduceBEq, Int.reduceBNe, hb8, hb9, hb12, i1, i2, hlt, hl15, hee, a1, a2, a3, m12, m9, m8, R5.len]
        intro b14 hb14
        simp only [push_cast, Nat.reduceAdd, Nat.reduceSub, Nat.reduceMul, Nat.reduceLT, Nat.reduceLeDiff, Nat.reduceEqDiff, Nat.reduceMod, Nat.reduceDiv, Int.reduceAdd, Int.reduceSub, Int.reduceMul, Int.reduceLT, Int.reduceLE, Int.reduceEq, Int.reduceNeg, Int.reduceToNat, reduceIte, reduceCtorEq, Int.reduceBEq, Int.reduceBNe, hb8, hb9, hb12, hb14, R5.cells, ia, ib, j6, j4, ← hx, ← hy, wrap_i64' w1, wrap_i64' w2]
        refine useL [_, _, _, _] (jkeepJ_R (m := (j.marks.length : Int) + 1 + (y : Int)) hw0 hbeh.ri) (JeC.rd _) hgq.marks ⟨hb14.2.2.2.2.2.2, q12, q9, q8, trivial⟩ fun w M3 hg3 hL3 hq3 => ?_
        obtain ⟨v1, pw, kw, v3, rfl, -, hq3⟩ := hq3
        obtain ⟨x1, k1, x2, k2, x3, k3, hve⟩ := hq3.e3
        rw [hve] at hq3 ⊢
        simp only [push_cast, Nat.reduceAdd, Nat.reduceSub, Nat.reduceMul, Nat.reduceLT, Nat.reduceLeDiff, Nat.reduceEqDiff, Nat.reduceMod, Nat.reduceDiv, Int.reduceAdd, Int.reduceSub, Int.reduceMul, Int.reduceLT, Int.reduceLE, Int.reduceEq, Int.reduceNeg, Int.reduceToNat, reduceIte, reduceCtorEq, Int.reduceBEq, Int.reduceBNe, hb8, hb9, hb12, hb14, wrap_i64' e3]
        refine ⟨subH_gr (N := []) trivial hg3, ?_⟩
        obtain ⟨v14, v12, v9, v8, -⟩ := hL3
        exact ⟨⟨((ix + 1, .slice x1 _ k1, .slice x2 _ k2, .slice x3 _ k3), M3), hgq.trans hg3, v12, v9, v8⟩, ⟨hlt, by dsimp only; omega, by dsimp only; rw [hs1, hR]; exact hq3⟩, by dsimp only; omega, rfl, ⟨rfl, subH_cons v14⟩, rfl⟩
      · rw [if_neg (by omega), if_neg (by omega), if_neg (by omega)] at hR
        have e0 : ((x : Int) == 0) = false := by rw [beq_eq_false_iff_ne]; omega
        have e1 : ((x : Int) == 1) = false := by rw [beq_eq_false_iff_ne]; omega
        have e2 : ((x : Int) == 2) = false := by rw [beq_eq_false_iff_ne]; omega
        simp only [push_cast, Nat.reduceAdd, Nat.reduceSub, Nat.reduceMul, Nat.reduceLT, Nat.reduceLeDiff, Nat.reduceEqDiff, Nat.reduceMod, Nat.reduceDiv, Int.reduceAdd, Int.reduceSub, Int.reduceMul, Int.reduceLT, Int.reduceLE, Int.reduceEq, Int.reduceNeg, Int.reduceToNat, reduceIte, reduceCtorEq, Int.reduceBEq, Int.reduceBNe, hb8, hb9, hb12, i1, i2, hlt, hl15, hee, a1, a2, a3, m12, m9, m8, R5.len]
        intro b14 hb14
        simp only [push_cast, Nat.reduceAdd, Nat.reduceSub, Nat.reduceMul, Nat.reduceLT, Nat.reduceLeDiff, Nat.reduceEqDiff, Nat.reduceMod, Nat.reduceDiv, Int.reduceAdd, Int.reduceSub, Int.reduceMul, Int.reduceLT, Int.reduceLE, Int.reduceEq, Int.reduceNeg, Int.reduceToNat, reduceIte, reduceCtorEq, Int.reduceBEq, Int.reduceBNe, hb8, hb9, hb12, hb14, R5.cells, ia, ib, ic, id, ie, j6, ← hx, e0, e1, e2]
        intro bs hbs
        simp only [push_cast, Nat.reduceAdd, Nat.reduceSub, Nat.reduceMul, Nat.reduceLT, Nat.reduceLeDiff, Nat.reduceEqDiff, Nat.reduceMod, Nat.reduceDiv, Int.reduceAdd, Int.reduceSub, Int.reduceMul, Int.reduceLT, Int.reduceLE, Int.reduceEq, Int.reduceNeg, Int.reduceToNat, reduceIte, reduceCtorEq, Int.reduceBEq, Int.reduceBNe, hb8, hb9, hb12, hb14, hbs]
        have fs : fresh bs Mq := hbs.2.2.2.2.2.2.2.2
        refine CallsV.pre (H' := [_, _, _, _] ++ (_ :: Mq)) (List.perm_middle (l₁ := [_, _, _, _]) (l₂ := Mq)).symm (by simp [marksOf]) ?_
        refine useL [_, _, _, _] (M := _ :: Mq) (jdo_R (l := [chR ⟨rb, rc, rd, re⟩]) (hw0.app (N := [_]) ⟨fs, trivial⟩) LiR.one1 hbeh.ri (by simp)) (JeR.rd _) (by simpa [marksOf] using hgq.marks) (freshN_consR ?_ ⟨hb14.2.2.2.2.2.2, q12, q9, q8, trivial⟩) fun w M3 hg3 hL3 hq3 => ?_
        · intro x hx
          simp only [List.mem_cons, List.not_mem_nil, or_false] at hx
          rcases hx with rfl | rfl | rfl | rfl <;> simp only [hbs, not_false_eq_true]
        obtain ⟨w1, rfl, hq3⟩ := hq3
        obtain ⟨x1, k1, x2, k2, x3, k3, rfl⟩ := hq3.e3
        obtain ⟨-, N, rfl, hwN, hmN⟩ := hg3
        simp only [push_cast, Nat.reduceAdd, Nat.reduceSub, Nat.reduceMul, Nat.reduceLT, Nat.reduceLeDiff, Nat.reduceEqDiff, Nat.reduceMod, Nat.reduceDiv, Int.reduceAdd, Int.reduceSub, Int.reduceMul, Int.reduceLT, Int.reduceLE, Int.reduceEq, Int.reduceNeg, Int.reduceToNat, reduceIte, reduceCtorEq, Int.reduceBEq, Int.reduceBNe, hb8, hb9, hb12, hb14, hbs, wrap_i64' e3]
        refine ⟨subH_app N Mq, ?_⟩
        obtain ⟨v14, v12, v9, v8, -⟩ := hL3
        exact ⟨⟨((ix + 1, .slice x1 _ k1, .slice x2 _ k2, .slice x3 _ k3), Mq ++ ⟨bs, 0, .vec 31 31 1, (chR ⟨rb, rc, rd, re⟩).cells⟩ :: N), hgq.trans ⟨hgq.marks, _, rfl, ⟨trivial, hwN⟩, by simpa [marksOf] using hmN⟩, fresh_move v12, fresh_move v9, fresh_move v8⟩, ⟨hlt, by dsimp only; omega, by dsimp only; rw [hs1, hR]; exact hq3.find fun c e h => by rw [findE_move fs]; exact h⟩, by dsimp only; omega, rfl, ⟨rfl, by rw [subH_skip (fresh_move v14)]; exact subH_move fs⟩, by simp [marks_append, marksOf]⟩
    · have hri := hbeh.ri
      have hdn := hbeh.done
      have hl := hri.st.len
      have hl2 := hrj.st.len
      have key : ∀ (A : Hp) (z1 z2 z3 z4 z5 z6 : Value), JoR j (.agg #[z1, z2, z3]) A → JoR j (.agg #[z4, z5, z6]) A → marksOf A = [] → CallsV Tryz.prog 15 [.agg #[z1, z2, z3], .agg #[z4, z5, z6]] A (Ret0 (.bool true)) := fun A z1 z2 z3 z4 z5 z6 h1 h2 hA => by
        have := sameJ_ok h1 h2 hA (by omega) (by omega) (fun y hy => by have := (mayA_slots (hrj.st.may y hy)).len; omega) (fun y hy => by have := (mayA_slots (hrj.st.may y hy)).len; omega) (by omega) (by omega)
        rw [decide_eq_true rfl] at this
        exact this
      have key2 : ∀ (A : Hp) (z : Value), JoR t z A → marksOf A = [] → CallsV Tryz.prog 16 [z] A (Ret0 (.bool true)) := fun A z h1 hA => by
        have := jright_ok h1 hA (by omega) (by have := hri.ul; omega) (by have := hri.ml; omega) (fun y hy => by have := (mayA_slots (hri.st.may y hy)).len; omega)
        rw [rightJ_iff.2 hri] at this
        exact this
      by_cases hlt : ix < m.length
      · have i1 : (ix : Int) < (m.length : Int) := by omega
        have i2 : ¬ (ix : Int) < 15 := by omega
        have i3 : ¬ ix < 15 := by omega
        simp only [push_cast, Nat.reduceAdd, Nat.reduceSub, Nat.reduceMul, Nat.reduceLT, Nat.reduceLeDiff, Nat.reduceEqDiff, Nat.reduceMod, Nat.reduceDiv, Int.reduceAdd, Int.reduceSub, Int.reduceMul, Int.reduceLT, Int.reduceLE, Int.reduceEq, Int.reduceNeg, Int.reduceToNat, reduceIte, reduceCtorEq, Int.reduceBEq, Int.reduceBNe, hb8, hb9, hb12, i1, i2, hlt, i3]
        refine useL [_, _, _] (jback_R (m := (j.marks.length : Nat)) hw0 hri) (JeR.rd _) hgq.marks ⟨q12, q9, q8, trivial⟩ fun w M3 hg3 hL3 hq3 => ?_
        rw [hdn] at hq3
        obtain ⟨w1, rfl, hq3⟩ := hq3
        obtain ⟨x1, k1, x2, k2, x3, k3, rfl⟩ := hq3.e3
        simp only [push_cast, Nat.reduceAdd, Nat.reduceSub, Nat.reduceMul, Nat.reduceLT, Nat.reduceLeDiff, Nat.reduceEqDiff, Nat.reduceMod, Nat.reduceDiv, Int.reduceAdd, Int.reduceSub, Int.reduceMul, Int.reduceLT, Int.reduceLE, Int.reduceEq, Int.reduceNeg, Int.reduceToNat, reduceIte, reduceCtorEq, Int.reduceBEq, Int.reduceBNe, hb8, hb9, hb12]
        intro b15 hb15
        simp only [push_cast, Nat.reduceAdd, Nat.reduceSub, Nat.reduceMul, Nat.reduceLT, Nat.reduceLeDiff, Nat.reduceEqDiff, Nat.reduceMod, Nat.reduceDiv, Int.reduceAdd, Int.reduceSub, Int.reduceMul, Int.reduceLT, Int.reduceLE, Int.reduceEq, Int.reduceNeg, Int.reduceToNat, reduceIte, reduceCtorEq, Int.reduceBEq, Int.reduceBNe, hb8, hb9, hb12, hb15]
        have hj3 := hq1'.ext (hgq.trans hg3).ext
        refine useP [_, _, _, _] (v := .bool true) (fun MB hr2 he2 => key _ _ _ _ _ _ _ (JoR.rd _ _ _ _ he2.symm hq3) (JoR.rd _ _ _ _ he2.symm hj3) hr2.marks) ⟨hb15.2.2.2.2.2.2, hL3⟩ ?_
        simp only [push_cast, Nat.reduceAdd, Nat.reduceSub, Nat.reduceMul, Nat.reduceLT, Nat.reduceLeDiff, Nat.reduceEqDiff, Nat.reduceMod, Nat.reduceDiv, Int.reduceAdd, Int.reduceSub, Int.reduceMul, Int.reduceLT, Int.reduceLE, Int.reduceEq, Int.reduceNeg, Int.reduceToNat, reduceIte, reduceCtorEq, Int.reduceBEq, Int.reduceBNe, hb8, hb9, hb12, hb15]
        refine useP [_, _, _, _] (v := .bool true) (fun MB hr2 he2 => key2 _ _ (JoR.rd _ _ _ _ he2.symm (hw0.ext hg3.ext)) hr2.marks) ⟨hb15.2.2.2.2.2.2, hL3⟩ ?_
        simp only [push_cast, Nat.reduceAdd, Nat.reduceSub, Nat.reduceMul, Nat.reduceLT, Nat.reduceLeDiff, Nat.reduceEqDiff, Nat.reduceMod, Nat.reduceDiv, Int.reduceAdd, Int.reduceSub, Int.reduceMul, Int.reduceLT, Int.reduceLE, Int.reduceEq, Int.reduceNeg, Int.reduceToNat, reduceIte, reduceCtorEq, Int.reduceBEq, Int.reduceBNe, hb8, hb9, hb12, hb15]
      · have i1 : ¬ (ix : Int) < (m.length : Int) := by omega
        simp only [push_cast, Nat.reduceAdd, Nat.reduceSub, Nat.reduceMul, Nat.reduceLT, Nat.reduceLeDiff, Nat.reduceEqDiff, Nat.reduceMod, Nat.reduceDiv, Int.reduceAdd, Int.reduceSub, Int.reduceMul, Int.reduceLT, Int.reduceLE, Int.reduceEq, Int.reduceNeg, Int.reduceToNat, reduceIte, reduceCtorEq, Int.reduceBEq, Int.reduceBNe, hb8, hb9, hb12, i1, hlt]
        refine useL [_, _, _] (jback_R (m := (j.marks.length : Nat)) hw0 hri) (JeR.rd _) hgq.marks ⟨q12, q9, q8, trivial⟩ fun w M3 hg3 hL3 hq3 => ?_
        rw [hdn] at hq3
        obtain ⟨w1, rfl, hq3⟩ := hq3
        obtain ⟨x1, k1, x2, k2, x3, k3, rfl⟩ := hq3.e3
        simp only [push_cast, Nat.reduceAdd, Nat.reduceSub, Nat.reduceMul, Nat.reduceLT, Nat.reduceLeDiff, Nat.reduceEqDiff, Nat.reduceMod, Nat.reduceDiv, Int.reduceAdd, Int.reduceSub, Int.reduceMul, Int.reduceLT, Int.reduceLE, Int.reduceEq, Int.reduceNeg, Int.reduceToNat, reduceIte, reduceCtorEq, Int.reduceBEq, Int.reduceBNe, hb8, hb9, hb12]
        intro b15 hb15
        simp only [push_cast, Nat.reduceAdd, Nat.reduceSub, Nat.reduceMul, Nat.reduceLT, Nat.reduceLeDiff, Nat.reduceEqDiff, Nat.reduceMod, Nat.reduceDiv, Int.reduceAdd, Int.reduceSub, Int.reduceMul, Int.reduceLT, Int.reduceLE, Int.reduceEq, Int.reduceNeg, Int.reduceToNat, reduceIte, reduceCtorEq, Int.reduceBEq, Int.reduceBNe, hb8, hb9, hb12, hb15]
        have hj3 := hq1'.ext (hgq.trans hg3).ext
        refine useP [_, _, _, _] (v := .bool true) (fun MB hr2 he2 => key _ _ _ _ _ _ _ (JoR.rd _ _ _ _ he2.symm hq3) (JoR.rd _ _ _ _ he2.symm hj3) hr2.marks) ⟨hb15.2.2.2.2.2.2, hL3⟩ ?_
        simp only [push_cast, Nat.reduceAdd, Nat.reduceSub, Nat.reduceMul, Nat.reduceLT, Nat.reduceLeDiff, Nat.reduceEqDiff, Nat.reduceMod, Nat.reduceDiv, Int.reduceAdd, Int.reduceSub, Int.reduceMul, Int.reduceLT, Int.reduceLE, Int.reduceEq, Int.reduceNeg, Int.reduceToNat, reduceIte, reduceCtorEq, Int.reduceBEq, Int.reduceBNe, hb8, hb9, hb12, hb15]
        refine useP [_, _, _, _] (v := .bool true) (fun MB hr2 he2 => key2 _ _ (JoR.rd _ _ _ _ he2.symm (hw0.ext hg3.ext)) hr2.marks) ⟨hb15.2.2.2.2.2.2, hL3⟩ ?_
        simp only [push_cast, Nat.reduceAdd, Nat.reduceSub, Nat.reduceMul, Nat.reduceLT, Nat.reduceLeDiff, Nat.reduceEqDiff, Nat.reduceMod, Nat.reduceDiv, Int.reduceAdd, Int.reduceSub, Int.reduceMul, Int.reduceLT, Int.reduceLE, Int.reduceEq, Int.reduceNeg, Int.reduceToNat, reduceIte, reduceCtorEq, Int.reduceBEq, Int.reduceBNe, hb8, hb9, hb12, hb15]
end Go.Proofs.YtkhpncfgimlleaaGreat
