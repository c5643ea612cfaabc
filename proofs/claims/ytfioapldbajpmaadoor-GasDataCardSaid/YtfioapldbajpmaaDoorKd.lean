/- Kd: the document's Make of keys that may be; raw addresses, keys, sets. -/
import Derived.Test.YtfioapldbajpmaaDoorKc
set_option linter.unusedSimpArgs false
set_option linter.unusedVariables false
namespace Go.Ev
def KeyT.may (k : KeyT) : Bool := k.slot || decide (k.key = W.zero)
end Go.Ev
namespace Go.Proofs.YtfioapldbajpmaaDoor
open Go Go.Ev Go.Proofs
set_option maxRecDepth 100000
set_option maxHeartbeats 4000000
theorem kmay_ok (k : KeyT) : CallsV Tryd.prog 55 [k.v] [] (Ret0 (.bool k.may)) := by
  unfold KeyT.may
  refine callsO (noG_ok _) Tryd.mix (fun i => if i = 1 then [(0, 9)] else Tryd.pl55 i) Tryd.func55 rfl Tryd.ntmps55 Tryd.results55 rfl (by first | rfl | assumption) (Nat.le_of_ble_eq_true rfl) (by kernel_rfl) ?_
  simp only [push_cast, Nat.reduceAdd, Nat.reduceSub, Nat.reduceMul, Nat.reduceLT, Nat.reduceLeDiff, Nat.reduceEqDiff, Nat.reduceMod, Nat.reduceDiv, Int.reduceAdd, Int.reduceSub, Int.reduceMul, Int.reduceLT, Int.reduceLE, Int.reduceEq, Int.reduceNeg, Int.reduceToNat, reduceIte, reduceCtorEq, Int.reduceBEq, Int.reduceBNe, Bool.true_beq, Bool.false_beq, Bool.true_bne, Bool.false_bne, Bool.not_true, Bool.not_false]
  intro b1
  refine regO (noG_ok _) ?_
  cases hs : k.slot
  · simp only [push_cast, Nat.reduceAdd, Nat.reduceSub, Nat.reduceMul, Nat.reduceLT, Nat.reduceLeDiff, Nat.reduceEqDiff, Nat.reduceMod, Nat.reduceDiv, Int.reduceAdd, Int.reduceSub, Int.reduceMul, Int.reduceLT, Int.reduceLE, Int.reduceEq, Int.reduceNeg, Int.reduceToNat, reduceIte, reduceCtorEq, Int.reduceBEq, Int.reduceBNe, Bool.true_beq, Bool.false_beq, Bool.true_bne, Bool.false_bne, Bool.not_true, Bool.not_false, hs, Bool.false_or]
  · simp only [push_cast, Nat.reduceAdd, Nat.reduceSub, Nat.reduceMul, Nat.reduceLT, Nat.reduceLeDiff, Nat.reduceEqDiff, Nat.reduceMod, Nat.reduceDiv, Int.reduceAdd, Int.reduceSub, Int.reduceMul, Int.reduceLT, Int.reduceLE, Int.reduceEq, Int.reduceNeg, Int.reduceToNat, reduceIte, reduceCtorEq, Int.reduceBEq, Int.reduceBNe, Bool.true_beq, Bool.false_beq, Bool.true_bne, Bool.false_bne, Bool.not_true, Bool.not_false, hs, Bool.true_or]
theorem kmayG_ok (args : List Value) (v : Value) (h : kmayG args = some v) : CallsV Tryd.prog 55 args [] (Ret0 v) := by
  unfold kmayG at h
  split at h
  · rename_i x
    cases hx : kOf x with
    | none => simp [hx] at h
    | some a => simp only [hx, Option.bind_some, Option.some.injEq] at h; rw [kOf_some hx, ← h]; exact kmay_ok a
  · cases h
noncomputable def gK2 : Gam := (addG 55 kmayG noG)
attribute [push_cast] gK2
theorem gK2_ok : GamOk Tryd.prog gK2 := (addG_ok kmayG_ok (noG_ok _))
/-- two lists of keys, as sets -/
def SetQ (R W' : List KeyT) : Value → Hp → Prop := fun v H => ∃ vr vw, v = .agg #[vr, vw] ∧ LiR KeyT.cells 25 H R vr ∧ LiR KeyT.cells 25 H W' vw
theorem SetQ.rd (R W' : List KeyT) : RdOnly (SetQ R W') := by
  rintro v A B h ⟨vr, vw, rfl, h1, h2⟩
  exact ⟨vr, vw, rfl, h1.congr h, h2.congr h⟩
def MadeQ (R W' : List KeyT) (e : Int) : Value → Hp → Prop := fun v H => ∃ u, v = .tuple #[u, .int .i64 e] ∧ SetQ R W' u H
theorem MadeQ.rd (R W' : List KeyT) (e : Int) : RdOnly (MadeQ R W' e) := by
  rintro v A B h ⟨u, rfl, h1⟩
  exact ⟨u, rfl, SetQ.rd R W' _ A B h h1⟩
def plMk : Plans := fun i => if i = 1 then [(0, 9)] else if i = 11 then [(0, 9)] else if i = 13 then [(0, 9)] else Tryd.pl43 i
attribute [push_cast] plMk
theorem rmake_ok {M : Hp} {R W' : List KeyT} {vr vw : Value} (hr : LiR KeyT.cells 25 M R vr) (hw : LiR KeyT.cells 25 M W' vw) (hm : marksOf M = []) (hrn : R.length ≤ 200) (hwn : W'.length ≤ 200) (hmr : ∀ k ∈ R, k.may = true) (hmw : ∀ k ∈ W', k.may = true) :
    CallsV Tryd.prog 43 [vr, vw] M (NewK M (MadeQ (setK R) (setK W') 0)) := by
  obtain ⟨pr, cr, rfl, hlr⟩ := hr.open (fun x => x.len) (by decide)
  obtain ⟨pw, cw, rfl, hlw⟩ := hw.open (fun x => x.len) (by decide)
  refine callsO gK2_ok Tryd.mix plMk Tryd.func43 rfl Tryd.ntmps43 Tryd.results43 rfl (by first | rfl | assumption) (Nat.le_of_ble_eq_true rfl) (by kernel_rfl) ?_
  simp only [push_cast, Nat.reduceAdd, Nat.reduceSub, Nat.reduceMul, Nat.reduceLT, Nat.reduceLeDiff, Nat.reduceEqDiff, Nat.reduceMod, Nat.reduceDiv, Int.reduceAdd, Int.reduceSub, Int.reduceMul, Int.reduceLT, Int.reduceLE, Int.reduceEq, Int.reduceNeg, Int.reduceToNat, reduceIte, reduceCtorEq, Int.reduceBEq, Int.reduceBNe, Bool.true_beq, Bool.false_beq, Bool.true_bne, Bool.false_bne, Bool.not_true, Bool.not_false]
  intro b4 hb4
  refine regO gK2_ok ?_
  simp only [push_cast, Nat.reduceAdd, Nat.reduceSub, Nat.reduceMul, Nat.reduceLT, Nat.reduceLeDiff, Nat.reduceEqDiff, Nat.reduceMod, Nat.reduceDiv, Int.reduceAdd, Int.reduceSub, Int.reduceMul, Int.reduceLT, Int.reduceLE, Int.reduceEq, Int.reduceNeg, Int.reduceToNat, reduceIte, reduceCtorEq, Int.reduceBEq, Int.reduceBNe, Bool.true_beq, Bool.false_beq, Bool.true_bne, Bool.false_bne, Bool.not_true, Bool.not_false]
  intro b12 hb12
  refine loopO gK2_ok (pl := plMk) Tryd.mix (X := Nat)
    (fun i => ([(0, .slice pr R.length cr), (1, .slice pw W'.length cw), (4, .pointer (some ⟨b4, 0, none⟩)), (12, .slice (some ⟨b12, 0, none⟩) 2 2), (13, .int .i64 2), (14, .int .i64 i)],
      ⟨b12, 0, .vec 28 1 2, [.slice pr R.length cr, .slice pw W'.length cw]⟩ :: ⟨b4, 0, .cel 30, [.slice none 0 0, .slice none 0 0]⟩ :: M))
    (fun i => i ≤ 2) (fun i => 2 - i) 0 ?_ ?_ (by kernel_rfl) ?_
  · exact Nat.zero_le _
  · simp only [push_cast, Nat.reduceAdd, Nat.reduceSub, Nat.reduceMul, Nat.reduceLT, Nat.reduceLeDiff, Nat.reduceEqDiff, Nat.reduceMod, Nat.reduceDiv, Int.reduceAdd, Int.reduceSub, Int.reduceMul, Int.reduceLT, Int.reduceLE, Int.reduceEq, Int.reduceNeg, Int.reduceToNat, reduceIte, reduceCtorEq, Int.reduceBEq, Int.reduceBNe, Bool.true_beq, Bool.false_beq, Bool.true_bne, Bool.false_bne, Bool.not_true, Bool.not_false, hb12]
    exact subH_self _
  · intro i hi
    dsimp only at hi ⊢
    obtain rfl | rfl | rfl : i = 0 ∨ i = 1 ∨ i = 2 := by omega
    · simp only [push_cast, Nat.reduceAdd, Nat.reduceSub, Nat.reduceMul, Nat.reduceLT, Nat.reduceLeDiff, Nat.reduceEqDiff, Nat.reduceMod, Nat.reduceDiv, Int.reduceAdd, Int.reduceSub, Int.reduceMul, Int.reduceLT, Int.reduceLE, Int.reduceEq, Int.reduceNeg, Int.reduceToNat, reduceIte, reduceCtorEq, Int.reduceBEq, Int.reduceBNe, Bool.true_beq, Bool.false_beq, Bool.true_bne, Bool.false_bne, Bool.not_true, Bool.not_false, hb12]
      refine loopO gK2_ok (pl := plMk) Tryd.mix (X := Nat)
        (fun j => ([(0, .slice pr R.length cr), (1, .slice pw W'.length cw), (4, .pointer (some ⟨b4, 0, none⟩)), (7, .slice pr R.length cr), (8, .int .i64 j), (12, .slice (some ⟨b12, 0, none⟩) 2 2), (13, .int .i64 2), (14, .int .i64 0)],
          ⟨b12, 0, .vec 28 1 2, [.slice pr R.length cr, .slice pw W'.length cw]⟩ :: ⟨b4, 0, .cel 30, [.slice none 0 0, .slice none 0 0]⟩ :: M))
        (fun j => j ≤ R.length) (fun j => R.length - j) 0 ?_ ?_ (by kernel_rfl) ?_
      · exact Nat.zero_le _
      · simp only [push_cast, Nat.reduceAdd, Nat.reduceSub, Nat.reduceMul, Nat.reduceLT, Nat.reduceLeDiff, Nat.reduceEqDiff, Nat.reduceMod, Nat.reduceDiv, Int.reduceAdd, Int.reduceSub, Int.reduceMul, Int.reduceLT, Int.reduceLE, Int.reduceEq, Int.reduceNeg, Int.reduceToNat, reduceIte, reduceCtorEq, Int.reduceBEq, Int.reduceBNe, Bool.true_beq, Bool.false_beq, Bool.true_bne, Bool.false_bne, Bool.not_true, Bool.not_false, hb12]
        exact subH_self _
      · intro j hj
        dsimp only at hj ⊢
        rcases Nat.lt_or_ge j R.length with hlt | hge
        · obtain ⟨x, hx⟩ : ∃ x, R[j]? = some x := ⟨R[j], List.getElem?_eq_getElem hlt⟩
          obtain h0 | ⟨b, f, d, kd, cs, rfl, he, hat, -, -⟩ := hlr
          · rw [h0] at hlt; exact absurd hlt (Nat.not_lt_zero _)
          obtain ⟨a1, a2⟩ := hat j x hx 0 25 (Nat.le_refl _)
          rw [Nat.add_zero] at a1 a2
          rw [List.drop_zero, x.take25] at a2
          have n1 : ¬ b = b12 := (fresh_findS hb12.2.2 he).2
          have n2 : ¬ b = b4 := (fresh_findS hb4 he).2
          have i1 : (j : Int) < (R.length : Int) := by omega
          have hmy : (x.slot || decide (x.key = W.zero)) = true := hmr x (List.mem_of_getElem? hx)
          simp only [push_cast, Nat.reduceAdd, Nat.reduceSub, Nat.reduceMul, Nat.reduceLT, Nat.reduceLeDiff, Nat.reduceEqDiff, Nat.reduceMod, Nat.reduceDiv, Int.reduceAdd, Int.reduceSub, Int.reduceMul, Int.reduceLT, Int.reduceLE, Int.reduceEq, Int.reduceNeg, Int.reduceToNat, reduceIte, reduceCtorEq, Int.reduceBEq, Int.reduceBNe, Bool.true_beq, Bool.false_beq, Bool.true_bne, Bool.false_bne, Bool.not_true, Bool.not_false, i1, n1, n2, he, a1, a2, hmy, wrap_i64' (show -9223372036854775808 ≤ (j : Int) + 1 ∧ (j : Int) + 1 ≤ 9223372036854775807 by omega)]
          exact ⟨j + 1, hlt, by omega, rfl, subH_self _⟩
        · obtain rfl : j = R.length := by omega
          simp only [push_cast, Nat.reduceAdd, Nat.reduceSub, Nat.reduceMul, Nat.reduceLT, Nat.reduceLeDiff, Nat.reduceEqDiff, Nat.reduceMod, Nat.reduceDiv, Int.reduceAdd, Int.reduceSub, Int.reduceMul, Int.reduceLT, Int.reduceLE, Int.reduceEq, Int.reduceNeg, Int.reduceToNat, reduceIte, reduceCtorEq, Int.reduceBEq, Int.reduceBNe, Bool.true_beq, Bool.false_beq, Bool.true_bne, Bool.false_bne, Bool.not_true, Bool.not_false, Nat.lt_irrefl]
          exact ⟨1, by omega, by omega, rfl, subH_self _⟩
    · simp only [push_cast, Nat.reduceAdd, Nat.reduceSub, Nat.reduceMul, Nat.reduceLT, Nat.reduceLeDiff, Nat.reduceEqDiff, Nat.reduceMod, Nat.reduceDiv, Int.reduceAdd, Int.reduceSub, Int.reduceMul, Int.reduceLT, Int.reduceLE, Int.reduceEq, Int.reduceNeg, Int.reduceToNat, reduceIte, reduceCtorEq, Int.reduceBEq, Int.reduceBNe, Bool.true_beq, Bool.false_beq, Bool.true_bne, Bool.false_bne, Bool.not_true, Bool.not_false, hb12]
      refine loopO gK2_ok (pl := plMk) Tryd.mix (X := Nat)
        (fun j => ([(0, .slice pr R.length cr), (1, .slice pw W'.length cw), (4, .pointer (some ⟨b4, 0, none⟩)), (7, .slice pw W'.length cw), (8, .int .i64 j), (12, .slice (some ⟨b12, 0, none⟩) 2 2), (13, .int .i64 2), (14, .int .i64 1)],
          ⟨b12, 0, .vec 28 1 2, [.slice pr R.length cr, .slice pw W'.length cw]⟩ :: ⟨b4, 0, .cel 30, [.slice none 0 0, .slice none 0 0]⟩ :: M))
        (fun j => j ≤ W'.length) (fun j => W'.length - j) 0 ?_ ?_ (by kernel_rfl) ?_
      · exact Nat.zero_le _
      · simp only [push_cast, Nat.reduceAdd, Nat.reduceSub, Nat.reduceMul, Nat.reduceLT, Nat.reduceLeDiff, Nat.reduceEqDiff, Nat.reduceMod, Nat.reduceDiv, Int.reduceAdd, Int.reduceSub, Int.reduceMul, Int.reduceLT, Int.reduceLE, Int.reduceEq, Int.reduceNeg, Int.reduceToNat, reduceIte, reduceCtorEq, Int.reduceBEq, Int.reduceBNe, Bool.true_beq, Bool.false_beq, Bool.true_bne, Bool.false_bne, Bool.not_true, Bool.not_false, hb12]
        exact subH_self _
      · intro j hj
        dsimp only at hj ⊢
        rcases Nat.lt_or_ge j W'.length with hlt | hge
        · obtain ⟨x, hx⟩ : ∃ x, W'[j]? = some x := ⟨W'[j], List.getElem?_eq_getElem hlt⟩
          obtain h0 | ⟨b, f, d, kd, cs, rfl, he, hat, -, -⟩ := hlw
          · rw [h0] at hlt; exact absurd hlt (Nat.not_lt_zero _)
          obtain ⟨a1, a2⟩ := hat j x hx 0 25 (Nat.le_refl _)
          rw [Nat.add_zero] at a1 a2
          rw [List.drop_zero, x.take25] at a2
          have n1 : ¬ b = b12 := (fresh_findS hb12.2.2 he).2
          have n2 : ¬ b = b4 := (fresh_findS hb4 he).2
          have i1 : (j : Int) < (W'.length : Int) := by omega
          have hmy : (x.slot || decide (x.key = W.zero)) = true := hmw x (List.mem_of_getElem? hx)
          simp only [push_cast, Nat.reduceAdd, Nat.reduceSub, Nat.reduceMul, Nat.reduceLT, Nat.reduceLeDiff, Nat.reduceEqDiff, Nat.reduceMod, Nat.reduceDiv, Int.reduceAdd, Int.reduceSub, Int.reduceMul, Int.reduceLT, Int.reduceLE, Int.reduceEq, Int.reduceNeg, Int.reduceToNat, reduceIte, reduceCtorEq, Int.reduceBEq, Int.reduceBNe, Bool.true_beq, Bool.false_beq, Bool.true_bne, Bool.false_bne, Bool.not_true, Bool.not_false, i1, n1, n2, he, a1, a2, hmy, wrap_i64' (show -9223372036854775808 ≤ (j : Int) + 1 ∧ (j : Int) + 1 ≤ 9223372036854775807 by omega)]
          exact ⟨j + 1, hlt, by omega, rfl, subH_self _⟩
        · obtain rfl : j = W'.length := by omega
          simp only [push_cast, Nat.reduceAdd, Nat.reduceSub, Nat.reduceMul, Nat.reduceLT, Nat.reduceLeDiff, Nat.reduceEqDiff, Nat.reduceMod, Nat.reduceDiv, Int.reduceAdd, Int.reduceSub, Int.reduceMul, Int.reduceLT, Int.reduceLE, Int.reduceEq, Int.reduceNeg, Int.reduceToNat, reduceIte, reduceCtorEq, Int.reduceBEq, Int.reduceBNe, Bool.true_beq, Bool.false_beq, Bool.true_bne, Bool.false_bne, Bool.not_true, Bool.not_false, Nat.lt_irrefl]
          exact ⟨2, by omega, by omega, rfl, subH_self _⟩
    · simp only [push_cast, Nat.reduceAdd, Nat.reduceSub, Nat.reduceMul, Nat.reduceLT, Nat.reduceLeDiff, Nat.reduceEqDiff, Nat.reduceMod, Nat.reduceDiv, Int.reduceAdd, Int.reduceSub, Int.reduceMul, Int.reduceLT, Int.reduceLE, Int.reduceEq, Int.reduceNeg, Int.reduceToNat, reduceIte, reduceCtorEq, Int.reduceBEq, Int.reduceBNe, Bool.true_beq, Bool.false_beq, Bool.true_bne, Bool.false_bne, Bool.not_true, Bool.not_false, hb12]
      have hf1 : freshN [⟨b12, 0, .vec 28 1 2, [.slice pr R.length cr, .slice pw W'.length cw]⟩, ⟨b4, 0, .cel 30, [.slice none 0 0, .slice none 0 0]⟩] M := ⟨hb12.2.2, hb4, trivial⟩
      refine useL [_, _] (rset_R hr (by omega)) (KeyQ.rd _) hm hf1 fun v1 M1 hg1 hL1 hq1 => ?_
      simp only [push_cast, Nat.reduceAdd, Nat.reduceSub, Nat.reduceMul, Nat.reduceLT, Nat.reduceLeDiff, Nat.reduceEqDiff, Nat.reduceMod, Nat.reduceDiv, Int.reduceAdd, Int.reduceSub, Int.reduceMul, Int.reduceLT, Int.reduceLE, Int.reduceEq, Int.reduceNeg, Int.reduceToNat, reduceIte, reduceCtorEq, Int.reduceBEq, Int.reduceBNe, Bool.true_beq, Bool.false_beq, Bool.true_bne, Bool.false_bne, Bool.not_true, Bool.not_false]
      refine useL [_, _] (rset_R (hw.ext hg1.ext) (by omega)) (KeyQ.rd _) hg1.marks hL1 fun v2 M2 hg2 hL2 hq2 => ?_
      have hl1 := setK_len R
      have hl2 := setK_len W'
      have hq1' := hq1.ext hg2.ext
      have hqq : MadeQ (setK R) (setK W') 0 (.tuple #[.agg #[v1, v2], .int .i64 0]) M2 := ⟨_, rfl, v1, v2, rfl, hq1', hq2⟩
      obtain ⟨p1, c1, rfl, -⟩ := hq1'
      obtain ⟨p2, c2, rfl, -⟩ := hq2
      simp only [push_cast, Nat.reduceAdd, Nat.reduceSub, Nat.reduceMul, Nat.reduceLT, Nat.reduceLeDiff, Nat.reduceEqDiff, Nat.reduceMod, Nat.reduceDiv, Int.reduceAdd, Int.reduceSub, Int.reduceMul, Int.reduceLT, Int.reduceLE, Int.reduceEq, Int.reduceNeg, Int.reduceToNat, reduceIte, reduceCtorEq, Int.reduceBEq, Int.reduceBNe, Bool.true_beq, Bool.false_beq, Bool.true_bne, Bool.false_bne, Bool.not_true, Bool.not_false]
      intro b9 hb9
      refine regO gK2_ok ?_
      have j1 : ¬ (200 : Int) < ((setK R).length : Int) := by omega
      have j2 : ¬ (200 : Int) < ((setK W').length : Int) := by omega
      have j3 : ¬ 200 < (setK R).length := by omega
      have j4 : ¬ 200 < (setK W').length := by omega
      simp only [push_cast, Nat.reduceAdd, Nat.reduceSub, Nat.reduceMul, Nat.reduceLT, Nat.reduceLeDiff, Nat.reduceEqDiff, Nat.reduceMod, Nat.reduceDiv, Int.reduceAdd, Int.reduceSub, Int.reduceMul, Int.reduceLT, Int.reduceLE, Int.reduceEq, Int.reduceNeg, Int.reduceToNat, reduceIte, reduceCtorEq, Int.reduceBEq, Int.reduceBNe, Bool.true_beq, Bool.false_beq, Bool.true_bne, Bool.false_bne, Bool.not_true, Bool.not_false, hb9, j1, j2, j3, j4]
      refine regO gK2_ok ?_
      simp only [push_cast, Nat.reduceAdd, Nat.reduceSub, Nat.reduceMul, Nat.reduceLT, Nat.reduceLeDiff, Nat.reduceEqDiff, Nat.reduceMod, Nat.reduceDiv, Int.reduceAdd, Int.reduceSub, Int.reduceMul, Int.reduceLT, Int.reduceLE, Int.reduceEq, Int.reduceNeg, Int.reduceToNat, reduceIte, reduceCtorEq, Int.reduceBEq, Int.reduceBNe, Bool.true_beq, Bool.false_beq, Bool.true_bne, Bool.false_bne, Bool.not_true, Bool.not_false, hb9, hb12, j1, j2, j3, j4]
      exact doneK2 [_, _, _] (hg1.trans hg2) (MadeQ.rd _ _ _) hqq
theorem rmake_R {M : Hp} {R W' : List KeyT} {vr vw : Value} (hr : LiR KeyT.cells 25 M R vr) (hw : LiR KeyT.cells 25 M W' vw) (hrn : R.length ≤ 200) (hwn : W'.length ≤ 200) (hmr : ∀ k ∈ R, k.may = true) (hmw : ∀ k ∈ W', k.may = true) :
    CallsR Tryd.prog 43 [vr, vw] M (MadeQ (setK R) (setK W') 0) :=
  fun _ h he => rmake_ok (hr.congr he.symm) (hw.congr he.symm) h.marks hrn hwn hmr hmw
end Go.Proofs.YtfioapldbajpmaaDoor
