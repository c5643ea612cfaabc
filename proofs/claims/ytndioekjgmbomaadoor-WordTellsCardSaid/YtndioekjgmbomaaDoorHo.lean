/- Ho: WordTells. -/
import Derived.Test.YtndioekjgmbomaaDoorHi
set_option linter.unusedSimpArgs false
set_option linter.unusedVariables false
namespace Go.Ev
theorem three_cells (x y z : W) : (x.cells ++ (y.cells ++ z.cells)).length = 12 := rfl
theorem three_all (x y z : W) : (x.cells ++ (y.cells ++ z.cells)).all oneC = true := rfl
end Go.Ev
namespace Go.Proofs.YtndioekjgmbomaaDoor
open Go Go.Ev Go.Proofs
set_option maxRecDepth 100000
set_option maxHeartbeats 4000000
def plTe : Plans := fun i => if i = 1 then [(0, 9)] else if i = 7 then [(0, 9)] else if i = 17 then [(0, 9)] else if i = 18 then [(0, 9)] else if i = 19 then [(0, 9)] else if i = 12 then [(0, 9)] else if i = 13 then [(0, 9)] else Tryd.pl3 i
attribute [push_cast] plTe
theorem wordTells0 (a b : W) (n : Int) (s : ByteArray) (at_ : Int) (more : ByteArray) (hn : i64In n) (ha : i64In at_) (hs : s.size < 140737488355328) (hm : more.size < 140737488355328) :
    CallsV Tryd.prog 3 [a.v, b.v, .int .i64 n, .string s, .int .i64 at_, .string more] [] (Ret0 (.bool true)) := by
  obtain ⟨sl, rfl⟩ := bs_of s
  obtain ⟨mo, rfl⟩ := bs_of more
  rw [bs_size] at hs hm
  have j0 : i64B n = true := i64B_in hn
  have j1 : i64B at_ = true := i64B_in ha
  obtain ⟨hx, hhx⟩ : ∃ l, l = hexW a := ⟨_, rfl⟩
  have hxl : hx.length ≤ 66 := by rw [hhx]; exact hex_len a
  obtain ⟨A, hA⟩ : ∃ k, k = hx.length := ⟨_, rfl⟩
  rw [← hA] at hxl
  have j2 : i64B ((A : Int) + 1) = true := i64B_in (by unfold i64In; omega)
  have j3 : posB ((A : Int) + 1) = true := posB_in (by omega)
  have hk := pickN_lt at_ (show (0 : Int) < (A : Int) + 1 by omega)
  obtain ⟨k, hkk⟩ : ∃ k, k = pickN at_ ((A : Int) + 1) := ⟨_, rfl⟩
  rw [← hkk] at hk
  have k1 : k ≤ A := by omega
  obtain ⟨M, hM⟩ : ∃ k, k = mo.length := ⟨_, rfl⟩
  rw [← hM] at hm
  obtain ⟨m, hmm⟩ : ∃ m, m = min (k + M) A := ⟨_, rfl⟩
  have m1 : m ≤ A := by omega
  have hmin : (if (A : Int) < (k : Int) + (M : Int) then (A : Int) else (k : Int) + (M : Int)) = (m : Int) := by split <;> omega
  have hmin' : (if (k : Int) + (M : Int) < (A : Int) then (k : Int) + (M : Int) else (A : Int)) = (m : Int) := by split <;> omega
  have m0 : (0 : Int) ≤ (m : Int) := by omega
  obtain ⟨P, hP⟩ : ∃ l, l = hx.take k := ⟨_, rfl⟩
  obtain ⟨D, hD⟩ : ∃ l, l = hx.drop k := ⟨_, rfl⟩
  obtain ⟨E, hE⟩ : ∃ l, l = hx.drop m := ⟨_, rfl⟩
  have lP : P.length = k := by rw [hP, List.length_take]; omega
  have lD : D.length = A - k := by rw [hD, List.length_drop]; omega
  have lE : E.length = A - m := by rw [hE, List.length_drop]; omega
  have tD : List.take (A - k) (List.drop k hx) = D := by rw [← hD, ← lD]; exact List.take_length
  have tE : List.take (A - m) (List.drop m hx) = E := by rw [← hE, ← lE]; exact List.take_length
  have c1 : catB (bs P) (bs mo) = some (.string (bs (P ++ mo))) := hcatB _ _ (by omega)
  have c2 : catB (bs (P ++ mo)) (bs D) = some (.string (bs (P ++ mo ++ D))) := hcatB _ _ (by rw [List.length_append]; omega)
  have c3 : catB (bs (P ++ mo)) (bs E) = some (.string (bs (P ++ mo ++ E))) := hcatB _ _ (by rw [List.length_append]; omega)
  obtain ⟨x3, hx3⟩ : ∃ l, l = P ++ mo ++ D := ⟨_, rfl⟩
  obtain ⟨x4, hx4⟩ : ∃ l, l = P ++ mo ++ E := ⟨_, rfl⟩
  have l3 : x3.length < 140737488355428 := by rw [hx3, List.length_append, List.length_append]; omega
  have l4 : x4.length < 140737488355428 := by rw [hx4, List.length_append, List.length_append]; omega
  rw [← hx3] at c2
  rw [← hx4] at c3
  refine callsO gAll_ok Tryd.mix plTe Tryd.func3 rfl Tryd.ntmps3 Tryd.results3 rfl (by first | rfl | assumption) (Nat.le_of_ble_eq_true rfl) (by kernel_rfl) ?_
  simp only [push_cast, Nat.reduceAdd, Nat.reduceSub, Nat.reduceMul, Nat.reduceLT, Nat.reduceLeDiff, Nat.reduceEqDiff, Nat.reduceMod, Nat.reduceDiv, Int.reduceAdd, Int.reduceSub, Int.reduceMul, Int.reduceLT, Int.reduceLE, Int.reduceEq, Int.reduceNeg, Int.reduceToNat, reduceIte, reduceCtorEq, Int.reduceBEq, Int.reduceBNe, Bool.true_beq, Bool.false_beq, Bool.true_bne, Bool.false_bne, Bool.not_true, Bool.not_false]
  intro b6 b7 hb7
  refine regO gAll_ok ?_
  simp only [push_cast, Nat.reduceAdd, Nat.reduceSub, Nat.reduceMul, Nat.reduceLT, Nat.reduceLeDiff, Nat.reduceEqDiff, Nat.reduceMod, Nat.reduceDiv, Int.reduceAdd, Int.reduceSub, Int.reduceMul, Int.reduceLT, Int.reduceLE, Int.reduceEq, Int.reduceNeg, Int.reduceToNat, reduceIte, reduceCtorEq, Int.reduceBEq, Int.reduceBNe, Bool.true_beq, Bool.false_beq, Bool.true_bne, Bool.false_bne, Bool.not_true, Bool.not_false, hb7, j0, bne_self_eq_false, decide_true]
  intro bl hbl
  simp only [push_cast, Nat.reduceAdd, Nat.reduceSub, Nat.reduceMul, Nat.reduceLT, Nat.reduceLeDiff, Nat.reduceEqDiff, Nat.reduceMod, Nat.reduceDiv, Int.reduceAdd, Int.reduceSub, Int.reduceMul, Int.reduceLT, Int.reduceLE, Int.reduceEq, Int.reduceNeg, Int.reduceToNat, reduceIte, reduceCtorEq, Int.reduceBEq, Int.reduceBNe, Bool.true_beq, Bool.false_beq, Bool.true_bne, Bool.false_bne, Bool.not_true, Bool.not_false, hb7, hbl]
  obtain ⟨z, hz⟩ : ∃ z, z = ofW n := ⟨_, rfl⟩
  obtain ⟨L, hL⟩ : ∃ L, L = a.cells ++ (b.cells ++ z.cells) := ⟨_, rfl⟩
  have hl : L.length = 12 := by rw [hL]; rfl
  have d0 : List.take 4 L = a.cells := by rw [hL]; rfl
  have d1 : List.take 4 (List.drop 4 L) = b.cells := by rw [hL]; rfl
  have d2 : List.take 4 (List.drop 8 L) = z.cells := by rw [hL]; rfl
  refine loopO gAll_ok (pl := plTe) Tryd.mix (X := Nat)
    (fun i => ([(3, .string (bs sl)), (4, .int .i64 at_), (5, .string (bs mo)), (6, .pointer (some ⟨b6, 0, none⟩)), (7, .pointer (some ⟨b7, 0, none⟩)), (13, .bool true), (65, .slice (some ⟨bl, 0, none⟩) 3 3), (66, .int .i64 3), (67, .int .i64 i)],
      [⟨bl, 0, .vec 24 4 3, L⟩, ⟨b7, 0, .cel 24, b.cells⟩, ⟨b6, 0, .cel 24, a.cells⟩]))
    (fun i => i ≤ 3) (fun i => 3 - i) 0 ?_ ?_ (by kernel_rfl) ?_
  · exact Nat.zero_le _
  · rw [hL, hz]
    simp only [push_cast, Nat.reduceAdd, Nat.reduceSub, Nat.reduceMul, Nat.reduceLT, Nat.reduceLeDiff, Nat.reduceEqDiff, Nat.reduceMod, Nat.reduceDiv, Int.reduceAdd, Int.reduceSub, Int.reduceMul, Int.reduceLT, Int.reduceLE, Int.reduceEq, Int.reduceNeg, Int.reduceToNat, reduceIte, reduceCtorEq, Int.reduceBEq, Int.reduceBNe, Bool.true_beq, Bool.false_beq, Bool.true_bne, Bool.false_bne, Bool.not_true, Bool.not_false, hb7, hbl]
  · intro i hi
    dsimp only at hi ⊢
    obtain rfl | rfl | rfl | rfl : i = 0 ∨ i = 1 ∨ i = 2 ∨ i = 3 := by omega
    · simp only [push_cast, Nat.reduceAdd, Nat.reduceSub, Nat.reduceMul, Nat.reduceLT, Nat.reduceLeDiff, Nat.reduceEqDiff, Nat.reduceMod, Nat.reduceDiv, Int.reduceAdd, Int.reduceSub, Int.reduceMul, Int.reduceLT, Int.reduceLE, Int.reduceEq, Int.reduceNeg, Int.reduceToNat, reduceIte, reduceCtorEq, Int.reduceBEq, Int.reduceBNe, Bool.true_beq, Bool.false_beq, Bool.true_bne, Bool.false_bne, Bool.not_true, Bool.not_false, hb7, hbl, hl, d0]
      intro b15 hb15
      refine regO gAll_ok ?_
      simp only [push_cast, Nat.reduceAdd, Nat.reduceSub, Nat.reduceMul, Nat.reduceLT, Nat.reduceLeDiff, Nat.reduceEqDiff, Nat.reduceMod, Nat.reduceDiv, Int.reduceAdd, Int.reduceSub, Int.reduceMul, Int.reduceLT, Int.reduceLE, Int.reduceEq, Int.reduceNeg, Int.reduceToNat, reduceIte, reduceCtorEq, Int.reduceBEq, Int.reduceBNe, Bool.true_beq, Bool.false_beq, Bool.true_bne, Bool.false_bne, Bool.not_true, Bool.not_false, hb7, hbl, hl, d0, hb15, bne_self_eq_false, decide_true]
      exact ⟨1, by omega, by omega, rfl⟩
    · simp only [push_cast, Nat.reduceAdd, Nat.reduceSub, Nat.reduceMul, Nat.reduceLT, Nat.reduceLeDiff, Nat.reduceEqDiff, Nat.reduceMod, Nat.reduceDiv, Int.reduceAdd, Int.reduceSub, Int.reduceMul, Int.reduceLT, Int.reduceLE, Int.reduceEq, Int.reduceNeg, Int.reduceToNat, reduceIte, reduceCtorEq, Int.reduceBEq, Int.reduceBNe, Bool.true_beq, Bool.false_beq, Bool.true_bne, Bool.false_bne, Bool.not_true, Bool.not_false, hb7, hbl, hl, d1]
      intro b15 hb15
      refine regO gAll_ok ?_
      simp only [push_cast, Nat.reduceAdd, Nat.reduceSub, Nat.reduceMul, Nat.reduceLT, Nat.reduceLeDiff, Nat.reduceEqDiff, Nat.reduceMod, Nat.reduceDiv, Int.reduceAdd, Int.reduceSub, Int.reduceMul, Int.reduceLT, Int.reduceLE, Int.reduceEq, Int.reduceNeg, Int.reduceToNat, reduceIte, reduceCtorEq, Int.reduceBEq, Int.reduceBNe, Bool.true_beq, Bool.false_beq, Bool.true_bne, Bool.false_bne, Bool.not_true, Bool.not_false, hb7, hbl, hl, d1, hb15, bne_self_eq_false, decide_true]
      exact ⟨2, by omega, by omega, rfl⟩
    · simp only [push_cast, Nat.reduceAdd, Nat.reduceSub, Nat.reduceMul, Nat.reduceLT, Nat.reduceLeDiff, Nat.reduceEqDiff, Nat.reduceMod, Nat.reduceDiv, Int.reduceAdd, Int.reduceSub, Int.reduceMul, Int.reduceLT, Int.reduceLE, Int.reduceEq, Int.reduceNeg, Int.reduceToNat, reduceIte, reduceCtorEq, Int.reduceBEq, Int.reduceBNe, Bool.true_beq, Bool.false_beq, Bool.true_bne, Bool.false_bne, Bool.not_true, Bool.not_false, hb7, hbl, hl, d2]
      intro b15 hb15
      refine regO gAll_ok ?_
      simp only [push_cast, Nat.reduceAdd, Nat.reduceSub, Nat.reduceMul, Nat.reduceLT, Nat.reduceLeDiff, Nat.reduceEqDiff, Nat.reduceMod, Nat.reduceDiv, Int.reduceAdd, Int.reduceSub, Int.reduceMul, Int.reduceLT, Int.reduceLE, Int.reduceEq, Int.reduceNeg, Int.reduceToNat, reduceIte, reduceCtorEq, Int.reduceBEq, Int.reduceBNe, Bool.true_beq, Bool.false_beq, Bool.true_bne, Bool.false_bne, Bool.not_true, Bool.not_false, hb7, hbl, hl, d2, hb15, bne_self_eq_false, decide_true]
      exact ⟨3, by omega, by omega, rfl⟩
    · clear hl d0 d1 d2
      simp only [push_cast, Nat.reduceAdd, Nat.reduceSub, Nat.reduceMul, Nat.reduceLT, Nat.reduceLeDiff, Nat.reduceEqDiff, Nat.reduceMod, Nat.reduceDiv, Int.reduceAdd, Int.reduceSub, Int.reduceMul, Int.reduceLT, Int.reduceLE, Int.reduceEq, Int.reduceNeg, Int.reduceToNat, reduceIte, reduceCtorEq, Int.reduceBEq, Int.reduceBNe, Bool.true_beq, Bool.false_beq, Bool.true_bne, Bool.false_bne, Bool.not_true, Bool.not_false, hb7, hbl]
      refine regO gAll_ok ?_
      simp only [push_cast, Nat.reduceAdd, Nat.reduceSub, Nat.reduceMul, Nat.reduceLT, Nat.reduceLeDiff, Nat.reduceEqDiff, Nat.reduceMod, Nat.reduceDiv, Int.reduceAdd, Int.reduceSub, Int.reduceMul, Int.reduceLT, Int.reduceLE, Int.reduceEq, Int.reduceNeg, Int.reduceToNat, reduceIte, reduceCtorEq, Int.reduceBEq, Int.reduceBNe, Bool.true_beq, Bool.false_beq, Bool.true_bne, Bool.false_bne, Bool.not_true, Bool.not_false, hb7, hbl]
      refine regO gAll_ok ?_
      simp only [push_cast, Nat.reduceAdd, Nat.reduceSub, Nat.reduceMul, Nat.reduceLT, Nat.reduceLeDiff, Nat.reduceEqDiff, Nat.reduceMod, Nat.reduceDiv, Int.reduceAdd, Int.reduceSub, Int.reduceMul, Int.reduceLT, Int.reduceLE, Int.reduceEq, Int.reduceNeg, Int.reduceToNat, reduceIte, reduceCtorEq, Int.reduceBEq, Int.reduceBNe, Bool.true_beq, Bool.false_beq, Bool.true_bne, Bool.false_bne, Bool.not_true, Bool.not_false, hb7, hbl, ← hhx, bs_size, ← hA, wrap_i64' (show -9223372036854775808 ≤ (A : Int) + 1 ∧ (A : Int) + 1 ≤ 9223372036854775807 by omega), j1, j2, j3, ← hkk, k1, ← hM, wrap_i64' (show -9223372036854775808 ≤ (k : Int) + (M : Int) ∧ (k : Int) + (M : Int) ≤ 9223372036854775807 by omega), hmin, hmin', m0, m1, ← hP, tD, tE, c1, c2, c3]
      intro bm hbm
      simp only [push_cast, Nat.reduceAdd, Nat.reduceSub, Nat.reduceMul, Nat.reduceLT, Nat.reduceLeDiff, Nat.reduceEqDiff, Nat.reduceMod, Nat.reduceDiv, Int.reduceAdd, Int.reduceSub, Int.reduceMul, Int.reduceLT, Int.reduceLE, Int.reduceEq, Int.reduceNeg, Int.reduceToNat, reduceIte, reduceCtorEq, Int.reduceBEq, Int.reduceBNe, Bool.true_beq, Bool.false_beq, Bool.true_bne, Bool.false_bne, Bool.not_true, Bool.not_false, hb7, hbl, hbm]
      refine loopO gAll_ok (pl := plTe) Tryd.mix (X := Nat)
        (fun i => ([(13, .bool true), (155, .slice (some ⟨bm, 0, none⟩) 4 4), (156, .int .i64 4), (157, .int .i64 i)],
          [⟨bm, 0, .vec 9 1 4, [Value.string (bs sl), Value.string (bs hx), Value.string (bs x3), Value.string (bs x4)]⟩]))
        (fun i => i ≤ 4) (fun i => 4 - i) 0 ?_ ?_ (by kernel_rfl) ?_
      · exact Nat.zero_le _
      · simp only [push_cast, Nat.reduceAdd, Nat.reduceSub, Nat.reduceMul, Nat.reduceLT, Nat.reduceLeDiff, Nat.reduceEqDiff, Nat.reduceMod, Nat.reduceDiv, Int.reduceAdd, Int.reduceSub, Int.reduceMul, Int.reduceLT, Int.reduceLE, Int.reduceEq, Int.reduceNeg, Int.reduceToNat, reduceIte, reduceCtorEq, Int.reduceBEq, Int.reduceBNe, Bool.true_beq, Bool.false_beq, Bool.true_bne, Bool.false_bne, Bool.not_true, Bool.not_false, hb7, hbl, hbm]
      · intro i hi
        dsimp only at hi ⊢
        obtain rfl | rfl | rfl | rfl | rfl : i = 0 ∨ i = 1 ∨ i = 2 ∨ i = 3 ∨ i = 4 := by omega
        · have z1 : pzB sl.length = true := pzB_in (by omega)
          have z2 : lngB sl.length = true := lngB_in (by omega)
          obtain ⟨R, hR⟩ : ∃ R, R = parseP (bs sl) := ⟨_, rfl⟩
          simp only [push_cast, Nat.reduceAdd, Nat.reduceSub, Nat.reduceMul, Nat.reduceLT, Nat.reduceLeDiff, Nat.reduceEqDiff, Nat.reduceMod, Nat.reduceDiv, Int.reduceAdd, Int.reduceSub, Int.reduceMul, Int.reduceLT, Int.reduceLE, Int.reduceEq, Int.reduceNeg, Int.reduceToNat, reduceIte, reduceCtorEq, Int.reduceBEq, Int.reduceBNe, Bool.true_beq, Bool.false_beq, Bool.true_bne, Bool.false_bne, Bool.not_true, Bool.not_false]
          refine regO gAll_ok ?_
          simp only [push_cast, Nat.reduceAdd, Nat.reduceSub, Nat.reduceMul, Nat.reduceLT, Nat.reduceLeDiff, Nat.reduceEqDiff, Nat.reduceMod, Nat.reduceDiv, Int.reduceAdd, Int.reduceSub, Int.reduceMul, Int.reduceLT, Int.reduceLE, Int.reduceEq, Int.reduceNeg, Int.reduceToNat, reduceIte, reduceCtorEq, Int.reduceBEq, Int.reduceBNe, Bool.true_beq, Bool.false_beq, Bool.true_bne, Bool.false_bne, Bool.not_true, Bool.not_false, bs_size, z1, ← hR]
          intro b24 hb24
          refine regO gAll_ok ?_
          simp only [push_cast, Nat.reduceAdd, Nat.reduceSub, Nat.reduceMul, Nat.reduceLT, Nat.reduceLeDiff, Nat.reduceEqDiff, Nat.reduceMod, Nat.reduceDiv, Int.reduceAdd, Int.reduceSub, Int.reduceMul, Int.reduceLT, Int.reduceLE, Int.reduceEq, Int.reduceNeg, Int.reduceToNat, reduceIte, reduceCtorEq, Int.reduceBEq, Int.reduceBNe, Bool.true_beq, Bool.false_beq, Bool.true_bne, Bool.false_bne, Bool.not_true, Bool.not_false, hb24, bs_size, z1, ← hR]
          intro b26 hb26
          refine regO gAll_ok ?_
          simp only [push_cast, Nat.reduceAdd, Nat.reduceSub, Nat.reduceMul, Nat.reduceLT, Nat.reduceLeDiff, Nat.reduceEqDiff, Nat.reduceMod, Nat.reduceDiv, Int.reduceAdd, Int.reduceSub, Int.reduceMul, Int.reduceLT, Int.reduceLE, Int.reduceEq, Int.reduceNeg, Int.reduceToNat, reduceIte, reduceCtorEq, Int.reduceBEq, Int.reduceBNe, Bool.true_beq, Bool.false_beq, Bool.true_bne, Bool.false_bne, Bool.not_true, Bool.not_false, hb24, hb26, bs_size, z2, decide_true, bne_self_eq_false]
          exact ⟨1, by omega, by omega, rfl⟩
        · have z1 : pzB hx.length = true := pzB_in (by omega)
          have z2 : lngB hx.length = true := lngB_in (by omega)
          obtain ⟨R, hR⟩ : ∃ R, R = parseP (bs hx) := ⟨_, rfl⟩
          simp only [push_cast, Nat.reduceAdd, Nat.reduceSub, Nat.reduceMul, Nat.reduceLT, Nat.reduceLeDiff, Nat.reduceEqDiff, Nat.reduceMod, Nat.reduceDiv, Int.reduceAdd, Int.reduceSub, Int.reduceMul, Int.reduceLT, Int.reduceLE, Int.reduceEq, Int.reduceNeg, Int.reduceToNat, reduceIte, reduceCtorEq, Int.reduceBEq, Int.reduceBNe, Bool.true_beq, Bool.false_beq, Bool.true_bne, Bool.false_bne, Bool.not_true, Bool.not_false]
          refine regO gAll_ok ?_
          simp only [push_cast, Nat.reduceAdd, Nat.reduceSub, Nat.reduceMul, Nat.reduceLT, Nat.reduceLeDiff, Nat.reduceEqDiff, Nat.reduceMod, Nat.reduceDiv, Int.reduceAdd, Int.reduceSub, Int.reduceMul, Int.reduceLT, Int.reduceLE, Int.reduceEq, Int.reduceNeg, Int.reduceToNat, reduceIte, reduceCtorEq, Int.reduceBEq, Int.reduceBNe, Bool.true_beq, Bool.false_beq, Bool.true_bne, Bool.false_bne, Bool.not_true, Bool.not_false, bs_size, z1, ← hR]
          intro b24 hb24
          refine regO gAll_ok ?_
          simp only [push_cast, Nat.reduceAdd, Nat.reduceSub, Nat.reduceMul, Nat.reduceLT, Nat.reduceLeDiff, Nat.reduceEqDiff, Nat.reduceMod, Nat.reduceDiv, Int.reduceAdd, Int.reduceSub, Int.reduceMul, Int.reduceLT, Int.reduceLE, Int.reduceEq, Int.reduceNeg, Int.reduceToNat, reduceIte, reduceCtorEq, Int.reduceBEq, Int.reduceBNe, Bool.true_beq, Bool.false_beq, Bool.true_bne, Bool.false_bne, Bool.not_true, Bool.not_false, hb24, bs_size, z1, ← hR]
          intro b26 hb26
          refine regO gAll_ok ?_
          simp only [push_cast, Nat.reduceAdd, Nat.reduceSub, Nat.reduceMul, Nat.reduceLT, Nat.reduceLeDiff, Nat.reduceEqDiff, Nat.reduceMod, Nat.reduceDiv, Int.reduceAdd, Int.reduceSub, Int.reduceMul, Int.reduceLT, Int.reduceLE, Int.reduceEq, Int.reduceNeg, Int.reduceToNat, reduceIte, reduceCtorEq, Int.reduceBEq, Int.reduceBNe, Bool.true_beq, Bool.false_beq, Bool.true_bne, Bool.false_bne, Bool.not_true, Bool.not_false, hb24, hb26, bs_size, z2, decide_true, bne_self_eq_false]
          exact ⟨2, by omega, by omega, rfl⟩
        · have z1 : pzB x3.length = true := pzB_in (by omega)
          have z2 : lngB x3.length = true := lngB_in (by omega)
          obtain ⟨R, hR⟩ : ∃ R, R = parseP (bs x3) := ⟨_, rfl⟩
          simp only [push_cast, Nat.reduceAdd, Nat.reduceSub, Nat.reduceMul, Nat.reduceLT, Nat.reduceLeDiff, Nat.reduceEqDiff, Nat.reduceMod, Nat.reduceDiv, Int.reduceAdd, Int.reduceSub, Int.reduceMul, Int.reduceLT, Int.reduceLE, Int.reduceEq, Int.reduceNeg, Int.reduceToNat, reduceIte, reduceCtorEq, Int.reduceBEq, Int.reduceBNe, Bool.true_beq, Bool.false_beq, Bool.true_bne, Bool.false_bne, Bool.not_true, Bool.not_false]
          refine regO gAll_ok ?_
          simp only [push_cast, Nat.reduceAdd, Nat.reduceSub, Nat.reduceMul, Nat.reduceLT, Nat.reduceLeDiff, Nat.reduceEqDiff, Nat.reduceMod, Nat.reduceDiv, Int.reduceAdd, Int.reduceSub, Int.reduceMul, Int.reduceLT, Int.reduceLE, Int.reduceEq, Int.reduceNeg, Int.reduceToNat, reduceIte, reduceCtorEq, Int.reduceBEq, Int.reduceBNe, Bool.true_beq, Bool.false_beq, Bool.true_bne, Bool.false_bne, Bool.not_true, Bool.not_false, bs_size, z1, ← hR]
          intro b24 hb24
          refine regO gAll_ok ?_
          simp only [push_cast, Nat.reduceAdd, Nat.reduceSub, Nat.reduceMul, Nat.reduceLT, Nat.reduceLeDiff, Nat.reduceEqDiff, Nat.reduceMod, Nat.reduceDiv, Int.reduceAdd, Int.reduceSub, Int.reduceMul, Int.reduceLT, Int.reduceLE, Int.reduceEq, Int.reduceNeg, Int.reduceToNat, reduceIte, reduceCtorEq, Int.reduceBEq, Int.reduceBNe, Bool.true_beq, Bool.false_beq, Bool.true_bne, Bool.false_bne, Bool.not_true, Bool.not_false, hb24, bs_size, z1, ← hR]
          intro b26 hb26
          refine regO gAll_ok ?_
          simp only [push_cast, Nat.reduceAdd, Nat.reduceSub, Nat.reduceMul, Nat.reduceLT, Nat.reduceLeDiff, Nat.reduceEqDiff, Nat.reduceMod, Nat.reduceDiv, Int.reduceAdd, Int.reduceSub, Int.reduceMul, Int.reduceLT, Int.reduceLE, Int.reduceEq, Int.reduceNeg, Int.reduceToNat, reduceIte, reduceCtorEq, Int.reduceBEq, Int.reduceBNe, Bool.true_beq, Bool.false_beq, Bool.true_bne, Bool.false_bne, Bool.not_true, Bool.not_false, hb24, hb26, bs_size, z2, decide_true, bne_self_eq_false]
          exact ⟨3, by omega, by omega, rfl⟩
        · have z1 : pzB x4.length = true := pzB_in (by omega)
          have z2 : lngB x4.length = true := lngB_in (by omega)
          obtain ⟨R, hR⟩ : ∃ R, R = parseP (bs x4) := ⟨_, rfl⟩
          simp only [push_cast, Nat.reduceAdd, Nat.reduceSub, Nat.reduceMul, Nat.reduceLT, Nat.reduceLeDiff, Nat.reduceEqDiff, Nat.reduceMod, Nat.reduceDiv, Int.reduceAdd, Int.reduceSub, Int.reduceMul, Int.reduceLT, Int.reduceLE, Int.reduceEq, Int.reduceNeg, Int.reduceToNat, reduceIte, reduceCtorEq, Int.reduceBEq, Int.reduceBNe, Bool.true_beq, Bool.false_beq, Bool.true_bne, Bool.false_bne, Bool.not_true, Bool.not_false]
          refine regO gAll_ok ?_
          simp only [push_cast, Nat.reduceAdd, Nat.reduceSub, Nat.reduceMul, Nat.reduceLT, Nat.reduceLeDiff, Nat.reduceEqDiff, Nat.reduceMod, Nat.reduceDiv, Int.reduceAdd, Int.reduceSub, Int.reduceMul, Int.reduceLT, Int.reduceLE, Int.reduceEq, Int.reduceNeg, Int.reduceToNat, reduceIte, reduceCtorEq, Int.reduceBEq, Int.reduceBNe, Bool.true_beq, Bool.false_beq, Bool.true_bne, Bool.false_bne, Bool.not_true, Bool.not_false, bs_size, z1, ← hR]
          intro b24 hb24
          refine regO gAll_ok ?_
          simp only [push_cast, Nat.reduceAdd, Nat.reduceSub, Nat.reduceMul, Nat.reduceLT, Nat.reduceLeDiff, Nat.reduceEqDiff, Nat.reduceMod, Nat.reduceDiv, Int.reduceAdd, Int.reduceSub, Int.reduceMul, Int.reduceLT, Int.reduceLE, Int.reduceEq, Int.reduceNeg, Int.reduceToNat, reduceIte, reduceCtorEq, Int.reduceBEq, Int.reduceBNe, Bool.true_beq, Bool.false_beq, Bool.true_bne, Bool.false_bne, Bool.not_true, Bool.not_false, hb24, bs_size, z1, ← hR]
          intro b26 hb26
          refine regO gAll_ok ?_
          simp only [push_cast, Nat.reduceAdd, Nat.reduceSub, Nat.reduceMul, Nat.reduceLT, Nat.reduceLeDiff, Nat.reduceEqDiff, Nat.reduceMod, Nat.reduceDiv, Int.reduceAdd, Int.reduceSub, Int.reduceMul, Int.reduceLT, Int.reduceLE, Int.reduceEq, Int.reduceNeg, Int.reduceToNat, reduceIte, reduceCtorEq, Int.reduceBEq, Int.reduceBNe, Bool.true_beq, Bool.false_beq, Bool.true_bne, Bool.false_bne, Bool.not_true, Bool.not_false, hb24, hb26, bs_size, z2, decide_true, bne_self_eq_false]
          exact ⟨4, by omega, by omega, rfl⟩
        · simp only [push_cast, Nat.reduceAdd, Nat.reduceSub, Nat.reduceMul, Nat.reduceLT, Nat.reduceLeDiff, Nat.reduceEqDiff, Nat.reduceMod, Nat.reduceDiv, Int.reduceAdd, Int.reduceSub, Int.reduceMul, Int.reduceLT, Int.reduceLE, Int.reduceEq, Int.reduceNeg, Int.reduceToNat, reduceIte, reduceCtorEq, Int.reduceBEq, Int.reduceBNe, Bool.true_beq, Bool.false_beq, Bool.true_bne, Bool.false_bne, Bool.not_true, Bool.not_false]
end Go.Proofs.YtndioekjgmbomaaDoor
