/- Su: MemoryTells. -/
import Derived.Test.YtcglhlmajgpglaaSt
set_option linter.unusedSimpArgs false
set_option linter.unusedVariables false
namespace Go.Ev
attribute [push_cast] beq_self_eq_true bne_self_eq_false Bool.not_true Bool.not_false
theorem pair_allM (x y : W) : (x.cells ++ y.cells).all oneC = true := rfl
end Go.Ev
namespace Go.Proofs.Ytcglhlmajgpglaa
open Go Go.Ev Go.Proofs
set_option maxRecDepth 100000
set_option maxHeartbeats 4000000
def plU : Plans := fun i => if i = 1 then [(0, 9)] else if i = 5 then [(0, 9)] else if i = 10 then [(0, 9)] else if i = 30 then [(0, 9)] else if i = 31 then [(0, 9)] else Try.pl6 i
attribute [push_cast] plU
theorem memoryTells0 (s : ByteArray) (words at_ n : Int) (a b : W) (put : ByteArray) (h1 : i64In words) (h2 : i64In at_) (h3 : i64In n) : CallsV Try.prog 6 [.string s, .int .i64 words, .int .i64 at_, .int .i64 n, a.v, b.v, .string put] [] (Ret0 (.bool true)) := by
  obtain ⟨l, rfl⟩ := bs_of s
  have j1 := i64B_in h1
  have j2 := i64B_in h2
  have j3 := i64B_in h3
  have k1 : i64B 40000 = true := i64B_in (by decide)
  have k2 : posB 40000 = true := posB_in (by decide)
  have k3 : i64B 1048576 = true := i64B_in (by decide)
  have k4 : posB 1048576 = true := posB_in (by decide)
  have k5 : i64B 40 = true := i64B_in (by decide)
  have k6 : posB 40 = true := posB_in (by decide)
  have k7 : i64B 600 = true := i64B_in (by decide)
  have k8 : posB 600 = true := posB_in (by decide)
  have k9 : i64B 100 = true := i64B_in (by decide)
  have k10 : posB 100 = true := posB_in (by decide)
  have p1 := pickN_lt at_ (n := 1048576) (by decide)
  have p2 := pickN_lt n (n := 1048576) (by decide)
  have p3 := pickN_lt at_ (n := 600) (by decide)
  have p4 := pickN_lt n (n := 100) (by decide)
  obtain ⟨A, hA⟩ : ∃ A, A = pickN at_ 1048576 := ⟨_, rfl⟩
  obtain ⟨N, hN⟩ : ∃ A, A = pickN n 1048576 := ⟨_, rfl⟩
  obtain ⟨A6, hA6⟩ : ∃ A, A = pickN at_ 600 := ⟨_, rfl⟩
  obtain ⟨N1, hN1⟩ : ∃ A, A = pickN n 100 := ⟨_, rfl⟩
  rw [← hA] at p1
  rw [← hN] at p2
  rw [← hA6] at p3
  rw [← hN1] at p4
  have jA : i64B (A : Int) = true := i64B_in ⟨by omega, by omega⟩
  have jN : i64B (N : Int) = true := i64B_in ⟨by omega, by omega⟩
  have jA6 : i64B (A6 : Int) = true := i64B_in ⟨by omega, by omega⟩
  have jN1 : i64B (N1 : Int) = true := i64B_in ⟨by omega, by omega⟩
  refine callsO gO_ok Try.mix plU Try.func6 rfl Try.ntmps6 Try.results6 rfl (by first | rfl | assumption) (Nat.le_of_ble_eq_true rfl) (by kernel_rfl) ?_
  simp only [push_cast, Nat.reduceAdd, Nat.reduceSub, Nat.reduceMul, Nat.reduceLT, Nat.reduceLeDiff, Nat.reduceEqDiff, Nat.reduceMod, Nat.reduceDiv, Int.reduceAdd, Int.reduceSub, Int.reduceMul, Int.reduceLT, Int.reduceLE, Int.reduceEq, Int.reduceNeg, Int.reduceToNat, reduceIte, reduceCtorEq]
  intro b11 b12 hb12
  refine regO gO_ok ?_
  refine (fun rest => ?main : ((x : List UInt8) → (T : Tm) → subT T [(1, .int .i64 words), (2, .int .i64 at_), (3, .int .i64 n), (6, .string put), (11, .pointer (some ⟨b11, 0, none⟩)), (12, .pointer (some ⟨b12, 0, none⟩)), (14, .bool false), (15, .bool true), (16, .string (bs x))] → WpV Try.prog none 340 (.region 5 ?o false) ?K T [⟨b12, 0, .cel 32, b.cells⟩, ⟨b11, 0, .cel 32, a.cells⟩]) → _) ?rest
  case main =>
    by_cases hx : (800 : Int) < (l.length : Int)
    · have hx1 : (800 : Int) ≤ (l.length : Int) := by omega
      simp only [push_cast, Nat.reduceAdd, Nat.reduceSub, Nat.reduceMul, Nat.reduceLT, Nat.reduceLeDiff, Nat.reduceEqDiff, Nat.reduceMod, Nat.reduceDiv, Int.reduceAdd, Int.reduceSub, Int.reduceMul, Int.reduceLT, Int.reduceLE, Int.reduceEq, Int.reduceNeg, Int.reduceToNat, reduceIte, reduceCtorEq, hb12, hx, hx1]
      refine rest (List.take 800 l) _ ?_
      simp only [push_cast, Nat.reduceAdd, Nat.reduceSub, Nat.reduceMul, Nat.reduceLT, Nat.reduceLeDiff, Nat.reduceEqDiff, Nat.reduceMod, Nat.reduceDiv, Int.reduceAdd, Int.reduceSub, Int.reduceMul, Int.reduceLT, Int.reduceLE, Int.reduceEq, Int.reduceNeg, Int.reduceToNat, reduceIte, reduceCtorEq]
    · simp only [push_cast, Nat.reduceAdd, Nat.reduceSub, Nat.reduceMul, Nat.reduceLT, Nat.reduceLeDiff, Nat.reduceEqDiff, Nat.reduceMod, Nat.reduceDiv, Int.reduceAdd, Int.reduceSub, Int.reduceMul, Int.reduceLT, Int.reduceLE, Int.reduceEq, Int.reduceNeg, Int.reduceToNat, reduceIte, reduceCtorEq, hb12, hx]
      refine rest l _ ?_
      simp only [push_cast, Nat.reduceAdd, Nat.reduceSub, Nat.reduceMul, Nat.reduceLT, Nat.reduceLeDiff, Nat.reduceEqDiff, Nat.reduceMod, Nat.reduceDiv, Int.reduceAdd, Int.reduceSub, Int.reduceMul, Int.reduceLT, Int.reduceLE, Int.reduceEq, Int.reduceNeg, Int.reduceToNat, reduceIte, reduceCtorEq]
  case rest =>
    intro x T hT
    refine WpV.sub (s := (_, [⟨b12, 0, .cel 32, b.cells⟩, ⟨b11, 0, .cel 32, a.cells⟩])) ⟨hT, subH_self _, rfl⟩ (regO gO_ok ?_)
    simp only [push_cast, Nat.reduceAdd, Nat.reduceSub, Nat.reduceMul, Nat.reduceLT, Nat.reduceLeDiff, Nat.reduceEqDiff, Nat.reduceMod, Nat.reduceDiv, Int.reduceAdd, Int.reduceSub, Int.reduceMul, Int.reduceLT, Int.reduceLE, Int.reduceEq, Int.reduceNeg, Int.reduceToNat, reduceIte, reduceCtorEq, hb12, j1, j2, j3, k1, k2, k3, k4, ← hA, ← hN, jA, jN]
    intro bl hbl
    refine ⟨by simp only [push_cast, Nat.reduceAdd, Nat.reduceSub, Nat.reduceMul, Nat.reduceLT, Nat.reduceLeDiff, Nat.reduceEqDiff, Nat.reduceMod, Nat.reduceDiv, Int.reduceAdd, Int.reduceSub, Int.reduceMul, Int.reduceLT, Int.reduceLE, Int.reduceEq, Int.reduceNeg, Int.reduceToNat, reduceIte, reduceCtorEq, hb12, hbl], ?_⟩
    obtain ⟨L, hL⟩ : ∃ L, L = a.cells ++ (b.cells ++ ((ofW at_).cells ++ ((ofW n).cells ++ ((ofW (A : Int)).cells ++ (ofW (N : Int)).cells)))) := ⟨_, rfl⟩
    have hl : L.length = 24 := by rw [hL]; rfl
    have d0 : List.take 8 L = a.cells ++ b.cells := by rw [hL]; rfl
    have d1 : List.take 8 (List.drop 8 L) = (ofW at_).cells ++ (ofW n).cells := by rw [hL]; rfl
    have d2 : List.take 8 (List.drop 16 L) = (ofW (A : Int)).cells ++ (ofW (N : Int)).cells := by rw [hL]; rfl
    refine loopO gO_ok (pl := plU) Try.mix (X := Nat)
      (fun i => ([(1, .int .i64 words), (2, .int .i64 at_), (3, .int .i64 n), (6, .string put), (11, .pointer (some ⟨b11, 0, none⟩)), (14, .bool false), (15, .bool true), (16, .string (bs x)), (73, .slice (some ⟨bl, 0, none⟩) 3 3), (74, .int .i64 3), (75, .int .i64 i)],
        [⟨bl, 0, .vec 40 8 3, L⟩, ⟨b11, 0, .cel 32, a.cells⟩]))
      (fun i => i ≤ 3) (fun i => 3 - i) 0 ?_ ?_ (by kernel_rfl) ?_
    · exact Nat.zero_le _
    · rw [hL]
      simp only [push_cast, Nat.reduceAdd, Nat.reduceSub, Nat.reduceMul, Nat.reduceLT, Nat.reduceLeDiff, Nat.reduceEqDiff, Nat.reduceMod, Nat.reduceDiv, Int.reduceAdd, Int.reduceSub, Int.reduceMul, Int.reduceLT, Int.reduceLE, Int.reduceEq, Int.reduceNeg, Int.reduceToNat, reduceIte, reduceCtorEq, hb12, hbl]
    · intro i hi
      dsimp only at hi ⊢
      obtain rfl | rfl | rfl | rfl : i = 0 ∨ i = 1 ∨ i = 2 ∨ i = 3 := by omega
      · simp only [push_cast, Nat.reduceAdd, Nat.reduceSub, Nat.reduceMul, Nat.reduceLT, Nat.reduceLeDiff, Nat.reduceEqDiff, Nat.reduceMod, Nat.reduceDiv, Int.reduceAdd, Int.reduceSub, Int.reduceMul, Int.reduceLT, Int.reduceLE, Int.reduceEq, Int.reduceNeg, Int.reduceToNat, reduceIte, reduceCtorEq, hbl, hl, d0, pair_allM]
        intro b9 hb9
        refine regO gO_ok ?_
        simp only [push_cast, Nat.reduceAdd, Nat.reduceSub, Nat.reduceMul, Nat.reduceLT, Nat.reduceLeDiff, Nat.reduceEqDiff, Nat.reduceMod, Nat.reduceDiv, Int.reduceAdd, Int.reduceSub, Int.reduceMul, Int.reduceLT, Int.reduceLE, Int.reduceEq, Int.reduceNeg, Int.reduceToNat, reduceIte, reduceCtorEq, hbl, hb9]
        exact ⟨1, by omega, by omega, rfl⟩
      · simp only [push_cast, Nat.reduceAdd, Nat.reduceSub, Nat.reduceMul, Nat.reduceLT, Nat.reduceLeDiff, Nat.reduceEqDiff, Nat.reduceMod, Nat.reduceDiv, Int.reduceAdd, Int.reduceSub, Int.reduceMul, Int.reduceLT, Int.reduceLE, Int.reduceEq, Int.reduceNeg, Int.reduceToNat, reduceIte, reduceCtorEq, hbl, hl, d1, pair_allM]
        intro b9 hb9
        refine regO gO_ok ?_
        simp only [push_cast, Nat.reduceAdd, Nat.reduceSub, Nat.reduceMul, Nat.reduceLT, Nat.reduceLeDiff, Nat.reduceEqDiff, Nat.reduceMod, Nat.reduceDiv, Int.reduceAdd, Int.reduceSub, Int.reduceMul, Int.reduceLT, Int.reduceLE, Int.reduceEq, Int.reduceNeg, Int.reduceToNat, reduceIte, reduceCtorEq, hbl, hb9]
        exact ⟨2, by omega, by omega, rfl⟩
      · simp only [push_cast, Nat.reduceAdd, Nat.reduceSub, Nat.reduceMul, Nat.reduceLT, Nat.reduceLeDiff, Nat.reduceEqDiff, Nat.reduceMod, Nat.reduceDiv, Int.reduceAdd, Int.reduceSub, Int.reduceMul, Int.reduceLT, Int.reduceLE, Int.reduceEq, Int.reduceNeg, Int.reduceToNat, reduceIte, reduceCtorEq, hbl, hl, d2, pair_allM]
        intro b9 hb9
        refine regO gO_ok ?_
        simp only [push_cast, Nat.reduceAdd, Nat.reduceSub, Nat.reduceMul, Nat.reduceLT, Nat.reduceLeDiff, Nat.reduceEqDiff, Nat.reduceMod, Nat.reduceDiv, Int.reduceAdd, Int.reduceSub, Int.reduceMul, Int.reduceLT, Int.reduceLE, Int.reduceEq, Int.reduceNeg, Int.reduceToNat, reduceIte, reduceCtorEq, hbl, hb9]
        exact ⟨3, by omega, by omega, rfl⟩
      · obtain ⟨Y, hY⟩ : ∃ Y, Y = memL x (32 * pickN words 17) := ⟨_, rfl⟩
        simp only [push_cast, Nat.reduceAdd, Nat.reduceSub, Nat.reduceMul, Nat.reduceLT, Nat.reduceLeDiff, Nat.reduceEqDiff, Nat.reduceMod, Nat.reduceDiv, Int.reduceAdd, Int.reduceSub, Int.reduceMul, Int.reduceLT, Int.reduceLE, Int.reduceEq, Int.reduceNeg, Int.reduceToNat, reduceIte, reduceCtorEq, hbl, hl, j1, j2, j3, ← hY]
        intro b2 hb2
        obtain ⟨L2, hL2⟩ : ∃ L : List Value, L = [.string (bs x), .string (bs Y)] := ⟨_, rfl⟩
        have hl2 : L2.length = 2 := by rw [hL2]; rfl
        have hm2 : ∀ j, j < 2 → ∃ m, List.take 1 (List.drop j L2) = [.string (bs m)] := fun j hj => by
          obtain rfl | rfl : j = 0 ∨ j = 1 := by omega
          · exact ⟨x, by rw [hL2]; rfl⟩
          · exact ⟨Y, by rw [hL2]; rfl⟩
        refine loopO gO_ok (pl := plU) Try.mix (X := Nat)
          (fun j => ([(2, .int .i64 at_), (3, .int .i64 n), (6, .string put), (11, .pointer (some ⟨b11, 0, none⟩)), (14, .bool false), (15, .bool true), (108, .slice (some ⟨b2, 0, none⟩) 2 2), (109, .int .i64 2), (110, .int .i64 j)],
            [⟨b2, 0, .vec 9 1 2, L2⟩, ⟨b11, 0, .cel 32, a.cells⟩]))
          (fun j => j ≤ 2) (fun j => 2 - j) 0 ?_ ?_ (by kernel_rfl) ?_
        · exact Nat.zero_le _
        · rw [hL2]
          simp only [push_cast, Nat.reduceAdd, Nat.reduceSub, Nat.reduceMul, Nat.reduceLT, Nat.reduceLeDiff, Nat.reduceEqDiff, Nat.reduceMod, Nat.reduceDiv, Int.reduceAdd, Int.reduceSub, Int.reduceMul, Int.reduceLT, Int.reduceLE, Int.reduceEq, Int.reduceNeg, Int.reduceToNat, reduceIte, reduceCtorEq, hbl, hb2]
        · intro j hj
          dsimp only at hj ⊢
          rcases Nat.lt_or_ge j 2 with hj2 | hj2
          · have c1 : (j : Int) < 2 := by omega
            have c2 : j ≤ 1 := by omega
            obtain ⟨m, hm⟩ := hm2 j hj2
            simp only [push_cast, Nat.reduceAdd, Nat.reduceSub, Nat.reduceMul, Nat.reduceLT, Nat.reduceLeDiff, Nat.reduceEqDiff, Nat.reduceMod, Nat.reduceDiv, Int.reduceAdd, Int.reduceSub, Int.reduceMul, Int.reduceLT, Int.reduceLE, Int.reduceEq, Int.reduceNeg, Int.reduceToNat, reduceIte, reduceCtorEq, c1, c2, hl2, hm, hb2, j3, k5, k6, j2, k7, k8, ← hA6]
            intro b3 hb3
            obtain ⟨L3, hL3⟩ : ∃ L : List Value, L = [.int .i64 at_, .int .i64 (A6 : Int)] := ⟨_, rfl⟩
            have hl3 : L3.length = 2 := by rw [hL3]; rfl
            have hm3 : ∀ j, j < 2 → ∃ k, List.take 1 (List.drop j L3) = [.int .i64 k] ∧ i64B k = true := fun j hj => by
              obtain rfl | rfl : j = 0 ∨ j = 1 := by omega
              · exact ⟨at_, by rw [hL3]; rfl, j2⟩
              · exact ⟨A6, by rw [hL3]; rfl, jA6⟩
            refine loopO gO_ok (pl := plU) Try.mix (X := Nat)
              (fun q => ([(2, .int .i64 at_), (3, .int .i64 n), (6, .string put), (11, .pointer (some ⟨b11, 0, none⟩)), (14, .bool false), (15, .bool true), (108, .slice (some ⟨b2, 0, none⟩) 2 2), (109, .int .i64 2), (110, .int .i64 j), (24, .string (bs m)), (161, .slice (some ⟨b3, 0, none⟩) 2 2), (162, .int .i64 2), (163, .int .i64 q)],
                [⟨b3, 0, .vec 3 1 2, L3⟩, ⟨b2, 0, .vec 9 1 2, L2⟩, ⟨b11, 0, .cel 32, a.cells⟩]))
              (fun j => j ≤ 2) (fun j => 2 - j) 0 ?_ ?_ (by kernel_rfl) ?_
            · exact Nat.zero_le _
            · rw [hL3]
              simp only [push_cast, Nat.reduceAdd, Nat.reduceSub, Nat.reduceMul, Nat.reduceLT, Nat.reduceLeDiff, Nat.reduceEqDiff, Nat.reduceMod, Nat.reduceDiv, Int.reduceAdd, Int.reduceSub, Int.reduceMul, Int.reduceLT, Int.reduceLE, Int.reduceEq, Int.reduceNeg, Int.reduceToNat, reduceIte, reduceCtorEq, hb2, hb3]
            · intro q hq
              dsimp only at hq ⊢
              rcases Nat.lt_or_ge q 2 with hq2 | hq2
              · have c3 : (q : Int) < 2 := by omega
                have c4 : q ≤ 1 := by omega
                obtain ⟨k, hk, jk⟩ := hm3 q hq2
                simp only [push_cast, Nat.reduceAdd, Nat.reduceSub, Nat.reduceMul, Nat.reduceLT, Nat.reduceLeDiff, Nat.reduceEqDiff, Nat.reduceMod, Nat.reduceDiv, Int.reduceAdd, Int.reduceSub, Int.reduceMul, Int.reduceLT, Int.reduceLE, Int.reduceEq, Int.reduceNeg, Int.reduceToNat, reduceIte, reduceCtorEq, c3, c4, hl3, hk, hb2, hb3]
                intro b31 hb31
                refine regO gO_ok ?_
                simp only [push_cast, Nat.reduceAdd, Nat.reduceSub, Nat.reduceMul, Nat.reduceLT, Nat.reduceLeDiff, Nat.reduceEqDiff, Nat.reduceMod, Nat.reduceDiv, Int.reduceAdd, Int.reduceSub, Int.reduceMul, Int.reduceLT, Int.reduceLE, Int.reduceEq, Int.reduceNeg, Int.reduceToNat, reduceIte, reduceCtorEq, hb2, hb3, hb31]
                intro b33 hb33
                refine regO gO_ok ?_
                simp only [push_cast, Nat.reduceAdd, Nat.reduceSub, Nat.reduceMul, Nat.reduceLT, Nat.reduceLeDiff, Nat.reduceEqDiff, Nat.reduceMod, Nat.reduceDiv, Int.reduceAdd, Int.reduceSub, Int.reduceMul, Int.reduceLT, Int.reduceLE, Int.reduceEq, Int.reduceNeg, Int.reduceToNat, reduceIte, reduceCtorEq, hb2, hb3, hb31, hb33, j3, k9, k10, ← hN1]
                intro b4 hb4
                obtain ⟨L4, hL4⟩ : ∃ L : List Value, L = [.int .i64 n, .int .i64 (N1 : Int)] := ⟨_, rfl⟩
                have hl4 : L4.length = 2 := by rw [hL4]; rfl
                have hm4 : ∀ j, j < 2 → ∃ k, List.take 1 (List.drop j L4) = [.int .i64 k] ∧ i64B k = true := fun j hj => by
                  obtain rfl | rfl : j = 0 ∨ j = 1 := by omega
                  · exact ⟨n, by rw [hL4]; rfl, j3⟩
                  · exact ⟨N1, by rw [hL4]; rfl, jN1⟩
                refine loopO gO_ok (pl := plU) Try.mix (X := Nat)
                  (fun r => ([(2, .int .i64 at_), (3, .int .i64 n), (6, .string put), (11, .pointer (some ⟨b11, 0, none⟩)), (14, .bool false), (15, .bool true), (108, .slice (some ⟨b2, 0, none⟩) 2 2), (109, .int .i64 2), (110, .int .i64 j), (24, .string (bs m)), (161, .slice (some ⟨b3, 0, none⟩) 2 2), (162, .int .i64 2), (163, .int .i64 q), (30, .int .i64 k), (258, .slice (some ⟨b4, 0, none⟩) 2 2), (259, .int .i64 2), (260, .int .i64 r)],
                    [⟨b4, 0, .vec 3 1 2, L4⟩, ⟨b3, 0, .vec 3 1 2, L3⟩, ⟨b2, 0, .vec 9 1 2, L2⟩, ⟨b11, 0, .cel 32, a.cells⟩]))
                  (fun j => j ≤ 2) (fun j => 2 - j) 0 ?_ ?_ (by kernel_rfl) ?_
                · exact Nat.zero_le _
                · rw [hL4]
                  simp only [push_cast, Nat.reduceAdd, Nat.reduceSub, Nat.reduceMul, Nat.reduceLT, Nat.reduceLeDiff, Nat.reduceEqDiff, Nat.reduceMod, Nat.reduceDiv, Int.reduceAdd, Int.reduceSub, Int.reduceMul, Int.reduceLT, Int.reduceLE, Int.reduceEq, Int.reduceNeg, Int.reduceToNat, reduceIte, reduceCtorEq, hb2, hb3, hb31, hb33, hb4]
                · intro r hr
                  dsimp only at hr ⊢
                  rcases Nat.lt_or_ge r 2 with hr2 | hr2
                  · have c5 : (r : Int) < 2 := by omega
                    have c6 : r ≤ 1 := by omega
                    obtain ⟨i, hi4, ji⟩ := hm4 r hr2
                    simp only [push_cast, Nat.reduceAdd, Nat.reduceSub, Nat.reduceMul, Nat.reduceLT, Nat.reduceLeDiff, Nat.reduceEqDiff, Nat.reduceMod, Nat.reduceDiv, Int.reduceAdd, Int.reduceSub, Int.reduceMul, Int.reduceLT, Int.reduceLE, Int.reduceEq, Int.reduceNeg, Int.reduceToNat, reduceIte, reduceCtorEq, c5, c6, hl4, hi4, jk, hb2, hb3, hb4, wrap_i64' (show -9223372036854775808 ≤ (r : Int) + 1 ∧ (r : Int) + 1 ≤ 9223372036854775807 by omega)]
                    exact ⟨r + 1, by omega, by omega, rfl⟩
                  · obtain rfl : r = 2 := by omega
                    simp only [push_cast, Nat.reduceAdd, Nat.reduceSub, Nat.reduceMul, Nat.reduceLT, Nat.reduceLeDiff, Nat.reduceEqDiff, Nat.reduceMod, Nat.reduceDiv, Int.reduceAdd, Int.reduceSub, Int.reduceMul, Int.reduceLT, Int.reduceLE, Int.reduceEq, Int.reduceNeg, Int.reduceToNat, reduceIte, reduceCtorEq, hb2, hb3, hb4, j3, k9, k10, ← hN1, wrap_i64' (show -9223372036854775808 ≤ (q : Int) + 1 ∧ (q : Int) + 1 ≤ 9223372036854775807 by omega)]
                    exact ⟨q + 1, by omega, by omega, rfl⟩
              · obtain rfl : q = 2 := by omega
                simp only [push_cast, Nat.reduceAdd, Nat.reduceSub, Nat.reduceMul, Nat.reduceLT, Nat.reduceLeDiff, Nat.reduceEqDiff, Nat.reduceMod, Nat.reduceDiv, Int.reduceAdd, Int.reduceSub, Int.reduceMul, Int.reduceLT, Int.reduceLE, Int.reduceEq, Int.reduceNeg, Int.reduceToNat, reduceIte, reduceCtorEq, c1, c2, hl2, hb2, hb3, Nat.lt_irrefl, wrap_i64' (show -9223372036854775808 ≤ (j : Int) + 1 ∧ (j : Int) + 1 ≤ 9223372036854775807 by omega)]
                exact ⟨j + 1, by omega, by omega, rfl⟩
          · obtain rfl : j = 2 := by omega
            simp only [push_cast, Nat.reduceAdd, Nat.reduceSub, Nat.reduceMul, Nat.reduceLT, Nat.reduceLeDiff, Nat.reduceEqDiff, Nat.reduceMod, Nat.reduceDiv, Int.reduceAdd, Int.reduceSub, Int.reduceMul, Int.reduceLT, Int.reduceLE, Int.reduceEq, Int.reduceNeg, Int.reduceToNat, reduceIte, reduceCtorEq, hb2]
theorem memoryTells_ok {H : Hp} {s : ByteArray} {words at_ n : Int} {a b : W} {put : ByteArray} (hm : marksOf H = []) (hs : s.size ≤ maxLen) (h1 : i64In words) (h2 : i64In at_) (h3 : i64In n) (hp : put.size ≤ maxLen) : CallsV Try.prog 6 [.string s, .int .i64 words, .int .i64 at_, .int .i64 n, a.v, b.v, .string put] H (Ret0 (.bool true)) := (memoryTells0 s words at_ n a b put h1 h2 h3).onto hm
end Go.Proofs.Ytcglhlmajgpglaa
