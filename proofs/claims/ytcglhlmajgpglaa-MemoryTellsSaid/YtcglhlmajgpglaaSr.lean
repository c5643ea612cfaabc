/- Sr: MemoryGrows. -/
import Derived.Test.YtcglhlmajgpglaaSq
set_option linter.unusedSimpArgs false
set_option linter.unusedVariables false
namespace Go.Ev
attribute [push_cast] bne_self_eq_false beq_self_eq_true Bool.not_true Bool.not_false
theorem grow_bs {M : List UInt8} {x : Nat} (h1 : M.length ≤ 1048576) (h2 : M.length % 32 = 0) (hx : x ≤ 32768) : growP (bs M) (x : Int) = (bs (M ++ zeros (32 * x - M.length)), 0) := by
  unfold growP
  have e : (32 * (x : Int) - (M.length : Int)).toNat = 32 * x - M.length := by omega
  rw [bs_size, mayB_eq, if_pos ⟨decide_eq_true ⟨h1, h2⟩, by rw [withI_eq]; repeat' split <;> omega⟩, bs_data, e]
theorem zeros_add (a b : Nat) : zeros a ++ zeros b = zeros (a + b) := by unfold zeros; exact List.replicate_append_replicate
theorem cost_mono {a b : Nat} (h : a ≤ b) (hb : b ≤ 32768) : costI (a : Int) ≤ costI (b : Int) := by
  rw [cost_nat hb, cost_nat (by omega)]
  have := Nat.mul_le_mul h h
  generalize a * a = q at *
  generalize b * b = r at *
  omega
theorem min_len (l : List UInt8) (n : Int) (h0 : 0 ≤ n) : ∃ k : Nat, (if n < (l.length : Int) then n else (l.length : Int)) = (k : Int) ∧ k ≤ l.length ∧ (k : Int) ≤ n := by
  by_cases h : n < (l.length : Int)
  · exact ⟨n.toNat, by rw [if_pos h]; omega, by omega, by omega⟩
  · exact ⟨l.length, if_neg h, Nat.le_refl _, by omega⟩
theorem bs_idx {l : List UInt8} {i : Nat} (h : i < l.length) : (bs l).data[i]? = some l[i] := by
  unfold bs
  simp [h]
end Go.Ev
namespace Go.Proofs.Ytcglhlmajgpglaa
open Go Go.Ev Go.Proofs
set_option maxRecDepth 100000
set_option maxHeartbeats 4000000
def plG : Plans := fun i => if i = 8 then [(0, 9)] else Try.pl3 i
attribute [push_cast] plG
theorem memoryGrows0 (s : ByteArray) (w one two : Int) (hw : i64In w) (h1 : i64In one) (h2 : i64In two) : CallsV Try.prog 3 [.string s, .int .i64 w, .int .i64 one, .int .i64 two] [] (Ret0 (.bool true)) := by
  obtain ⟨l, rfl⟩ := bs_of s
  have j0 := i64B_in hw
  have j1 := i64B_in h1
  have j2 := i64B_in h2
  have j3 : i64B 60 = true := i64B_in (by decide)
  have q1 : posB 60 = true := posB_in (by decide)
  have hp := pickN_lt w (n := 17) (by decide)
  have hx := pickN_lt one (n := 60) (by decide)
  have hy := pickN_lt two (n := 60) (by decide)
  obtain ⟨k, hk, hkl, _⟩ := min_len l 40 (by decide)
  obtain ⟨p, ep⟩ : ∃ p, p = pickN w 17 := ⟨_, rfl⟩
  obtain ⟨x, ex⟩ : ∃ p, p = pickN one 60 := ⟨_, rfl⟩
  obtain ⟨y, ey⟩ : ∃ p, p = pickN two 60 := ⟨_, rfl⟩
  rw [← ep] at hp
  rw [← ex] at hx
  rw [← ey] at hy
  obtain ⟨M, hM⟩ : ∃ M, M = memL (List.take k l) (32 * p) := ⟨_, rfl⟩
  have hML : M.length = 32 * p := by rw [hM, memL_len]
  obtain ⟨A, hA⟩ : ∃ A, A = M ++ zeros (32 * x - M.length) := ⟨_, rfl⟩
  have hAL : A.length = if 32 * p ≤ 32 * x then 32 * x else 32 * p := by rw [hA, List.length_append, zeros_len]; split <;> omega
  obtain ⟨m, hm⟩ : ∃ m, m = if x ≤ y then y else x := ⟨_, rfl⟩
  obtain ⟨B, hB⟩ : ∃ B, B = M ++ zeros (32 * m - M.length) := ⟨_, rfl⟩
  have hAB : A ++ zeros (32 * y - A.length) = B := by
    rw [hA, hB, List.append_assoc, zeros_add, List.length_append, zeros_len, hm]
    congr 2
    split <;> omega
  have g1 : growP (bs M) (x : Int) = (bs A, 0) := by rw [hA]; exact grow_bs (by omega) (by omega) (by omega)
  have g2 : growP (bs A) (y : Int) = (bs B, 0) := by rw [← hAB]; exact grow_bs (by rw [hAL]; split <;> omega) (by rw [hAL]; split <;> omega) (by omega)
  have g3 : growP (bs M) (m : Int) = (bs B, 0) := by rw [hB]; exact grow_bs (by omega) (by omega) (by rw [hm]; split <;> omega)
  have em : (if x < y then (y : Int) else (x : Int)) = (m : Int) := by rw [hm]; split <;> split <;> omega
  obtain ⟨m', hm'⟩ : ∃ m, m = if x ≤ y then x else y := ⟨_, rfl⟩
  have em' : (if y < x then (y : Int) else (x : Int)) = (m' : Int) := by rw [hm']; split <;> split <;> omega
  have hc : costI (m' : Int) ≤ costI (m : Int) := cost_mono (by rw [hm, hm']; split <;> omega) (by rw [hm]; split <;> omega)
  obtain ⟨n1, en1⟩ : ∃ n : Nat, n = 32 * x := ⟨_, rfl⟩
  obtain ⟨n2, en2⟩ : ∃ n : Nat, n = 32 * y := ⟨_, rfl⟩
  have e1 : (32 : Int) * (x : Int) = (n1 : Int) := by omega
  have e2 : (32 : Int) * (y : Int) = (n2 : Int) := by omega
  have w1 := wrap_i64' (show -9223372036854775808 ≤ (n1 : Int) ∧ (n1 : Int) ≤ 9223372036854775807 by omega)
  have w2 := wrap_i64' (show -9223372036854775808 ≤ (n2 : Int) ∧ (n2 : Int) ≤ 9223372036854775807 by omega)
  have jn1 : i64B (n1 : Int) = true := i64B_in ⟨by omega, by omega⟩
  have jn2 : i64B (n2 : Int) = true := i64B_in ⟨by omega, by omega⟩
  have hAm : (if M.length < n1 then (n1 : Int) else (M.length : Int)) = (A.length : Int) := by rw [hAL]; split <;> split <;> omega
  have hpre : List.take M.length A = M := by rw [hA, List.take_left']; rfl
  have hMA : M.length ≤ A.length := by rw [hAL]; split <;> omega
  have hz : ∀ i, M.length ≤ i → i < A.length → (bs A).data[i]? = some 0 := by
    intro i h3 h4
    rw [bs_idx h4]
    congr 1
    subst hA
    rw [List.getElem_append_right h3]
    unfold zeros
    rw [List.getElem_replicate]
  have nd : needI (ofW (n1 : Int)) (ofW (n2 : Int)) = (if y = 0 then 0 else ((x + y : Nat) : Int), true) := by
    rw [need_nat (by omega) (by omega)]
    by_cases h0 : y = 0
    · rw [if_pos (by omega), if_pos h0]
    · rw [if_neg (by omega), if_pos (by omega), if_neg h0]
      congr 1
      omega
  have hAL2 : A.length ≤ 1900 := by rw [hAL]; split <;> omega
  refine callsO gO_ok Try.mix plG Try.func3 rfl Try.ntmps3 Try.results3 rfl (by first | rfl | assumption) (Nat.le_of_ble_eq_true rfl) (by kernel_rfl) ?_
  simp only [push_cast, Nat.reduceAdd, Nat.reduceSub, Nat.reduceMul, Nat.reduceLT, Nat.reduceLeDiff, Nat.reduceEqDiff, Nat.reduceMod, Nat.reduceDiv, Int.reduceAdd, Int.reduceSub, Int.reduceMul, Int.reduceLT, Int.reduceLE, Int.reduceEq, Int.reduceNeg, Int.reduceToNat, reduceIte, reduceCtorEq, j0, j1, j2, j3, q1, hk, hkl, ← ep, ← ex, ← ey, ← hM, g1, em, g2, g3]
  refine regO gO_ok ?_
  simp only [push_cast, Nat.reduceAdd, Nat.reduceSub, Nat.reduceMul, Nat.reduceLT, Nat.reduceLeDiff, Nat.reduceEqDiff, Nat.reduceMod, Nat.reduceDiv, Int.reduceAdd, Int.reduceSub, Int.reduceMul, Int.reduceLT, Int.reduceLE, Int.reduceEq, Int.reduceNeg, Int.reduceToNat, reduceIte, reduceCtorEq, beq_self_eq_true, Bool.not_true, e1, w1, hAm, hpre, hMA]
  refine loopO gO_ok (pl := plG) Try.mix (X := Nat)
    (fun i => ([(9, .bool true), (11, .int .i64 x), (12, .int .i64 y), (13, .string (bs A)), (19, .int .i64 i)], []))
    (fun i => M.length ≤ i ∧ i ≤ A.length) (fun i => A.length - i) M.length ?_ ?_ (by kernel_rfl) ?_
  · exact ⟨Nat.le_refl _, hMA⟩
  · simp only [push_cast, Nat.reduceAdd, Nat.reduceSub, Nat.reduceMul, Nat.reduceLT, Nat.reduceLeDiff, Nat.reduceEqDiff, Nat.reduceMod, Nat.reduceDiv, Int.reduceAdd, Int.reduceSub, Int.reduceMul, Int.reduceLT, Int.reduceLE, Int.reduceEq, Int.reduceNeg, Int.reduceToNat, reduceIte, reduceCtorEq]
  · rintro i ⟨hi, hi2⟩
    dsimp only
    by_cases hl : i < A.length
    · have hl2 : (i : Int) < (A.length : Int) := by omega
      have hzi := hz i hi hl
      simp only [push_cast, Nat.reduceAdd, Nat.reduceSub, Nat.reduceMul, Nat.reduceLT, Nat.reduceLeDiff, Nat.reduceEqDiff, Nat.reduceMod, Nat.reduceDiv, Int.reduceAdd, Int.reduceSub, Int.reduceMul, Int.reduceLT, Int.reduceLE, Int.reduceEq, Int.reduceNeg, Int.reduceToNat, reduceIte, reduceCtorEq, hl2, hl, hzi, wrap_i64' (show -9223372036854775808 ≤ (i : Int) + 1 ∧ (i : Int) + 1 ≤ 9223372036854775807 by omega)]
      exact ⟨i + 1, ⟨by omega, by omega⟩, by omega, rfl⟩
    · have hl2 : ¬ (i : Int) < (A.length : Int) := by omega
      by_cases h0 : y = 0
      · have hz1 : ((y : Int) == 0) = true := by rw [h0]; rfl
        rw [if_pos h0] at nd
        simp only [push_cast, Nat.reduceAdd, Nat.reduceSub, Nat.reduceMul, Nat.reduceLT, Nat.reduceLeDiff, Nat.reduceEqDiff, Nat.reduceMod, Nat.reduceDiv, Int.reduceAdd, Int.reduceSub, Int.reduceMul, Int.reduceLT, Int.reduceLE, Int.reduceEq, Int.reduceNeg, Int.reduceToNat, reduceIte, reduceCtorEq, hl2, hl, e1, e2, w1, w2, jn1, jn2, nd, em, em', hc, hz1]
      · have hz1 : ((y : Int) == 0) = false := beq_eq_false_iff_ne.2 (by omega)
        rw [if_neg h0] at nd
        obtain ⟨t, ht⟩ : ∃ t, t = x + y := ⟨_, rfl⟩
        rw [← ht] at nd
        have e3 : (x : Int) + (y : Int) = (t : Int) := by omega
        have w3 := wrap_i64' (show -9223372036854775808 ≤ (t : Int) ∧ (t : Int) ≤ 9223372036854775807 by omega)
        have hz2 : ((t : Int) == 0) = false := beq_eq_false_iff_ne.2 (by omega)
        simp only [push_cast, Nat.reduceAdd, Nat.reduceSub, Nat.reduceMul, Nat.reduceLT, Nat.reduceLeDiff, Nat.reduceEqDiff, Nat.reduceMod, Nat.reduceDiv, Int.reduceAdd, Int.reduceSub, Int.reduceMul, Int.reduceLT, Int.reduceLE, Int.reduceEq, Int.reduceNeg, Int.reduceToNat, reduceIte, reduceCtorEq, hl2, hl, e1, e2, w1, w2, jn1, jn2, nd, em, em', hc, hz1, e3, w3, hz2]
theorem memoryGrows_ok {H : Hp} {s : ByteArray} {w one two : Int} (hm : marksOf H = []) (hs : s.size ≤ maxLen) (hw : i64In w) (h1 : i64In one) (h2 : i64In two) : CallsV Try.prog 3 [.string s, .int .i64 w, .int .i64 one, .int .i64 two] H (Ret0 (.bool true)) := (memoryGrows0 s w one two hw h1 h2).onto hm
end Go.Proofs.Ytcglhlmajgpglaa
