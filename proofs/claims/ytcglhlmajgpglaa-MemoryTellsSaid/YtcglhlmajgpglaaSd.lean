/- Sd: memory: Slice, Grow, Copy. -/
import Derived.Test.YtcglhlmajgpglaaSc
set_option linter.unusedSimpArgs false
set_option linter.unusedVariables false
namespace Go.Ev
noncomputable def sliceP (b : ByteArray) (a n : Int) : ByteArray × Int := if thereB b.size a n then (bs ((b.data.toList.drop a.toNat).take n.toNat), 0) else (bs [], 1)
noncomputable def growP (b : ByteArray) (w : Int) : ByteArray × Int := if mayB b.size = true ∧ withI w 0 32768 = w then (bs (b.data.toList ++ zeros (32 * w - b.size).toNat), 0) else (b, 1)
noncomputable def copyP (b : ByteArray) (a : Int) (s : ByteArray) : ByteArray × Int := if thereB b.size a s.size then (bs (b.data.toList.take a.toNat ++ s.data.toList ++ b.data.toList.drop (a.toNat + s.size)), 0) else (b, 1)
noncomputable def sliceG : List Value → Option Value
  | [.string b, .int .i64 a, .int .i64 n] => some (.tuple #[.string (sliceP b a n).1, .int .i64 (sliceP b a n).2])
  | _ => none
noncomputable def growG : List Value → Option Value
  | [.string b, .int .i64 n] => some (.tuple #[.string (growP b n).1, .int .i64 (growP b n).2])
  | _ => none
noncomputable def copyG : List Value → Option Value
  | [.string b, .int .i64 a, .string s] => some (.tuple #[.string (copyP b a s).1, .int .i64 (copyP b a s).2])
  | _ => none
attribute [push_cast] sliceG growG copyG
theorem there_true {s : Nat} {a n : Int} (h : thereB s a n = true) : s ≤ 1048576 ∧ 0 ≤ n ∧ 0 ≤ a ∧ a ≤ s ∧ n ≤ s - a := by
  rw [thereB_eq, mayB_eq, Bool.and_eq_true, decide_eq_true_eq, decide_eq_true_eq] at h
  exact ⟨h.1.1, h.2⟩
theorem join2 (a b : ByteArray) : bytesL [a, b] = a.data.toList ++ b.data.toList := by simp [bytesL]
theorem join3 (a b c : ByteArray) : bytesL [a, b, c] = a.data.toList ++ b.data.toList ++ c.data.toList := by simp [bytesL]
end Go.Ev
namespace Go.Proofs.Ytcglhlmajgpglaa
open Go Go.Ev Go.Proofs
set_option maxRecDepth 100000
set_option maxHeartbeats 4000000
theorem slice_ok (b : ByteArray) (a n : Int) : CallsV Try.prog 17 [.string b, .int .i64 a, .int .i64 n] [] (Ret0 (.tuple #[.string (sliceP b a n).1, .int .i64 (sliceP b a n).2])) := by
  obtain ⟨l, rfl⟩ := bs_of b
  refine callsO gN_ok Try.mix Try.pl17 Try.func17 rfl Try.ntmps17 Try.results17 rfl (by first | rfl | assumption) (Nat.le_of_ble_eq_true rfl) (by kernel_rfl) ?_
  cases h : thereB (bs l).size a n
  · have e : sliceP (bs l) a n = (bs [], 1) := by unfold sliceP; rw [if_neg (by rw [h]; decide)]
    rw [bs_size] at h
    simp only [push_cast, Nat.reduceAdd, Nat.reduceSub, Nat.reduceMul, Nat.reduceLT, Nat.reduceLeDiff, Nat.reduceEqDiff, Nat.reduceMod, Nat.reduceDiv, Int.reduceAdd, Int.reduceSub, Int.reduceMul, Int.reduceLT, Int.reduceLE, Int.reduceEq, Int.reduceNeg, Int.reduceToNat, reduceIte, reduceCtorEq, h, e]
    rfl
  · have e : sliceP (bs l) a n = (bs ((l.drop a.toNat).take n.toNat), 0) := by unfold sliceP; rw [if_pos h, bs_data]
    rw [bs_size] at h
    have ht := there_true h
    obtain ⟨c, hc⟩ : ∃ c, c = a + n := ⟨_, rfl⟩
    have c0 : 0 ≤ c := by omega
    have c1 : c ≤ (l.length : Int) := by omega
    have c2 : a ≤ c := by omega
    have c3 : c.toNat - a.toNat = n.toNat := by omega
    have c4 : ¬ c < a := by omega
    have c5 : a ≤ (c.toNat : Int) := by omega
    simp only [push_cast, Nat.reduceAdd, Nat.reduceSub, Nat.reduceMul, Nat.reduceLT, Nat.reduceLeDiff, Nat.reduceEqDiff, Nat.reduceMod, Nat.reduceDiv, Int.reduceAdd, Int.reduceSub, Int.reduceMul, Int.reduceLT, Int.reduceLE, Int.reduceEq, Int.reduceNeg, Int.reduceToNat, reduceIte, reduceCtorEq, h, e, ← hc, wrap_i64' (show -9223372036854775808 ≤ c ∧ c ≤ 9223372036854775807 by omega), c0, c1, c2, c3, c4, c5, ht.1, ht.2.1, ht.2.2.1, ht.2.2.2.1]
theorem grow_ok (b : ByteArray) (w : Int) : CallsV Try.prog 11 [.string b, .int .i64 w] [] (Ret0 (.tuple #[.string (growP b w).1, .int .i64 (growP b w).2])) := by
  refine callsO gN_ok Try.mix Try.pl11 Try.func11 rfl Try.ntmps11 Try.results11 rfl (by first | rfl | assumption) (Nat.le_of_ble_eq_true rfl) (by kernel_rfl) ?_
  cases h : mayB b.size
  · have e : growP b w = (b, 1) := by unfold growP; rw [if_neg (by rw [h]; simp)]
    simp only [push_cast, Nat.reduceAdd, Nat.reduceSub, Nat.reduceMul, Nat.reduceLT, Nat.reduceLeDiff, Nat.reduceEqDiff, Nat.reduceMod, Nat.reduceDiv, Int.reduceAdd, Int.reduceSub, Int.reduceMul, Int.reduceLT, Int.reduceLE, Int.reduceEq, Int.reduceNeg, Int.reduceToNat, reduceIte, reduceCtorEq, h, e]
  · by_cases h2 : withI w 0 32768 = w
    · have e : growP b w = (bs (b.data.toList ++ zeros (32 * w - b.size).toNat), 0) := by unfold growP; rw [if_pos ⟨h, h2⟩]
      have hw : 0 ≤ w ∧ w ≤ 32768 := by rw [withI_eq] at h2; revert h2; repeat' split <;> omega
      rw [mayB_eq, decide_eq_true_eq] at h
      have h' : mayB b.size = true := by rw [mayB_eq, decide_eq_true_eq]; exact h
      obtain ⟨z, hz⟩ : ∃ z, z = w * 32 - (b.size : Int) := ⟨_, rfl⟩
      have hz2 : 32 * w - (b.size : Int) = z := by omega
      have nz : nB z = true := nB_in ⟨by omega, by omega⟩
      rw [hz2] at e
      have h3 : (w != w) = false := by simp
      have hm1 : ((w * 32 - (b.size : Int)).toNat : Int) ≤ 1048576 := by omega
      simp only [push_cast, Nat.reduceAdd, Nat.reduceSub, Nat.reduceMul, Nat.reduceLT, Nat.reduceLeDiff, Nat.reduceEqDiff, Nat.reduceMod, Nat.reduceDiv, Int.reduceAdd, Int.reduceSub, Int.reduceMul, Int.reduceLT, Int.reduceLE, Int.reduceEq, Int.reduceNeg, Int.reduceToNat, reduceIte, reduceCtorEq, h', h2, h3, ← hz, wrap_i64' (show -9223372036854775808 ≤ w * 32 ∧ w * 32 ≤ 9223372036854775807 by omega), wrap_i64' (show -9223372036854775808 ≤ z ∧ z ≤ 9223372036854775807 by omega), nz, e]
      intro b0
      refine (values_ok (some ⟨b0, 0, none⟩) 2 2).use trivial ?_
      rintro r N ⟨b1, rfl, rfl⟩
      refine ⟨⟨trivial, trivial⟩, rfl, fun hf => ?_⟩
      simp only [push_cast, Nat.reduceAdd, Nat.reduceSub, Nat.reduceMul, Nat.reduceLT, Nat.reduceLeDiff, Nat.reduceEqDiff, Nat.reduceMod, Nat.reduceDiv, Int.reduceAdd, Int.reduceSub, Int.reduceMul, Int.reduceLT, Int.reduceLE, Int.reduceEq, Int.reduceNeg, Int.reduceToNat, reduceIte, reduceCtorEq] at hf
      simp only [push_cast, Nat.reduceAdd, Nat.reduceSub, Nat.reduceMul, Nat.reduceLT, Nat.reduceLeDiff, Nat.reduceEqDiff, Nat.reduceMod, Nat.reduceDiv, Int.reduceAdd, Int.reduceSub, Int.reduceMul, Int.reduceLT, Int.reduceLE, Int.reduceEq, Int.reduceNeg, Int.reduceToNat, reduceIte, reduceCtorEq, hf]
      have hl : (bytesL [b, bs (zeros z.toNat)]).length ≤ 140737488355328 := by
        rw [join2, List.length_append, bs_data, zeros_len]
        have : b.data.toList.length = b.size := by rw [Array.length_toList]; rfl
        omega
      refine (joined_ok [b, bs (zeros z.toNat)] b1 b0 2 hf.1 (by show 2 < _; decide) hl).pure ?_ ?_
      · simp only [push_cast, Nat.reduceAdd, Nat.reduceSub, Nat.reduceMul, Nat.reduceLT, Nat.reduceLeDiff, Nat.reduceEqDiff, Nat.reduceMod, Nat.reduceDiv, Int.reduceAdd, Int.reduceSub, Int.reduceMul, Int.reduceLT, Int.reduceLE, Int.reduceEq, Int.reduceNeg, Int.reduceToNat, reduceIte, reduceCtorEq, hf, strV]
      · rw [join2, bs_mk, bs_data]
        simp only [push_cast, Nat.reduceAdd, Nat.reduceSub, Nat.reduceMul, Nat.reduceLT, Nat.reduceLeDiff, Nat.reduceEqDiff, Nat.reduceMod, Nat.reduceDiv, Int.reduceAdd, Int.reduceSub, Int.reduceMul, Int.reduceLT, Int.reduceLE, Int.reduceEq, Int.reduceNeg, Int.reduceToNat, reduceIte, reduceCtorEq, hf]
        rfl
    · have e : growP b w = (b, 1) := by unfold growP; rw [if_neg (fun h => h2 h.2)]
      have h3 : (w != withI w 0 32768) = true := by rw [bne_iff_ne]; exact fun h => h2 h.symm
      simp only [push_cast, Nat.reduceAdd, Nat.reduceSub, Nat.reduceMul, Nat.reduceLT, Nat.reduceLeDiff, Nat.reduceEqDiff, Nat.reduceMod, Nat.reduceDiv, Int.reduceAdd, Int.reduceSub, Int.reduceMul, Int.reduceLT, Int.reduceLE, Int.reduceEq, Int.reduceNeg, Int.reduceToNat, reduceIte, reduceCtorEq, h, h3, e]
theorem copy_ok (b : ByteArray) (a : Int) (t : ByteArray) : CallsV Try.prog 16 [.string b, .int .i64 a, .string t] [] (Ret0 (.tuple #[.string (copyP b a t).1, .int .i64 (copyP b a t).2])) := by
  obtain ⟨l, rfl⟩ := bs_of b
  obtain ⟨m, rfl⟩ := bs_of t
  refine callsO gN_ok Try.mix Try.pl16 Try.func16 rfl Try.ntmps16 Try.results16 rfl (by first | rfl | assumption) (Nat.le_of_ble_eq_true rfl) (by kernel_rfl) ?_
  cases h : thereB (bs l).size a (bs m).size
  · have e : copyP (bs l) a (bs m) = (bs l, 1) := by unfold copyP; rw [if_neg (by rw [h]; decide)]
    rw [bs_size, bs_size] at h
    simp only [push_cast, Nat.reduceAdd, Nat.reduceSub, Nat.reduceMul, Nat.reduceLT, Nat.reduceLeDiff, Nat.reduceEqDiff, Nat.reduceMod, Nat.reduceDiv, Int.reduceAdd, Int.reduceSub, Int.reduceMul, Int.reduceLT, Int.reduceLE, Int.reduceEq, Int.reduceNeg, Int.reduceToNat, reduceIte, reduceCtorEq, h, e]
  · have e : copyP (bs l) a (bs m) = (bs (l.take a.toNat ++ m ++ l.drop (a.toNat + m.length)), 0) := by unfold copyP; rw [if_pos h, bs_data, bs_data, bs_size]
    rw [bs_size, bs_size] at h
    have ht := there_true h
    obtain ⟨c, hc⟩ : ∃ c, c = a + (m.length : Int) := ⟨_, rfl⟩
    have c0 : 0 ≤ c := by omega
    have c1 : c ≤ (l.length : Int) := by omega
    have c2 : c.toNat = a.toNat + m.length := by omega
    have c3 : a.toNat ≤ l.length := by omega
    have c4 : a.toNat + m.length ≤ l.length := by omega
    simp only [push_cast, Nat.reduceAdd, Nat.reduceSub, Nat.reduceMul, Nat.reduceLT, Nat.reduceLeDiff, Nat.reduceEqDiff, Nat.reduceMod, Nat.reduceDiv, Int.reduceAdd, Int.reduceSub, Int.reduceMul, Int.reduceLT, Int.reduceLE, Int.reduceEq, Int.reduceNeg, Int.reduceToNat, reduceIte, reduceCtorEq, h, e, ← hc, wrap_i64' (show -9223372036854775808 ≤ c ∧ c ≤ 9223372036854775807 by omega), c0, c1, ht.1, ht.2.1, ht.2.2.1, ht.2.2.2.1]
    intro b0
    refine (values_ok (some ⟨b0, 0, none⟩) 3 3).use trivial ?_
    rintro r N ⟨b1, rfl, rfl⟩
    refine ⟨⟨trivial, trivial⟩, rfl, fun hf => ?_⟩
    simp only [push_cast, Nat.reduceAdd, Nat.reduceSub, Nat.reduceMul, Nat.reduceLT, Nat.reduceLeDiff, Nat.reduceEqDiff, Nat.reduceMod, Nat.reduceDiv, Int.reduceAdd, Int.reduceSub, Int.reduceMul, Int.reduceLT, Int.reduceLE, Int.reduceEq, Int.reduceNeg, Int.reduceToNat, reduceIte, reduceCtorEq] at hf
    simp only [push_cast, Nat.reduceAdd, Nat.reduceSub, Nat.reduceMul, Nat.reduceLT, Nat.reduceLeDiff, Nat.reduceEqDiff, Nat.reduceMod, Nat.reduceDiv, Int.reduceAdd, Int.reduceSub, Int.reduceMul, Int.reduceLT, Int.reduceLE, Int.reduceEq, Int.reduceNeg, Int.reduceToNat, reduceIte, reduceCtorEq, hf]
    obtain ⟨x, hx⟩ : ∃ x, x = bs (List.take a.toNat l) := ⟨_, rfl⟩
    obtain ⟨y, hy⟩ : ∃ x, x = bs m := ⟨_, rfl⟩
    obtain ⟨z, hz⟩ : ∃ x, x = bs (List.take (l.length - c.toNat) (List.drop c.toNat l)) := ⟨_, rfl⟩
    have hj : bytesL [x, y, z] = l.take a.toNat ++ m ++ l.drop (a.toNat + m.length) := by
      have e9 : List.take (l.length - (a.toNat + m.length)) (List.drop (a.toNat + m.length) l) = List.drop (a.toNat + m.length) l := List.take_of_length_le (by rw [List.length_drop]; exact Nat.le_refl _)
      rw [join3, hx, hy, hz, bs_data, bs_data, bs_data, c2, e9]
    rw [← hx, ← hy, ← hz]
    have hl : (bytesL [x, y, z]).length ≤ 140737488355328 := by
      rw [hj, List.length_append, List.length_append, List.length_take, List.length_drop]
      omega
    refine TakeV.mk (Hf := [⟨b1, 0, .ro, [.slice (some ⟨b0, 0, none⟩) [x, y, z].length 3]⟩, ⟨b0, 0, .ro, strV [x, y, z]⟩]) ?_ (joined_ok [x, y, z] b1 b0 3 hf.1 (by show 3 < _; decide) hl) ?_
    · simp only [push_cast, Nat.reduceAdd, Nat.reduceSub, Nat.reduceMul, Nat.reduceLT, Nat.reduceLeDiff, Nat.reduceEqDiff, Nat.reduceMod, Nat.reduceDiv, Int.reduceAdd, Int.reduceSub, Int.reduceMul, Int.reduceLT, Int.reduceLE, Int.reduceEq, Int.reduceNeg, Int.reduceToNat, reduceIte, reduceCtorEq, hf, strV]
    · rw [hj, bs_mk]
      simp only [push_cast, Nat.reduceAdd, Nat.reduceSub, Nat.reduceMul, Nat.reduceLT, Nat.reduceLeDiff, Nat.reduceEqDiff, Nat.reduceMod, Nat.reduceDiv, Int.reduceAdd, Int.reduceSub, Int.reduceMul, Int.reduceLT, Int.reduceLE, Int.reduceEq, Int.reduceNeg, Int.reduceToNat, reduceIte, reduceCtorEq, hf]
      rfl
end Go.Proofs.Ytcglhlmajgpglaa
