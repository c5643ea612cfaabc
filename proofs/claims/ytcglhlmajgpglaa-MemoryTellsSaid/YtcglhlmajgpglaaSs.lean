/- Ss: MemoryPieces. -/
import Derived.Test.YtcglhlmajgpglaaSr
set_option linter.unusedSimpArgs false
set_option linter.unusedVariables false
namespace Go.Ev
/-- a piece of a text: n bytes from f on, with noughts behind them -/
def pc (X : List UInt8) (f n : Nat) : List UInt8 := (List.range n).map fun i => X.getD (f + i) 0
theorem pc_len (X : List UInt8) (f n : Nat) : (pc X f n).length = n := by simp [pc]
theorem pc_get (X : List UInt8) (f n : Nat) {i : Nat} (h : i < (pc X f n).length) : (pc X f n)[i] = X.getD (f + i) 0 := by
  simp [pc]
theorem pc_add (X : List UInt8) (f a b : Nat) : pc X f (a + b) = pc X f a ++ pc X (f + a) b := by
  refine List.ext_getElem (by rw [List.length_append, pc_len, pc_len, pc_len]) fun i h1 h2 => ?_
  rw [pc_get, List.getElem_append]
  split
  · rw [pc_get]
  · rename_i h
    rw [pc_len] at h
    rw [pc_get]
    congr 1
    rw [pc_len]
    omega
theorem pc_eq (X : List UInt8) (f n : Nat) : (X.drop f).take n ++ zeros (n - ((X.drop f).take n).length) = pc X f n := by
  refine List.ext_getElem (by rw [List.length_append, zeros_len, pc_len]; have := List.length_take_le n (X.drop f); omega) fun i h1 h2 => ?_
  rw [pc_get, List.getElem_append]
  split
  · rename_i h
    rw [List.getElem_take, List.getElem_drop]
    rw [List.length_take, List.length_drop] at h
    rw [List.getD_eq_getElem?_getD, List.getElem?_eq_getElem (by omega)]
    rfl
  · rename_i h
    unfold zeros
    rw [List.getElem_replicate]
    rw [List.length_take, List.length_drop] at h
    rw [pc_len] at h2
    rw [List.getD_eq_getElem?_getD, List.getElem?_eq_none (by omega)]
    rfl
theorem piece_nat {X : List UInt8} {f n : Nat} (hf : f ≤ 4611686018427387903) (hn : n ≤ 1048576) : pieceP (bs X) (ofW (f : Int)) (n : Int) = (bs (pc X f n), 0) := by
  have hi : intW (ofW (f : Int)) = ((f : Int), true) := by
    rw [intW_eq, of_nat f (by omega), if_pos hf]
  have hd : fromL X (ofW (f : Int)) = X.drop f := by
    unfold fromL
    rw [hi]
    dsimp only
    by_cases h : f < X.length
    · rw [if_pos ⟨rfl, by omega⟩]; rfl
    · rw [if_neg (by omega), List.drop_eq_nil_of_le (by omega)]
  unfold pieceP
  rw [if_pos (by rw [withI_eq]; repeat' split <;> omega), bs_data, hd]
  rw [← pc_eq]
  rfl
theorem copy_bs {l m : List UInt8} {a : Nat} (h1 : l.length ≤ 1048576) (h2 : l.length % 32 = 0) (h3 : a + m.length ≤ l.length) : copyP (bs l) (a : Int) (bs m) = (bs (l.take a ++ m ++ l.drop (a + m.length)), 0) := by
  unfold copyP
  rw [bs_size, bs_size, thereB_eq, mayB_eq, if_pos (by rw [decide_eq_true ⟨h1, h2⟩, Bool.true_and, decide_eq_true_eq]; omega), bs_data, bs_data]
  rfl
theorem slice_bs {l : List UInt8} {a n : Nat} (h1 : l.length ≤ 1048576) (h2 : l.length % 32 = 0) (h3 : a + n ≤ l.length) : sliceP (bs l) (a : Int) (n : Int) = (bs ((l.drop a).take n), 0) := by
  unfold sliceP
  rw [bs_size, thereB_eq, mayB_eq, if_pos (by rw [decide_eq_true ⟨h1, h2⟩, Bool.true_and, decide_eq_true_eq]; omega), bs_data]
  rfl
theorem mid_len {l m : List UInt8} {a : Nat} (h3 : a + m.length ≤ l.length) : (l.take a ++ m ++ l.drop (a + m.length)).length = l.length := by
  rw [List.length_append, List.length_append, List.length_take, List.length_drop]; omega
theorem mid_take {l m : List UInt8} {a : Nat} (h3 : a + m.length ≤ l.length) : ((l.take a ++ m ++ l.drop (a + m.length)).drop a).take m.length = m := by
  rw [List.append_assoc, List.drop_left' (by rw [List.length_take]; omega), List.take_left']
  rfl
theorem u8_zero : (0 : UInt8).toNat = 0 := rfl
end Go.Ev
namespace Go.Proofs.Ytcglhlmajgpglaa
open Go Go.Ev Go.Proofs
set_option maxRecDepth 100000
set_option maxHeartbeats 4000000
theorem memoryPieces0 (s : ByteArray) (w one two : Int) (hw : i64In w) (h1 : i64In one) (h2 : i64In two) : CallsV Try.prog 4 [.string s, .int .i64 w, .int .i64 one, .int .i64 two] [] (Ret0 (.bool true)) := by
  obtain ⟨l, rfl⟩ := bs_of s
  have j0 := i64B_in hw
  have j1 := i64B_in h1
  have j2 := i64B_in h2
  have j3 : i64B 60 = true := i64B_in (by decide)
  have j4 : i64B 120 = true := i64B_in (by decide)
  have q1 : posB 60 = true := posB_in (by decide)
  have q2 : posB 120 = true := posB_in (by decide)
  have hf := pickN_lt w (n := 120) (by decide)
  have ha := pickN_lt one (n := 60) (by decide)
  have hb := pickN_lt two (n := 60) (by decide)
  obtain ⟨k, hk, hkl, hk90⟩ := min_len l 90 (by decide)
  obtain ⟨f, ef⟩ : ∃ p, p = pickN w 120 := ⟨_, rfl⟩
  obtain ⟨a, ea⟩ : ∃ p, p = pickN one 60 := ⟨_, rfl⟩
  obtain ⟨b, eb⟩ : ∃ p, p = pickN two 60 := ⟨_, rfl⟩
  rw [← ef] at hf
  rw [← ea] at ha
  rw [← eb] at hb
  obtain ⟨X, hX⟩ : ∃ X, X = List.take k l := ⟨_, rfl⟩
  have hXL : X.length ≤ 90 := by rw [hX, List.length_take]; omega
  obtain ⟨Y, hY⟩ : ∃ Y, Y = pc X f (a + b) := ⟨_, rfl⟩
  obtain ⟨Q, hQ⟩ : ∃ Y, Y = pc X f a := ⟨_, rfl⟩
  obtain ⟨R, hR⟩ : ∃ Y, Y = pc X (f + a) b := ⟨_, rfl⟩
  have hYL : Y.length = a + b := by rw [hY, pc_len]
  have hYQR : Q ++ R = Y := by rw [hY, pc_add, hQ, hR]
  have hQL : Q.length = a := by rw [hQ, pc_len]
  have hRL : R.length = b := by rw [hR, pc_len]
  have ct : catB (bs Q) (bs R) = some (.string (bs Y)) := by rw [catB_bs Q R (by omega), hYQR]
  have eab : (a : Int) + (b : Int) = (Y.length : Int) := by omega
  obtain ⟨fa, hfa⟩ : ∃ n, n = f + a := ⟨_, rfl⟩
  have efa : (f : Int) + (a : Int) = (fa : Int) := by omega
  have p1 : pieceP (bs X) (ofW (f : Int)) (Y.length : Int) = (bs Y, 0) := by rw [piece_nat (by omega) (by omega), hYL, ← hY]
  have p2 : pieceP (bs X) (ofW (f : Int)) (a : Int) = (bs Q, 0) := by rw [piece_nat (by omega) (by omega), ← hQ]
  have p3 : pieceP (bs X) (ofW (fa : Int)) (b : Int) = (bs R, 0) := by rw [piece_nat (by omega) (by omega), hfa, ← hR]
  have jf : i64B (f : Int) = true := i64B_in ⟨by omega, by omega⟩
  have jfa : i64B (fa : Int) = true := i64B_in ⟨by omega, by omega⟩
  have g : growP { data := #[] } 8 = (bs (zeros 256), 0) := grow_bs (M := []) (x := 8) (by decide) (by decide) (by decide)
  have hzl : (zeros 256).length = 256 := zeros_len _
  obtain ⟨C, hC⟩ : ∃ C, C = (zeros 256).take f ++ Y ++ (zeros 256).drop (f + Y.length) := ⟨_, rfl⟩
  have c1 : copyP (bs (zeros 256)) (f : Int) (bs Y) = (bs C, 0) := by rw [hC]; exact copy_bs (by omega) (by omega) (by omega)
  have hCL : C.length = 256 := by rw [hC, mid_len (by omega), hzl]
  have c2 : sliceP (bs C) (f : Int) (Y.length : Int) = (bs Y, 0) := by
    rw [slice_bs (by omega) (by omega) (by omega), hC, mid_take (by omega)]
  have hYI : ∀ i, i < Y.length → (bs Y).data[i]? = some (X.getD (f + i) 0) := by
    intro i h
    rw [bs_idx h]
    subst hY
    rw [pc_get]
  have w1 := wrap_i64' (show -9223372036854775808 ≤ (Y.length : Int) ∧ (Y.length : Int) ≤ 9223372036854775807 by omega)
  have w2 := wrap_i64' (show -9223372036854775808 ≤ (fa : Int) ∧ (fa : Int) ≤ 9223372036854775807 by omega)
  refine callsO gO_ok Try.mix Try.pl4 Try.func4 rfl Try.ntmps4 Try.results4 rfl (by first | rfl | assumption) (Nat.le_of_ble_eq_true rfl) (by kernel_rfl) ?_
  simp only [push_cast, Nat.reduceAdd, Nat.reduceSub, Nat.reduceMul, Nat.reduceLT, Nat.reduceLeDiff, Nat.reduceEqDiff, Nat.reduceMod, Nat.reduceDiv, Int.reduceAdd, Int.reduceSub, Int.reduceMul, Int.reduceLT, Int.reduceLE, Int.reduceEq, Int.reduceNeg, Int.reduceToNat, reduceIte, reduceCtorEq, j0, j1, j2, j3, j4, q1, q2, hk, hkl, ← ef, ← ea, ← eb, ← hX, eab, efa, w1, w2, jf, jfa, p1, p2, p3, ct, beq_self_eq_true, Bool.not_true]
  refine loopO gO_ok (pl := Try.pl4) Try.mix (X := Nat)
    (fun i => ([(9, .bool true), (10, .string (bs X)), (11, .int .i64 f), (14, .string (bs Y)), (20, .int .i64 i)], []))
    (fun i => i ≤ Y.length) (fun i => Y.length - i) 0 ?_ ?_ (by kernel_rfl) ?_
  · exact Nat.zero_le _
  · simp only [push_cast, Nat.reduceAdd, Nat.reduceSub, Nat.reduceMul, Nat.reduceLT, Nat.reduceLeDiff, Nat.reduceEqDiff, Nat.reduceMod, Nat.reduceDiv, Int.reduceAdd, Int.reduceSub, Int.reduceMul, Int.reduceLT, Int.reduceLE, Int.reduceEq, Int.reduceNeg, Int.reduceToNat, reduceIte, reduceCtorEq]
  · rintro i hi
    dsimp only
    by_cases hl : i < Y.length
    · have hl2 : (i : Int) < (Y.length : Int) := by omega
      have hyi := hYI i hl
      obtain ⟨fi, hfi⟩ : ∃ n, n = f + i := ⟨_, rfl⟩
      have efi : (f : Int) + (i : Int) = (fi : Int) := by omega
      rw [← hfi] at hyi
      by_cases hx : fi < X.length
      · have hx2 : (fi : Int) < (X.length : Int) := by omega
        have hxi : (bs X).data[fi]? = some (X.getD fi 0) := by
          rw [bs_idx hx, List.getD_eq_getElem?_getD, List.getElem?_eq_getElem hx]; rfl
        generalize X.getD fi 0 = c at *
        simp only [push_cast, Nat.reduceAdd, Nat.reduceSub, Nat.reduceMul, Nat.reduceLT, Nat.reduceLeDiff, Nat.reduceEqDiff, Nat.reduceMod, Nat.reduceDiv, Int.reduceAdd, Int.reduceSub, Int.reduceMul, Int.reduceLT, Int.reduceLE, Int.reduceEq, Int.reduceNeg, Int.reduceToNat, reduceIte, reduceCtorEq, hl2, hl, hyi, efi, wrap_i64' (show -9223372036854775808 ≤ (fi : Int) ∧ (fi : Int) ≤ 9223372036854775807 by omega), hx2, hx, hxi, wrap_i64' (show -9223372036854775808 ≤ (i : Int) + 1 ∧ (i : Int) + 1 ≤ 9223372036854775807 by omega), beq_self_eq_true, Bool.not_true]
        exact ⟨i + 1, by omega, by omega, rfl⟩
      · have hx2 : ¬ (fi : Int) < (X.length : Int) := by omega
        have h0 : X.getD fi 0 = 0 := by rw [List.getD_eq_getElem?_getD, List.getElem?_eq_none (by omega)]; rfl
        rw [h0] at hyi
        simp only [push_cast, Nat.reduceAdd, Nat.reduceSub, Nat.reduceMul, Nat.reduceLT, Nat.reduceLeDiff, Nat.reduceEqDiff, Nat.reduceMod, Nat.reduceDiv, Int.reduceAdd, Int.reduceSub, Int.reduceMul, Int.reduceLT, Int.reduceLE, Int.reduceEq, Int.reduceNeg, Int.reduceToNat, reduceIte, reduceCtorEq, hl2, hl, hyi, efi, wrap_i64' (show -9223372036854775808 ≤ (fi : Int) ∧ (fi : Int) ≤ 9223372036854775807 by omega), hx2, hx, wrap_i64' (show -9223372036854775808 ≤ (i : Int) + 1 ∧ (i : Int) + 1 ≤ 9223372036854775807 by omega), beq_self_eq_true, Bool.not_true, u8_zero]
        exact ⟨i + 1, by omega, by omega, rfl⟩
    · have hl2 : ¬ (i : Int) < (Y.length : Int) := by omega
      simp only [push_cast, Nat.reduceAdd, Nat.reduceSub, Nat.reduceMul, Nat.reduceLT, Nat.reduceLeDiff, Nat.reduceEqDiff, Nat.reduceMod, Nat.reduceDiv, Int.reduceAdd, Int.reduceSub, Int.reduceMul, Int.reduceLT, Int.reduceLE, Int.reduceEq, Int.reduceNeg, Int.reduceToNat, reduceIte, reduceCtorEq, hl2, g, c1, c2, beq_self_eq_true]
theorem memoryPieces_ok {H : Hp} {s : ByteArray} {w one two : Int} (hm : marksOf H = []) (hs : s.size ≤ maxLen) (hw : i64In w) (h1 : i64In one) (h2 : i64In two) : CallsV Try.prog 4 [.string s, .int .i64 w, .int .i64 one, .int .i64 two] H (Ret0 (.bool true)) := (memoryPieces0 s w one two hw h1 h2).onto hm
end Go.Proofs.Ytcglhlmajgpglaa
