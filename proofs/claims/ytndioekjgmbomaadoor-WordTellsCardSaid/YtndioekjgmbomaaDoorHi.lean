/- Hi: WordBack. -/
import Derived.Test.YtndioekjgmbomaaDoorHh
set_option linter.unusedSimpArgs false
set_option linter.unusedVariables false
namespace Go.Ev
theorem fromb_wb (w : W) : frombW (wbytes w) = w := by
  rw [frombW_eq, List.take_of_length_le (by rw [List.length_reverse, wbytes_len]; exact Nat.le_refl _), hBeN_wbytes, W.of_num]
theorem fromb_more (l : List UInt8) (w : W) : frombW (l ++ wbytes w) = w := by
  rw [frombW_eq, List.reverse_append, List.take_append_of_le_length (by rw [List.length_reverse, wbytes_len]; exact Nat.le_refl _), List.take_of_length_le (by rw [List.length_reverse, wbytes_len]; exact Nat.le_refl _), hBeN_wbytes, W.of_num]
theorem hex_len (w : W) : (hexW w).length ≤ 66 := by
  have h1 : (strip 48 (hex2 (wbytes w))).length ≤ 64 := Nat.le_trans (strip_le _ _) (by rw [hex2_len, wbytes_len]; exact Nat.le_refl _)
  rw [hexW_eq, List.length_cons, List.length_cons]
  split
  · simp
  · omega
theorem parseP_hex (w : W) : parseP (bs (hexW w)) = (w, 0) := by unfold parseP; rw [bs_data, parse_hex]
theorem intW_of {n : Nat} (h : n ≤ 4611686018427387903) : intW (ofW (n : Int)) = ((n : Int), true) := by
  rw [intW_eq, of_nat n (by omega), if_pos h]
theorem sub_add (a b : W) : subtW (plusW a b) b = a := ((cM.subt _ _).trans (((cM.plus a b).sub (cM.rfl _)).trans (cM.of_eq (by omega)))).eq
theorem add_sub (a b : W) : plusW (subtW a b) b = a := ((cM.plus _ _).trans (((cM.subt a b).add (cM.rfl _)).trans (cM.of_eq (by omega)))).eq
theorem sub_self (a : W) : subtW a a = W.zero := ((cM.subt _ _).trans (cM.of_eq (by rw [zero_num]; omega))).eq
end Go.Ev
namespace Go.Proofs.YtndioekjgmbomaaDoor
open Go Go.Ev Go.Proofs
set_option maxRecDepth 100000
set_option maxHeartbeats 4000000
def plBk : Plans := fun i => if i = 1 then [(0, 9)] else if i = 2 then [(0, 9)] else if i = 3 then [(0, 9)] else Tryd.pl4 i
attribute [push_cast] plBk
theorem wordBack0 (a b : W) (n : Int) (hn : i64In n) : CallsV Tryd.prog 4 [a.v, b.v, .int .i64 n] [] (Ret0 (.bool true)) := by
  have j0 : i64B n = true := i64B_in hn
  have j1 : i64B 4611686018427387903 = true := i64B_in (by decide)
  have j2 : posB 4611686018427387903 = true := posB_in (by decide)
  have hp := pickN_lt n (show (0 : Int) < 4611686018427387903 by decide)
  obtain ⟨p, hpp⟩ : ∃ p, p = pickN n 4611686018427387903 := ⟨_, rfl⟩
  rw [← hpp] at hp
  have j3 : i64B (p : Int) = true := i64B_in (by unfold i64In; omega)
  obtain ⟨hx, hhx⟩ : ∃ l, l = hexW a := ⟨_, rfl⟩
  have hxl : hx.length ≤ 66 := by rw [hhx]; exact hex_len a
  have hxp : parseP (bs hx) = (a, 0) := by rw [hhx]; exact parseP_hex a
  have z1 : pzB hx.length = true := pzB_in (by omega)
  obtain ⟨wb, hwb⟩ : ∃ l, l = wbytes a := ⟨_, rfl⟩
  have hwl : wb.length = 32 := by rw [hwb]; exact wbytes_len a
  have f1 : frombW wb = a := by rw [hwb]; exact fromb_wb a
  have f2 : frombW ([97, 98, 99] ++ wb) = a := by rw [hwb]; exact fromb_more _ a
  have f2' : frombW (97 :: 98 :: 99 :: wb) = a := f2
  have c1 : catB (bs [97, 98, 99]) (bs wb) = some (.string (bs (97 :: 98 :: 99 :: wb))) := hcatB [97, 98, 99] wb (by rw [hwl]; decide)
  have l1 : lngB 32 = true := lngB_in (by decide)
  have l2 : lngB 35 = true := lngB_in (by decide)
  have i1 : intW (ofW (p : Int)) = ((p : Int), true) := intW_of (by omega)
  refine callsO gAll_ok Tryd.mix plBk Tryd.func4 rfl Tryd.ntmps4 Tryd.results4 rfl (by first | rfl | assumption) (Nat.le_of_ble_eq_true rfl) (by kernel_rfl) ?_
  simp only [push_cast, Nat.reduceAdd, Nat.reduceSub, Nat.reduceMul, Nat.reduceLT, Nat.reduceLeDiff, Nat.reduceEqDiff, Nat.reduceMod, Nat.reduceDiv, Int.reduceAdd, Int.reduceSub, Int.reduceMul, Int.reduceLT, Int.reduceLE, Int.reduceEq, Int.reduceNeg, Int.reduceToNat, reduceIte, reduceCtorEq]
  intro b3 b4 hb4
  refine regO gAll_ok ?_
  simp only [push_cast, Nat.reduceAdd, Nat.reduceSub, Nat.reduceMul, Nat.reduceLT, Nat.reduceLeDiff, Nat.reduceEqDiff, Nat.reduceMod, Nat.reduceDiv, Int.reduceAdd, Int.reduceSub, Int.reduceMul, Int.reduceLT, Int.reduceLE, Int.reduceEq, Int.reduceNeg, Int.reduceToNat, reduceIte, reduceCtorEq, hb4]
  refine regO gAll_ok ?_
  simp only [push_cast, Nat.reduceAdd, Nat.reduceSub, Nat.reduceMul, Nat.reduceLT, Nat.reduceLeDiff, Nat.reduceEqDiff, Nat.reduceMod, Nat.reduceDiv, Int.reduceAdd, Int.reduceSub, Int.reduceMul, Int.reduceLT, Int.reduceLE, Int.reduceEq, Int.reduceNeg, Int.reduceToNat, reduceIte, reduceCtorEq, hb4, ← hhx, bs_size, z1, hxp]
  intro b8 hb8
  refine regO gAll_ok ?_
  simp only [push_cast, Nat.reduceAdd, Nat.reduceSub, Nat.reduceMul, Nat.reduceLT, Nat.reduceLeDiff, Nat.reduceEqDiff, Nat.reduceMod, Nat.reduceDiv, Int.reduceAdd, Int.reduceSub, Int.reduceMul, Int.reduceLT, Int.reduceLE, Int.reduceEq, Int.reduceNeg, Int.reduceToNat, reduceIte, reduceCtorEq, hb4, hb8, j0, j1, j2, ← hpp, j3, i1, ← hwb, bs_mk, bs_size, hwl, l1, l2, bs_data, f1, f2', c1, sub_add, add_sub, sub_self, decide_true, beq_self_eq_true, wz_agg, List.length_cons]
  trace_state
end Go.Proofs.YtndioekjgmbomaaDoor
