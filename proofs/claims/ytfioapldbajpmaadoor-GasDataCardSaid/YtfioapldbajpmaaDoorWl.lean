/- Wl: what the laws share: numbers of Go's as words; pick. -/
import Derived.Test.YtfioapldbajpmaaDoorWk
set_option linter.unusedSimpArgs false
set_option linter.unusedVariables false
namespace Go.Ev
noncomputable def ofW : Int → W := hid W.ofInt
theorem ofW_eq (n : Int) : ofW n = W.ofInt n := by unfold ofW; rw [hid_eq]
theorem of_num {n : Int} (h0 : 0 ≤ n) (h : n < 18446744073709551616) : (ofW n).num = n.toNat := by
  rw [ofW_eq, W.ofInt, if_pos h0]
  unfold W.num
  dsimp only
  omega
theorem of_nat (n : Nat) (h : n < 18446744073709551616) : (ofW (n : Int)).num = n := by rw [of_num (by omega) (by omega)]; rfl
noncomputable def pickN : Int → Int → Nat := hid fun c n => ((if c < 0 then -(c + 1) else c) % n).toNat
theorem pickN_eq (c n : Int) : pickN c n = ((if c < 0 then -(c + 1) else c) % n).toNat := by unfold pickN; rw [hid_eq]
noncomputable def posB : Int → Bool := hid fun n => decide (0 < n)
theorem posB_eq (n : Int) : posB n = decide (0 < n) := by unfold posB; rw [hid_eq]
theorem posB_in {n : Int} (h : 0 < n) : posB n = true := by rw [posB_eq, decide_eq_true h]
theorem pickN_lt (c : Int) {n : Int} (h : 0 < n) : (pickN c n : Int) < n := by
  rw [pickN_eq]
  have := Int.emod_nonneg (if c < 0 then -(c + 1) else c) (by omega : n ≠ 0)
  have := Int.emod_lt_of_pos (if c < 0 then -(c + 1) else c) h
  omega
def i64In (c : Int) : Prop := -9223372036854775808 ≤ c ∧ c ≤ 9223372036854775807
instance (c : Int) : Decidable (i64In c) := inferInstanceAs (Decidable (_ ∧ _))
noncomputable def i64B : Int → Bool := hid fun c => decide (i64In c)
theorem i64B_eq (c : Int) : i64B c = decide (i64In c) := by unfold i64B; rw [hid_eq]
theorem i64B_in {c : Int} (h : i64In c) : i64B c = true := by rw [i64B_eq, decide_eq_true h]
noncomputable def pickG : List Value → Option Value
  | [.int .i64 c, .int .i64 n] => if i64B c && posB n && i64B n then some (.int .i64 (pickN c n)) else none
  | _ => none
noncomputable def ofG : List Value → Option Value
  | [.int .i64 n] => if i64B n then some (ofW n).v else none
  | _ => none
attribute [push_cast] pickG ofG
end Go.Ev
namespace Go.Proofs.YtfioapldbajpmaaDoor
open Go Go.Ev Go.Proofs
set_option maxRecDepth 100000
set_option maxHeartbeats 4000000
theorem pick_ok (c n : Int) (hc : i64In c) (hn : 0 < n) (hn2 : i64In n) : CallsV Tryd.prog 10 [.int .i64 c, .int .i64 n] [] (Ret0 (.int .i64 (pickN c n))) := by
  have h2 := pickN_lt c hn
  have hn0 : ¬ n = 0 := by omega
  unfold i64In at hc hn2
  refine callsO (noG_ok _) Tryd.mix Tryd.pl10 Tryd.func10 rfl Tryd.ntmps10 Tryd.results10 rfl (by first | rfl | assumption) (Nat.le_of_ble_eq_true rfl) (by kernel_rfl) ?_
  rcases Int.lt_or_le c 0 with h | h
  · have e1 : pickN c n = (-(c + 1)).tmod n := by
      have := Int.emod_nonneg (-(c + 1)) hn0
      rw [pickN_eq, if_pos h, Int.tmod_eq_emod_of_nonneg (by omega)]; omega
    have e2 : (0 - (c + 1)) = -(c + 1) := by omega
    simp only [push_cast, Nat.reduceAdd, Nat.reduceSub, Nat.reduceMul, Nat.reduceLT, Nat.reduceLeDiff, Nat.reduceEqDiff, Nat.reduceMod, Nat.reduceDiv, Int.reduceAdd, Int.reduceSub, Int.reduceMul, Int.reduceLT, Int.reduceLE, Int.reduceEq, Int.reduceNeg, Int.reduceToNat, reduceIte, reduceCtorEq, Int.reduceBEq, Int.reduceBNe, Bool.true_beq, Bool.false_beq, Bool.true_bne, Bool.false_bne, Bool.not_true, Bool.not_false, h, wrap_i64' (show -9223372036854775808 ≤ c + 1 ∧ c + 1 ≤ 9223372036854775807 by omega), hn0, e2, wrap_i64' (show -9223372036854775808 ≤ -(c + 1) ∧ -(c + 1) ≤ 9223372036854775807 by omega), e1]
  · have h' : ¬ c < 0 := by omega
    have e1 : pickN c n = c.tmod n := by
      have := Int.emod_nonneg c hn0
      rw [pickN_eq, if_neg h', Int.tmod_eq_emod_of_nonneg (by omega)]; omega
    simp only [push_cast, Nat.reduceAdd, Nat.reduceSub, Nat.reduceMul, Nat.reduceLT, Nat.reduceLeDiff, Nat.reduceEqDiff, Nat.reduceMod, Nat.reduceDiv, Int.reduceAdd, Int.reduceSub, Int.reduceMul, Int.reduceLT, Int.reduceLE, Int.reduceEq, Int.reduceNeg, Int.reduceToNat, reduceIte, reduceCtorEq, Int.reduceBEq, Int.reduceBNe, Bool.true_beq, Bool.false_beq, Bool.true_bne, Bool.false_bne, Bool.not_true, Bool.not_false, h', hn0, e1]
theorem pickG_ok (args : List Value) (v : Value) (h : pickG args = some v) : CallsV Tryd.prog 10 args [] (Ret0 v) := by
  unfold pickG at h
  split at h
  · split at h
    · rename_i c n hh
      cases h
      simp only [Bool.and_eq_true, i64B_eq, posB_eq, decide_eq_true_eq] at hh
      exact pick_ok c n hh.1.1 hh.1.2 hh.2
    · cases h
  · cases h
theorem ofG_ok (args : List Value) (v : Value) (h : ofG args = some v) : CallsV Tryd.prog 23 args [] (Ret0 v) := by
  unfold ofG at h
  split at h
  · split at h
    · rename_i n hh
      cases h
      rw [i64B_eq, decide_eq_true_eq] at hh
      rw [ofW_eq]
      exact refOf n hh
    · cases h
  · cases h
end Go.Proofs.YtfioapldbajpmaaDoor
