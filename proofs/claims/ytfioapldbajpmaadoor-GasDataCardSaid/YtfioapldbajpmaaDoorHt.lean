/- Ht: TrimLeft of bytes 0. -/
import Derived.Test.YtfioapldbajpmaaDoorHb
set_option linter.unusedSimpArgs false
set_option linter.unusedVariables false
namespace Go.Ev
noncomputable def zerB : ByteArray → Bool := hid fun t => decide (t = bs [0])
theorem zerB_eq (t : ByteArray) : zerB t = decide (t = bs [0]) := by unfold zerB; rw [hid_eq]
noncomputable def trim1ZG : List Value → Option Value
  | [.string s, .int .u8 c] => if c = 0 then some (.string (bs (strip 0 s.data.toList))) else none
  | _ => none
noncomputable def trimZG : List Value → Option Value
  | [.string s, .string t] => if zerB t then some (.string (bs (strip 0 s.data.toList))) else none
  | _ => none
attribute [push_cast] trim1ZG trimZG
end Go.Ev
namespace Go.Proofs.YtfioapldbajpmaaDoor
open Go Go.Ev Go.Proofs
set_option maxRecDepth 100000
set_option maxHeartbeats 4000000
theorem trim1Z (s : ByteArray) : CallsV Tryd.prog 58 [.string s, .int .u8 0] [] (Ret0 (.string (bs (strip 0 s.data.toList)))) := by
  obtain ⟨l, rfl⟩ := bs_of s
  rw [bs_data]
  obtain ⟨R, hR⟩ : ∃ R, R = strip 0 l := ⟨_, rfl⟩
  rw [← hR]
  refine callsO gHc_ok Tryd.mix Tryd.pl58 Tryd.func58 rfl Tryd.ntmps58 Tryd.results58 rfl (by first | rfl | assumption) (Nat.le_of_ble_eq_true rfl) (by kernel_rfl) ?_
  simp only [push_cast, Nat.reduceAdd, Nat.reduceSub, Nat.reduceMul, Nat.reduceLT, Nat.reduceLeDiff, Nat.reduceEqDiff, Nat.reduceMod, Nat.reduceDiv, Int.reduceAdd, Int.reduceSub, Int.reduceMul, Int.reduceLT, Int.reduceLE, Int.reduceEq, Int.reduceNeg, Int.reduceToNat, reduceIte, reduceCtorEq, Int.reduceBEq, Int.reduceBNe, Bool.true_beq, Bool.false_beq, Bool.true_bne, Bool.false_bne, Bool.not_true, Bool.not_false]
  refine loopO gHc_ok (pl := Tryd.pl58) Tryd.mix (X := List UInt8)
    (fun x => ([(0, .string (bs x)), (1, .int .u8 0)], []))
    (fun x => strip 0 x = R) (fun x => x.length) l ?_ ?_ (by kernel_rfl) ?_
  · exact hR.symm
  · simp only [push_cast, Nat.reduceAdd, Nat.reduceSub, Nat.reduceMul, Nat.reduceLT, Nat.reduceLeDiff, Nat.reduceEqDiff, Nat.reduceMod, Nat.reduceDiv, Int.reduceAdd, Int.reduceSub, Int.reduceMul, Int.reduceLT, Int.reduceLE, Int.reduceEq, Int.reduceNeg, Int.reduceToNat, reduceIte, reduceCtorEq, Int.reduceBEq, Int.reduceBNe, Bool.true_beq, Bool.false_beq, Bool.true_bne, Bool.false_bne, Bool.not_true, Bool.not_false]
  · intro x hx
    dsimp only at hx ⊢
    cases x with
    | nil =>
      have e : R = [] := hx.symm
      simp only [push_cast, Nat.reduceAdd, Nat.reduceSub, Nat.reduceMul, Nat.reduceLT, Nat.reduceLeDiff, Nat.reduceEqDiff, Nat.reduceMod, Nat.reduceDiv, Int.reduceAdd, Int.reduceSub, Int.reduceMul, Int.reduceLT, Int.reduceLE, Int.reduceEq, Int.reduceNeg, Int.reduceToNat, reduceIte, reduceCtorEq, Int.reduceBEq, Int.reduceBNe, Bool.true_beq, Bool.false_beq, Bool.true_bne, Bool.false_bne, Bool.not_true, Bool.not_false, List.length_nil, e]
    | cons y r =>
      obtain ⟨z, hz⟩ : ∃ z, z = y :: r := ⟨_, rfl⟩
      have zl : z.length = r.length + 1 := by rw [hz]; rfl
      have c1 : (0 : Int) < (z.length : Int) := by omega
      have c2 : 0 < z.length := by omega
      have c3 : 1 ≤ z.length := by omega
      have c4 : (1 : Int) ≤ (z.length : Int) := by omega
      have b0 : (bs z).data[0]? = some y := by rw [hbs_idx c2]; subst hz; rfl
      have dr : List.take (z.length - 1) (List.drop 1 z) = r := by rw [hz]; show List.take (r.length + 1 - 1) r = r; exact List.take_of_length_le (by omega)
      rw [← hz] at hx ⊢
      by_cases hy : y = 0
      · have e : ((y.toNat : Int) == 0) = true := by rw [hy]; rfl
        have hx' : strip 0 r = R := by rw [← hx, hz, strip, if_pos hy]
        simp only [push_cast, Nat.reduceAdd, Nat.reduceSub, Nat.reduceMul, Nat.reduceLT, Nat.reduceLeDiff, Nat.reduceEqDiff, Nat.reduceMod, Nat.reduceDiv, Int.reduceAdd, Int.reduceSub, Int.reduceMul, Int.reduceLT, Int.reduceLE, Int.reduceEq, Int.reduceNeg, Int.reduceToNat, reduceIte, reduceCtorEq, Int.reduceBEq, Int.reduceBNe, Bool.true_beq, Bool.false_beq, Bool.true_bne, Bool.false_bne, Bool.not_true, Bool.not_false, c1, c2, c3, c4, b0, e, dr]
        exact ⟨r, hx', by omega, rfl⟩
      · have e : ((y.toNat : Int) == 0) = false := beq_eq_false_iff_ne.2 fun h => hy (UInt8.toNat_inj.1 (show y.toNat = 0 by omega))
        have hx' : z = R := by rw [← hx, hz, strip, if_neg hy]
        simp only [push_cast, Nat.reduceAdd, Nat.reduceSub, Nat.reduceMul, Nat.reduceLT, Nat.reduceLeDiff, Nat.reduceEqDiff, Nat.reduceMod, Nat.reduceDiv, Int.reduceAdd, Int.reduceSub, Int.reduceMul, Int.reduceLT, Int.reduceLE, Int.reduceEq, Int.reduceNeg, Int.reduceToNat, reduceIte, reduceCtorEq, Int.reduceBEq, Int.reduceBNe, Bool.true_beq, Bool.false_beq, Bool.true_bne, Bool.false_bne, Bool.not_true, Bool.not_false, c1, c2, c3, b0, e]
        rw [hx']
theorem trim1ZG_ok (args : List Value) (v : Value) (h : trim1ZG args = some v) : CallsV Tryd.prog 58 args [] (Ret0 v) := by
  unfold trim1ZG at h
  split at h
  · split at h
    · rename_i hc; cases h; rw [hc]; exact trim1Z _
    · cases h
  · cases h
noncomputable def gHz : Gam := (addG 58 trim1ZG gHc)
attribute [push_cast] gHz
theorem gHz_ok : GamOk Tryd.prog gHz := (addG_ok trim1ZG_ok gHc_ok)
theorem trimZ_ok (s : ByteArray) : CallsV Tryd.prog 45 [.string s, .string (bs [0])] [] (Ret0 (.string (bs (strip 0 s.data.toList)))) := by
  obtain ⟨l, rfl⟩ := bs_of s
  rw [bs_data]
  have b0 : (bs [0]).data[0]? = some 0 := rfl
  have e0 : (bs [0]).toList = [0] := bs_toList _
  have e1 : ByteArray.toList { data := #[] } = [] := bs_toList []
  have e2 : ([0] : List UInt8).length = 1 := rfl
  have e3 : ((0 : UInt8).toNat : Int) = 0 := rfl
  have e4 : ([0] == ([] : List UInt8)) = false := rfl
  refine callsO gHz_ok Tryd.mix Tryd.pl45 Tryd.func45 rfl Tryd.ntmps45 Tryd.results45 rfl (by first | rfl | assumption) (Nat.le_of_ble_eq_true rfl) (by kernel_rfl) ?_
  cases l with
  | nil =>
    have e5 : (([] : List UInt8) == []) = true := rfl
    simp only [push_cast, Nat.reduceAdd, Nat.reduceSub, Nat.reduceMul, Nat.reduceLT, Nat.reduceLeDiff, Nat.reduceEqDiff, Nat.reduceMod, Nat.reduceDiv, Int.reduceAdd, Int.reduceSub, Int.reduceMul, Int.reduceLT, Int.reduceLE, Int.reduceEq, Int.reduceNeg, Int.reduceToNat, reduceIte, reduceCtorEq, Int.reduceBEq, Int.reduceBNe, Bool.true_beq, Bool.false_beq, Bool.true_bne, Bool.false_bne, Bool.not_true, Bool.not_false, e1, e5]
    rfl
  | cons y r =>
    obtain ⟨z, hz⟩ : ∃ z, z = y :: r := ⟨_, rfl⟩
    have e5 : (z == []) = false := by rw [hz]; rfl
    rw [← hz]
    simp only [push_cast, Nat.reduceAdd, Nat.reduceSub, Nat.reduceMul, Nat.reduceLT, Nat.reduceLeDiff, Nat.reduceEqDiff, Nat.reduceMod, Nat.reduceDiv, Int.reduceAdd, Int.reduceSub, Int.reduceMul, Int.reduceLT, Int.reduceLE, Int.reduceEq, Int.reduceNeg, Int.reduceToNat, reduceIte, reduceCtorEq, Int.reduceBEq, Int.reduceBNe, Bool.true_beq, Bool.false_beq, Bool.true_bne, Bool.false_bne, Bool.not_true, Bool.not_false, e1, e2, e3, e4, e5, b0]
theorem trimZG_ok (args : List Value) (v : Value) (h : trimZG args = some v) : CallsV Tryd.prog 45 args [] (Ret0 v) := by
  unfold trimZG at h
  split at h
  · split at h
    · rename_i hc; cases h; rw [zerB_eq, decide_eq_true_eq] at hc; rw [hc]; exact trimZ_ok _
    · cases h
  · cases h
end Go.Proofs.YtfioapldbajpmaaDoor
