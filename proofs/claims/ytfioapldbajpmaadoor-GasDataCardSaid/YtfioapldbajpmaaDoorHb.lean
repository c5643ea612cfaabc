/- Hb: Go's library: Builder.WriteByte, strings.IndexByte, CutPrefix, TrimLeft of noughts. -/
import Derived.Test.YtfioapldbajpmaaDoorSc
import Derived.Test.YtfioapldbajpmaaDoorHa
import Derived.Test.YtfioapldbajpmaaDoorWl
import Derived.Test.YtfioapldbajpmaaDoorSf
import Derived.Lib.Bytealg
set_option linter.unusedSimpArgs false
set_option linter.unusedVariables false
namespace Go.Ev
noncomputable def idxN : ByteArray → Int → Int := hid fun s c => Lib.indexByte s.data.toList c.toNat.toUInt8
theorem idxN_eq (s : ByteArray) (c : Int) : idxN s c = Lib.indexByte s.data.toList c.toNat.toUInt8 := by unfold idxN; rw [hid_eq]
noncomputable def idxG : List Value → Option Value
  | [.string s, .int .u8 c] => some (.int .i64 (idxN s c))
  | _ => none
noncomputable def preB : ByteArray → ByteArray → Bool := hid fun s t => decide (s.data.toList.take t.size = t.data.toList)
theorem preB_eq (s t : ByteArray) : preB s t = decide (s.data.toList.take t.size = t.data.toList) := by unfold preB; rw [hid_eq]
noncomputable def hasG : List Value → Option Value
  | [.string s, .string t] => some (.bool (preB s t))
  | _ => none
noncomputable def cutP (s t : ByteArray) : ByteArray := if preB s t = true then bs (s.data.toList.drop t.size) else s
noncomputable def cutG : List Value → Option Value
  | [.string s, .string t] => some (.tuple #[.string (cutP s t), .bool (preB s t)])
  | _ => none
noncomputable def oneB : ByteArray → Bool := hid fun t => decide (t = bs [48])
theorem oneB_eq (t : ByteArray) : oneB t = decide (t = bs [48]) := by unfold oneB; rw [hid_eq]
noncomputable def trim1G : List Value → Option Value
  | [.string s, .int .u8 c] => if c = 48 then some (.string (bs (strip 48 s.data.toList))) else none
  | _ => none
noncomputable def trimG : List Value → Option Value
  | [.string s, .string t] => if oneB t then some (.string (bs (strip 48 s.data.toList))) else none
  | _ => none
attribute [push_cast] idxG hasG cutG trim1G trimG
theorem hbs_idx {l : List UInt8} {i : Nat} (h : i < l.length) : (bs l).data[i]? = some l[i] := by
  simp [bs, h]
end Go.Ev
namespace Go.Proofs.YtfioapldbajpmaaDoor
open Go Go.Ev Go.Proofs
set_option maxRecDepth 100000
set_option maxHeartbeats 4000000
theorem idxExt (args : List Value) (v : Value) (h : idxG args = some v) : ExtV Tryd.prog 86 args v := by
  unfold idxG at h
  split at h
  case h_2 => cases h
  cases h
  intro w
  rw [run_callFunc_extern Tryd.func86 (by kernel_rfl) (by kernel_rfl) (by kernel_rfl) (e := Extern.BytealgIndexByte.indexByte) (by kernel_rfl)]
  rw [Lib.run_indexByteString, idxN_eq]
  rfl
noncomputable def gHa : Gam := (addG 86 idxG noG)
attribute [push_cast] gHa
theorem gHa_ok : GamOk Tryd.prog gHa := (addX_ok idxExt (noG_ok _))
theorem sIdx (args : List Value) (v : Value) (h : idxG args = some v) : CallsV Tryd.prog 85 args [] (Ret0 v) := by
  unfold idxG at h
  split at h
  case h_2 => cases h
  cases h
  refine callsO gHa_ok Tryd.mix Tryd.pl85 Tryd.func85 rfl Tryd.ntmps85 Tryd.results85 rfl (by first | rfl | assumption) (Nat.le_of_ble_eq_true rfl) (by kernel_rfl) ?_
  simp only [push_cast, Nat.reduceAdd, Nat.reduceSub, Nat.reduceMul, Nat.reduceLT, Nat.reduceLeDiff, Nat.reduceEqDiff, Nat.reduceMod, Nat.reduceDiv, Int.reduceAdd, Int.reduceSub, Int.reduceMul, Int.reduceLT, Int.reduceLE, Int.reduceEq, Int.reduceNeg, Int.reduceToNat, reduceIte, reduceCtorEq, Int.reduceBEq, Int.reduceBNe, Bool.true_beq, Bool.false_beq, Bool.true_bne, Bool.false_bne, Bool.not_true, Bool.not_false]
noncomputable def gHb : Gam := (addG 85 idxG gHa)
attribute [push_cast] gHb
theorem gHb_ok : GamOk Tryd.prog gHb := (addG_ok sIdx gHa_ok)
theorem tIdx (args : List Value) (v : Value) (h : idxG args = some v) : CallsV Tryd.prog 81 args [] (Ret0 v) := by
  unfold idxG at h
  split at h
  case h_2 => cases h
  cases h
  refine callsO gHb_ok Tryd.mix Tryd.pl81 Tryd.func81 rfl Tryd.ntmps81 Tryd.results81 rfl (by first | rfl | assumption) (Nat.le_of_ble_eq_true rfl) (by kernel_rfl) ?_
  simp only [push_cast, Nat.reduceAdd, Nat.reduceSub, Nat.reduceMul, Nat.reduceLT, Nat.reduceLeDiff, Nat.reduceEqDiff, Nat.reduceMod, Nat.reduceDiv, Int.reduceAdd, Int.reduceSub, Int.reduceMul, Int.reduceLT, Int.reduceLE, Int.reduceEq, Int.reduceNeg, Int.reduceToNat, reduceIte, reduceCtorEq, Int.reduceBEq, Int.reduceBNe, Bool.true_beq, Bool.false_beq, Bool.true_bne, Bool.false_bne, Bool.not_true, Bool.not_false]
noncomputable def gHc : Gam := (addG 81 idxG gHb)
attribute [push_cast] gHc
theorem gHc_ok : GamOk Tryd.prog gHc := (addG_ok tIdx gHb_ok)
theorem trim1 (s : ByteArray) : CallsV Tryd.prog 58 [.string s, .int .u8 48] [] (Ret0 (.string (bs (strip 48 s.data.toList)))) := by
  obtain ⟨l, rfl⟩ := bs_of s
  rw [bs_data]
  obtain ⟨R, hR⟩ : ∃ R, R = strip 48 l := ⟨_, rfl⟩
  rw [← hR]
  refine callsO gHc_ok Tryd.mix Tryd.pl58 Tryd.func58 rfl Tryd.ntmps58 Tryd.results58 rfl (by first | rfl | assumption) (Nat.le_of_ble_eq_true rfl) (by kernel_rfl) ?_
  simp only [push_cast, Nat.reduceAdd, Nat.reduceSub, Nat.reduceMul, Nat.reduceLT, Nat.reduceLeDiff, Nat.reduceEqDiff, Nat.reduceMod, Nat.reduceDiv, Int.reduceAdd, Int.reduceSub, Int.reduceMul, Int.reduceLT, Int.reduceLE, Int.reduceEq, Int.reduceNeg, Int.reduceToNat, reduceIte, reduceCtorEq, Int.reduceBEq, Int.reduceBNe, Bool.true_beq, Bool.false_beq, Bool.true_bne, Bool.false_bne, Bool.not_true, Bool.not_false]
  refine loopO gHc_ok (pl := Tryd.pl58) Tryd.mix (X := List UInt8)
    (fun x => ([(0, .string (bs x)), (1, .int .u8 48)], []))
    (fun x => strip 48 x = R) (fun x => x.length) l ?_ ?_ (by kernel_rfl) ?_
  · exact hR.symm
  · simp only [push_cast, Nat.reduceAdd, Nat.reduceSub, Nat.reduceMul, Nat.reduceLT, Nat.reduceLeDiff, Nat.reduceEqDiff, Nat.reduceMod, Nat.reduceDiv, Int.reduceAdd, Int.reduceSub, Int.reduceMul, Int.reduceLT, Int.reduceLE, Int.reduceEq, Int.reduceNeg, Int.reduceToNat, reduceIte, reduceCtorEq, Int.reduceBEq, Int.reduceBNe, Bool.true_beq, Bool.false_beq, Bool.true_bne, Bool.false_bne, Bool.not_true, Bool.not_false]
  · intro x hx
    dsimp only at hx ⊢
    cases x with
    | nil =>
      have e : R = [] := hx.symm
      simp only [push_cast, Nat.reduceAdd, Nat.reduceSub, Nat.reduceMul, Nat.reduceLT, Nat.reduceLeDiff, Nat.reduceEqDiff, Nat.reduceMod, Nat.reduceDiv, Int.reduceAdd, Int.reduceSub, Int.reduceMul, Int.reduceLT, Int.reduceLE, Int.reduceEq, Int.reduceNeg, Int.reduceToNat, reduceIte, reduceCtorEq, Int.reduceBEq, Int.reduceBNe, Bool.true_beq, Bool.false_beq, Bool.true_bne, Bool.false_bne, Bool.not_true, Bool.not_false, List.length_nil, e]
    | cons y r =>
      obtain ⟨z, hz⟩ : ∃ z, z = y :: r := ⟨_, rfl⟩
      have zl : z.length = r.length + 1 := by rw [hz]; rfl
      have c1 : (0 : Int) < (z.length : Int) := by omega
      have c2 : 0 < z.length := by omega
      have c3 : 1 ≤ z.length := by omega
      have c4 : (1 : Int) ≤ (z.length : Int) := by omega
      have b0 : (bs z).data[0]? = some y := by rw [hbs_idx c2]; subst hz; rfl
      have dr : List.take (z.length - 1) (List.drop 1 z) = r := by rw [hz]; show List.take (r.length + 1 - 1) r = r; exact List.take_of_length_le (by omega)
      rw [← hz] at hx ⊢
      by_cases hy : y = 48
      · have e : ((y.toNat : Int) == 48) = true := by rw [hy]; rfl
        have hx' : strip 48 r = R := by rw [← hx, hz, strip, if_pos hy]
        simp only [push_cast, Nat.reduceAdd, Nat.reduceSub, Nat.reduceMul, Nat.reduceLT, Nat.reduceLeDiff, Nat.reduceEqDiff, Nat.reduceMod, Nat.reduceDiv, Int.reduceAdd, Int.reduceSub, Int.reduceMul, Int.reduceLT, Int.reduceLE, Int.reduceEq, Int.reduceNeg, Int.reduceToNat, reduceIte, reduceCtorEq, Int.reduceBEq, Int.reduceBNe, Bool.true_beq, Bool.false_beq, Bool.true_bne, Bool.false_bne, Bool.not_true, Bool.not_false, c1, c2, c3, c4, b0, e, dr]
        exact ⟨r, hx', by omega, rfl⟩
      · have e : ((y.toNat : Int) == 48) = false := beq_eq_false_iff_ne.2 fun h => hy (UInt8.toNat_inj.1 (show y.toNat = 48 by omega))
        have hx' : z = R := by rw [← hx, hz, strip, if_neg hy]
        simp only [push_cast, Nat.reduceAdd, Nat.reduceSub, Nat.reduceMul, Nat.reduceLT, Nat.reduceLeDiff, Nat.reduceEqDiff, Nat.reduceMod, Nat.reduceDiv, Int.reduceAdd, Int.reduceSub, Int.reduceMul, Int.reduceLT, Int.reduceLE, Int.reduceEq, Int.reduceNeg, Int.reduceToNat, reduceIte, reduceCtorEq, Int.reduceBEq, Int.reduceBNe, Bool.true_beq, Bool.false_beq, Bool.true_bne, Bool.false_bne, Bool.not_true, Bool.not_false, c1, c2, c3, b0, e]
        rw [hx']
theorem trim1G_ok (args : List Value) (v : Value) (h : trim1G args = some v) : CallsV Tryd.prog 58 args [] (Ret0 v) := by
  unfold trim1G at h
  split at h
  · split at h
    · rename_i hc; cases h; rw [hc]; exact trim1 _
    · cases h
  · cases h
noncomputable def gHd : Gam := (addG 58 trim1G gHc)
attribute [push_cast] gHd
theorem gHd_ok : GamOk Tryd.prog gHd := (addG_ok trim1G_ok gHc_ok)
theorem trim_ok (s : ByteArray) : CallsV Tryd.prog 45 [.string s, .string (bs [48])] [] (Ret0 (.string (bs (strip 48 s.data.toList)))) := by
  obtain ⟨l, rfl⟩ := bs_of s
  rw [bs_data]
  have b0 : (bs [48]).data[0]? = some 48 := rfl
  have e0 : (bs [48]).toList = [48] := bs_toList _
  have e1 : ByteArray.toList { data := #[] } = [] := bs_toList []
  have e2 : ([48] : List UInt8).length = 1 := rfl
  have e3 : ((48 : UInt8).toNat : Int) = 48 := rfl
  have e4 : ([48] == ([] : List UInt8)) = false := rfl
  refine callsO gHd_ok Tryd.mix Tryd.pl45 Tryd.func45 rfl Tryd.ntmps45 Tryd.results45 rfl (by first | rfl | assumption) (Nat.le_of_ble_eq_true rfl) (by kernel_rfl) ?_
  cases l with
  | nil =>
    have e5 : (([] : List UInt8) == []) = true := rfl
    simp only [push_cast, Nat.reduceAdd, Nat.reduceSub, Nat.reduceMul, Nat.reduceLT, Nat.reduceLeDiff, Nat.reduceEqDiff, Nat.reduceMod, Nat.reduceDiv, Int.reduceAdd, Int.reduceSub, Int.reduceMul, Int.reduceLT, Int.reduceLE, Int.reduceEq, Int.reduceNeg, Int.reduceToNat, reduceIte, reduceCtorEq, Int.reduceBEq, Int.reduceBNe, Bool.true_beq, Bool.false_beq, Bool.true_bne, Bool.false_bne, Bool.not_true, Bool.not_false, e1, e5]
    rfl
  | cons y r =>
    obtain ⟨z, hz⟩ : ∃ z, z = y :: r := ⟨_, rfl⟩
    have e5 : (z == []) = false := by rw [hz]; rfl
    rw [← hz]
    simp only [push_cast, Nat.reduceAdd, Nat.reduceSub, Nat.reduceMul, Nat.reduceLT, Nat.reduceLeDiff, Nat.reduceEqDiff, Nat.reduceMod, Nat.reduceDiv, Int.reduceAdd, Int.reduceSub, Int.reduceMul, Int.reduceLT, Int.reduceLE, Int.reduceEq, Int.reduceNeg, Int.reduceToNat, reduceIte, reduceCtorEq, Int.reduceBEq, Int.reduceBNe, Bool.true_beq, Bool.false_beq, Bool.true_bne, Bool.false_bne, Bool.not_true, Bool.not_false, e1, e2, e3, e4, e5, b0]
theorem trimG_ok (args : List Value) (v : Value) (h : trimG args = some v) : CallsV Tryd.prog 45 args [] (Ret0 v) := by
  unfold trimG at h
  split at h
  · split at h
    · rename_i hc; cases h; rw [oneB_eq, decide_eq_true_eq] at hc; rw [hc]; exact trim_ok _
    · cases h
  · cases h
noncomputable def gHe : Gam := (addG 45 trimG gHd)
attribute [push_cast] gHe
theorem gHe_ok : GamOk Tryd.prog gHe := (addG_ok trimG_ok gHd_ok)
end Go.Proofs.YtfioapldbajpmaaDoor
