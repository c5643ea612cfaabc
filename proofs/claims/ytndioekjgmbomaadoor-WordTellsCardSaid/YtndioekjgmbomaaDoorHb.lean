/- Hb: Go's library: Builder.WriteByte, strings.IndexByte, CutPrefix, TrimLeft of noughts. -/
import Derived.Test.YtndioekjgmbomaaDoorSc
import Derived.Test.YtndioekjgmbomaaDoorHa
import Derived.Test.YtndioekjgmbomaaDoorWl
import Derived.Test.YtndioekjgmbomaaDoorSf
import Derived.Lib.Bytealg
set_option linter.unusedSimpArgs false
set_option linter.unusedVariables false
namespace Go.Ev
noncomputable def idxN : ByteArray → Int → Int := hid fun s c => Lib.indexByte s.data.toList c.toNat.toUInt8
theorem idxN_eq (s : ByteArray) (c : Int) : idxN s c = Lib.indexByte s.data.toList c.toNat.toUInt8 := by unfold idxN; rw [hid_eq]
noncomputable def idxG : List Value → Option Value
  | [.string s, .int .u8 c] => some (.int .i64 (idxN s c))
  | _ => none
noncomputable def preB : ByteArray → ByteArray → Bool := hid fun s t => decide (s.data.toList.take t.size = t.data.toList)
theorem preB_eq (s t : ByteArray) : preB s t = decide (s.data.toList.take t.size = t.data.toList) := by unfold preB; rw [hid_eq]
noncomputable def hasG : List Value → Option Value
  | [.string s, .string t] => some (.bool (preB s t))
  | _ => none
noncomputable def cutP (s t : ByteArray) : ByteArray := if preB s t = true then bs (s.data.toList.drop t.size) else s
noncomputable def cutG : List Value → Option Value
  | [.string s, .string t] => some (.tuple #[.string (cutP s t), .bool (preB s t)])
  | _ => none
noncomputable def oneB : ByteArray → Bool := hid fun t => decide (t = bs [48])
theorem oneB_eq (t : ByteArray) : oneB t = decide (t = bs [48]) := by unfold oneB; rw [hid_eq]
noncomputable def trim1G : List Value → Option Value
  | [.string s, .int .u8 c] => if c = 48 then some (.string (bs (strip 48 s.data.toList))) else none
  | _ => none
noncomputable def trimG : List Value → Option Value
  | [.string s, .string t] => if oneB t then some (.string (bs (strip 48 s.data.toList))) else none
  | _ => none
attribute [push_cast] idxG hasG cutG trim1G trimG
theorem hbs_idx {l : List UInt8} {i : Nat} (h : i < l.length) : (bs l).data[i]? = some l[i] := by
  simp [bs, h]
end Go.Ev
namespace Go.Proofs.YtndioekjgmbomaaDoor
open Go Go.Ev Go.Proofs
set_option maxRecDepth 100000
set_option maxHeartbeats 4000000
theorem idxExt (args : List Value) (v : Value) (h : idxG args = some v) : ExtV Tryd.prog 72 args v := by
  unfold idxG at h
  split at h
  case h_2 => cases h
  cases h
  intro w
  rw [run_callFunc_extern Tryd.func72 (by kernel_rfl) (by kernel_rfl) (by kernel_rfl) (e := Extern.BytealgIndexByte.indexByte) (by kernel_rfl)]
  rw [Lib.run_indexByteString, idxN_eq]
  rfl
noncomputable def gHa : Gam := (addG 72 idxG noG)
attribute [push_cast] gHa
theorem gHa_ok : GamOk Tryd.prog gHa := (addX_ok idxExt (noG_ok _))
theorem sIdx (args : List Value) (v : Value) (h : idxG args = some v) : CallsV Tryd.prog 64 args [] (Ret0 v) := by
  unfold idxG at h
  split at h
  case h_2 => cases h
  cases h
  refine callsO gHa_ok Tryd.mix Tryd.pl64 Tryd.func64 rfl Tryd.ntmps64 Tryd.results64 rfl (by first | rfl | assumption) (Nat.le_of_ble_eq_true rfl) (by kernel_rfl) ?_
  simp only [push_cast, Nat.reduceAdd, Nat.reduceSub, Nat.reduceMul, Nat.reduceLT, Nat.reduceLeDiff, Nat.reduceEqDiff, Nat.reduceMod, Nat.reduceDiv, Int.reduceAdd, Int.reduceSub, Int.reduceMul, Int.reduceLT, Int.reduceLE, Int.reduceEq, Int.reduceNeg, Int.reduceToNat, reduceIte, reduceCtorEq]
theorem sHas (args : List Value) (v : Value) (h : hasG args = some v) : CallsV Tryd.prog 71 args [] (Ret0 v) := by
  unfold hasG at h
  split at h
  case h_2 => cases h
  rename_i s t
  cases h
  obtain ⟨l, rfl⟩ := bs_of s
  obtain ⟨m, rfl⟩ := bs_of t
  rw [preB_eq, bs_data, bs_data, bs_size]
  refine callsO gHa_ok Tryd.mix Tryd.pl71 Tryd.func71 rfl Tryd.ntmps71 Tryd.results71 rfl (by first | rfl | assumption) (Nat.le_of_ble_eq_true rfl) (by kernel_rfl) ?_
  by_cases h : m.length ≤ l.length
  · have h1 : (m.length : Int) ≤ (l.length : Int) := by omega
    have e : decide (List.take m.length l = m) = (List.take m.length l == m) := by
      rw [Bool.eq_iff_iff, decide_eq_true_eq, beq_iff_eq]
    simp only [push_cast, Nat.reduceAdd, Nat.reduceSub, Nat.reduceMul, Nat.reduceLT, Nat.reduceLeDiff, Nat.reduceEqDiff, Nat.reduceMod, Nat.reduceDiv, Int.reduceAdd, Int.reduceSub, Int.reduceMul, Int.reduceLT, Int.reduceLE, Int.reduceEq, Int.reduceNeg, Int.reduceToNat, reduceIte, reduceCtorEq, h, h1, e]
  · have h1 : ¬ (m.length : Int) ≤ (l.length : Int) := by omega
    have e : decide (List.take m.length l = m) = false := decide_eq_false fun e => h (by have := congrArg List.length e; rw [List.length_take] at this; omega)
    simp only [push_cast, Nat.reduceAdd, Nat.reduceSub, Nat.reduceMul, Nat.reduceLT, Nat.reduceLeDiff, Nat.reduceEqDiff, Nat.reduceMod, Nat.reduceDiv, Int.reduceAdd, Int.reduceSub, Int.reduceMul, Int.reduceLT, Int.reduceLE, Int.reduceEq, Int.reduceNeg, Int.reduceToNat, reduceIte, reduceCtorEq, h, h1, e]
noncomputable def gHb : Gam := (addG 71 hasG (addG 64 idxG gHa))
attribute [push_cast] gHb
theorem gHb_ok : GamOk Tryd.prog gHb := (addG_ok sHas (addG_ok sIdx gHa_ok))
theorem tIdx (args : List Value) (v : Value) (h : idxG args = some v) : CallsV Tryd.prog 48 args [] (Ret0 v) := by
  unfold idxG at h
  split at h
  case h_2 => cases h
  cases h
  refine callsO gHb_ok Tryd.mix Tryd.pl48 Tryd.func48 rfl Tryd.ntmps48 Tryd.results48 rfl (by first | rfl | assumption) (Nat.le_of_ble_eq_true rfl) (by kernel_rfl) ?_
  simp only [push_cast, Nat.reduceAdd, Nat.reduceSub, Nat.reduceMul, Nat.reduceLT, Nat.reduceLeDiff, Nat.reduceEqDiff, Nat.reduceMod, Nat.reduceDiv, Int.reduceAdd, Int.reduceSub, Int.reduceMul, Int.reduceLT, Int.reduceLE, Int.reduceEq, Int.reduceNeg, Int.reduceToNat, reduceIte, reduceCtorEq]
theorem sCut (args : List Value) (v : Value) (h : cutG args = some v) : CallsV Tryd.prog 63 args [] (Ret0 v) := by
  unfold cutG at h
  split at h
  case h_2 => cases h
  rename_i s t
  cases h
  obtain ⟨l, rfl⟩ := bs_of s
  obtain ⟨m, rfl⟩ := bs_of t
  cases hp : preB (bs l) (bs m)
  · have e : cutP (bs l) (bs m) = bs l := by unfold cutP; rw [hp]; rfl
    refine callsO gHb_ok Tryd.mix Tryd.pl63 Tryd.func63 rfl Tryd.ntmps63 Tryd.results63 rfl (by first | rfl | assumption) (Nat.le_of_ble_eq_true rfl) (by kernel_rfl) ?_
    simp only [push_cast, Nat.reduceAdd, Nat.reduceSub, Nat.reduceMul, Nat.reduceLT, Nat.reduceLeDiff, Nat.reduceEqDiff, Nat.reduceMod, Nat.reduceDiv, Int.reduceAdd, Int.reduceSub, Int.reduceMul, Int.reduceLT, Int.reduceLE, Int.reduceEq, Int.reduceNeg, Int.reduceToNat, reduceIte, reduceCtorEq, hp, e]
  · have e : cutP (bs l) (bs m) = bs (l.drop m.length) := by unfold cutP; rw [hp, if_pos rfl, bs_data, bs_size]
    have hl : m.length ≤ l.length := by
      rw [preB_eq, decide_eq_true_eq, bs_data, bs_data, bs_size] at hp
      have := congrArg List.length hp
      rw [List.length_take] at this
      omega
    have e9 : List.take (l.length - m.length) (List.drop m.length l) = List.drop m.length l := List.take_of_length_le (by rw [List.length_drop]; exact Nat.le_refl _)
    refine callsO gHb_ok Tryd.mix Tryd.pl63 Tryd.func63 rfl Tryd.ntmps63 Tryd.results63 rfl (by first | rfl | assumption) (Nat.le_of_ble_eq_true rfl) (by kernel_rfl) ?_
    simp only [push_cast, Nat.reduceAdd, Nat.reduceSub, Nat.reduceMul, Nat.reduceLT, Nat.reduceLeDiff, Nat.reduceEqDiff, Nat.reduceMod, Nat.reduceDiv, Int.reduceAdd, Int.reduceSub, Int.reduceMul, Int.reduceLT, Int.reduceLE, Int.reduceEq, Int.reduceNeg, Int.reduceToNat, reduceIte, reduceCtorEq, hp, e, hl, e9]
noncomputable def gHc : Gam := (addG 63 cutG (addG 48 idxG gHb))
attribute [push_cast] gHc
theorem gHc_ok : GamOk Tryd.prog gHc := (addG_ok sCut (addG_ok tIdx gHb_ok))
theorem tCut (args : List Value) (v : Value) (h : cutG args = some v) : CallsV Tryd.prog 47 args [] (Ret0 v) := by
  unfold cutG at h
  split at h
  case h_2 => cases h
  cases h
  refine callsO gHc_ok Tryd.mix Tryd.pl47 Tryd.func47 rfl Tryd.ntmps47 Tryd.results47 rfl (by first | rfl | assumption) (Nat.le_of_ble_eq_true rfl) (by kernel_rfl) ?_
  simp only [push_cast, Nat.reduceAdd, Nat.reduceSub, Nat.reduceMul, Nat.reduceLT, Nat.reduceLeDiff, Nat.reduceEqDiff, Nat.reduceMod, Nat.reduceDiv, Int.reduceAdd, Int.reduceSub, Int.reduceMul, Int.reduceLT, Int.reduceLE, Int.reduceEq, Int.reduceNeg, Int.reduceToNat, reduceIte, reduceCtorEq]
theorem trim1 (s : ByteArray) : CallsV Tryd.prog 56 [.string s, .int .u8 48] [] (Ret0 (.string (bs (strip 48 s.data.toList)))) := by
  obtain ⟨l, rfl⟩ := bs_of s
  rw [bs_data]
  obtain ⟨R, hR⟩ : ∃ R, R = strip 48 l := ⟨_, rfl⟩
  rw [← hR]
  refine callsO gHc_ok Tryd.mix Tryd.pl56 Tryd.func56 rfl Tryd.ntmps56 Tryd.results56 rfl (by first | rfl | assumption) (Nat.le_of_ble_eq_true rfl) (by kernel_rfl) ?_
  simp only [push_cast, Nat.reduceAdd, Nat.reduceSub, Nat.reduceMul, Nat.reduceLT, Nat.reduceLeDiff, Nat.reduceEqDiff, Nat.reduceMod, Nat.reduceDiv, Int.reduceAdd, Int.reduceSub, Int.reduceMul, Int.reduceLT, Int.reduceLE, Int.reduceEq, Int.reduceNeg, Int.reduceToNat, reduceIte, reduceCtorEq]
  refine loopO gHc_ok (pl := Tryd.pl56) Tryd.mix (X := List UInt8)
    (fun x => ([(0, .string (bs x)), (1, .int .u8 48)], []))
    (fun x => strip 48 x = R) (fun x => x.length) l ?_ ?_ (by kernel_rfl) ?_
  · exact hR.symm
  · simp only [push_cast, Nat.reduceAdd, Nat.reduceSub, Nat.reduceMul, Nat.reduceLT, Nat.reduceLeDiff, Nat.reduceEqDiff, Nat.reduceMod, Nat.reduceDiv, Int.reduceAdd, Int.reduceSub, Int.reduceMul, Int.reduceLT, Int.reduceLE, Int.reduceEq, Int.reduceNeg, Int.reduceToNat, reduceIte, reduceCtorEq]
  · intro x hx
    dsimp only at hx ⊢
    cases x with
    | nil =>
      have e : R = [] := hx.symm
      simp only [push_cast, Nat.reduceAdd, Nat.reduceSub, Nat.reduceMul, Nat.reduceLT, Nat.reduceLeDiff, Nat.reduceEqDiff, Nat.reduceMod, Nat.reduceDiv, Int.reduceAdd, Int.reduceSub, Int.reduceMul, Int.reduceLT, Int.reduceLE, Int.reduceEq, Int.reduceNeg, Int.reduceToNat, reduceIte, reduceCtorEq, List.length_nil, e]
    | cons y r =>
      obtain ⟨z, hz⟩ : ∃ z, z = y :: r := ⟨_, rfl⟩
      have zl : z.length = r.length + 1 := by rw [hz]; rfl
      have c1 : (0 : Int) < (z.length : Int) := by omega
      have c2 : 0 < z.length := by omega
      have c3 : 1 ≤ z.length := by omega
      have c4 : (1 : Int) ≤ (z.length : Int) := by omega
      have b0 : (bs z).data[0]? = some y := by rw [hbs_idx c2]; subst hz; rfl
      have dr : List.take (z.length - 1) (List.drop 1 z) = r := by rw [hz]; show List.take (r.length + 1 - 1) r = r; exact List.take_of_length_le (by omega)
      rw [← hz] at hx ⊢
      by_cases hy : y = 48
      · have e : ((y.toNat : Int) == 48) = true := by rw [hy]; rfl
        have hx' : strip 48 r = R := by rw [← hx, hz, strip, if_pos hy]
        simp only [push_cast, Nat.reduceAdd, Nat.reduceSub, Nat.reduceMul, Nat.reduceLT, Nat.reduceLeDiff, Nat.reduceEqDiff, Nat.reduceMod, Nat.reduceDiv, Int.reduceAdd, Int.reduceSub, Int.reduceMul, Int.reduceLT, Int.reduceLE, Int.reduceEq, Int.reduceNeg, Int.reduceToNat, reduceIte, reduceCtorEq, c1, c2, c3, c4, b0, e, dr]
        exact ⟨r, hx', by omega, rfl⟩
      · have e : ((y.toNat : Int) == 48) = false := beq_eq_false_iff_ne.2 fun h => hy (UInt8.toNat_inj.1 (show y.toNat = 48 by omega))
        have hx' : z = R := by rw [← hx, hz, strip, if_neg hy]
        simp only [push_cast, Nat.reduceAdd, Nat.reduceSub, Nat.reduceMul, Nat.reduceLT, Nat.reduceLeDiff, Nat.reduceEqDiff, Nat.reduceMod, Nat.reduceDiv, Int.reduceAdd, Int.reduceSub, Int.reduceMul, Int.reduceLT, Int.reduceLE, Int.reduceEq, Int.reduceNeg, Int.reduceToNat, reduceIte, reduceCtorEq, c1, c2, c3, b0, e]
        rw [hx']
theorem trim1G_ok (args : List Value) (v : Value) (h : trim1G args = some v) : CallsV Tryd.prog 56 args [] (Ret0 v) := by
  unfold trim1G at h
  split at h
  · split at h
    · rename_i hc; cases h; rw [hc]; exact trim1 _
    · cases h
  · cases h
noncomputable def gHd : Gam := (addG 56 trim1G (addG 47 cutG gHc))
attribute [push_cast] gHd
theorem gHd_ok : GamOk Tryd.prog gHd := (addG_ok trim1G_ok (addG_ok tCut gHc_ok))
theorem trim_ok (s : ByteArray) : CallsV Tryd.prog 42 [.string s, .string (bs [48])] [] (Ret0 (.string (bs (strip 48 s.data.toList)))) := by
  obtain ⟨l, rfl⟩ := bs_of s
  rw [bs_data]
  have b0 : (bs [48]).data[0]? = some 48 := rfl
  have e0 : (bs [48]).toList = [48] := bs_toList _
  have e1 : ByteArray.toList { data := #[] } = [] := bs_toList []
  have e2 : ([48] : List UInt8).length = 1 := rfl
  have e3 : ((48 : UInt8).toNat : Int) = 48 := rfl
  have e4 : ([48] == ([] : List UInt8)) = false := rfl
  refine callsO gHd_ok Tryd.mix Tryd.pl42 Tryd.func42 rfl Tryd.ntmps42 Tryd.results42 rfl (by first | rfl | assumption) (Nat.le_of_ble_eq_true rfl) (by kernel_rfl) ?_
  cases l with
  | nil =>
    have e5 : (([] : List UInt8) == []) = true := rfl
    simp only [push_cast, Nat.reduceAdd, Nat.reduceSub, Nat.reduceMul, Nat.reduceLT, Nat.reduceLeDiff, Nat.reduceEqDiff, Nat.reduceMod, Nat.reduceDiv, Int.reduceAdd, Int.reduceSub, Int.reduceMul, Int.reduceLT, Int.reduceLE, Int.reduceEq, Int.reduceNeg, Int.reduceToNat, reduceIte, reduceCtorEq, e1, e5]
    rfl
  | cons y r =>
    obtain ⟨z, hz⟩ : ∃ z, z = y :: r := ⟨_, rfl⟩
    have e5 : (z == []) = false := by rw [hz]; rfl
    rw [← hz]
    simp only [push_cast, Nat.reduceAdd, Nat.reduceSub, Nat.reduceMul, Nat.reduceLT, Nat.reduceLeDiff, Nat.reduceEqDiff, Nat.reduceMod, Nat.reduceDiv, Int.reduceAdd, Int.reduceSub, Int.reduceMul, Int.reduceLT, Int.reduceLE, Int.reduceEq, Int.reduceNeg, Int.reduceToNat, reduceIte, reduceCtorEq, e1, e2, e3, e4, e5, b0]
theorem trimG_ok (args : List Value) (v : Value) (h : trimG args = some v) : CallsV Tryd.prog 42 args [] (Ret0 v) := by
  unfold trimG at h
  split at h
  · split at h
    · rename_i hc; cases h; rw [oneB_eq, decide_eq_true_eq] at hc; rw [hc]; exact trim_ok _
    · cases h
  · cases h
noncomputable def gHe : Gam := (addG 42 trimG gHd)
attribute [push_cast] gHe
theorem gHe_ok : GamOk Tryd.prog gHe := (addG_ok trimG_ok gHd_ok)
def plWB : Plans := fun i => if i = 2 then [(0, 9)] else Tryd.pl41 i
attribute [push_cast] plWB
theorem writeByte_ok (b : Nat) (p v : Value) (hp : p = .pointer none ∨ p = .pointer (some ⟨b, 0, none⟩)) (l : List UInt8) (Nv : Hp) (ho : OutC 5 1 (byteV l) l.length v Nv) (hf : freshN Nv [⟨b, 0, .cel 61, [p, v]⟩]) (x : UInt8) (hlen : l.length + 1 ≤ 140737488355328) :
    CallsV Tryd.prog 41 [.pointer (some ⟨b, 0, none⟩), .int .u8 (x.toNat : Nat)] (Nv ++ [⟨b, 0, .cel 61, [p, v]⟩])
    (fun r N => r = .nilIface ∧ ∃ v' N', OutC 5 1 (byteV (l ++ [x])) (l ++ [x]).length v' N' ∧ freshN N' [⟨b, 0, .cel 61, [.pointer (some ⟨b, 0, none⟩), v']⟩] ∧ N = N' ++ [⟨b, 0, .cel 61, [.pointer (some ⟨b, 0, none⟩), v']⟩]) := by
  obtain ⟨pa, ca, rfl⟩ := ho.slice
  have fb : findE (Nv ++ [⟨b, 0, .cel 61, [p, .slice pa l.length ca]⟩]) b = some ⟨b, 0, .cel 61, [p, .slice pa l.length ca]⟩ := by
    rw [findE_freshN hf (b := b) (e := ⟨b, 0, .cel 61, [p, .slice pa l.length ca]⟩) (by simp only [push_cast, Nat.reduceAdd, Nat.reduceSub, Nat.reduceMul, Nat.reduceLT, Nat.reduceLeDiff, Nat.reduceEqDiff, Nat.reduceMod, Nat.reduceDiv, Int.reduceAdd, Int.reduceSub, Int.reduceMul, Int.reduceLT, Int.reduceLE, Int.reduceEq, Int.reduceNeg, Int.reduceToNat, reduceIte, reduceCtorEq])]; simp only [push_cast, Nat.reduceAdd, Nat.reduceSub, Nat.reduceMul, Nat.reduceLT, Nat.reduceLeDiff, Nat.reduceEqDiff, Nat.reduceMod, Nat.reduceDiv, Int.reduceAdd, Int.reduceSub, Int.reduceMul, Int.reduceLT, Int.reduceLE, Int.reduceEq, Int.reduceNeg, Int.reduceToNat, reduceIte, reduceCtorEq]
  have hf2 : freshN Nv [⟨b, 0, .cel 61, [.pointer (some ⟨b, 0, none⟩), .slice pa l.length ca]⟩] := freshN_blk (by rfl) hf
  have fb2 : findE (Nv ++ [⟨b, 0, .cel 61, [.pointer (some ⟨b, 0, none⟩), .slice pa l.length ca]⟩]) b = some ⟨b, 0, .cel 61, [.pointer (some ⟨b, 0, none⟩), .slice pa l.length ca]⟩ := by
    rw [findE_freshN hf2 (b := b) (e := ⟨b, 0, .cel 61, [.pointer (some ⟨b, 0, none⟩), .slice pa l.length ca]⟩) (by simp only [push_cast, Nat.reduceAdd, Nat.reduceSub, Nat.reduceMul, Nat.reduceLT, Nat.reduceLeDiff, Nat.reduceEqDiff, Nat.reduceMod, Nat.reduceDiv, Int.reduceAdd, Int.reduceSub, Int.reduceMul, Int.reduceLT, Int.reduceLE, Int.reduceEq, Int.reduceNeg, Int.reduceToNat, reduceIte, reduceCtorEq])]; simp only [push_cast, Nat.reduceAdd, Nat.reduceSub, Nat.reduceMul, Nat.reduceLT, Nat.reduceLeDiff, Nat.reduceEqDiff, Nat.reduceMod, Nat.reduceDiv, Int.reduceAdd, Int.reduceSub, Int.reduceMul, Int.reduceLT, Int.reduceLE, Int.reduceEq, Int.reduceNeg, Int.reduceToNat, reduceIte, reduceCtorEq]
  have hm : marksOf (Nv ++ [⟨b, 0, .cel 61, [p, .slice pa l.length ca]⟩]) = [] := by rw [marks_append, ho.wr.2]; rfl
  refine callsO gS_ok Tryd.mix plWB Tryd.func41 rfl Tryd.ntmps41 Tryd.results41 rfl (by first | rfl | assumption) (Nat.le_of_ble_eq_true rfl) (by kernel_rfl) ?_
  simp only [push_cast, Nat.reduceAdd, Nat.reduceSub, Nat.reduceMul, Nat.reduceLT, Nat.reduceLeDiff, Nat.reduceEqDiff, Nat.reduceMod, Nat.reduceDiv, Int.reduceAdd, Int.reduceSub, Int.reduceMul, Int.reduceLT, Int.reduceLE, Int.reduceEq, Int.reduceNeg, Int.reduceToNat, reduceIte, reduceCtorEq]
  refine CallsV.useM (copyCheck_ok b p (.slice pa l.length ca) hp) fb rfl trivial ?_
  rintro r N ⟨rfl, rfl⟩
  refine ⟨⟨trivial, trivial⟩, rfl, fun hf' => ?_⟩
  rw [show remE (Nv ++ [⟨b, 0, .cel 61, [p, .slice pa l.length ca]⟩]) b = Nv from remE_freshN hf] at hf' ⊢
  simp only [push_cast, Nat.reduceAdd, Nat.reduceSub, Nat.reduceMul, Nat.reduceLT, Nat.reduceLeDiff, Nat.reduceEqDiff, Nat.reduceMod, Nat.reduceDiv, Int.reduceAdd, Int.reduceSub, Int.reduceMul, Int.reduceLT, Int.reduceLE, Int.reduceEq, Int.reduceNeg, Int.reduceToNat, reduceIte, reduceCtorEq]
  refine WpV.sub (s := ([(0, .pointer (some ⟨b, 0, none⟩)), (1, .int .u8 (x.toNat : Nat)), (4, .nilIface)], Nv ++ [⟨b, 0, .cel 61, [.pointer (some ⟨b, 0, none⟩), .slice pa l.length ca]⟩])) ⟨by simp only [push_cast, Nat.reduceAdd, Nat.reduceSub, Nat.reduceMul, Nat.reduceLT, Nat.reduceLeDiff, Nat.reduceEqDiff, Nat.reduceMod, Nat.reduceDiv, Int.reduceAdd, Int.reduceSub, Int.reduceMul, Int.reduceLT, Int.reduceLE, Int.reduceEq, Int.reduceNeg, Int.reduceToNat, reduceIte, reduceCtorEq], subH_rot hf'.1, ?_⟩ (regO gS_ok ?_)
  · simp [marksOf, marks_append, ho.wr.2]
  simp only [push_cast, Nat.reduceAdd, Nat.reduceSub, Nat.reduceMul, Nat.reduceLT, Nat.reduceLeDiff, Nat.reduceEqDiff, Nat.reduceMod, Nat.reduceDiv, Int.reduceAdd, Int.reduceSub, Int.reduceMul, Int.reduceLT, Int.reduceLE, Int.reduceEq, Int.reduceNeg, Int.reduceToNat, reduceIte, reduceCtorEq, fb2]
  intro b13 hb13
  have h13 : ¬ b = b13 := (fresh_app hb13).2.1
  refine append_out1 (e := 5) (sz := 1) (by_ := 1) (n := l.length) (m := 1) (ys := [.int .u8 (x.toNat : Nat)]) ho hb13 (by simp only [push_cast, Nat.reduceAdd, Nat.reduceSub, Nat.reduceMul, Nat.reduceLT, Nat.reduceLeDiff, Nat.reduceEqDiff, Nat.reduceMod, Nat.reduceDiv, Int.reduceAdd, Int.reduceSub, Int.reduceMul, Int.reduceLT, Int.reduceLE, Int.reduceEq, Int.reduceNeg, Int.reduceToNat, reduceIte, reduceCtorEq]) (by simp only [push_cast, Nat.reduceAdd, Nat.reduceSub, Nat.reduceMul, Nat.reduceLT, Nat.reduceLeDiff, Nat.reduceEqDiff, Nat.reduceMod, Nat.reduceDiv, Int.reduceAdd, Int.reduceSub, Int.reduceMul, Int.reduceLT, Int.reduceLE, Int.reduceEq, Int.reduceNeg, Int.reduceToNat, reduceIte, reduceCtorEq]) rfl rfl (by unfold two47; omega) fun v' N' ho' hf3 => ?_
  obtain ⟨pb, cb, rfl⟩ := ho'.slice
  have hf4 : freshN N' [⟨b, 0, .cel 61, [.pointer (some ⟨b, 0, none⟩), .slice pa l.length ca]⟩] := freshN_cons hf3
  have fb' : findE (N' ++ [⟨b13, 0, .vec 5 1 1, [.int .u8 (x.toNat : Nat)]⟩, ⟨b, 0, .cel 61, [.pointer (some ⟨b, 0, none⟩), .slice pa l.length ca]⟩]) b = some ⟨b, 0, .cel 61, [.pointer (some ⟨b, 0, none⟩), .slice pa l.length ca]⟩ := by
    rw [findE_freshN hf3 (b := b) (e := ⟨b, 0, .cel 61, [.pointer (some ⟨b, 0, none⟩), .slice pa l.length ca]⟩) (by simp only [push_cast, Nat.reduceAdd, Nat.reduceSub, Nat.reduceMul, Nat.reduceLT, Nat.reduceLeDiff, Nat.reduceEqDiff, Nat.reduceMod, Nat.reduceDiv, Int.reduceAdd, Int.reduceSub, Int.reduceMul, Int.reduceLT, Int.reduceLE, Int.reduceEq, Int.reduceNeg, Int.reduceToNat, reduceIte, reduceCtorEq, h13])]; simp only [push_cast, Nat.reduceAdd, Nat.reduceSub, Nat.reduceMul, Nat.reduceLT, Nat.reduceLeDiff, Nat.reduceEqDiff, Nat.reduceMod, Nat.reduceDiv, Int.reduceAdd, Int.reduceSub, Int.reduceMul, Int.reduceLT, Int.reduceLE, Int.reduceEq, Int.reduceNeg, Int.reduceToNat, reduceIte, reduceCtorEq, h13]
  have ub : ∀ cs, updE (N' ++ [⟨b13, 0, .vec 5 1 1, [.int .u8 (x.toNat : Nat)]⟩, ⟨b, 0, .cel 61, [.pointer (some ⟨b, 0, none⟩), .slice pa l.length ca]⟩]) b cs = N' ++ [⟨b13, 0, .vec 5 1 1, [.int .u8 (x.toNat : Nat)]⟩, ⟨b, 0, .cel 61, cs⟩] := fun cs => by
    rw [updE_left hf3 (b := b) (e := ⟨b, 0, .cel 61, [.pointer (some ⟨b, 0, none⟩), .slice pa l.length ca]⟩) (by simp only [push_cast, Nat.reduceAdd, Nat.reduceSub, Nat.reduceMul, Nat.reduceLT, Nat.reduceLeDiff, Nat.reduceEqDiff, Nat.reduceMod, Nat.reduceDiv, Int.reduceAdd, Int.reduceSub, Int.reduceMul, Int.reduceLT, Int.reduceLE, Int.reduceEq, Int.reduceNeg, Int.reduceToNat, reduceIte, reduceCtorEq, h13])]; simp only [push_cast, Nat.reduceAdd, Nat.reduceSub, Nat.reduceMul, Nat.reduceLT, Nat.reduceLeDiff, Nat.reduceEqDiff, Nat.reduceMod, Nat.reduceDiv, Int.reduceAdd, Int.reduceSub, Int.reduceMul, Int.reduceLT, Int.reduceLE, Int.reduceEq, Int.reduceNeg, Int.reduceToNat, reduceIte, reduceCtorEq, h13]
  have hm2 : ∀ cs, marksOf (N' ++ [⟨b13, 0, .vec 5 1 1, [.int .u8 (x.toNat : Nat)]⟩, ⟨b, 0, .cel 61, cs⟩]) = [] := fun cs => by rw [marks_append, ho'.wr.2]; rfl
  simp only [push_cast, Nat.reduceAdd, Nat.reduceSub, Nat.reduceMul, Nat.reduceLT, Nat.reduceLeDiff, Nat.reduceEqDiff, Nat.reduceMod, Nat.reduceDiv, Int.reduceAdd, Int.reduceSub, Int.reduceMul, Int.reduceLT, Int.reduceLE, Int.reduceEq, Int.reduceNeg, Int.reduceToNat, reduceIte, reduceCtorEq, fb', ub]
  refine ⟨N' ++ [⟨b, 0, .cel 61, [.pointer (some ⟨b, 0, none⟩), .slice pb (l.length + 1) cb]⟩], ?_, .slice pb (l.length + 1) cb, N', ?_, freshN_blk (by rfl) hf4, rfl⟩
  · rw [dropM_eq (hm2 _)]
    exact List.Sublist.append (List.Sublist.refl _) (List.Sublist.cons _ (List.Sublist.refl _))
  · rw [byteV_app]
    exact ho'
end Go.Proofs.YtndioekjgmbomaaDoor
