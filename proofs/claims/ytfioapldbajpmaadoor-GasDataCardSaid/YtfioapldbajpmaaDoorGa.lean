/- Ga: gas: all costs but those of data and of what is declared; the document's own. -/
import Derived.Test.YtfioapldbajpmaaDoorHt
set_option linter.unusedSimpArgs false
set_option linter.unusedVariables false
namespace Go.Ev
def minZ (a b : Int) : Int := if b < a then b else a
def maxZ (a b : Int) : Int := if a < b then b else a
noncomputable def gwithI : Int → Int → Int → Int := hid fun x l m => maxZ l (minZ x m)
theorem gwithI_eq (x l m : Int) : gwithI x l m = maxZ l (minZ x m) := by unfold gwithI; rw [hid_eq]
noncomputable def gmanyI : Int → Nat := hid fun n => (maxZ 0 (minZ n 1048576)).toNat
theorem gmanyI_eq (n : Int) : (gmanyI n : Int) = maxZ 0 (minZ n 1048576) := by
  unfold gmanyI; rw [hid_eq]
  unfold maxZ minZ
  split <;> split <;> omega
theorem gmanyI_le (n : Int) : gmanyI n ≤ 1048576 := by
  have h := gmanyI_eq n
  unfold maxZ minZ at h
  split at h <;> split at h <;> omega
theorem gmanyI_in {n : Nat} (h : n ≤ 1048576) : gmanyI (n : Int) = n := by
  have h := gmanyI_eq n
  unfold maxZ minZ at h
  split at h <;> split at h <;> omega
noncomputable def gwordsI : Int → Nat := hid fun n => (gmanyI n + 31) / 32
theorem gwordsI_eq (n : Int) : gwordsI n = (gmanyI n + 31) / 32 := by unfold gwordsI; rw [hid_eq]
theorem gwordsI_le (n : Int) : gwordsI n ≤ 32768 := by rw [gwordsI_eq]; have := gmanyI_le n; omega
noncomputable def ginitI : Int → Bool → Nat := hid fun n b => if b then 8 * gwordsI n else 2 * gwordsI n
theorem ginitI_eq (n : Int) (b : Bool) : ginitI n b = if b then 8 * gwordsI n else 2 * gwordsI n := by unfold ginitI; rw [hid_eq]
noncomputable def gbackI : Int → Int → Int := hid fun u r => maxZ 0 (minZ r (u.tdiv 5))
theorem gbackI_eq (u r : Int) : gbackI u r = maxZ 0 (minZ r (u.tdiv 5)) := by unfold gbackI; rw [hid_eq]
def gtouchI (slot warm : Bool) : Int := if warm then 100 else if slot then 2100 else 2600
noncomputable def gexpI : W → Nat := hid fun w => 50 * (strip 0 (wbytes w)).length
theorem gexpI_eq (w : W) : gexpI w = 50 * (strip 0 (wbytes w)).length := by unfold gexpI; rw [hid_eq]
def againB (ov o0 c0 v0 : Bool) : Int := (if o0 then 0 else if c0 then -4800 else if v0 then 4800 else 0) + (if ov then (if o0 then 19900 else 2800) else 0)
def storeB (oc cv ov o0 c0 v0 warm : Bool) : Int × Int :=
  if cv then ((if warm then 0 else 2100) + 100, 0) else
  if !oc then ((if warm then 0 else 2100) + 100, againB ov o0 c0 v0) else
  if o0 then ((if warm then 0 else 2100) + 20000, 0) else ((if warm then 0 else 2100) + 2900, if v0 then 4800 else 0)
noncomputable def againI : W → W → W → Int := hid fun o c v => againB (decide (o = v)) (decide (o = W.zero)) (decide (c = W.zero)) (decide (v = W.zero))
theorem againI_eq (o c v : W) : againI o c v = againB (decide (o = v)) (decide (o = W.zero)) (decide (c = W.zero)) (decide (v = W.zero)) := by unfold againI; rw [hid_eq]
noncomputable def storeP : W → W → W → Bool → Int × Int := hid fun o c v b => storeB (decide (o = c)) (decide (c = v)) (decide (o = v)) (decide (o = W.zero)) (decide (c = W.zero)) (decide (v = W.zero)) b
theorem storeP_eq (o c v : W) (b : Bool) : storeP o c v b = storeB (decide (o = c)) (decide (c = v)) (decide (o = v)) (decide (o = W.zero)) (decide (c = W.zero)) (decide (v = W.zero)) b := by unfold storeP; rw [hid_eq]
def priceI (warm value new : Bool) : Int := (if warm then 100 else 2600) + (if value then (if new then 34000 else 9000) else 0)
def ownI (value : Bool) : Int := if value then 2300 else 0
def callI (left : Int) (asked : Int × Bool) (warm value new : Bool) : Int × Int × Bool :=
  let price := priceI warm value new
  if left < price ∨ 9007199254740992 < left then (0, 0, false) else
    let most := (left - price) - (left - price) / 64
    let n := if asked.2 then minZ asked.1 most else most
    (price + n, ownI value + n, true)
noncomputable def callP : Int → W → Bool → Bool → Bool → Int × Int × Bool := hid fun l w a b c => callI l (intW w) a b c
theorem callP_eq (l : Int) (w : W) (a b c : Bool) : callP l w a b c = callI l (intW w) a b c := by unfold callP; rw [hid_eq]
theorem intW_cases (w : W) : intW w = (0, false) ∨ ∃ a : Nat, a ≤ 4611686018427387903 ∧ intW w = ((a : Int), true) := by
  rw [intW_eq]
  by_cases h : w.num ≤ 4611686018427387903
  · rw [if_pos h]; exact .inr ⟨w.num, h, rfl⟩
  · rw [if_neg h]; exact .inl rfl
noncomputable def gwithG : List Value → Option Value
  | [.int .i64 x, .int .i64 l, .int .i64 m] => some (.int .i64 (gwithI x l m))
  | _ => none
noncomputable def gmanyG : List Value → Option Value
  | [.int .i64 n] => some (.int .i64 (gmanyI n))
  | _ => none
noncomputable def gwordsG : List Value → Option Value
  | [.int .i64 n] => some (.int .i64 (gwordsI n))
  | _ => none
noncomputable def gcopyG : List Value → Option Value
  | [.int .i64 n] => some (.int .i64 (3 * gwordsI n))
  | _ => none
noncomputable def ghashG : List Value → Option Value
  | [.int .i64 n] => some (.int .i64 (6 * gwordsI n))
  | _ => none
noncomputable def glogG : List Value → Option Value
  | [.int .i64 n] => some (.int .i64 (8 * gmanyI n))
  | _ => none
noncomputable def ginitG : List Value → Option Value
  | [.int .i64 n, .bool b] => some (.int .i64 (ginitI n b))
  | _ => none
noncomputable def gbackG : List Value → Option Value
  | [.int .i64 u, .int .i64 r] => if i64B u then some (.int .i64 (gbackI u r)) else none
  | _ => none
def gtouchG : List Value → Option Value
  | [.bool s, .bool w] => some (.int .i64 (gtouchI s w))
  | _ => none
noncomputable def gexpG : List Value → Option Value
  | [x] => (wOf x).bind fun w => some (.int .i64 (gexpI w))
  | _ => none
noncomputable def againG : List Value → Option Value
  | [x, y, z] => (wOf x).bind fun o => (wOf y).bind fun c => (wOf z).bind fun v => some (.int .i64 (againI o c v))
  | _ => none
noncomputable def storeG5 : List Value → Option Value
  | [x, y, z, .bool b] => (wOf x).bind fun o => (wOf y).bind fun c => (wOf z).bind fun v => some (.tuple #[.int .i64 (storeP o c v b).1, .int .i64 (storeP o c v b).2])
  | _ => none
noncomputable def callG5 : List Value → Option Value
  | [.int .i64 l, x, .bool a, .bool b, .bool c] => if i64B l then (wOf x).bind fun w => some (.tuple #[.int .i64 (callP l w a b c).1, .int .i64 (callP l w a b c).2.1, .bool (callP l w a b c).2.2]) else none
  | _ => none
attribute [push_cast] gwithG gmanyG gwordsG gcopyG ghashG glogG ginitG gbackG gtouchG gexpG againG storeG5 callG5
theorem W.ceqC5 (x y : W) : eqC [.i, .i, .i, .i] x.cells y.cells = some (decide (x = y)) := by
  have h : ∀ (p q r s : Bool) (P : Prop) [Decidable P], (P ↔ (p = true ∧ q = true ∧ r = true ∧ s = true)) → (p && (q && (r && (s && true)))) = decide P := by
    intro p q r s P _ hh
    cases p <;> cases q <;> cases r <;> cases s <;> simp_all
  simp only [W.cells, eqC, if_true, Option.map_some, Option.some.injEq]
  refine h _ _ _ _ _ ⟨fun h => by subst h; simp, fun h => ?_⟩
  simp only [beq_iff_eq] at h
  exact W.eq (by omega) (by omega) (by omega) (by omega)
theorem W.ceqV5 {P : Program} {t : TypeId} (x y : W) (h1 : tyI P t = some (4, true)) (h2 : P.eqGuardType P.depth t = false) (h3 : flatK P 12 t = some [.i, .i, .i, .i]) : eqV P t x.v y.v = some (decide (x = y)) := by
  unfold eqV W.v
  simp only [h1, h2, h3, Bool.false_eq_true, if_false, Option.bind_some]
  exact W.ceqC5 x y
theorem W.ceql5 {P : Program} {t : TypeId} (x y : W) (h1 : tyI P t = some (4, true)) (h2 : P.eqGuardType P.depth t = false) (h3 : flatK P 12 t = some [.i, .i, .i, .i]) : binQ P .eql t x.v y.v = some (.bool (decide (x = y))) := by
  show (eqV P t x.v y.v).map Value.bool = _
  rw [W.ceqV5 x y h1 h2 h3]; rfl
theorem W.cneq5 {P : Program} {t : TypeId} (x y : W) (h1 : tyI P t = some (4, true)) (h2 : P.eqGuardType P.depth t = false) (h3 : flatK P 12 t = some [.i, .i, .i, .i]) : binQ P .neq t x.v y.v = some (.bool (!decide (x = y))) := by
  show (eqV P t x.v y.v).map (fun r => Value.bool !r) = _
  rw [W.ceqV5 x y h1 h2 h3]; rfl
theorem wz_agg5 : Value.agg #[.int .u64 0, .int .u64 0, .int .u64 0, .int .u64 0] = W.zero.v := rfl
theorem wz_cells5 : [Value.int .u64 0, .int .u64 0, .int .u64 0, .int .u64 0] = W.zero.cells := rfl
attribute [push_cast high] wz_agg5 wz_cells5 W.ceql5 W.cneq5
end Go.Ev
namespace Go.Proofs.YtfioapldbajpmaaDoor
open Go Go.Ev Go.Proofs
set_option maxRecDepth 100000
set_option maxHeartbeats 4000000
theorem gwithG_ok (args : List Value) (v : Value) (h : gwithG args = some v) : CallsV Tryd.prog 40 args [] (Ret0 v) := by
  unfold gwithG at h
  split at h
  case h_2 => cases h
  cases h
  rw [gwithI_eq]
  unfold maxZ minZ
  refine callsO (noG_ok _) Tryd.mix Tryd.pl40 Tryd.func40 rfl Tryd.ntmps40 Tryd.results40 rfl (by first | rfl | assumption) (Nat.le_of_ble_eq_true rfl) (by kernel_rfl) ?_
  simp only [push_cast, Nat.reduceAdd, Nat.reduceSub, Nat.reduceMul, Nat.reduceLT, Nat.reduceLeDiff, Nat.reduceEqDiff, Nat.reduceMod, Nat.reduceDiv, Int.reduceAdd, Int.reduceSub, Int.reduceMul, Int.reduceLT, Int.reduceLE, Int.reduceEq, Int.reduceNeg, Int.reduceToNat, reduceIte, reduceCtorEq, Int.reduceBEq, Int.reduceBNe, Bool.true_beq, Bool.false_beq, Bool.true_bne, Bool.false_bne, Bool.not_true, Bool.not_false]
theorem rmanyG_ok (args : List Value) (v : Value) (h : gmanyG args = some v) : CallsV Tryd.prog 38 args [] (Ret0 v) := by
  unfold gmanyG at h
  split at h
  case h_2 => cases h
  cases h
  rw [gmanyI_eq]
  unfold maxZ minZ
  refine callsO (noG_ok _) Tryd.mix Tryd.pl38 Tryd.func38 rfl Tryd.ntmps38 Tryd.results38 rfl (by first | rfl | assumption) (Nat.le_of_ble_eq_true rfl) (by kernel_rfl) ?_
  simp only [push_cast, Nat.reduceAdd, Nat.reduceSub, Nat.reduceMul, Nat.reduceLT, Nat.reduceLeDiff, Nat.reduceEqDiff, Nat.reduceMod, Nat.reduceDiv, Int.reduceAdd, Int.reduceSub, Int.reduceMul, Int.reduceLT, Int.reduceLE, Int.reduceEq, Int.reduceNeg, Int.reduceToNat, reduceIte, reduceCtorEq, Int.reduceBEq, Int.reduceBNe, Bool.true_beq, Bool.false_beq, Bool.true_bne, Bool.false_bne, Bool.not_true, Bool.not_false]
noncomputable def gG0 : Gam := (addG 38 gmanyG (addG 40 gwithG noG))
attribute [push_cast] gG0
theorem gG0_ok : GamOk Tryd.prog gG0 := (addG_ok rmanyG_ok (addG_ok gwithG_ok (noG_ok _)))
theorem gmanyG_ok (args : List Value) (v : Value) (h : gmanyG args = some v) : CallsV Tryd.prog 37 args [] (Ret0 v) := by
  unfold gmanyG at h
  split at h
  case h_2 => cases h
  rename_i n
  cases h
  have e : gwithI n 0 1048576 = (gmanyI n : Int) := by rw [gwithI_eq, gmanyI_eq]
  refine callsO gG0_ok Tryd.mix Tryd.pl37 Tryd.func37 rfl Tryd.ntmps37 Tryd.results37 rfl (by first | rfl | assumption) (Nat.le_of_ble_eq_true rfl) (by kernel_rfl) ?_
  simp only [push_cast, Nat.reduceAdd, Nat.reduceSub, Nat.reduceMul, Nat.reduceLT, Nat.reduceLeDiff, Nat.reduceEqDiff, Nat.reduceMod, Nat.reduceDiv, Int.reduceAdd, Int.reduceSub, Int.reduceMul, Int.reduceLT, Int.reduceLE, Int.reduceEq, Int.reduceNeg, Int.reduceToNat, reduceIte, reduceCtorEq, Int.reduceBEq, Int.reduceBNe, Bool.true_beq, Bool.false_beq, Bool.true_bne, Bool.false_bne, Bool.not_true, Bool.not_false, e]
theorem rwordsG_ok (args : List Value) (v : Value) (h : gwordsG args = some v) : CallsV Tryd.prog 36 args [] (Ret0 v) := by
  unfold gwordsG at h
  split at h
  case h_2 => cases h
  rename_i n
  cases h
  have hl := gmanyI_le n
  have e := gwordsI_eq n
  have hw := gwordsI_le n
  generalize gwordsI n = w at *
  refine callsO gG0_ok Tryd.mix Tryd.pl36 Tryd.func36 rfl Tryd.ntmps36 Tryd.results36 rfl (by first | rfl | assumption) (Nat.le_of_ble_eq_true rfl) (by kernel_rfl) ?_
  obtain ⟨m, hm⟩ : ∃ m, m = gmanyI n := ⟨_, rfl⟩
  rw [← hm] at hl e
  have d : ((m : Int) + 31).tdiv 32 = (w : Int) := by rw [e]; rfl
  simp only [push_cast, Nat.reduceAdd, Nat.reduceSub, Nat.reduceMul, Nat.reduceLT, Nat.reduceLeDiff, Nat.reduceEqDiff, Nat.reduceMod, Nat.reduceDiv, Int.reduceAdd, Int.reduceSub, Int.reduceMul, Int.reduceLT, Int.reduceLE, Int.reduceEq, Int.reduceNeg, Int.reduceToNat, reduceIte, reduceCtorEq, Int.reduceBEq, Int.reduceBNe, Bool.true_beq, Bool.false_beq, Bool.true_bne, Bool.false_bne, Bool.not_true, Bool.not_false, ← hm, wrap_i64' (show -9223372036854775808 ≤ (m : Int) + 31 ∧ (m : Int) + 31 ≤ 9223372036854775807 by omega), d, wrap_i64' (show -9223372036854775808 ≤ (w : Int) ∧ (w : Int) ≤ 9223372036854775807 by omega)]
noncomputable def gG1 : Gam := (addG 36 gwordsG (addG 37 gmanyG gG0))
attribute [push_cast] gG1
theorem gG1_ok : GamOk Tryd.prog gG1 := (addG_ok rwordsG_ok (addG_ok gmanyG_ok gG0_ok))
theorem gwordsG_ok (args : List Value) (v : Value) (h : gwordsG args = some v) : CallsV Tryd.prog 35 args [] (Ret0 v) := by
  unfold gwordsG at h
  split at h
  case h_2 => cases h
  rename_i n
  cases h
  have hl := gmanyI_le n
  have e := gwordsI_eq n
  have hw := gwordsI_le n
  generalize gwordsI n = w at *
  refine callsO gG1_ok Tryd.mix Tryd.pl35 Tryd.func35 rfl Tryd.ntmps35 Tryd.results35 rfl (by first | rfl | assumption) (Nat.le_of_ble_eq_true rfl) (by kernel_rfl) ?_
  obtain ⟨m, hm⟩ : ∃ m, m = gmanyI n := ⟨_, rfl⟩
  rw [← hm] at hl e
  have d0 : (m : Int) + 32 - 1 = (m : Int) + 31 := by omega
  have d : ((m : Int) + 31).tdiv 32 = (w : Int) := by rw [e]; rfl
  simp only [push_cast, Nat.reduceAdd, Nat.reduceSub, Nat.reduceMul, Nat.reduceLT, Nat.reduceLeDiff, Nat.reduceEqDiff, Nat.reduceMod, Nat.reduceDiv, Int.reduceAdd, Int.reduceSub, Int.reduceMul, Int.reduceLT, Int.reduceLE, Int.reduceEq, Int.reduceNeg, Int.reduceToNat, reduceIte, reduceCtorEq, Int.reduceBEq, Int.reduceBNe, Bool.true_beq, Bool.false_beq, Bool.true_bne, Bool.false_bne, Bool.not_true, Bool.not_false, ← hm, wrap_i64' (show -9223372036854775808 ≤ (m : Int) + 32 ∧ (m : Int) + 32 ≤ 9223372036854775807 by omega), d0, wrap_i64' (show -9223372036854775808 ≤ (m : Int) + 31 ∧ (m : Int) + 31 ≤ 9223372036854775807 by omega), d, wrap_i64' (show -9223372036854775808 ≤ (w : Int) ∧ (w : Int) ≤ 9223372036854775807 by omega)]
noncomputable def gG2 : Gam := (addG 35 gwordsG gG1)
attribute [push_cast] gG2
theorem gG2_ok : GamOk Tryd.prog gG2 := (addG_ok gwordsG_ok gG1_ok)
theorem gcopyG_ok (args : List Value) (v : Value) (h : gcopyG args = some v) : CallsV Tryd.prog 11 args [] (Ret0 v) := by
  unfold gcopyG at h
  split at h
  case h_2 => cases h
  rename_i n
  cases h
  have hw := gwordsI_le n
  refine callsO gG2_ok Tryd.mix Tryd.pl11 Tryd.func11 rfl Tryd.ntmps11 Tryd.results11 rfl (by first | rfl | assumption) (Nat.le_of_ble_eq_true rfl) (by kernel_rfl) ?_
  simp only [push_cast, Nat.reduceAdd, Nat.reduceSub, Nat.reduceMul, Nat.reduceLT, Nat.reduceLeDiff, Nat.reduceEqDiff, Nat.reduceMod, Nat.reduceDiv, Int.reduceAdd, Int.reduceSub, Int.reduceMul, Int.reduceLT, Int.reduceLE, Int.reduceEq, Int.reduceNeg, Int.reduceToNat, reduceIte, reduceCtorEq, Int.reduceBEq, Int.reduceBNe, Bool.true_beq, Bool.false_beq, Bool.true_bne, Bool.false_bne, Bool.not_true, Bool.not_false, wrap_i64' (show -9223372036854775808 ≤ 3 * (gwordsI n : Int) ∧ 3 * (gwordsI n : Int) ≤ 9223372036854775807 by omega)]
theorem ghashG_ok (args : List Value) (v : Value) (h : ghashG args = some v) : CallsV Tryd.prog 13 args [] (Ret0 v) := by
  unfold ghashG at h
  split at h
  case h_2 => cases h
  rename_i n
  cases h
  have hw := gwordsI_le n
  refine callsO gG2_ok Tryd.mix Tryd.pl13 Tryd.func13 rfl Tryd.ntmps13 Tryd.results13 rfl (by first | rfl | assumption) (Nat.le_of_ble_eq_true rfl) (by kernel_rfl) ?_
  simp only [push_cast, Nat.reduceAdd, Nat.reduceSub, Nat.reduceMul, Nat.reduceLT, Nat.reduceLeDiff, Nat.reduceEqDiff, Nat.reduceMod, Nat.reduceDiv, Int.reduceAdd, Int.reduceSub, Int.reduceMul, Int.reduceLT, Int.reduceLE, Int.reduceEq, Int.reduceNeg, Int.reduceToNat, reduceIte, reduceCtorEq, Int.reduceBEq, Int.reduceBNe, Bool.true_beq, Bool.false_beq, Bool.true_bne, Bool.false_bne, Bool.not_true, Bool.not_false, wrap_i64' (show -9223372036854775808 ≤ 6 * (gwordsI n : Int) ∧ 6 * (gwordsI n : Int) ≤ 9223372036854775807 by omega)]
theorem glogG_ok (args : List Value) (v : Value) (h : glogG args = some v) : CallsV Tryd.prog 15 args [] (Ret0 v) := by
  unfold glogG at h
  split at h
  case h_2 => cases h
  rename_i n
  cases h
  have hw := gmanyI_le n
  refine callsO gG2_ok Tryd.mix Tryd.pl15 Tryd.func15 rfl Tryd.ntmps15 Tryd.results15 rfl (by first | rfl | assumption) (Nat.le_of_ble_eq_true rfl) (by kernel_rfl) ?_
  simp only [push_cast, Nat.reduceAdd, Nat.reduceSub, Nat.reduceMul, Nat.reduceLT, Nat.reduceLeDiff, Nat.reduceEqDiff, Nat.reduceMod, Nat.reduceDiv, Int.reduceAdd, Int.reduceSub, Int.reduceMul, Int.reduceLT, Int.reduceLE, Int.reduceEq, Int.reduceNeg, Int.reduceToNat, reduceIte, reduceCtorEq, Int.reduceBEq, Int.reduceBNe, Bool.true_beq, Bool.false_beq, Bool.true_bne, Bool.false_bne, Bool.not_true, Bool.not_false, wrap_i64' (show -9223372036854775808 ≤ 8 * (gmanyI n : Int) ∧ 8 * (gmanyI n : Int) ≤ 9223372036854775807 by omega)]
theorem gbackG_ok (args : List Value) (v : Value) (h : gbackG args = some v) : CallsV Tryd.prog 19 args [] (Ret0 v) := by
  unfold gbackG at h
  split at h
  case h_2 => cases h
  split at h
  case isFalse => cases h
  rename_i u r hu
  cases h
  rw [i64B_eq, decide_eq_true_eq] at hu
  unfold i64In at hu
  obtain ⟨q, hq⟩ : ∃ q, q = u.tdiv 5 := ⟨_, rfl⟩
  have hql : -9223372036854775808 ≤ q ∧ q ≤ 9223372036854775807 := by
    rw [hq]
    rcases Int.lt_or_le u 0 with h | h
    · obtain ⟨k, rfl⟩ : ∃ k : Nat, u = -(k : Int) := ⟨u.natAbs, by omega⟩
      rw [Int.neg_tdiv, show (k : Int).tdiv 5 = ((k / 5 : Nat) : Int) from rfl]
      omega
    · obtain ⟨k, rfl⟩ : ∃ k : Nat, u = (k : Int) := ⟨u.toNat, by omega⟩
      rw [show (k : Int).tdiv 5 = ((k / 5 : Nat) : Int) from rfl]
      omega
  have e : gbackI u r = if 0 < (if q < r then q else r) then (if q < r then q else r) else 0 := by rw [gbackI_eq, ← hq]; rfl
  have n5 : ¬ ((5 : Int) = 0) := by decide
  refine callsO gG2_ok Tryd.mix Tryd.pl19 Tryd.func19 rfl Tryd.ntmps19 Tryd.results19 rfl (by first | rfl | assumption) (Nat.le_of_ble_eq_true rfl) (by kernel_rfl) ?_
  simp only [push_cast, Nat.reduceAdd, Nat.reduceSub, Nat.reduceMul, Nat.reduceLT, Nat.reduceLeDiff, Nat.reduceEqDiff, Nat.reduceMod, Nat.reduceDiv, Int.reduceAdd, Int.reduceSub, Int.reduceMul, Int.reduceLT, Int.reduceLE, Int.reduceEq, Int.reduceNeg, Int.reduceToNat, reduceIte, reduceCtorEq, Int.reduceBEq, Int.reduceBNe, Bool.true_beq, Bool.false_beq, Bool.true_bne, Bool.false_bne, Bool.not_true, Bool.not_false, ← hq, wrap_i64' (show -9223372036854775808 ≤ q ∧ q ≤ 9223372036854775807 by omega), e]
  repeat' split
  all_goals first | rfl | (congr 1; omega) | omega
theorem gtouchG_ok (args : List Value) (v : Value) (h : gtouchG args = some v) : CallsV Tryd.prog 29 args [] (Ret0 v) := by
  unfold gtouchG at h
  split at h
  case h_2 => cases h
  rename_i s w
  cases h
  refine callsO gG2_ok Tryd.mix Tryd.pl29 Tryd.func29 rfl Tryd.ntmps29 Tryd.results29 rfl (by first | rfl | assumption) (Nat.le_of_ble_eq_true rfl) (by kernel_rfl) ?_
  cases w
  · cases s
    · simp only [push_cast, Nat.reduceAdd, Nat.reduceSub, Nat.reduceMul, Nat.reduceLT, Nat.reduceLeDiff, Nat.reduceEqDiff, Nat.reduceMod, Nat.reduceDiv, Int.reduceAdd, Int.reduceSub, Int.reduceMul, Int.reduceLT, Int.reduceLE, Int.reduceEq, Int.reduceNeg, Int.reduceToNat, reduceIte, reduceCtorEq, Int.reduceBEq, Int.reduceBNe, Bool.true_beq, Bool.false_beq, Bool.true_bne, Bool.false_bne, Bool.not_true, Bool.not_false]
      rfl
    · simp only [push_cast, Nat.reduceAdd, Nat.reduceSub, Nat.reduceMul, Nat.reduceLT, Nat.reduceLeDiff, Nat.reduceEqDiff, Nat.reduceMod, Nat.reduceDiv, Int.reduceAdd, Int.reduceSub, Int.reduceMul, Int.reduceLT, Int.reduceLE, Int.reduceEq, Int.reduceNeg, Int.reduceToNat, reduceIte, reduceCtorEq, Int.reduceBEq, Int.reduceBNe, Bool.true_beq, Bool.false_beq, Bool.true_bne, Bool.false_bne, Bool.not_true, Bool.not_false]
      rfl
  · simp only [push_cast, Nat.reduceAdd, Nat.reduceSub, Nat.reduceMul, Nat.reduceLT, Nat.reduceLeDiff, Nat.reduceEqDiff, Nat.reduceMod, Nat.reduceDiv, Int.reduceAdd, Int.reduceSub, Int.reduceMul, Int.reduceLT, Int.reduceLE, Int.reduceEq, Int.reduceNeg, Int.reduceToNat, reduceIte, reduceCtorEq, Int.reduceBEq, Int.reduceBNe, Bool.true_beq, Bool.false_beq, Bool.true_bne, Bool.false_bne, Bool.not_true, Bool.not_false]
    rfl
theorem rcopyG_ok (args : List Value) (v : Value) (h : gcopyG args = some v) : CallsV Tryd.prog 12 args [] (Ret0 v) := by
  unfold gcopyG at h
  split at h
  case h_2 => cases h
  rename_i n
  cases h
  have hw := gwordsI_le n
  refine callsO gG2_ok Tryd.mix Tryd.pl12 Tryd.func12 rfl Tryd.ntmps12 Tryd.results12 rfl (by first | rfl | assumption) (Nat.le_of_ble_eq_true rfl) (by kernel_rfl) ?_
  simp only [push_cast, Nat.reduceAdd, Nat.reduceSub, Nat.reduceMul, Nat.reduceLT, Nat.reduceLeDiff, Nat.reduceEqDiff, Nat.reduceMod, Nat.reduceDiv, Int.reduceAdd, Int.reduceSub, Int.reduceMul, Int.reduceLT, Int.reduceLE, Int.reduceEq, Int.reduceNeg, Int.reduceToNat, reduceIte, reduceCtorEq, Int.reduceBEq, Int.reduceBNe, Bool.true_beq, Bool.false_beq, Bool.true_bne, Bool.false_bne, Bool.not_true, Bool.not_false, wrap_i64' (show -9223372036854775808 ≤ 3 * (gwordsI n : Int) ∧ 3 * (gwordsI n : Int) ≤ 9223372036854775807 by omega)]
theorem rhashG_ok (args : List Value) (v : Value) (h : ghashG args = some v) : CallsV Tryd.prog 14 args [] (Ret0 v) := by
  unfold ghashG at h
  split at h
  case h_2 => cases h
  rename_i n
  cases h
  have hw := gwordsI_le n
  refine callsO gG2_ok Tryd.mix Tryd.pl14 Tryd.func14 rfl Tryd.ntmps14 Tryd.results14 rfl (by first | rfl | assumption) (Nat.le_of_ble_eq_true rfl) (by kernel_rfl) ?_
  simp only [push_cast, Nat.reduceAdd, Nat.reduceSub, Nat.reduceMul, Nat.reduceLT, Nat.reduceLeDiff, Nat.reduceEqDiff, Nat.reduceMod, Nat.reduceDiv, Int.reduceAdd, Int.reduceSub, Int.reduceMul, Int.reduceLT, Int.reduceLE, Int.reduceEq, Int.reduceNeg, Int.reduceToNat, reduceIte, reduceCtorEq, Int.reduceBEq, Int.reduceBNe, Bool.true_beq, Bool.false_beq, Bool.true_bne, Bool.false_bne, Bool.not_true, Bool.not_false, wrap_i64' (show -9223372036854775808 ≤ 6 * (gwordsI n : Int) ∧ 6 * (gwordsI n : Int) ≤ 9223372036854775807 by omega)]
theorem rlogG_ok (args : List Value) (v : Value) (h : glogG args = some v) : CallsV Tryd.prog 16 args [] (Ret0 v) := by
  unfold glogG at h
  split at h
  case h_2 => cases h
  rename_i n
  cases h
  have hw := gmanyI_le n
  refine callsO gG2_ok Tryd.mix Tryd.pl16 Tryd.func16 rfl Tryd.ntmps16 Tryd.results16 rfl (by first | rfl | assumption) (Nat.le_of_ble_eq_true rfl) (by kernel_rfl) ?_
  simp only [push_cast, Nat.reduceAdd, Nat.reduceSub, Nat.reduceMul, Nat.reduceLT, Nat.reduceLeDiff, Nat.reduceEqDiff, Nat.reduceMod, Nat.reduceDiv, Int.reduceAdd, Int.reduceSub, Int.reduceMul, Int.reduceLT, Int.reduceLE, Int.reduceEq, Int.reduceNeg, Int.reduceToNat, reduceIte, reduceCtorEq, Int.reduceBEq, Int.reduceBNe, Bool.true_beq, Bool.false_beq, Bool.true_bne, Bool.false_bne, Bool.not_true, Bool.not_false, wrap_i64' (show -9223372036854775808 ≤ 8 * (gmanyI n : Int) ∧ 8 * (gmanyI n : Int) ≤ 9223372036854775807 by omega)]
theorem rbackG_ok (args : List Value) (v : Value) (h : gbackG args = some v) : CallsV Tryd.prog 20 args [] (Ret0 v) := by
  unfold gbackG at h
  split at h
  case h_2 => cases h
  split at h
  case isFalse => cases h
  rename_i u r hu
  cases h
  rw [i64B_eq, decide_eq_true_eq] at hu
  unfold i64In at hu
  obtain ⟨q, hq⟩ : ∃ q, q = u.tdiv 5 := ⟨_, rfl⟩
  have hql : -9223372036854775808 ≤ q ∧ q ≤ 9223372036854775807 := by
    rw [hq]
    rcases Int.lt_or_le u 0 with h | h
    · obtain ⟨k, rfl⟩ : ∃ k : Nat, u = -(k : Int) := ⟨u.natAbs, by omega⟩
      rw [Int.neg_tdiv, show (k : Int).tdiv 5 = ((k / 5 : Nat) : Int) from rfl]
      omega
    · obtain ⟨k, rfl⟩ : ∃ k : Nat, u = (k : Int) := ⟨u.toNat, by omega⟩
      rw [show (k : Int).tdiv 5 = ((k / 5 : Nat) : Int) from rfl]
      omega
  have e : gbackI u r = if 0 < (if q < r then q else r) then (if q < r then q else r) else 0 := by rw [gbackI_eq, ← hq]; rfl
  have n5 : ¬ ((5 : Int) = 0) := by decide
  refine callsO gG2_ok Tryd.mix Tryd.pl20 Tryd.func20 rfl Tryd.ntmps20 Tryd.results20 rfl (by first | rfl | assumption) (Nat.le_of_ble_eq_true rfl) (by kernel_rfl) ?_
  simp only [push_cast, Nat.reduceAdd, Nat.reduceSub, Nat.reduceMul, Nat.reduceLT, Nat.reduceLeDiff, Nat.reduceEqDiff, Nat.reduceMod, Nat.reduceDiv, Int.reduceAdd, Int.reduceSub, Int.reduceMul, Int.reduceLT, Int.reduceLE, Int.reduceEq, Int.reduceNeg, Int.reduceToNat, reduceIte, reduceCtorEq, Int.reduceBEq, Int.reduceBNe, Bool.true_beq, Bool.false_beq, Bool.true_bne, Bool.false_bne, Bool.not_true, Bool.not_false, ← hq, wrap_i64' (show -9223372036854775808 ≤ q ∧ q ≤ 9223372036854775807 by omega), e]
  repeat' split
  all_goals first | rfl | (congr 1; omega) | omega
theorem rtouchG_ok (args : List Value) (v : Value) (h : gtouchG args = some v) : CallsV Tryd.prog 30 args [] (Ret0 v) := by
  unfold gtouchG at h
  split at h
  case h_2 => cases h
  rename_i s w
  cases h
  refine callsO gG2_ok Tryd.mix Tryd.pl30 Tryd.func30 rfl Tryd.ntmps30 Tryd.results30 rfl (by first | rfl | assumption) (Nat.le_of_ble_eq_true rfl) (by kernel_rfl) ?_
  cases w
  · cases s
    · simp only [push_cast, Nat.reduceAdd, Nat.reduceSub, Nat.reduceMul, Nat.reduceLT, Nat.reduceLeDiff, Nat.reduceEqDiff, Nat.reduceMod, Nat.reduceDiv, Int.reduceAdd, Int.reduceSub, Int.reduceMul, Int.reduceLT, Int.reduceLE, Int.reduceEq, Int.reduceNeg, Int.reduceToNat, reduceIte, reduceCtorEq, Int.reduceBEq, Int.reduceBNe, Bool.true_beq, Bool.false_beq, Bool.true_bne, Bool.false_bne, Bool.not_true, Bool.not_false]
      rfl
    · simp only [push_cast, Nat.reduceAdd, Nat.reduceSub, Nat.reduceMul, Nat.reduceLT, Nat.reduceLeDiff, Nat.reduceEqDiff, Nat.reduceMod, Nat.reduceDiv, Int.reduceAdd, Int.reduceSub, Int.reduceMul, Int.reduceLT, Int.reduceLE, Int.reduceEq, Int.reduceNeg, Int.reduceToNat, reduceIte, reduceCtorEq, Int.reduceBEq, Int.reduceBNe, Bool.true_beq, Bool.false_beq, Bool.true_bne, Bool.false_bne, Bool.not_true, Bool.not_false]
      rfl
  · simp only [push_cast, Nat.reduceAdd, Nat.reduceSub, Nat.reduceMul, Nat.reduceLT, Nat.reduceLeDiff, Nat.reduceEqDiff, Nat.reduceMod, Nat.reduceDiv, Int.reduceAdd, Int.reduceSub, Int.reduceMul, Int.reduceLT, Int.reduceLE, Int.reduceEq, Int.reduceNeg, Int.reduceToNat, reduceIte, reduceCtorEq, Int.reduceBEq, Int.reduceBNe, Bool.true_beq, Bool.false_beq, Bool.true_bne, Bool.false_bne, Bool.not_true, Bool.not_false]
    rfl
noncomputable def gG3 : Gam := (addG 30 gtouchG (addG 20 gbackG (addG 16 glogG (addG 14 ghashG (addG 12 gcopyG (addG 29 gtouchG (addG 19 gbackG (addG 15 glogG (addG 13 ghashG (addG 11 gcopyG gG2))))))))))
attribute [push_cast] gG3
theorem gG3_ok : GamOk Tryd.prog gG3 := (addG_ok rtouchG_ok (addG_ok rbackG_ok (addG_ok rlogG_ok (addG_ok rhashG_ok (addG_ok rcopyG_ok (addG_ok gtouchG_ok (addG_ok gbackG_ok (addG_ok glogG_ok (addG_ok ghashG_ok (addG_ok gcopyG_ok gG2_ok))))))))))
theorem ginitG_ok (args : List Value) (v : Value) (h : ginitG args = some v) : CallsV Tryd.prog 17 args [] (Ret0 v) := by
  unfold ginitG at h
  split at h
  case h_2 => cases h
  rename_i n b
  cases h
  have hw := gwordsI_le n
  have e := ginitI_eq n b
  obtain ⟨w, hww⟩ : ∃ w, w = gwordsI n := ⟨_, rfl⟩
  rw [← hww] at hw e
  refine callsO gG3_ok Tryd.mix Tryd.pl17 Tryd.func17 rfl Tryd.ntmps17 Tryd.results17 rfl (by first | rfl | assumption) (Nat.le_of_ble_eq_true rfl) (by kernel_rfl) ?_
  cases b
  · rw [if_neg (by decide)] at e
    simp only [push_cast, Nat.reduceAdd, Nat.reduceSub, Nat.reduceMul, Nat.reduceLT, Nat.reduceLeDiff, Nat.reduceEqDiff, Nat.reduceMod, Nat.reduceDiv, Int.reduceAdd, Int.reduceSub, Int.reduceMul, Int.reduceLT, Int.reduceLE, Int.reduceEq, Int.reduceNeg, Int.reduceToNat, reduceIte, reduceCtorEq, Int.reduceBEq, Int.reduceBNe, Bool.true_beq, Bool.false_beq, Bool.true_bne, Bool.false_bne, Bool.not_true, Bool.not_false, ← hww, wrap_i64' (show -9223372036854775808 ≤ 2 * (w : Int) ∧ 2 * (w : Int) ≤ 9223372036854775807 by omega), e]
  · rw [if_pos rfl] at e
    have e8 : 2 * (w : Int) + 6 * (w : Int) = 8 * (w : Int) := by omega
    simp only [push_cast, Nat.reduceAdd, Nat.reduceSub, Nat.reduceMul, Nat.reduceLT, Nat.reduceLeDiff, Nat.reduceEqDiff, Nat.reduceMod, Nat.reduceDiv, Int.reduceAdd, Int.reduceSub, Int.reduceMul, Int.reduceLT, Int.reduceLE, Int.reduceEq, Int.reduceNeg, Int.reduceToNat, reduceIte, reduceCtorEq, Int.reduceBEq, Int.reduceBNe, Bool.true_beq, Bool.false_beq, Bool.true_bne, Bool.false_bne, Bool.not_true, Bool.not_false, ← hww, wrap_i64' (show -9223372036854775808 ≤ 2 * (w : Int) ∧ 2 * (w : Int) ≤ 9223372036854775807 by omega), wrap_i64' (show -9223372036854775808 ≤ 6 * (w : Int) ∧ 6 * (w : Int) ≤ 9223372036854775807 by omega), wrap_i64' (show -9223372036854775808 ≤ 8 * (w : Int) ∧ 8 * (w : Int) ≤ 9223372036854775807 by omega), e8, e]
theorem rinitG_ok (args : List Value) (v : Value) (h : ginitG args = some v) : CallsV Tryd.prog 18 args [] (Ret0 v) := by
  unfold ginitG at h
  split at h
  case h_2 => cases h
  rename_i n b
  cases h
  have hw := gwordsI_le n
  have e := ginitI_eq n b
  obtain ⟨w, hww⟩ : ∃ w, w = gwordsI n := ⟨_, rfl⟩
  rw [← hww] at hw e
  refine callsO gG3_ok Tryd.mix Tryd.pl18 Tryd.func18 rfl Tryd.ntmps18 Tryd.results18 rfl (by first | rfl | assumption) (Nat.le_of_ble_eq_true rfl) (by kernel_rfl) ?_
  cases b
  · rw [if_neg (by decide)] at e
    simp only [push_cast, Nat.reduceAdd, Nat.reduceSub, Nat.reduceMul, Nat.reduceLT, Nat.reduceLeDiff, Nat.reduceEqDiff, Nat.reduceMod, Nat.reduceDiv, Int.reduceAdd, Int.reduceSub, Int.reduceMul, Int.reduceLT, Int.reduceLE, Int.reduceEq, Int.reduceNeg, Int.reduceToNat, reduceIte, reduceCtorEq, Int.reduceBEq, Int.reduceBNe, Bool.true_beq, Bool.false_beq, Bool.true_bne, Bool.false_bne, Bool.not_true, Bool.not_false, ← hww, wrap_i64' (show -9223372036854775808 ≤ 2 * (w : Int) ∧ 2 * (w : Int) ≤ 9223372036854775807 by omega), e]
  · rw [if_pos rfl] at e
    have e8 : 2 * (w : Int) + 6 * (w : Int) = 8 * (w : Int) := by omega
    simp only [push_cast, Nat.reduceAdd, Nat.reduceSub, Nat.reduceMul, Nat.reduceLT, Nat.reduceLeDiff, Nat.reduceEqDiff, Nat.reduceMod, Nat.reduceDiv, Int.reduceAdd, Int.reduceSub, Int.reduceMul, Int.reduceLT, Int.reduceLE, Int.reduceEq, Int.reduceNeg, Int.reduceToNat, reduceIte, reduceCtorEq, Int.reduceBEq, Int.reduceBNe, Bool.true_beq, Bool.false_beq, Bool.true_bne, Bool.false_bne, Bool.not_true, Bool.not_false, ← hww, wrap_i64' (show -9223372036854775808 ≤ 2 * (w : Int) ∧ 2 * (w : Int) ≤ 9223372036854775807 by omega), wrap_i64' (show -9223372036854775808 ≤ 6 * (w : Int) ∧ 6 * (w : Int) ≤ 9223372036854775807 by omega), wrap_i64' (show -9223372036854775808 ≤ 8 * (w : Int) ∧ 8 * (w : Int) ≤ 9223372036854775807 by omega), e8, e]
noncomputable def gG4 : Gam := (addG 18 ginitG (addG 17 ginitG gG3))
attribute [push_cast] gG4
theorem gG4_ok : GamOk Tryd.prog gG4 := (addG_ok rinitG_ok (addG_ok ginitG_ok gG3_ok))
end Go.Proofs.YtfioapldbajpmaaDoor
