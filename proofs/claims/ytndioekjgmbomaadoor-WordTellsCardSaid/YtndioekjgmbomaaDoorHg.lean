/- Hg: the table of all functions; awake. -/
import Derived.Test.YtndioekjgmbomaaDoorHf
import Derived.Test.YtndioekjgmbomaaDoorWj
set_option linter.unusedSimpArgs false
set_option linter.unusedVariables false
namespace Go.Ev
theorem l_append4 {α : Type} (a b : List α) : List.append a b = a ++ b := rfl
attribute [push_cast] l_append4
theorem W.ceqC (x y : W) : eqC [.i, .i, .i, .i] x.cells y.cells = some (decide (x = y)) := by
  have h : ∀ (p q r s : Bool) (P : Prop) [Decidable P], (P ↔ (p = true ∧ q = true ∧ r = true ∧ s = true)) → (p && (q && (r && (s && true)))) = decide P := by
    intro p q r s P _ hh
    cases p <;> cases q <;> cases r <;> cases s <;> simp_all
  simp only [W.cells, eqC, if_true, Option.map_some, Option.some.injEq]
  refine h _ _ _ _ _ ⟨fun h => by subst h; simp, fun h => ?_⟩
  simp only [beq_iff_eq] at h
  exact W.eq (by omega) (by omega) (by omega) (by omega)
theorem W.ceqV {P : Program} {t : TypeId} (x y : W) (h1 : tyI P t = some (4, true)) (h2 : P.eqGuardType P.depth t = false) (h3 : flatK P 12 t = some [.i, .i, .i, .i]) : eqV P t x.v y.v = some (decide (x = y)) := by
  unfold eqV W.v
  simp only [h1, h2, h3, Bool.false_eq_true, if_false, Option.bind_some]
  exact W.ceqC x y
theorem W.ceql {P : Program} {t : TypeId} (x y : W) (h1 : tyI P t = some (4, true)) (h2 : P.eqGuardType P.depth t = false) (h3 : flatK P 12 t = some [.i, .i, .i, .i]) : binQ P .eql t x.v y.v = some (.bool (decide (x = y))) := by
  show (eqV P t x.v y.v).map Value.bool = _
  rw [W.ceqV x y h1 h2 h3]; rfl
theorem W.cneq {P : Program} {t : TypeId} (x y : W) (h1 : tyI P t = some (4, true)) (h2 : P.eqGuardType P.depth t = false) (h3 : flatK P 12 t = some [.i, .i, .i, .i]) : binQ P .neq t x.v y.v = some (.bool (!decide (x = y))) := by
  show (eqV P t x.v y.v).map (fun r => Value.bool !r) = _
  rw [W.ceqV x y h1 h2 h3]; rfl
attribute [push_cast high] wz_agg W.ceql W.cneq
noncomputable def subtW : W → W → W := hid fun x y => W.of (x.num + 115792089237316195423570985008687907853269984665640564039457584007913129639936 - y.num)
theorem subtW_eq (x y : W) : subtW x y = W.of (x.num + 115792089237316195423570985008687907853269984665640564039457584007913129639936 - y.num) := by unfold subtW; rw [hid_eq]
noncomputable def timesW : W → W → W := hid fun x y => W.of (x.num * y.num)
theorem timesW_eq (x y : W) : timesW x y = W.of (x.num * y.num) := by unfold timesW; rw [hid_eq]
noncomputable def subtG : List Value → Option Value
  | [x, y] => (wOf x).bind fun a => (wOf y).bind fun b => some (subtW a b).v
  | _ => none
noncomputable def timesG : List Value → Option Value
  | [x, y] => (wOf x).bind fun a => (wOf y).bind fun b => some (timesW a b).v
  | _ => none
noncomputable def lngB : Nat → Bool := hid fun n => decide (n < 1152921504606846976)
theorem lngB_eq (n : Nat) : lngB n = decide (n < 1152921504606846976) := by unfold lngB; rw [hid_eq]
theorem lngB_in {n : Nat} (h : n < 1152921504606846976) : lngB n = true := by rw [lngB_eq, decide_eq_true h]
theorem pzB_in {n : Nat} (h : n < 4611686018427387904) : pzB n = true := by rw [pzB_eq, decide_eq_true h]
noncomputable def frombLG : List Value → Option Value
  | [.string b] => if lngB b.size then some (frombW b.data.toList).v else none
  | _ => none
attribute [push_cast] subtG timesG frombLG
def wA : W := ⟨1, 1, 0, 0, by decide, by decide, by decide, by decide⟩
def wB : W := ⟨1, 2, 1, 0, by decide, by decide, by decide, by decide⟩
def wM : W := ⟨18446744073709551615, 18446744073709551615, 18446744073709551615, 18446744073709551615, by decide, by decide, by decide, by decide⟩
theorem wA_agg : Value.agg #[.int .u64 1, .int .u64 1, .int .u64 0, .int .u64 0] = wA.v := rfl
theorem wB_agg : Value.agg #[.int .u64 1, .int .u64 2, .int .u64 1, .int .u64 0] = wB.v := rfl
theorem aw_m : ofW (-1) = wM := by rw [ofW_eq]; rfl
theorem aw_i1 : intW (ofW 1000) = (1000, true) := by rw [intW_eq, show (ofW 1000).num = 1000 from of_nat 1000 (by decide)]; rfl
theorem aw_i2 : intW wM = (0, false) := by rw [intW_eq, if_neg (by decide)]
theorem aw_of {n : Nat} {w : W} (h : n % 115792089237316195423570985008687907853269984665640564039457584007913129639936 = w.num) : W.of n = w := W.num_inj (by rw [W.num_of]; exact h)
theorem aw_add : plusW wM (ofW 1) = W.zero := by rw [plusW_eq, show (ofW 1).num = 1 from of_nat 1 (by decide)]; exact aw_of (by decide)
theorem aw_mul : timesW wA wA = wB := by rw [timesW_eq]; exact aw_of (by decide)
theorem aw_sub : subtW (ofW 1) (ofW 2) = wM := by rw [subtW_eq, show (ofW 1).num = 1 from of_nat 1 (by decide), show (ofW 2).num = 2 from of_nat 2 (by decide)]; exact aw_of (by decide)
theorem aw_cmp : W.cmp wA wM = -1 := (W.cmp_lt (by decide)).symm
theorem aw_fb : frombW [1, 0] = ofW 256 := by
  rw [frombW_eq]
  refine W.num_inj ?_
  rw [W.num_of, show (ofW 256).num = 256 from of_nat 256 (by decide)]; rfl
theorem aw_wb : wbytes wM = List.replicate 32 255 := by
  rw [wbytes_eq]
  refine List.ext_getElem? fun j => ?_
  rw [List.getElem?_map, List.getElem?_replicate]
  by_cases h : j < 32
  · rw [List.getElem?_range h, if_pos h, Option.map_some]
    congr 1
    rw [digN_eq]
    revert j
    decide
  · rw [List.getElem?_eq_none (by simpa using h), if_neg h]; rfl
theorem aw_hex : hexW wM = [48, 120, 102, 102, 102, 102, 102, 102, 102, 102, 102, 102, 102, 102, 102, 102, 102, 102, 102, 102, 102, 102, 102, 102, 102, 102, 102, 102, 102, 102, 102, 102, 102, 102, 102, 102, 102, 102, 102, 102, 102, 102, 102, 102, 102, 102, 102, 102, 102, 102, 102, 102, 102, 102, 102, 102, 102, 102, 102, 102, 102, 102, 102, 102, 102, 102] := by
  rw [hexW_eq, aw_wb]; rfl

theorem aw_p1 : parseP (bs [48, 120, 49, 48, 48, 48, 48, 48, 48, 48, 48, 48, 48, 48, 48, 48, 48, 48, 49]) = (wA, 0) := by
  unfold parseP
  rw [bs_data, parsW_eq, if_pos (by decide)]
  exact (parsB_ok (n := 18446744073709551617) (by decide) (by decide) (by decide)).trans (by rw [aw_of (w := wA) (by decide)])
theorem aw_p2 : parseP (bs [49, 56, 52, 52, 54, 55, 52, 52, 48, 55, 51, 55, 48, 57, 53, 53, 49, 54, 49, 55]) = (wA, 0) := by
  unfold parseP
  rw [bs_data, parsW_eq, if_neg (by decide)]
  exact (parsB_ok (n := 18446744073709551617) (by decide) (by decide) (by decide)).trans (by rw [aw_of (w := wA) (by decide)])
theorem aw_p3 : parseP (bs [48, 120, 48, 49]) = (W.zero, 3) := by
  unfold parseP
  rw [bs_data, parsW_eq, if_pos (by decide)]
  unfold parsB
  rw [if_pos (by decide)]
theorem aw_len : (wbytes wA).length = 32 := wbytes_len _
end Go.Ev
namespace Go.Proofs.YtndioekjgmbomaaDoor
open Go Go.Ev Go.Proofs
set_option maxRecDepth 100000
set_option maxHeartbeats 4000000
theorem wordOfG (args : List Value) (v : Value) (h : ofG args = some v) : CallsV Tryd.prog 11 args [] (Ret0 v) := by
  unfold ofG at h
  split at h
  · split at h
    · rename_i n hh
      cases h
      rw [i64B_eq, decide_eq_true_eq] at hh
      rw [ofW_eq]
      exact wordOf n hh
    · cases h
  · cases h
theorem refAddP (args : List Value) (v : Value) (h : plusG args = some v) : CallsV Tryd.prog 14 args [] (Ret0 v) := by
  obtain ⟨x, y, rfl, rfl⟩ := wbin_some (g := fun a b => (plusW a b).v) (by funext l; rfl) h
  rw [plusW_eq]; exact refAdd x y
theorem wordSubG (args : List Value) (v : Value) (h : subtG args = some v) : CallsV Tryd.prog 15 args [] (Ret0 v) := by
  obtain ⟨x, y, rfl, rfl⟩ := wbin_some (g := fun a b => (subtW a b).v) (by funext l; rfl) h
  rw [subtW_eq]; exact wordSub x y
theorem refSubP (args : List Value) (v : Value) (h : subtG args = some v) : CallsV Tryd.prog 16 args [] (Ret0 v) := by
  obtain ⟨x, y, rfl, rfl⟩ := wbin_some (g := fun a b => (subtW a b).v) (by funext l; rfl) h
  rw [subtW_eq]; exact refSub x y
theorem wordMulG (args : List Value) (v : Value) (h : timesG args = some v) : CallsV Tryd.prog 17 args [] (Ret0 v) := by
  obtain ⟨x, y, rfl, rfl⟩ := wbin_some (g := fun a b => (timesW a b).v) (by funext l; rfl) h
  rw [timesW_eq]; exact wordMul x y
theorem refMulP (args : List Value) (v : Value) (h : timesG args = some v) : CallsV Tryd.prog 18 args [] (Ret0 v) := by
  obtain ⟨x, y, rfl, rfl⟩ := wbin_some (g := fun a b => (timesW a b).v) (by funext l; rfl) h
  rw [timesW_eq]; exact refMul x y
theorem wordFromL (args : List Value) (v : Value) (h : frombLG args = some v) : CallsV Tryd.prog 30 args [] (Ret0 v) := by
  unfold frombLG at h
  split at h
  · split at h
    · rename_i hs; cases h; rw [lngB_eq, decide_eq_true_eq] at hs; exact wordFromBytes _ hs
    · cases h
  · cases h
theorem refFromL (args : List Value) (v : Value) (h : frombLG args = some v) : CallsV Tryd.prog 31 args [] (Ret0 v) := by
  unfold frombLG at h
  split at h
  · split at h
    · rename_i hs; cases h; rw [lngB_eq, decide_eq_true_eq] at hs; exact refFromBytes _ (by omega)
    · cases h
  · cases h
theorem refBytesL (args : List Value) (v : Value) (h : wbytesG args = some v) : CallsV Tryd.prog 22 args [] (Ret0 v) := by
  unfold wbytesG at h
  split at h
  · rename_i x
    cases hx : wOf x with
    | none => simp [hx] at h
    | some a =>
      simp only [hx, Option.bind_some, Option.some.injEq] at h
      rw [wOf_some hx, ← h]
      exact refBytes a
  · cases h
noncomputable def gA0 : Gam := (addG 27 pickG (addG 29 parseG (addG 28 parseG (addG 24 hexG (addG 23 hexG (addG 31 frombLG (addG 30 frombLG (addG 22 wbytesG (addG 21 wbytesG (addG 18 timesG (addG 17 timesG (addG 16 subtG (addG 15 subtG (addG 14 plusG (addG 12 ofG (addG 11 ofG gK))))))))))))))))
attribute [push_cast] gA0
theorem gA0_ok : GamOk Tryd.prog gA0 := (addG_ok pickG_ok (addG_ok refParseG (addG_ok parseG_ok (addG_ok refHexG (addG_ok hexG_ok (addG_ok refFromL (addG_ok wordFromL (addG_ok refBytesL (addG_ok wordBytesG (addG_ok refMulP (addG_ok wordMulG (addG_ok refSubP (addG_ok wordSubG (addG_ok refAddP (addG_ok ofG_ok (addG_ok wordOfG gK_ok))))))))))))))))
def plW : Plans := fun i => if i = 2 then [(0, 9)] else if i = 5 then [(0, 9)] else if i = 6 then [(0, 9)] else Tryd.pl10 i
attribute [push_cast] plW
theorem awake_ok : CallsV Tryd.prog 10 [] [] (Ret0 (.bool true)) := by
  have j0 : i64B (-1) = true := i64B_in (by decide)
  have j1 : i64B 1 = true := i64B_in (by decide)
  have j2 : i64B 1000 = true := i64B_in (by decide)
  have j3 : i64B 256 = true := i64B_in (by decide)
  have j4 : i64B 2 = true := i64B_in (by decide)
  have z1 : pzB 19 = true := pzB_in (by decide)
  have z2 : pzB 20 = true := pzB_in (by decide)
  have z3 : pzB 4 = true := pzB_in (by decide)
  refine callsO gA0_ok Tryd.mix plW Tryd.func10 rfl Tryd.ntmps10 Tryd.results10 rfl (by first | rfl | assumption) (Nat.le_of_ble_eq_true rfl) (by kernel_rfl) ?_
  simp only [push_cast, Nat.reduceAdd, Nat.reduceSub, Nat.reduceMul, Nat.reduceLT, Nat.reduceLeDiff, Nat.reduceEqDiff, Nat.reduceMod, Nat.reduceDiv, Int.reduceAdd, Int.reduceSub, Int.reduceMul, Int.reduceLT, Int.reduceLE, Int.reduceEq, Int.reduceNeg, Int.reduceToNat, reduceIte, reduceCtorEq, j0, aw_m]
  intro b1
  refine regO gA0_ok ?_
  simp only [push_cast, Nat.reduceAdd, Nat.reduceSub, Nat.reduceMul, Nat.reduceLT, Nat.reduceLeDiff, Nat.reduceEqDiff, Nat.reduceMod, Nat.reduceDiv, Int.reduceAdd, Int.reduceSub, Int.reduceMul, Int.reduceLT, Int.reduceLE, Int.reduceEq, Int.reduceNeg, Int.reduceToNat, reduceIte, reduceCtorEq, j2, aw_i1, aw_i2, bs_mk, z1, aw_p1, List.length_cons, List.length_nil]
  intro b6 hb6
  refine regO gA0_ok ?_
  simp only [push_cast, Nat.reduceAdd, Nat.reduceSub, Nat.reduceMul, Nat.reduceLT, Nat.reduceLeDiff, Nat.reduceEqDiff, Nat.reduceMod, Nat.reduceDiv, Int.reduceAdd, Int.reduceSub, Int.reduceMul, Int.reduceLT, Int.reduceLE, Int.reduceEq, Int.reduceNeg, Int.reduceToNat, reduceIte, reduceCtorEq, hb6, bs_mk, z2, aw_p2, List.length_cons, List.length_nil]
  intro b8 hb8
  refine regO gA0_ok ?_
  generalize hK : (thenK _ _ : Exit → Tm → Hp → Prop) = K0
  simp only [push_cast, Nat.reduceAdd, Nat.reduceSub, Nat.reduceMul, Nat.reduceLT, Nat.reduceLeDiff, Nat.reduceEqDiff, Nat.reduceMod, Nat.reduceDiv, Int.reduceAdd, Int.reduceSub, Int.reduceMul, Int.reduceLT, Int.reduceLE, Int.reduceEq, Int.reduceNeg, Int.reduceToNat, reduceIte, reduceCtorEq, hb6, hb8, bs_mk, z3, aw_p3, List.length_cons, List.length_nil]
  intro b10 hb10
  rw [← hK]
  clear hK K0
  have lb : lngB 2 = true := lngB_in (by decide)
  simp only [push_cast, Nat.reduceAdd, Nat.reduceSub, Nat.reduceMul, Nat.reduceLT, Nat.reduceLeDiff, Nat.reduceEqDiff, Nat.reduceMod, Nat.reduceDiv, Int.reduceAdd, Int.reduceSub, Int.reduceMul, Int.reduceLT, Int.reduceLE, Int.reduceEq, Int.reduceNeg, Int.reduceToNat, reduceIte, reduceCtorEq, hb6, hb8, hb10, bs_mk, j0, j1, j2, j3, j4, aw_m, aw_hex, aw_add, wz_agg, wA_agg, wB_agg, aw_cmp, eq_self, lb, aw_fb, aw_len, aw_mul, aw_sub, List.cons_append, List.nil_append, beq_self_eq_true, decide_true, List.length_cons, List.length_nil]
  trace_state
  done
def awakeG : List Value → Option Value
  | [] => some (.bool true)
  | _ => none
attribute [push_cast] awakeG
theorem awakeG_ok (args : List Value) (v : Value) (h : awakeG args = some v) : CallsV Tryd.prog 10 args [] (Ret0 v) := by
  unfold awakeG at h
  split at h
  · cases h; exact awake_ok
  · cases h
noncomputable def gAll : Gam := (addG 10 awakeG gA0)
attribute [push_cast] gAll
theorem gAll_ok : GamOk Tryd.prog gAll := (addG_ok awakeG_ok gA0_ok)
end Go.Proofs.YtndioekjgmbomaaDoor
