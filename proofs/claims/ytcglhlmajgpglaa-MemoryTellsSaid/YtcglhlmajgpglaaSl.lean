/- Sl: memory: Load, Store, Byte. -/
import Derived.Test.YtcglhlmajgpglaaSe
import Derived.Test.YtcglhlmajgpglaaSg
import Derived.Test.YtcglhlmajgpglaaSh
import Derived.Test.YtcglhlmajgpglaaSk
set_option linter.unusedSimpArgs false
set_option linter.unusedVariables false
namespace Go.Ev
noncomputable def szB : Nat → Bool := hid fun n => decide (n < 1099511627776)
theorem szB_in {n : Nat} (h : n < 1099511627776) : szB n = true := by unfold szB; rw [hid_eq, decide_eq_true h]
theorem szB_of {n : Nat} (h : szB n = true) : n < 1099511627776 := by unfold szB at h; rw [hid_eq, decide_eq_true_eq] at h; exact h
noncomputable def fromBG : List Value → Option Value
  | [.string b] => if szB b.size then some (frombW b.data.toList).v else none
  | _ => none
noncomputable def loadP (b : ByteArray) (a : Int) : W × Int := if thereB b.size a 32 then (frombW ((b.data.toList.drop a.toNat).take 32), 0) else (W.zero, 1)
noncomputable def loadG : List Value → Option Value
  | [.string b, .int .i64 a] => some (.tuple #[(loadP b a).1.v, .int .i64 (loadP b a).2])
  | _ => none
noncomputable def storeG : List Value → Option Value
  | [.string b, .int .i64 a, x] => (wOf x).bind fun w => some (.tuple #[.string (copyP b a (bs (wbytes w))).1, .int .i64 (copyP b a (bs (wbytes w))).2])
  | _ => none
noncomputable def byteP (w : W) : ByteArray := bs [UInt8.ofNat (digN w.num 0)]
noncomputable def byteG : List Value → Option Value
  | [.string b, .int .i64 a, x] => (wOf x).bind fun w => some (.tuple #[.string (copyP b a (byteP w)).1, .int .i64 (copyP b a (byteP w)).2])
  | _ => none
theorem ne10 : ((1 : Int) != 0) = true := rfl
theorem ne00 : ((0 : Int) != 0) = false := rfl
theorem eq10 : ((1 : Int) == 0) = false := rfl
theorem eq00 : ((0 : Int) == 0) = true := rfl
attribute [push_cast] fromBG loadG storeG byteG ne10 ne00 eq10 eq00
theorem dig0 (w : W) : digN w.num 0 = w.a % 256 := by
  have h := dig_part w (i := 0) (k := 0) (by decide) (by decide)
  rw [show 8 * 0 + 0 = 0 from rfl] at h
  rw [h, Nat.pow_zero, Nat.div_one]; rfl
theorem siw_some {args : List Value} {v : Value} {g : ByteArray → Int → W → Value} {f : List Value → Option Value} (hf : f = fun l => match l with | [.string b, .int .i64 a, x] => (wOf x).bind fun w => some (g b a w) | _ => none) (h : f args = some v) :
    ∃ b a w, args = [.string b, .int .i64 a, w.v] ∧ v = g b a w := by
  rw [hf] at h
  dsimp only at h
  split at h
  · rename_i b a x
    cases hx : wOf x with
    | none => simp [hx] at h
    | some w =>
      simp only [hx, Option.bind_some, Option.some.injEq] at h
      rw [wOf_some hx]
      exact ⟨b, a, w, rfl, h.symm⟩
  · cases h
end Go.Ev
namespace Go.Proofs.Ytcglhlmajgpglaa
open Go Go.Ev Go.Proofs
set_option maxRecDepth 100000
set_option maxHeartbeats 4000000
theorem wordFromBytesG (args : List Value) (v : Value) (h : fromBG args = some v) : CallsV Try.prog 42 args [] (Ret0 v) := by
  unfold fromBG at h
  split at h
  · split at h
    · rename_i hs; cases h; exact wordFromBytes _ (szB_of hs)
    · cases h
  · cases h
theorem refFromBytesG (args : List Value) (v : Value) (h : fromBG args = some v) : CallsV Try.prog 44 args [] (Ret0 v) := by
  unfold fromBG at h
  split at h
  · split at h
    · rename_i hs; cases h; exact refFromBytes _ (by have := szB_of hs; omega)
    · cases h
  · cases h
theorem refBytesG (args : List Value) (v : Value) (h : wbytesG args = some v) : CallsV Try.prog 30 args [] (Ret0 v) := by
  obtain ⟨x, rfl, rfl⟩ := wun_some (g := fun a => .string ⟨(wbytes a).toArray⟩) (by funext l; rfl) h
  exact refBytes x
theorem needG_ok (args : List Value) (v : Value) (h : needG args = some v) : CallsV Try.prog 12 args [] (Ret0 v) := by
  obtain ⟨x, y, rfl, rfl⟩ := wbin_some (g := fun a b => .tuple #[.int .i64 (needI a b).1, .bool (needI a b).2]) (by funext l; rfl) h
  exact need_ok x y
theorem pieceG_ok (args : List Value) (v : Value) (h : pieceG args = some v) : CallsV Try.prog 15 args [] (Ret0 v) := by
  unfold pieceG at h
  split at h
  · rename_i b x n
    cases hx : wOf x with
    | none => simp [hx] at h
    | some w =>
      simp only [hx, Option.bind_some, Option.some.injEq] at h
      rw [wOf_some hx, ← h]
      exact piece_ok b w n
  · cases h
noncomputable def gL : Gam := (addG 44 fromBG (addG 42 fromBG (addG 30 wbytesG (addG 45 wbytesG (addG 15 pieceG (addG 12 needG gT))))))
attribute [push_cast] gL
theorem gL_ok : GamOk Try.prog gL := (addG_ok refFromBytesG (addG_ok wordFromBytesG (addG_ok refBytesG (addG_ok wordBytesG (addG_ok pieceG_ok (addG_ok needG_ok gT_ok))))))
theorem load_ok (b : ByteArray) (a : Int) : CallsV Try.prog 21 [.string b, .int .i64 a] [] (Ret0 (.tuple #[(loadP b a).1.v, .int .i64 (loadP b a).2])) := by
  obtain ⟨l, rfl⟩ := bs_of b
  refine callsO gL_ok Try.mix (fun i => if i = 1 then [(0, 9)] else Try.pl21 i) Try.func21 rfl Try.ntmps21 Try.results21 rfl (by first | rfl | assumption) (Nat.le_of_ble_eq_true rfl) (by kernel_rfl) ?_
  simp only [push_cast, Nat.reduceAdd, Nat.reduceSub, Nat.reduceMul, Nat.reduceLT, Nat.reduceLeDiff, Nat.reduceEqDiff, Nat.reduceMod, Nat.reduceDiv, Int.reduceAdd, Int.reduceSub, Int.reduceMul, Int.reduceLT, Int.reduceLE, Int.reduceEq, Int.reduceNeg, Int.reduceToNat, reduceIte, reduceCtorEq]
  intro b4
  refine regO gL_ok ?_
  cases h : thereB (bs l).size a 32
  · have e : sliceP (bs l) a 32 = (bs [], 1) := by unfold sliceP; rw [if_neg (by rw [h]; decide)]
    have e2 : loadP (bs l) a = (W.zero, 1) := by unfold loadP; rw [if_neg (by rw [h]; decide)]
    simp only [push_cast, Nat.reduceAdd, Nat.reduceSub, Nat.reduceMul, Nat.reduceLT, Nat.reduceLeDiff, Nat.reduceEqDiff, Nat.reduceMod, Nat.reduceDiv, Int.reduceAdd, Int.reduceSub, Int.reduceMul, Int.reduceLT, Int.reduceLE, Int.reduceEq, Int.reduceNeg, Int.reduceToNat, reduceIte, reduceCtorEq, e, e2, szero_agg]
  · have e : sliceP (bs l) a 32 = (bs ((l.drop a.toNat).take 32), 0) := by unfold sliceP; rw [if_pos h, bs_data]; rfl
    have e2 : loadP (bs l) a = (frombW ((l.drop a.toNat).take 32), 0) := by unfold loadP; rw [if_pos h, bs_data]
    have hs : szB ((l.drop a.toNat).take 32).length = true := szB_in (by rw [List.length_take]; omega)
    simp only [push_cast, Nat.reduceAdd, Nat.reduceSub, Nat.reduceMul, Nat.reduceLT, Nat.reduceLeDiff, Nat.reduceEqDiff, Nat.reduceMod, Nat.reduceDiv, Int.reduceAdd, Int.reduceSub, Int.reduceMul, Int.reduceLT, Int.reduceLE, Int.reduceEq, Int.reduceNeg, Int.reduceToNat, reduceIte, reduceCtorEq, e, e2, hs]
theorem store_ok (b : ByteArray) (a : Int) (w : W) : CallsV Try.prog 23 [.string b, .int .i64 a, w.v] [] (Ret0 (.tuple #[.string (copyP b a (bs (wbytes w))).1, .int .i64 (copyP b a (bs (wbytes w))).2])) := by
  refine callsO gL_ok Try.mix Try.pl23 Try.func23 rfl Try.ntmps23 Try.results23 rfl (by first | rfl | assumption) (Nat.le_of_ble_eq_true rfl) (by kernel_rfl) ?_
  simp only [push_cast, Nat.reduceAdd, Nat.reduceSub, Nat.reduceMul, Nat.reduceLT, Nat.reduceLeDiff, Nat.reduceEqDiff, Nat.reduceMod, Nat.reduceDiv, Int.reduceAdd, Int.reduceSub, Int.reduceMul, Int.reduceLT, Int.reduceLE, Int.reduceEq, Int.reduceNeg, Int.reduceToNat, reduceIte, reduceCtorEq, bs_mk]
theorem byte_ok (b : ByteArray) (a : Int) (w : W) : CallsV Try.prog 25 [.string b, .int .i64 a, w.v] [] (Ret0 (.tuple #[.string (copyP b a (byteP w)).1, .int .i64 (copyP b a (byteP w)).2])) := by
  have hw : IntKind.u8.wrap (w.a : Int) = ((digN w.num 0 : Nat) : Int) := by rw [IntKind.wrap_u8, dig0]; rfl
  have hl := digN_lt w.num 0
  have hb : byteP w = { data := #[UInt8.ofNat (digN w.num 0)] } := rfl
  refine callsO gL_ok Try.mix Try.pl25 Try.func25 rfl Try.ntmps25 Try.results25 rfl (by first | rfl | assumption) (Nat.le_of_ble_eq_true rfl) (by kernel_rfl) ?_
  simp only [push_cast, Nat.reduceAdd, Nat.reduceSub, Nat.reduceMul, Nat.reduceLT, Nat.reduceLeDiff, Nat.reduceEqDiff, Nat.reduceMod, Nat.reduceDiv, Int.reduceAdd, Int.reduceSub, Int.reduceMul, Int.reduceLT, Int.reduceLE, Int.reduceEq, Int.reduceNeg, Int.reduceToNat, reduceIte, reduceCtorEq, hw]
  intro b5 b13 hb13
  simp only [push_cast, Nat.reduceAdd, Nat.reduceSub, Nat.reduceMul, Nat.reduceLT, Nat.reduceLeDiff, Nat.reduceEqDiff, Nat.reduceMod, Nat.reduceDiv, Int.reduceAdd, Int.reduceSub, Int.reduceMul, Int.reduceLT, Int.reduceLE, Int.reduceEq, Int.reduceNeg, Int.reduceToNat, reduceIte, reduceCtorEq, hb13, hw, strOfV, bytesOf, ← hb]
theorem loadG_ok (args : List Value) (v : Value) (h : loadG args = some v) : CallsV Try.prog 21 args [] (Ret0 v) := by
  unfold loadG at h
  split at h
  · cases h; exact load_ok _ _
  · cases h
theorem storeG_ok (args : List Value) (v : Value) (h : storeG args = some v) : CallsV Try.prog 23 args [] (Ret0 v) := by
  obtain ⟨b, a, w, rfl, rfl⟩ := siw_some (g := fun b a w => .tuple #[.string (copyP b a (bs (wbytes w))).1, .int .i64 (copyP b a (bs (wbytes w))).2]) (by funext l; rfl) h
  exact store_ok b a w
theorem byteG_ok (args : List Value) (v : Value) (h : byteG args = some v) : CallsV Try.prog 25 args [] (Ret0 v) := by
  obtain ⟨b, a, w, rfl, rfl⟩ := siw_some (g := fun b a w => .tuple #[.string (copyP b a (byteP w)).1, .int .i64 (copyP b a (byteP w)).2]) (by funext l; rfl) h
  exact byte_ok b a w
end Go.Proofs.Ytcglhlmajgpglaa
