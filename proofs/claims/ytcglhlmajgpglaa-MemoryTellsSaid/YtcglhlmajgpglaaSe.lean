/- Se: memory: Need, Piece. -/
import Derived.Test.YtcglhlmajgpglaaSd
import Derived.Test.YtcglhlmajgpglaaWk
set_option linter.unusedSimpArgs false
set_option linter.unusedVariables false
namespace Go.Ev
noncomputable def needI : W → W → Int × Bool := hid fun a n => if n.num = 0 then (0, true) else if a.num + n.num ≤ 1048576 then ((((a.num + n.num + 31) / 32 : Nat) : Int), true) else (0, false)
theorem needI_eq (a n : W) : needI a n = if n.num = 0 then (0, true) else if a.num + n.num ≤ 1048576 then ((((a.num + n.num + 31) / 32 : Nat) : Int), true) else (0, false) := by unfold needI; rw [hid_eq]
noncomputable def needG : List Value → Option Value
  | [x, y] => (wOf x).bind fun a => (wOf y).bind fun b => some (.tuple #[.int .i64 (needI a b).1, .bool (needI a b).2])
  | _ => none
noncomputable def fromL (l : List UInt8) (w : W) : List UInt8 := if (intW w).2 = true ∧ (intW w).1 < (l.length : Int) then l.drop (intW w).1.toNat else []
noncomputable def pieceP (b : ByteArray) (w : W) (n : Int) : ByteArray × Int := if withI n 0 1048576 = n then (bs ((fromL b.data.toList w).take n.toNat ++ zeros (n.toNat - ((fromL b.data.toList w).take n.toNat).length)), 0) else (bs [], 1)
noncomputable def pieceG : List Value → Option Value
  | [.string b, x, .int .i64 n] => (wOf x).bind fun w => some (.tuple #[.string (pieceP b w n).1, .int .i64 (pieceP b w n).2])
  | _ => none
attribute [push_cast] needG pieceG
theorem szero_agg : Value.agg #[.int .u64 0, .int .u64 0, .int .u64 0, .int .u64 0] = W.zero.v := rfl
theorem W.zero_iff (w : W) : w = W.zero ↔ w.num = 0 := ⟨fun h => by rw [h]; rfl, fun h => W.num_inj (by rw [h]; rfl)⟩
theorem W.ceqC (x y : W) : eqC [.i, .i, .i, .i] x.cells y.cells = some (decide (x = y)) := by
  have h : ∀ (p q r s : Bool) (P : Prop) [Decidable P], (P ↔ (p = true ∧ q = true ∧ r = true ∧ s = true)) → (p && (q && (r && (s && true)))) = decide P := by
    intro p q r s P _ hh
    cases p <;> cases q <;> cases r <;> cases s <;> simp_all
  simp only [W.cells, eqC, if_true, Option.map_some, Option.some.injEq]
  refine h _ _ _ _ _ ⟨fun h => by subst h; simp, fun h => ?_⟩
  simp only [beq_iff_eq] at h
  exact W.eq (by omega) (by omega) (by omega) (by omega)
theorem W.ceqV {P : Program} {t : TypeId} (x y : W) (h1 : tyI P t = some (4, true)) (h2 : P.eqGuardType P.depth t = false) (h3 : flatK P 12 t = some [.i, .i, .i, .i]) : eqV P t x.v y.v = some (decide (x = y)) := by
  unfold eqV W.v
  simp only [h1, h2, h3, Bool.false_eq_true, if_false, Option.bind_some]
  exact W.ceqC x y
theorem W.ceql {P : Program} {t : TypeId} (x y : W) (h1 : tyI P t = some (4, true)) (h2 : P.eqGuardType P.depth t = false) (h3 : flatK P 12 t = some [.i, .i, .i, .i]) : binQ P .eql t x.v y.v = some (.bool (decide (x = y))) := by
  show (eqV P t x.v y.v).map Value.bool = _
  rw [W.ceqV x y h1 h2 h3]; rfl
theorem W.cneq {P : Program} {t : TypeId} (x y : W) (h1 : tyI P t = some (4, true)) (h2 : P.eqGuardType P.depth t = false) (h3 : flatK P 12 t = some [.i, .i, .i, .i]) : binQ P .neq t x.v y.v = some (.bool (!decide (x = y))) := by
  show (eqV P t x.v y.v).map (fun r => Value.bool !r) = _
  rw [W.ceqV x y h1 h2 h3]; rfl
attribute [push_cast] W.ceql W.cneq
theorem scmp_neg {x y : W} : x.cmp y < 0 ↔ x.num < y.num := by unfold W.cmp; repeat' split <;> omega
end Go.Ev
namespace Go.Proofs.Ytcglhlmajgpglaa
open Go Go.Ev Go.Proofs
set_option maxRecDepth 100000
set_option maxHeartbeats 4000000
theorem sliceG_ok (args : List Value) (v : Value) (h : sliceG args = some v) : CallsV Try.prog 17 args [] (Ret0 v) := by
  unfold sliceG at h
  split at h
  · cases h; exact slice_ok _ _ _
  · cases h
theorem growG_ok (args : List Value) (v : Value) (h : growG args = some v) : CallsV Try.prog 11 args [] (Ret0 v) := by
  unfold growG at h
  split at h
  · cases h; exact grow_ok _ _
  · cases h
theorem copyG_ok (args : List Value) (v : Value) (h : copyG args = some v) : CallsV Try.prog 16 args [] (Ret0 v) := by
  unfold copyG at h
  split at h
  · cases h; exact copy_ok _ _ _
  · cases h
noncomputable def gT : Gam := (addG 16 copyG (addG 11 growG (addG 17 sliceG (addG 35 noughtsG (addG 14 costG (addG 39 thereG (addG 32 withG (addG 31 mayG gK))))))))
attribute [push_cast] gT
theorem gT_ok : GamOk Try.prog gT := (addG_ok copyG_ok (addG_ok growG_ok (addG_ok sliceG_ok (addG_ok noughtsG_ok (addG_ok costG_ok (addG_ok thereG_ok (addG_ok withG_ok (addG_ok mayG_ok gK_ok))))))))
theorem need_ok (a n : W) : CallsV Try.prog 12 [a.v, n.v] [] (Ret0 (.tuple #[.int .i64 (needI a n).1, .bool (needI a n).2])) := by
  have hal := a.num_lt; have hnl := n.num_lt
  obtain ⟨e, he⟩ : ∃ e, e = plusW a n := ⟨_, rfl⟩
  have hen : e.num = (a.num + n.num) % 115792089237316195423570985008687907853269984665640564039457584007913129639936 := by rw [he, plusW_eq, W.num_of]
  refine callsO gT_ok Try.mix Try.pl12 Try.func12 rfl Try.ntmps12 Try.results12 rfl (by first | rfl | assumption) (Nat.le_of_ble_eq_true rfl) (by kernel_rfl) ?_
  simp only [push_cast, Nat.reduceAdd, Nat.reduceSub, Nat.reduceMul, Nat.reduceLT, Nat.reduceLeDiff, Nat.reduceEqDiff, Nat.reduceMod, Nat.reduceDiv, Int.reduceAdd, Int.reduceSub, Int.reduceMul, Int.reduceLT, Int.reduceLE, Int.reduceEq, Int.reduceNeg, Int.reduceToNat, reduceIte, reduceCtorEq]
  intro b2 b3 hb3
  simp only [push_cast, Nat.reduceAdd, Nat.reduceSub, Nat.reduceMul, Nat.reduceLT, Nat.reduceLeDiff, Nat.reduceEqDiff, Nat.reduceMod, Nat.reduceDiv, Int.reduceAdd, Int.reduceSub, Int.reduceMul, Int.reduceLT, Int.reduceLE, Int.reduceEq, Int.reduceNeg, Int.reduceToNat, reduceIte, reduceCtorEq, hb3, ← he]
  intro b6 hb6
  by_cases h0 : n = W.zero
  · have e1 : decide (n = W.zero) = true := decide_eq_true h0
    have e2 : needI a n = (0, true) := by rw [needI_eq, if_pos ((W.zero_iff n).1 h0)]
    simp only [push_cast, Nat.reduceAdd, Nat.reduceSub, Nat.reduceMul, Nat.reduceLT, Nat.reduceLeDiff, Nat.reduceEqDiff, Nat.reduceMod, Nat.reduceDiv, Int.reduceAdd, Int.reduceSub, Int.reduceMul, Int.reduceLT, Int.reduceLE, Int.reduceEq, Int.reduceNeg, Int.reduceToNat, reduceIte, reduceCtorEq, hb3, hb6, szero_agg, e1, e2]
  · have e1 : decide (n = W.zero) = false := decide_eq_false h0
    have hn0 : ¬ n.num = 0 := fun h => h0 ((W.zero_iff n).2 h)
    by_cases h1 : a.num + n.num ≤ 1048576
    · have hen' : e.num = a.num + n.num := by rw [hen]; omega
      have e3 : intW e = ((e.num : Int), true) := by rw [intW_eq, if_pos (by omega)]
      have e4 : ¬ e.cmp a < 0 := fun h => by have := scmp_neg.1 h; omega
      obtain ⟨q, hq⟩ : ∃ q, q = (e.num + 31) / 32 := ⟨_, rfl⟩
      have e2 : needI a n = ((q : Int), true) := by rw [needI_eq, if_neg hn0, if_pos h1, hq, hen']
      obtain ⟨s, hs⟩ : ∃ s, s = e.num + 32 - 1 := ⟨_, rfl⟩
      have e5 : (e.num : Int) + 32 - 1 = (s : Int) := by omega
      have e6 : (s : Int).tdiv 32 = (q : Int) := by rw [hq, show e.num + 31 = s by omega]; rfl
      have e7 : ¬ (1048576 : Int) < (e.num : Int) := by omega
      simp only [push_cast, Nat.reduceAdd, Nat.reduceSub, Nat.reduceMul, Nat.reduceLT, Nat.reduceLeDiff, Nat.reduceEqDiff, Nat.reduceMod, Nat.reduceDiv, Int.reduceAdd, Int.reduceSub, Int.reduceMul, Int.reduceLT, Int.reduceLE, Int.reduceEq, Int.reduceNeg, Int.reduceToNat, reduceIte, reduceCtorEq, hb3, hb6, szero_agg, e1, e2, e3, e4, e7, wrap_i64' (show -9223372036854775808 ≤ (e.num : Int) + 32 ∧ (e.num : Int) + 32 ≤ 9223372036854775807 by omega), e5, wrap_i64' (show -9223372036854775808 ≤ (s : Int) ∧ (s : Int) ≤ 9223372036854775807 by omega), e6, wrap_i64' (show -9223372036854775808 ≤ (q : Int) ∧ (q : Int) ≤ 9223372036854775807 by omega)]
    · have e2 : needI a n = (0, false) := by rw [needI_eq, if_neg hn0, if_neg h1]
      by_cases h2 : e.num ≤ 4611686018427387903
      · have e3 : intW e = ((e.num : Int), true) := by rw [intW_eq, if_pos h2]
        by_cases h3 : e.num ≤ 1048576
        · have e4 : e.cmp a < 0 := scmp_neg.2 (by omega)
          have e7 : ¬ (1048576 : Int) < (e.num : Int) := by omega
          simp only [push_cast, Nat.reduceAdd, Nat.reduceSub, Nat.reduceMul, Nat.reduceLT, Nat.reduceLeDiff, Nat.reduceEqDiff, Nat.reduceMod, Nat.reduceDiv, Int.reduceAdd, Int.reduceSub, Int.reduceMul, Int.reduceLT, Int.reduceLE, Int.reduceEq, Int.reduceNeg, Int.reduceToNat, reduceIte, reduceCtorEq, hb3, hb6, szero_agg, e1, e2, e3, e4, e7]
        · have e7 : (1048576 : Int) < (e.num : Int) := by omega
          simp only [push_cast, Nat.reduceAdd, Nat.reduceSub, Nat.reduceMul, Nat.reduceLT, Nat.reduceLeDiff, Nat.reduceEqDiff, Nat.reduceMod, Nat.reduceDiv, Int.reduceAdd, Int.reduceSub, Int.reduceMul, Int.reduceLT, Int.reduceLE, Int.reduceEq, Int.reduceNeg, Int.reduceToNat, reduceIte, reduceCtorEq, hb3, hb6, szero_agg, e1, e2, e3, e7]
      · have e3 : intW e = (0, false) := by rw [intW_eq, if_neg h2]
        simp only [push_cast, Nat.reduceAdd, Nat.reduceSub, Nat.reduceMul, Nat.reduceLT, Nat.reduceLeDiff, Nat.reduceEqDiff, Nat.reduceMod, Nat.reduceDiv, Int.reduceAdd, Int.reduceSub, Int.reduceMul, Int.reduceLT, Int.reduceLE, Int.reduceEq, Int.reduceNeg, Int.reduceToNat, reduceIte, reduceCtorEq, hb3, hb6, szero_agg, e1, e2, e3]
theorem piece_ok (b : ByteArray) (w : W) (n : Int) : CallsV Try.prog 15 [.string b, w.v, .int .i64 n] [] (Ret0 (.tuple #[.string (pieceP b w n).1, .int .i64 (pieceP b w n).2])) := by
  obtain ⟨l, rfl⟩ := bs_of b
  refine callsO gT_ok Try.mix (fun i => if i = 1 then [(0, 9)] else Try.pl15 i) Try.func15 rfl Try.ntmps15 Try.results15 rfl (by first | rfl | assumption) (Nat.le_of_ble_eq_true rfl) (by kernel_rfl) ?_
  simp only [push_cast, Nat.reduceAdd, Nat.reduceSub, Nat.reduceMul, Nat.reduceLT, Nat.reduceLeDiff, Nat.reduceEqDiff, Nat.reduceMod, Nat.reduceDiv, Int.reduceAdd, Int.reduceSub, Int.reduceMul, Int.reduceLT, Int.reduceLE, Int.reduceEq, Int.reduceNeg, Int.reduceToNat, reduceIte, reduceCtorEq]
  intro b4
  refine regO gT_ok ?_
  by_cases h : withI n 0 1048576 = n
  · have e : pieceP (bs l) w n = (bs ((fromL l w).take n.toNat ++ zeros (n.toNat - ((fromL l w).take n.toNat).length)), 0) := by unfold pieceP; rw [if_pos h, bs_data]
    have hn : 0 ≤ n ∧ n ≤ 1048576 := by rw [withI_eq] at h; revert h; repeat' split <;> omega
    have h3 : (n != n) = false := by simp
    have fin : ∀ t : List UInt8, ∃ k : Nat, (if n < (t.length : Int) then n else (t.length : Int)) = (k : Int) ∧ List.take k t = t.take n.toNat ∧ (t.take n.toNat).length = k ∧ k ≤ t.length ∧ (k : Int) ≤ n := fun t => by
      refine ⟨min n.toNat t.length, ?_, ?_, ?_, by omega, by omega⟩
      · split <;> omega
      · rcases Nat.le_total n.toNat t.length with hle | hle
        · rw [Nat.min_eq_left hle]
        · rw [Nat.min_eq_right hle, List.take_length, List.take_of_length_le hle]
      · rw [List.length_take]
    have h5 : fromL l w = if (intW w).2 = true ∧ (intW w).1 < (l.length : Int) then l.drop (intW w).1.toNat else [] := rfl
    have hi0 : 0 ≤ (intW w).1 := by rw [intW_eq]; split <;> simp
    obtain ⟨f, hfe⟩ : ∃ f, f = (intW w).1 := ⟨_, rfl⟩
    obtain ⟨g, hg⟩ : ∃ g, g = (intW w).2 := ⟨_, rfl⟩
    rw [← hfe] at hi0 h5
    rw [← hg] at h5
    obtain ⟨t, ht⟩ : ∃ t, t = fromL l w := ⟨_, rfl⟩
    rw [← ht] at h5 e
    obtain ⟨k, k1, k2, k3, k4, k5⟩ := fin t
    have z1 : n.toNat - (t.take n.toNat).length = (n - (k : Int)).toNat := by rw [k3]; omega
    rw [z1, ← k2] at e
    have nz : nB (n - (k : Int)) = true := nB_in ⟨by omega, by omega⟩
    have w1 := wrap_i64' (show -9223372036854775808 ≤ n - (k : Int) ∧ n - (k : Int) ≤ 9223372036854775807 by omega)
    have kl : (List.take k t).length = k := by rw [k2, k3]
    have cl : ¬ ((k : Int) + ((n - (k : Int)).toNat : Int)) > IntKind.i64.max := by
      show ¬ _ > (9223372036854775807 : Int)
      omega
    by_cases hgc : g = true ∧ f < (l.length : Int)
    · rw [if_pos hgc] at h5
      obtain ⟨rfl, hf⟩ := hgc
      have e10 : List.take (l.length - f.toNat) (List.drop f.toNat l) = t := by rw [h5]; exact List.take_of_length_le (by rw [List.length_drop]; exact Nat.le_refl _)
      have hf2 : f ≤ (l.length : Int) := by omega
      simp only [push_cast, Nat.reduceAdd, Nat.reduceSub, Nat.reduceMul, Nat.reduceLT, Nat.reduceLeDiff, Nat.reduceEqDiff, Nat.reduceMod, Nat.reduceDiv, Int.reduceAdd, Int.reduceSub, Int.reduceMul, Int.reduceLT, Int.reduceLE, Int.reduceEq, Int.reduceNeg, Int.reduceToNat, reduceIte, reduceCtorEq, h, h3, ← hg, ← hfe, hf, hf2, hi0, e10, k1, k4, w1, nz, e, kl, zeros_len, catB, cl]
    · rw [if_neg hgc] at h5
      subst h5
      have k0 : k = 0 := by simpa using k4
      subst k0
      have kk : ¬ n < 0 := by omega
      simp only [Int.natCast_zero, Int.sub_zero] at w1 nz e cl
      simp only [Int.zero_add] at cl
      cases g
      · simp only [push_cast, Nat.reduceAdd, Nat.reduceSub, Nat.reduceMul, Nat.reduceLT, Nat.reduceLeDiff, Nat.reduceEqDiff, Nat.reduceMod, Nat.reduceDiv, Int.reduceAdd, Int.reduceSub, Int.reduceMul, Int.reduceLT, Int.reduceLE, Int.reduceEq, Int.reduceNeg, Int.reduceToNat, reduceIte, reduceCtorEq, h, h3, ← hg, ← hfe, hi0, kk, w1, nz, e, zeros_len, catB, bs_nil, List.length_nil, Int.sub_zero, cl]
        done
      · have hf : ¬ f < (l.length : Int) := fun hf => hgc ⟨rfl, hf⟩
        simp only [push_cast, Nat.reduceAdd, Nat.reduceSub, Nat.reduceMul, Nat.reduceLT, Nat.reduceLeDiff, Nat.reduceEqDiff, Nat.reduceMod, Nat.reduceDiv, Int.reduceAdd, Int.reduceSub, Int.reduceMul, Int.reduceLT, Int.reduceLE, Int.reduceEq, Int.reduceNeg, Int.reduceToNat, reduceIte, reduceCtorEq, h, h3, ← hg, ← hfe, hf, hi0, kk, w1, nz, e, zeros_len, catB, bs_nil, List.length_nil, Int.sub_zero, cl]
        done
  · have e : pieceP (bs l) w n = (bs [], 1) := by unfold pieceP; rw [if_neg h]
    have h3 : (n != withI n 0 1048576) = true := by rw [bne_iff_ne]; exact fun hh => h hh.symm
    simp only [push_cast, Nat.reduceAdd, Nat.reduceSub, Nat.reduceMul, Nat.reduceLT, Nat.reduceLeDiff, Nat.reduceEqDiff, Nat.reduceMod, Nat.reduceDiv, Int.reduceAdd, Int.reduceSub, Int.reduceMul, Int.reduceLT, Int.reduceLE, Int.reduceEq, Int.reduceNeg, Int.reduceToNat, reduceIte, reduceCtorEq, h3, e]
    rfl
end Go.Proofs.Ytcglhlmajgpglaa
