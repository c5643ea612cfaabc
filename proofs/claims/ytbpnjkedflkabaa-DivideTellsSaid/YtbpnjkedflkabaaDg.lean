/- Dg: Addmod, Mulmod, Exp. -/
import Derived.Test.YtbpnjkedflkabaaDf
set_option linter.unusedSimpArgs false
set_option linter.unusedVariables false
namespace Go.Ev
/-- a sum of two words, whole -/
noncomputable def sumW (x y : W) : W8 := ⟨W.of (x.num + y.num), ⟨addC x.d y.d (addC x.c y.c (addC x.b y.b (addC x.a y.a 0))), 0, 0, 0, Nat.lt_of_le_of_lt (addC_le _ _ _) (by decide), by decide, by decide, by decide⟩⟩
theorem add_step {x y c : Nat} (hx : x < 18446744073709551616) (hy : y < 18446744073709551616) (hc : c ≤ 1) : addLo x y c + 18446744073709551616 * addC x y c = x + y + c := by
  simp only [addLo_eq, addC_eq]; split <;> omega
theorem add_key {xa xb xc xd ya yb yc yd l0 l1 l2 l3 c0 c1 c2 c3 : Nat} (e0 : l0 + 18446744073709551616 * c0 = xa + ya + 0) (e1 : l1 + 18446744073709551616 * c1 = xb + yb + c0) (e2 : l2 + 18446744073709551616 * c2 = xc + yc + c1) (e3 : l3 + 18446744073709551616 * c3 = xd + yd + c2) :
    (l0 + 18446744073709551616 * (l1 + 18446744073709551616 * (l2 + 18446744073709551616 * l3))) + 115792089237316195423570985008687907853269984665640564039457584007913129639936 * c3 =
    (xa + 18446744073709551616 * (xb + 18446744073709551616 * (xc + 18446744073709551616 * xd))) + (ya + 18446744073709551616 * (yb + 18446744073709551616 * (yc + 18446744073709551616 * yd))) := by omega
theorem add_sum (x y : W) : (⟨addLo x.a y.a 0, addLo x.b y.b (addC x.a y.a 0), addLo x.c y.c (addC x.b y.b (addC x.a y.a 0)), addLo x.d y.d (addC x.c y.c (addC x.b y.b (addC x.a y.a 0))), addLo_lt _ _ _, addLo_lt _ _ _, addLo_lt _ _ _, addLo_lt _ _ _⟩ : W).num + 115792089237316195423570985008687907853269984665640564039457584007913129639936 * addC x.d y.d (addC x.c y.c (addC x.b y.b (addC x.a y.a 0))) = x.num + y.num :=
  add_key (add_step x.ha y.ha (Nat.zero_le 1)) (add_step x.hb y.hb (addC_le _ _ _)) (add_step x.hc y.hc (addC_le _ _ _)) (add_step x.hd y.hd (addC_le _ _ _))
theorem add_num (x y : W) : (⟨addLo x.a y.a 0, addLo x.b y.b (addC x.a y.a 0), addLo x.c y.c (addC x.b y.b (addC x.a y.a 0)), addLo x.d y.d (addC x.c y.c (addC x.b y.b (addC x.a y.a 0))), addLo_lt _ _ _, addLo_lt _ _ _, addLo_lt _ _ _, addLo_lt _ _ _⟩ : W) = W.of (x.num + y.num) := by
  refine W.eq_of ?_
  have h := add_sum x y
  have hl := W.num_lt ⟨addLo x.a y.a 0, addLo x.b y.b (addC x.a y.a 0), addLo x.c y.c (addC x.b y.b (addC x.a y.a 0)), addLo x.d y.d (addC x.c y.c (addC x.b y.b (addC x.a y.a 0))), addLo_lt _ _ _, addLo_lt _ _ _, addLo_lt _ _ _, addLo_lt _ _ _⟩
  generalize W.num _ = L at *
  generalize addC x.d y.d _ = c at *
  omega
theorem sumW_num (x y : W) : (sumW x y).num = x.num + y.num := by
  unfold sumW W8.num
  dsimp only
  rw [← add_num]
  have h := add_sum x y
  rw [← h]
  congr 1
theorem sum_v (x y : W) : Value.agg #[.int .u64 (addLo x.a y.a 0 : Nat), .int .u64 (addLo x.b y.b (addC x.a y.a 0) : Nat), .int .u64 (addLo x.c y.c (addC x.b y.b (addC x.a y.a 0)) : Nat), .int .u64 (addLo x.d y.d (addC x.c y.c (addC x.b y.b (addC x.a y.a 0))) : Nat), .int .u64 (addC x.d y.d (addC x.c y.c (addC x.b y.b (addC x.a y.a 0))) : Nat), .int .u64 0, .int .u64 0, .int .u64 0] = (sumW x y).v := by
  unfold sumW
  rw [← add_num]
  rfl
noncomputable def addmodW (x y n : W) : W := if n = W.zero then W.zero else W.of ((x.num + y.num) % n.num)
noncomputable def mulmodW (x y n : W) : W := if n = W.zero then W.zero else W.of (x.num * y.num % n.num)
noncomputable def expW (x y : W) : W := W.of (x.num ^ y.num)
theorem exp_dbl (x : W) (t b : Nat) (hb : b = 0 ∨ b = 1) : W.of (x.num ^ (2 * t + b)) = if b = 1 then W.of ((W.of ((W.of (x.num ^ t)).num * (W.of (x.num ^ t)).num)).num * x.num) else W.of ((W.of (x.num ^ t)).num * (W.of (x.num ^ t)).num) := by
  have h2 : x.num ^ (2 * t) = x.num ^ t * x.num ^ t := by rw [Nat.two_mul, Nat.pow_add]
  rcases hb with rfl | rfl
  · rw [if_neg (by decide), Nat.add_zero, h2]
    refine W.of_eq ?_
    rw [W.num_of, ← Nat.mul_mod]
  · rw [if_pos rfl, Nat.pow_succ, h2]
    refine W.of_eq ?_
    rw [W.num_of, W.num_of, ← Nat.mul_mod, Nat.mod_mul_mod]
end Go.Ev
namespace Go.Proofs.Ytbpnjkedflkabaa
open Go Go.Ev Go.Proofs
set_option maxRecDepth 100000
set_option maxHeartbeats 4000000
theorem addmod_ok (x y n : W) : CallsV Try.prog 18 [x.v, y.v, n.v] [] (Ret0 (addmodW x y n).v) := by
  obtain ⟨R, hR⟩ : ∃ R, R = addmodW x y n := ⟨_, rfl⟩
  rw [← hR]
  refine callsO gX_ok Try.mix (fun i => if i = 1 then [(0, 9)] else Try.pl18 i) Try.func18 rfl Try.ntmps18 Try.results18 rfl (by first | rfl | assumption) (Nat.le_of_ble_eq_true rfl) (by kernel_rfl) ?_
  simp only [push_cast, Nat.reduceAdd, Nat.reduceSub, Nat.reduceMul, Nat.reduceLT, Nat.reduceLeDiff, Nat.reduceEqDiff, Nat.reduceMod, Nat.reduceDiv, Int.reduceAdd, Int.reduceSub, Int.reduceMul, Int.reduceLT, Int.reduceLE, Int.reduceEq, Int.reduceNeg, Int.reduceToNat, reduceIte, reduceCtorEq]
  intro b3 b4 hb4 b5 hb5 b6 hb6
  refine regO gX_ok ?_
  by_cases h : n = W.zero
  · have e1 : decide (n = W.zero) = true := by simpa using h
    simp only [push_cast, Nat.reduceAdd, Nat.reduceSub, Nat.reduceMul, Nat.reduceLT, Nat.reduceLeDiff, Nat.reduceEqDiff, Nat.reduceMod, Nat.reduceDiv, Int.reduceAdd, Int.reduceSub, Int.reduceMul, Int.reduceLT, Int.reduceLE, Int.reduceEq, Int.reduceNeg, Int.reduceToNat, reduceIte, reduceCtorEq, hb4, hb5, hb6, e1]
    rw [hR, addmodW, if_pos h]
  · have e1 : decide (n = W.zero) = false := by simpa using h
    simp only [push_cast, Nat.reduceAdd, Nat.reduceSub, Nat.reduceMul, Nat.reduceLT, Nat.reduceLeDiff, Nat.reduceEqDiff, Nat.reduceMod, Nat.reduceDiv, Int.reduceAdd, Int.reduceSub, Int.reduceMul, Int.reduceLT, Int.reduceLE, Int.reduceEq, Int.reduceNeg, Int.reduceToNat, reduceIte, reduceCtorEq, hb4, hb5, hb6, e1]
    intro b7 hb7
    refine unrollO gX_ok (pl := Try.pl18) Try.mix 5 (by kernel_rfl) ?_
    simp only [push_cast, Nat.reduceAdd, Nat.reduceSub, Nat.reduceMul, Nat.reduceLT, Nat.reduceLeDiff, Nat.reduceEqDiff, Nat.reduceMod, Nat.reduceDiv, Int.reduceAdd, Int.reduceSub, Int.reduceMul, Int.reduceLT, Int.reduceLE, Int.reduceEq, Int.reduceNeg, Int.reduceToNat, reduceIte, reduceCtorEq, hb4, hb5, hb6, hb7, sum_v]
    refine (divided2 (sumW x y) n (W.pos h)).pure trivial ?_
    simp only [push_cast, Nat.reduceAdd, Nat.reduceSub, Nat.reduceMul, Nat.reduceLT, Nat.reduceLeDiff, Nat.reduceEqDiff, Nat.reduceMod, Nat.reduceDiv, Int.reduceAdd, Int.reduceSub, Int.reduceMul, Int.reduceLT, Int.reduceLE, Int.reduceEq, Int.reduceNeg, Int.reduceToNat, reduceIte, reduceCtorEq, hb4, hb5, hb6, hb7]
    rw [hR, addmodW, if_neg h, sumW_num]
theorem mulmod_ok (x y n : W) : CallsV Try.prog 20 [x.v, y.v, n.v] [] (Ret0 (mulmodW x y n).v) := by
  obtain ⟨R, hR⟩ : ∃ R, R = mulmodW x y n := ⟨_, rfl⟩
  rw [← hR]
  refine callsO gX_ok Try.mix (fun i => if i = 1 then [(0, 9)] else Try.pl20 i) Try.func20 rfl Try.ntmps20 Try.results20 rfl (by first | rfl | assumption) (Nat.le_of_ble_eq_true rfl) (by kernel_rfl) ?_
  simp only [push_cast, Nat.reduceAdd, Nat.reduceSub, Nat.reduceMul, Nat.reduceLT, Nat.reduceLeDiff, Nat.reduceEqDiff, Nat.reduceMod, Nat.reduceDiv, Int.reduceAdd, Int.reduceSub, Int.reduceMul, Int.reduceLT, Int.reduceLE, Int.reduceEq, Int.reduceNeg, Int.reduceToNat, reduceIte, reduceCtorEq]
  intro b3 b4 hb4 b5 hb5 b6 hb6
  refine regO gX_ok ?_
  by_cases h : n = W.zero
  · have e1 : decide (n = W.zero) = true := by simpa using h
    simp only [push_cast, Nat.reduceAdd, Nat.reduceSub, Nat.reduceMul, Nat.reduceLT, Nat.reduceLeDiff, Nat.reduceEqDiff, Nat.reduceMod, Nat.reduceDiv, Int.reduceAdd, Int.reduceSub, Int.reduceMul, Int.reduceLT, Int.reduceLE, Int.reduceEq, Int.reduceNeg, Int.reduceToNat, reduceIte, reduceCtorEq, hb4, hb5, hb6, e1]
    rw [hR, mulmodW, if_pos h]
  · have e1 : decide (n = W.zero) = false := by simpa using h
    simp only [push_cast, Nat.reduceAdd, Nat.reduceSub, Nat.reduceMul, Nat.reduceLT, Nat.reduceLeDiff, Nat.reduceEqDiff, Nat.reduceMod, Nat.reduceDiv, Int.reduceAdd, Int.reduceSub, Int.reduceMul, Int.reduceLT, Int.reduceLE, Int.reduceEq, Int.reduceNeg, Int.reduceToNat, reduceIte, reduceCtorEq, hb4, hb5, hb6, e1]
    refine TakeV.mk (Hf := []) trivial (product_ok x y) ?_
    simp only [push_cast, Nat.reduceAdd, Nat.reduceSub, Nat.reduceMul, Nat.reduceLT, Nat.reduceLeDiff, Nat.reduceEqDiff, Nat.reduceMod, Nat.reduceDiv, Int.reduceAdd, Int.reduceSub, Int.reduceMul, Int.reduceLT, Int.reduceLE, Int.reduceEq, Int.reduceNeg, Int.reduceToNat, reduceIte, reduceCtorEq, hb4, hb5, hb6]
    refine TakeV.mk (Hf := []) trivial (divided2 (prodW x y) n (W.pos h)) ?_
    simp only [push_cast, Nat.reduceAdd, Nat.reduceSub, Nat.reduceMul, Nat.reduceLT, Nat.reduceLeDiff, Nat.reduceEqDiff, Nat.reduceMod, Nat.reduceDiv, Int.reduceAdd, Int.reduceSub, Int.reduceMul, Int.reduceLT, Int.reduceLE, Int.reduceEq, Int.reduceNeg, Int.reduceToNat, reduceIte, reduceCtorEq, hb4, hb5, hb6]
    rw [hR, mulmodW, if_neg h, prodW_num]
theorem exp_ok (x y : W) : CallsV Try.prog 22 [x.v, y.v] [] (Ret0 (expW x y).v) := by
  obtain ⟨R, hR⟩ : ∃ R, R = expW x y := ⟨_, rfl⟩
  rw [← hR]
  refine callsO gX_ok Try.mix (fun i => if i = 1 then [(0, 9)] else Try.pl22 i) Try.func22 rfl Try.ntmps22 Try.results22 rfl (by first | rfl | assumption) (Nat.le_of_ble_eq_true rfl) (by kernel_rfl) ?_
  simp only [push_cast, Nat.reduceAdd, Nat.reduceSub, Nat.reduceMul, Nat.reduceLT, Nat.reduceLeDiff, Nat.reduceEqDiff, Nat.reduceMod, Nat.reduceDiv, Int.reduceAdd, Int.reduceSub, Int.reduceMul, Int.reduceLT, Int.reduceLE, Int.reduceEq, Int.reduceNeg, Int.reduceToNat, reduceIte, reduceCtorEq]
  intro b2 b3 hb3 b4 hb4
  refine regO gX_ok ?_
  simp only [push_cast, Nat.reduceAdd, Nat.reduceSub, Nat.reduceMul, Nat.reduceLT, Nat.reduceLeDiff, Nat.reduceEqDiff, Nat.reduceMod, Nat.reduceDiv, Int.reduceAdd, Int.reduceSub, Int.reduceMul, Int.reduceLT, Int.reduceLE, Int.reduceEq, Int.reduceNeg, Int.reduceToNat, reduceIte, reduceCtorEq, hb3, hb4]
  have c1 := wordOf 1 (by decide)
  obtain ⟨one, h1⟩ : ∃ o, o = W.ofInt 1 := ⟨_, rfl⟩
  rw [← h1] at c1
  have h1n : one = W.of 1 := by
    rw [h1]
    refine W.num_inj ?_
    rw [W.num_of]
    rfl
  refine c1.pure trivial ?_
  simp only [push_cast, Nat.reduceAdd, Nat.reduceSub, Nat.reduceMul, Nat.reduceLT, Nat.reduceLeDiff, Nat.reduceEqDiff, Nat.reduceMod, Nat.reduceDiv, Int.reduceAdd, Int.reduceSub, Int.reduceMul, Int.reduceLT, Int.reduceLE, Int.reduceEq, Int.reduceNeg, Int.reduceToNat, reduceIte, reduceCtorEq, hb3, hb4]
  intro b5 hb5
  simp only [push_cast, Nat.reduceAdd, Nat.reduceSub, Nat.reduceMul, Nat.reduceLT, Nat.reduceLeDiff, Nat.reduceEqDiff, Nat.reduceMod, Nat.reduceDiv, Int.reduceAdd, Int.reduceSub, Int.reduceMul, Int.reduceLT, Int.reduceLE, Int.reduceEq, Int.reduceNeg, Int.reduceToNat, reduceIte, reduceCtorEq, hb3, hb4, hb5]
  refine (ones1 ⟨y⟩).use trivial ?_
  rintro _ _ ⟨bn, rfl, rfl⟩
  refine ⟨⟨trivial, trivial⟩, rfl, fun hfn => ?_⟩
  simp only [push_cast, Nat.reduceAdd, Nat.reduceSub, Nat.reduceMul, Nat.reduceLT, Nat.reduceLeDiff, Nat.reduceEqDiff, Nat.reduceMod, Nat.reduceDiv, Int.reduceAdd, Int.reduceSub, Int.reduceMul, Int.reduceLT, Int.reduceLE, Int.reduceEq, Int.reduceNeg, Int.reduceToNat, reduceIte, reduceCtorEq] at hfn
  try simp only [push_cast, Nat.reduceAdd, Nat.reduceSub, Nat.reduceMul, Nat.reduceLT, Nat.reduceLeDiff, Nat.reduceEqDiff, Nat.reduceMod, Nat.reduceDiv, Int.reduceAdd, Int.reduceSub, Int.reduceMul, Int.reduceLT, Int.reduceLE, Int.reduceEq, Int.reduceNeg, Int.reduceToNat, reduceIte, reduceCtorEq, hb3, hb4, hb5, hfn]
  refine rangeO gX_ok (pl := Try.pl22) Try.mix (Hc := [⟨bn, 0, .cel 24, W1.cells ⟨y⟩⟩]) (Hm := [])
    (ones1_ok (x := ⟨y⟩) (bn := bn) (kd := .cel 24) rfl (by simp [findE, W1.cells])) rfl
    (X := W) (fun s => [⟨b5, 0, .cel 24, s.cells⟩, ⟨b4, 0, .cel 24, W.zero.cells⟩, ⟨b2, 0, .cel 24, x.cells⟩])
    (fun k s => s = W.of (x.num ^ (y.num / 2 ^ (256 - k)))) (fun _ _ => False) one
    ?_ ?_ ?_ ?_ (by simp) (fun s => rfl) (fun s u e he => .inl ?_) ?_ (by kernel_rfl) (by kernel_rfl) (fun _ _ h => h.elim) ?_ ?_ (fun _ _ _ _ h => h.elim)
  · have h0 : y.num / 2 ^ (256 - 0) = 0 := Nat.div_eq_of_lt y.num_lt
    rw [h0, h1n, Nat.pow_zero]
  · simp only [push_cast, Nat.reduceAdd, Nat.reduceSub, Nat.reduceMul, Nat.reduceLT, Nat.reduceLeDiff, Nat.reduceEqDiff, Nat.reduceMod, Nat.reduceDiv, Int.reduceAdd, Int.reduceSub, Int.reduceMul, Int.reduceLT, Int.reduceLE, Int.reduceEq, Int.reduceNeg, Int.reduceToNat, reduceIte, reduceCtorEq, hb3, hb4, hb5, hfn]
    rfl
  · rfl
  · rfl
  · simp at he; rcases he with rfl | rfl | rfl <;> trivial
  · intro args ha
    obtain ⟨z, _, rfl⟩ := List.mem_map.1 ha
    rfl
  · rintro lo k s args hk hs
    try dsimp only at hs ⊢
    obtain ⟨j, hj, rfl⟩ := Option.map_eq_some_iff.1 ((List.getElem?_map ..).symm.trans hk)
    obtain ⟨hk1, hk2⟩ := List.getElem?_eq_some_iff.1 hj
    rw [List.getElem_range] at hk2
    subst hk2
    rw [List.length_range] at hk1
    obtain ⟨m, hm⟩ : ∃ m, m = 255 - k := ⟨_, rfl⟩
    rw [show 256 - k = m + 1 by omega] at hs
    have hm1 : 256 - (k + 1) = m := by omega
    rw [← hm]
    have hst := exp_dbl x (y.num / 2 ^ (m + 1)) (bitN y.num m) (by have := bitN_le y.num m; omega)
    rw [← top_step, ← hs] at hst
    generalize hRK : (roundK _ _ _ k : Exit → Tm → Hp → Prop) = RK
    have hbc : bitN y.num m = 0 ∨ bitN y.num m = 1 := by have := bitN_le y.num m; omega
    show oC _ _ _ _ _ _ _ (parT 20 _ _ [Value.int .u64 (bitN y.num m : Nat)]) _
    rcases hbc with hb | hb
    · rw [hb, if_neg (by decide)] at hst
      rw [hb]
      have e01 : ((0 : Int) == 1) = false := rfl
      simp only [push_cast, Nat.reduceAdd, Nat.reduceSub, Nat.reduceMul, Nat.reduceLT, Nat.reduceLeDiff, Nat.reduceEqDiff, Nat.reduceMod, Nat.reduceDiv, Int.reduceAdd, Int.reduceSub, Int.reduceMul, Int.reduceLT, Int.reduceLE, Int.reduceEq, Int.reduceNeg, Int.reduceToNat, reduceIte, reduceCtorEq, hb3, hb4, hb5, e01]
      rw [← hRK]
      exact ⟨W.of (s.num * s.num), by dsimp only; rw [hm1, ← hst], subH_self _⟩
    · rw [hb, if_pos rfl] at hst
      rw [hb]
      simp only [push_cast, Nat.reduceAdd, Nat.reduceSub, Nat.reduceMul, Nat.reduceLT, Nat.reduceLeDiff, Nat.reduceEqDiff, Nat.reduceMod, Nat.reduceDiv, Int.reduceAdd, Int.reduceSub, Int.reduceMul, Int.reduceLT, Int.reduceLE, Int.reduceEq, Int.reduceNeg, Int.reduceToNat, reduceIte, reduceCtorEq, hb3, hb4, hb5]
      rw [← hRK]
      exact ⟨W.of ((W.of (s.num * s.num)).num * x.num), by dsimp only; rw [hm1, ← hst], subH_self _⟩
  · rintro D s hfD hs
    try dsimp only at hs ⊢
    rw [List.length_map, List.length_range, Nat.sub_self, Nat.pow_zero, Nat.div_one] at hs
    rw [hR, expW, ← hs]
    simp only [push_cast, Nat.reduceAdd, Nat.reduceSub, Nat.reduceMul, Nat.reduceLT, Nat.reduceLeDiff, Nat.reduceEqDiff, Nat.reduceMod, Nat.reduceDiv, Int.reduceAdd, Int.reduceSub, Int.reduceMul, Int.reduceLT, Int.reduceLE, Int.reduceEq, Int.reduceNeg, Int.reduceToNat, reduceIte, reduceCtorEq] at hfD
    simp only [push_cast, Nat.reduceAdd, Nat.reduceSub, Nat.reduceMul, Nat.reduceLT, Nat.reduceLeDiff, Nat.reduceEqDiff, Nat.reduceMod, Nat.reduceDiv, Int.reduceAdd, Int.reduceSub, Int.reduceMul, Int.reduceLT, Int.reduceLE, Int.reduceEq, Int.reduceNeg, Int.reduceToNat, reduceIte, reduceCtorEq, hb3, hb4, hb5, hfD]
end Go.Proofs.Ytbpnjkedflkabaa
