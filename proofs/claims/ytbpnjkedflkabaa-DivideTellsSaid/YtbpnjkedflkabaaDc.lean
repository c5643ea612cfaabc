/- Dc: twice a word, and a bit. -/
import Derived.Test.YtbpnjkedflkabaaDb
set_option linter.unusedSimpArgs false
set_option linter.unusedVariables false
namespace Go.Ev
noncomputable def dbLo : Nat → Nat → Nat := hid fun x b => (2 * x + b) % 18446744073709551616
theorem dbLo_eq (x b : Nat) : dbLo x b = (2 * x + b) % 18446744073709551616 := by unfold dbLo; rw [hid_eq]
noncomputable def dbHi : Nat → Nat := hid fun x => x / 9223372036854775808 % 2
theorem dbHi_eq (x : Nat) : dbHi x = x / 9223372036854775808 % 2 := by unfold dbHi; rw [hid_eq]
theorem dbLo_lt (x b : Nat) : dbLo x b < 18446744073709551616 := by rw [dbLo_eq]; exact Nat.mod_lt _ (by decide)
theorem dbHi_le (x : Nat) : dbHi x ≤ 1 := by rw [dbHi_eq]; omega
theorem db_lo {x b : Nat} (hx : x < 18446744073709551616) (hb : b ≤ 1) : bitsI .or .u64 (shlI .u64 (x : Int) 1) (b : Int) = ((dbLo x b : Nat) : Int) := by
  have e1 : shlI .u64 (x : Int) 1 = ((2 * (x % 9223372036854775808) : Nat) : Int) := by
    unfold shlI
    rw [IntKind.wrap_u64]
    show ((x : Int) * 2) % 18446744073709551616 = _
    omega
  rw [e1, dbLo_eq]
  have h := bits_or_u64_nat (2 * (x % 9223372036854775808)) b (by omega) (by omega)
  have e2 : (2 * (x % 9223372036854775808)) ||| b = 2 * (x % 9223372036854775808) + b := by
    have := Nat.two_pow_add_eq_or_of_lt (i := 1) (b := b) (by omega) (x % 9223372036854775808)
    rw [← this]
  rw [e2] at h
  refine (show bitsI .or .u64 _ _ = _ from h).trans ?_
  omega
theorem db_hi {x : Nat} (hx : x < 18446744073709551616) : shrI .u64 (x : Int) 63 = ((dbHi x : Nat) : Int) := by
  have := shr_u64 (x : Int) 63 (by decide)
  rw [show ((63 : Nat) : Int) = 63 from rfl] at this
  rw [this, dbHi_eq]
  show (x : Int) / 9223372036854775808 = _
  omega
theorem dbl_num (x : W) {b : Nat} (hb : b ≤ 1) : (⟨dbLo x.a b, dbLo x.b (dbHi x.a), dbLo x.c (dbHi x.b), dbLo x.d (dbHi x.c), dbLo_lt _ _, dbLo_lt _ _, dbLo_lt _ _, dbLo_lt _ _⟩ : W) = W.of (2 * x.num + b) := by
  have := x.ha; have := x.hb; have := x.hc; have := x.hd
  refine W.eq_of ?_
  unfold W.num
  dsimp only
  simp only [dbLo_eq, dbHi_eq]
  omega
theorem W.of_zero : W.of 0 = W.zero := by
  refine W.num_inj ?_
  rw [W.num_of]; rfl
theorem W1.lt (x : W1) : x.num < 2 ^ 256 := W.num_lt x.w
theorem W8.lt (x : W8) : x.num < 2 ^ 512 := by
  have h1 := W.num_lt x.lo; have h2 := W.num_lt x.hi
  unfold W8.num
  generalize x.lo.num = l at *; generalize x.hi.num = h at *
  omega
theorem W.cmp_neg {x y : W} : x.cmp y < 0 ↔ x.num < y.num := by unfold W.cmp; repeat' split <;> omega
theorem b1_bit (n k : Nat) : b1 (bitN n k : Nat) = true := by have := bitN_le n k; rw [b1_eq, decide_eq_true_eq]; omega
theorem b1_1 : b1 1 = true := by rw [b1_eq]; rfl
attribute [push_cast] b1_bit b1_1
theorem top_step (n m : Nat) : n / 2 ^ m = 2 * (n / 2 ^ (m + 1)) + bitN n m := by
  rw [bitN_eq, Nat.pow_succ, ← Nat.div_div_eq_div_mul]
  omega
theorem dv_lt {n m d : Nat} (hd : 0 < d) (h : 2 * (n / 2 ^ (m + 1) % d) + bitN n m < d) : n / 2 ^ m / d = 2 * (n / 2 ^ (m + 1) / d) ∧ n / 2 ^ m % d = 2 * (n / 2 ^ (m + 1) % d) + bitN n m := by
  rw [Nat.div_mod_unique hd]
  refine ⟨?_, h⟩
  rw [top_step n m]
  have := Nat.div_add_mod (n / 2 ^ (m + 1)) d
  generalize n / 2 ^ (m + 1) = t at *
  rw [Nat.mul_left_comm]
  generalize d * (t / d) = y at *
  omega
theorem dv_ge {n m d : Nat} (hd : 0 < d) (h : d ≤ 2 * (n / 2 ^ (m + 1) % d) + bitN n m) : n / 2 ^ m / d = 2 * (n / 2 ^ (m + 1) / d) + 1 ∧ n / 2 ^ m % d = 2 * (n / 2 ^ (m + 1) % d) + bitN n m - d := by
  rw [Nat.div_mod_unique hd]
  have h1 := Nat.mod_lt (n / 2 ^ (m + 1)) hd
  have h2 := bitN_le n m
  refine ⟨?_, by omega⟩
  rw [top_step n m]
  have := Nat.div_add_mod (n / 2 ^ (m + 1)) d
  generalize n / 2 ^ (m + 1) = t at *
  rw [Nat.mul_add, Nat.mul_left_comm]
  generalize d * (t / d) = y at *
  omega
theorem W.num_small {n : Nat} (h : n < 115792089237316195423570985008687907853269984665640564039457584007913129639936) : (W.of n).num = n := by rw [W.num_of, Nat.mod_eq_of_lt h]
theorem W.dbl_of (n b : Nat) : W.of (2 * (W.of n).num + b) = W.of (2 * n + b) := W.of_eq (by rw [W.num_of]; omega)
theorem W.sub_dbl {t d : Nat} (hd : d < 115792089237316195423570985008687907853269984665640564039457584007913129639936) (h1 : d ≤ t) (h2 : t < 2 * 115792089237316195423570985008687907853269984665640564039457584007913129639936) : W.of ((W.of t).num + 115792089237316195423570985008687907853269984665640564039457584007913129639936 - d) = W.of (t - d) := W.of_eq (by rw [W.num_of]; omega)
theorem W.top (r : W) : 9223372036854775808 ≤ r.d ↔ 57896044618658097711785492504343953926634992332820282019728792003956564819968 ≤ r.num := by
  have := r.ha; have := r.hb; have := r.hc; have := r.hd
  unfold W.num
  omega
theorem and_top {d : Nat} (hd : d < 18446744073709551616) : (bitsI .and .u64 (d : Int) 9223372036854775808 != 0) = decide (9223372036854775808 ≤ d) := by
  have h := bits_and_u64_nat d 9223372036854775808 hd (by decide)
  have e : d &&& 9223372036854775808 = if 9223372036854775808 ≤ d then 9223372036854775808 else 0 := by
    have e0 : (9223372036854775808 : Nat) = 2 ^ 63 := rfl
    refine Nat.eq_of_testBit_eq fun i => ?_
    rw [Nat.testBit_and]
    conv => lhs; rhs; rw [e0, Nat.testBit_two_pow]
    by_cases hi : 63 = i
    · subst hi
      rw [decide_eq_true rfl, Bool.and_true, Nat.testBit_eq_decide_div_mod_eq, ← e0]
      split
      · rw [e0, Nat.testBit_two_pow, decide_eq_true rfl, decide_eq_true_eq]; omega
      · rw [Nat.zero_testBit, decide_eq_false_iff_not]; omega
    · rw [decide_eq_false hi, Bool.and_false]
      split
      · rw [e0, Nat.testBit_two_pow, decide_eq_false hi]
      · rw [Nat.zero_testBit]
  rw [e] at h
  rw [show bitsI .and .u64 (d : Int) 9223372036854775808 = _ from h]
  split
  · rename_i h1; rw [decide_eq_true h1]; rfl
  · rename_i h1; rw [decide_eq_false h1]; rfl
theorem W.lq0 (x : W) : x.cells[0]? = some (.int .u64 x.a) := rfl
theorem W.lq1 (x : W) : x.cells[1]? = some (.int .u64 x.b) := rfl
theorem W.lq2 (x : W) : x.cells[2]? = some (.int .u64 x.c) := rfl
theorem W.lq3 (x : W) : x.cells[3]? = some (.int .u64 x.d) := rfl
theorem W.dr1 (x : W) : List.drop 1 x.cells = [.int .u64 x.b, .int .u64 x.c, .int .u64 x.d] := rfl
attribute [push_cast] W.lq0 W.lq1 W.lq2 W.lq3 W.dr1
noncomputable def dblG : List Value → Option Value
  | [x, .int .u64 b] => (wOf x).bind fun a => if b1 b then some (W.of (2 * a.num + b.toNat)).v else none
  | _ => none
attribute [push_cast] dblG
noncomputable def subW : W → W → W := hid fun a b => W.of (a.num + 115792089237316195423570985008687907853269984665640564039457584007913129639936 - b.num)
theorem subW_eq (a b : W) : subW a b = W.of (a.num + 115792089237316195423570985008687907853269984665640564039457584007913129639936 - b.num) := by unfold subW; rw [hid_eq]
noncomputable def subG : List Value → Option Value
  | [x, y] => (wOf x).bind fun a => (wOf y).bind fun b => some (subW a b).v
  | _ => none
noncomputable def mulG : List Value → Option Value
  | [x, y] => (wOf x).bind fun a => (wOf y).bind fun b => some (W.of (a.num * b.num)).v
  | _ => none
attribute [push_cast] subG mulG
theorem two_some {args : List Value} {v : Value} {g : W → W → Value} {f : List Value → Option Value} (hf : f = fun l => match l with | [x, y] => (wOf x).bind fun a => (wOf y).bind fun b => some (g a b) | _ => none) (h : f args = some v) : ∃ x y : W, args = [x.v, y.v] ∧ v = g x y := by
  subst hf
  dsimp only at h
  split at h
  · rename_i x y
    cases hx : wOf x with
    | none => simp [hx] at h
    | some a =>
      cases hy : wOf y with
      | none => simp [hx, hy] at h
      | some b => simp [hx, hy] at h; exact ⟨a, b, by rw [wOf_some hx, wOf_some hy], h.symm⟩
  · cases h
end Go.Ev
namespace Go.Proofs.Ytbpnjkedflkabaa
open Go Go.Ev Go.Proofs
set_option maxRecDepth 100000
set_option maxHeartbeats 4000000
theorem doubled (x : W) {b : Nat} (hb : b ≤ 1) : CallsV Try.prog 49 [x.v, .int .u64 b] [] (Ret0 (W.of (2 * x.num + b)).v) := by
  obtain ⟨R, hR⟩ : ∃ R, R = W.of (2 * x.num + b) := ⟨_, rfl⟩
  rw [← hR]
  have ha := x.ha; have hB := x.hb; have hc := x.hc; have hd := x.hd
  refine callsO gW_ok Try.mix Try.pl49 Try.func49 rfl Try.ntmps49 Try.results49 rfl (by first | rfl | assumption) (Nat.le_of_ble_eq_true rfl) (by kernel_rfl) ?_
  simp only [push_cast, Nat.reduceAdd, Nat.reduceSub, Nat.reduceMul, Nat.reduceLT, Nat.reduceLeDiff, Nat.reduceEqDiff, Nat.reduceMod, Nat.reduceDiv, Int.reduceAdd, Int.reduceSub, Int.reduceMul, Int.reduceLT, Int.reduceLE, Int.reduceEq, Int.reduceNeg, Int.reduceToNat, reduceIte, reduceCtorEq]
  intro b2 b4 hb4
  try simp only [push_cast, Nat.reduceAdd, Nat.reduceSub, Nat.reduceMul, Nat.reduceLT, Nat.reduceLeDiff, Nat.reduceEqDiff, Nat.reduceMod, Nat.reduceDiv, Int.reduceAdd, Int.reduceSub, Int.reduceMul, Int.reduceLT, Int.reduceLE, Int.reduceEq, Int.reduceNeg, Int.reduceToNat, reduceIte, reduceCtorEq, hb4]
  refine unrollO gW_ok (pl := Try.pl49) Try.mix 5 (by kernel_rfl) ?_
  simp only [push_cast, Nat.reduceAdd, Nat.reduceSub, Nat.reduceMul, Nat.reduceLT, Nat.reduceLeDiff, Nat.reduceEqDiff, Nat.reduceMod, Nat.reduceDiv, Int.reduceAdd, Int.reduceSub, Int.reduceMul, Int.reduceLT, Int.reduceLE, Int.reduceEq, Int.reduceNeg, Int.reduceToNat, reduceIte, reduceCtorEq, hb4, db_lo, db_hi, dbHi_le, hb, ha, hB, hc, hd]
  rw [hR, ← dbl_num x hb]
  rfl
noncomputable def gX : Gam := addG 49 dblG (addG 51 subG (addG 45 mulG gW))
attribute [push_cast] gX
theorem gX_ok : GamOk Try.prog gX := by
  refine addG_ok (fun args v h => ?_) (addG_ok (fun args v h => ?_) (addG_ok (fun args v h => ?_) gW_ok))
  · unfold dblG at h
    split at h
    · rename_i x b
      cases hx : wOf x with
      | none => simp [hx] at h
      | some a =>
        simp only [hx, Option.bind_some] at h
        split at h
        · rename_i hb
          cases h
          simp only [b1_eq, decide_eq_true_eq] at hb
          obtain ⟨b, rfl⟩ := Int.eq_ofNat_of_zero_le hb.1
          rw [wOf_some hx]
          exact doubled a (by omega)
        · cases h
    · cases h
  · obtain ⟨x, y, rfl, rfl⟩ := two_some (g := fun a b => (subW a b).v) (by funext l; rfl) h
    rw [subW_eq]
    exact wordSub x y
  · obtain ⟨x, y, rfl, rfl⟩ := two_some (g := fun a b => (W.of (a.num * b.num)).v) (by funext l; rfl) h
    exact wordMul x y
end Go.Proofs.Ytbpnjkedflkabaa
