/- Dh: what the laws of this seat share: numbers of Go's as words; pick; the table of all functions. -/
import Derived.Test.YtbpnjkedflkabaaDg
set_option linter.unusedSimpArgs false
set_option linter.unusedVariables false
namespace Go.Ev
noncomputable def ofW : Int → W := hid W.ofInt
theorem ofW_eq (n : Int) : ofW n = W.ofInt n := by unfold ofW; rw [hid_eq]
theorem of_num {n : Int} (h0 : 0 ≤ n) (h : n < 18446744073709551616) : (ofW n).num = n.toNat := by
  rw [ofW_eq, W.ofInt, if_pos h0]
  unfold W.num
  dsimp only
  omega
theorem of_neg {n : Int} (h0 : n < 0) (h : -18446744073709551616 ≤ n) : (ofW n).num = (n + 115792089237316195423570985008687907853269984665640564039457584007913129639936).toNat := by
  rw [ofW_eq, W.ofInt, if_neg (by omega)]
  unfold W.num
  dsimp only
  omega
theorem of_of {n : Nat} (h : n < 18446744073709551616) : W.of n = ofW (n : Int) := W.num_inj (by rw [W.num_small (by omega), of_num (by omega) (by omega)]; omega)
theorem of_top {n : Int} (h0 : 0 ≤ n) : topB (ofW n).d = false := by rw [ofW_eq, W.ofInt, if_pos h0, topB_eq]; rfl
theorem of_top' {n : Int} (h0 : n < 0) : topB (ofW n).d = true := by rw [ofW_eq, W.ofInt, if_neg (by omega), topB_eq]; rfl
theorem neg_of {n : Int} (h : -9223372036854775808 ≤ n ∧ n ≤ 9223372036854775808) : negW (ofW n) = ofW (-n) := by
  unfold negW
  rw [subW_eq]
  refine W.num_inj ?_
  rw [W.num_of, show W.zero.num = 0 from rfl]
  rcases Int.lt_trichotomy n 0 with h0 | h0 | h0
  · rw [of_neg h0 (by omega), of_num (by omega) (by omega)]; omega
  · subst h0; rw [of_num (by decide) (by decide), of_num (by decide) (by decide)]; decide
  · rw [of_num (by omega) (by omega), of_neg (by omega) (by omega)]; omega
theorem signed_of {n : Int} (h : -9223372036854775808 ≤ n ∧ n ≤ 9223372036854775807) : signedW (ofW n) = (ofW (n.natAbs : Int), decide (n < 0)) := by
  unfold signedW
  rcases Int.lt_or_le n 0 with h0 | h0
  · rw [of_top' h0, if_pos rfl, neg_of (by omega), decide_eq_true h0, show (n.natAbs : Int) = -n by omega]
  · rw [of_top h0, if_neg (by decide), decide_eq_false (by omega), show (n.natAbs : Int) = n by omega]
theorem of_div {x y : Nat} (hx : x < 18446744073709551616) (hy : y < 18446744073709551616) : divW (ofW (x : Int)) (ofW (y : Int)) = ofW ((x / y : Nat) : Int) := by
  unfold divW
  rw [of_num (by omega) (by omega), of_num (by omega) (by omega), Int.toNat_natCast, Int.toNat_natCast]
  exact of_of (Nat.lt_of_le_of_lt (Nat.div_le_self _ _) hx)
theorem of_ne {y : Int} (hy : 0 < y) (h : y < 18446744073709551616) : ¬ ofW y = W.zero := fun e => by
  have := congrArg W.num e
  rw [of_num (by omega) h] at this
  have h0 : W.zero.num = 0 := rfl
  omega
theorem of_mod {x y : Nat} (hx : x < 18446744073709551616) (hy : y < 18446744073709551616) (h0 : 0 < y) : modW (ofW (x : Int)) (ofW (y : Int)) = ofW ((x % y : Nat) : Int) := by
  unfold modW
  rw [if_neg (of_ne (by omega) (by omega)), of_num (by omega) (by omega), of_num (by omega) (by omega), Int.toNat_natCast, Int.toNat_natCast]
  exact of_of (Nat.lt_trans (Nat.mod_lt _ h0) hy)
theorem sdiv_of {a b : Int} (ha : -9223372036854775808 ≤ a ∧ a ≤ 9223372036854775807) (hb : -9223372036854775808 ≤ b ∧ b ≤ 9223372036854775807) : sdivW (ofW a) (ofW b) = ofW (a.tdiv b) := by
  unfold sdivW
  rw [signed_of ha, signed_of hb]
  dsimp only
  rw [of_div (by omega) (by omega)]
  have hq : a.natAbs / b.natAbs ≤ 9223372036854775808 := Nat.le_trans (Nat.div_le_self _ _) (by omega)
  have key : a.tdiv b = if (decide (a < 0) == decide (b < 0)) = true then ((a.natAbs / b.natAbs : Nat) : Int) else -((a.natAbs / b.natAbs : Nat) : Int) := by
    rcases Int.lt_or_le a 0 with h1 | h1 <;> rcases Int.lt_or_le b 0 with h2 | h2
    · rw [decide_eq_true h1, decide_eq_true h2, if_pos (by rfl)]
      obtain ⟨x, rfl⟩ : ∃ x : Nat, a = -(x : Int) := ⟨a.natAbs, by omega⟩
      obtain ⟨y, rfl⟩ : ∃ y : Nat, b = -(y : Int) := ⟨b.natAbs, by omega⟩
      rw [Int.neg_tdiv, Int.tdiv_neg, Int.neg_neg, Int.natAbs_neg, Int.natAbs_neg, Int.natAbs_natCast, Int.natAbs_natCast]
      rfl
    · rw [decide_eq_true h1, decide_eq_false (by omega), if_neg (by decide)]
      obtain ⟨x, rfl⟩ : ∃ x : Nat, a = -(x : Int) := ⟨a.natAbs, by omega⟩
      obtain ⟨y, rfl⟩ : ∃ y : Nat, b = (y : Int) := ⟨b.natAbs, by omega⟩
      rw [Int.neg_tdiv, Int.natAbs_neg, Int.natAbs_natCast, Int.natAbs_natCast]
      rfl
    · rw [decide_eq_false (by omega), decide_eq_true h2, if_neg (by decide)]
      obtain ⟨x, rfl⟩ : ∃ x : Nat, a = (x : Int) := ⟨a.natAbs, by omega⟩
      obtain ⟨y, rfl⟩ : ∃ y : Nat, b = -(y : Int) := ⟨b.natAbs, by omega⟩
      rw [Int.tdiv_neg, Int.natAbs_neg, Int.natAbs_natCast, Int.natAbs_natCast]
      rfl
    · rw [decide_eq_false (by omega : ¬ a < 0), decide_eq_false (by omega : ¬ b < 0), if_pos (by rfl)]
      obtain ⟨x, rfl⟩ : ∃ x : Nat, a = (x : Int) := ⟨a.natAbs, by omega⟩
      obtain ⟨y, rfl⟩ : ∃ y : Nat, b = (y : Int) := ⟨b.natAbs, by omega⟩
      rw [Int.natAbs_natCast, Int.natAbs_natCast]
      rfl
  rw [key]
  unfold withW
  clear key
  generalize a.natAbs / b.natAbs = q at *
  have hneg := neg_of (n := (q : Int)) (by omega)
  generalize (decide (a < 0) == decide (b < 0)) = e at *
  cases e with
  | true => rfl
  | false =>
    rw [Bool.not_false, if_pos rfl, if_neg (by decide)]
    exact hneg
theorem smod_of {a b : Int} (ha : -9223372036854775808 ≤ a ∧ a ≤ 9223372036854775807) (hb : -9223372036854775808 ≤ b ∧ b ≤ 9223372036854775807) (h0 : b ≠ 0) : smodW (ofW a) (ofW b) = ofW (a.tmod b) := by
  unfold smodW
  rw [signed_of ha, signed_of hb]
  dsimp only
  rw [of_mod (by omega) (by omega) (by omega)]
  have hq : a.natAbs % b.natAbs < 9223372036854775808 := Nat.lt_of_lt_of_le (Nat.mod_lt _ (by omega)) (by omega)
  have hb' : ∀ x : Int, x.tmod b = x.tmod (b.natAbs : Int) := fun x => by
    rcases Int.lt_or_le b 0 with h2 | h2
    · rw [show (b.natAbs : Int) = -b by omega, Int.tmod_neg]
    · rw [show (b.natAbs : Int) = b by omega]
  rw [hb']
  unfold withW
  have hneg := neg_of (n := ((a.natAbs % b.natAbs : Nat) : Int)) (by generalize a.natAbs % b.natAbs = q at *; omega)
  rcases Int.lt_or_le a 0 with h1 | h1
  · rw [decide_eq_true h1, if_pos rfl, hneg]
    congr 1
    obtain ⟨x, rfl⟩ : ∃ x : Nat, a = -(x : Int) := ⟨a.natAbs, by omega⟩
    rw [Int.neg_tmod, Int.natAbs_neg, Int.natAbs_natCast]
    rfl
  · rw [decide_eq_false (by omega), if_neg (by decide)]
    congr 1
    obtain ⟨x, rfl⟩ : ∃ x : Nat, a = (x : Int) := ⟨a.natAbs, by omega⟩
    rw [Int.natAbs_natCast]
    rfl
theorem addmod_of {x y n : Nat} (hx : x < 9223372036854775808) (hy : y < 9223372036854775808) (hn : n < 18446744073709551616) (h0 : 0 < n) : addmodW (ofW (x : Int)) (ofW (y : Int)) (ofW (n : Int)) = ofW (((x + y) % n : Nat) : Int) := by
  unfold addmodW
  rw [if_neg (of_ne (by omega) (by omega)), of_num (by omega) (by omega), of_num (by omega) (by omega), of_num (by omega) (by omega), Int.toNat_natCast, Int.toNat_natCast, Int.toNat_natCast]
  exact of_of (Nat.lt_trans (Nat.mod_lt _ h0) hn)
theorem mulmod_of {x y n : Nat} (hx : x < 18446744073709551616) (hy : y < 18446744073709551616) (hn : n < 18446744073709551616) (h0 : 0 < n) : mulmodW (ofW (x : Int)) (ofW (y : Int)) (ofW (n : Int)) = ofW ((x * y % n : Nat) : Int) := by
  unfold mulmodW
  rw [if_neg (of_ne (by omega) (by omega)), of_num (by omega) (by omega), of_num (by omega) (by omega), of_num (by omega) (by omega), Int.toNat_natCast, Int.toNat_natCast, Int.toNat_natCast]
  exact of_of (Nat.lt_trans (Nat.mod_lt _ h0) hn)
theorem exp_of {x y : Nat} (hx : x < 18446744073709551616) (hy : y < 18446744073709551616) (h : x ^ y < 18446744073709551616) : expW (ofW (x : Int)) (ofW (y : Int)) = ofW ((x ^ y : Nat) : Int) := by
  unfold expW
  rw [of_num (by omega) (by omega), of_num (by omega) (by omega), Int.toNat_natCast, Int.toNat_natCast]
  exact of_of h
noncomputable def pickN : Int → Int → Nat := hid fun c n => ((if c < 0 then -(c + 1) else c) % n).toNat
theorem pickN_eq (c n : Int) : pickN c n = ((if c < 0 then -(c + 1) else c) % n).toNat := by unfold pickN; rw [hid_eq]
noncomputable def posB : Int → Bool := hid fun n => decide (0 < n)
theorem posB_eq (n : Int) : posB n = decide (0 < n) := by unfold posB; rw [hid_eq]
theorem posB_in {n : Int} (h : 0 < n) : posB n = true := by rw [posB_eq, decide_eq_true h]
theorem pickN_lt (c : Int) {n : Int} (h : 0 < n) : (pickN c n : Int) < n := by
  rw [pickN_eq]
  have := Int.emod_nonneg (if c < 0 then -(c + 1) else c) (by omega : n ≠ 0)
  have := Int.emod_lt_of_pos (if c < 0 then -(c + 1) else c) h
  omega
def i64In (c : Int) : Prop := -9223372036854775808 ≤ c ∧ c ≤ 9223372036854775807
instance (c : Int) : Decidable (i64In c) := inferInstanceAs (Decidable (_ ∧ _))
noncomputable def i64B : Int → Bool := hid fun c => decide (i64In c)
theorem i64B_eq (c : Int) : i64B c = decide (i64In c) := by unfold i64B; rw [hid_eq]
theorem i64B_in {c : Int} (h : i64In c) : i64B c = true := by rw [i64B_eq, decide_eq_true h]
noncomputable def pickG : List Value → Option Value
  | [.int .i64 c, .int .i64 n] => if i64B c && posB n && i64B n then some (.int .i64 (pickN c n)) else none
  | _ => none
noncomputable def ofG : List Value → Option Value
  | [.int .i64 n] => if i64B n then some (ofW n).v else none
  | _ => none
noncomputable def addmodG : List Value → Option Value
  | [x, y, n] => (wOf x).bind fun a => (wOf y).bind fun b => (wOf n).bind fun c => some (addmodW a b c).v
  | _ => none
noncomputable def mulmodG : List Value → Option Value
  | [x, y, n] => (wOf x).bind fun a => (wOf y).bind fun b => (wOf n).bind fun c => some (mulmodW a b c).v
  | _ => none
noncomputable def expG : List Value → Option Value
  | [x, y] => (wOf x).bind fun a => (wOf y).bind fun b => some (expW a b).v
  | _ => none
attribute [push_cast] pickG ofG addmodG mulmodG expG
theorem three_some {args : List Value} {v : Value} {g : W → W → W → Value} {f : List Value → Option Value} (hf : f = fun l => match l with | [x, y, n] => (wOf x).bind fun a => (wOf y).bind fun b => (wOf n).bind fun c => some (g a b c) | _ => none) (h : f args = some v) : ∃ x y n : W, args = [x.v, y.v, n.v] ∧ v = g x y n := by
  subst hf
  dsimp only at h
  split at h
  · rename_i x y n
    cases hx : wOf x with
    | none => simp [hx] at h
    | some a =>
      cases hy : wOf y with
      | none => simp [hx, hy] at h
      | some b =>
        cases hn : wOf n with
        | none => simp [hx, hy, hn] at h
        | some c => simp [hx, hy, hn] at h; exact ⟨a, b, c, by rw [wOf_some hx, wOf_some hy, wOf_some hn], h.symm⟩
  · cases h
end Go.Ev
namespace Go.Proofs.Ytbpnjkedflkabaa
open Go Go.Ev Go.Proofs
set_option maxRecDepth 100000
set_option maxHeartbeats 4000000
theorem pick_ok (c n : Int) (hc : i64In c) (hn : 0 < n) (hn2 : i64In n) : CallsV Try.prog 28 [.int .i64 c, .int .i64 n] [] (Ret0 (.int .i64 (pickN c n))) := by
  have h2 := pickN_lt c hn
  have hn0 : ¬ n = 0 := by omega
  unfold i64In at hc hn2
  refine callsO (noG_ok _) Try.mix Try.pl28 Try.func28 rfl Try.ntmps28 Try.results28 rfl (by first | rfl | assumption) (Nat.le_of_ble_eq_true rfl) (by kernel_rfl) ?_
  rcases Int.lt_or_le c 0 with h | h
  · have e1 : pickN c n = (-(c + 1)).tmod n := by
      have := Int.emod_nonneg (-(c + 1)) hn0
      rw [pickN_eq, if_pos h, Int.tmod_eq_emod_of_nonneg (by omega)]; omega
    have e2 : (0 - (c + 1)) = -(c + 1) := by omega
    simp only [push_cast, Nat.reduceAdd, Nat.reduceSub, Nat.reduceMul, Nat.reduceLT, Nat.reduceLeDiff, Nat.reduceEqDiff, Nat.reduceMod, Nat.reduceDiv, Int.reduceAdd, Int.reduceSub, Int.reduceMul, Int.reduceLT, Int.reduceLE, Int.reduceEq, Int.reduceNeg, Int.reduceToNat, reduceIte, reduceCtorEq, h, wrap_i64' (show -9223372036854775808 ≤ c + 1 ∧ c + 1 ≤ 9223372036854775807 by omega), hn0, e2, wrap_i64' (show -9223372036854775808 ≤ -(c + 1) ∧ -(c + 1) ≤ 9223372036854775807 by omega), e1]
  · have h' : ¬ c < 0 := by omega
    have e1 : pickN c n = c.tmod n := by
      have := Int.emod_nonneg c hn0
      rw [pickN_eq, if_neg h', Int.tmod_eq_emod_of_nonneg (by omega)]; omega
    simp only [push_cast, Nat.reduceAdd, Nat.reduceSub, Nat.reduceMul, Nat.reduceLT, Nat.reduceLeDiff, Nat.reduceEqDiff, Nat.reduceMod, Nat.reduceDiv, Int.reduceAdd, Int.reduceSub, Int.reduceMul, Int.reduceLT, Int.reduceLE, Int.reduceEq, Int.reduceNeg, Int.reduceToNat, reduceIte, reduceCtorEq, h', hn0, e1]
noncomputable def gZ : Gam := addG 28 pickG (addG 27 ofG (addG 14 sdivG (addG 16 smodG (addG 18 addmodG (addG 20 mulmodG (addG 22 expG gY))))))
attribute [push_cast] gZ
theorem gZ_ok : GamOk Try.prog gZ := by
  refine addG_ok (fun args v h => ?_) (addG_ok (fun args v h => ?_) (addG_ok (fun args v h => ?_) (addG_ok (fun args v h => ?_) (addG_ok (fun args v h => ?_) (addG_ok (fun args v h => ?_) (addG_ok (fun args v h => ?_) gY_ok))))))
  · unfold pickG at h
    split at h
    · split at h
      · rename_i c n hh
        cases h
        simp only [Bool.and_eq_true, i64B_eq, posB_eq, decide_eq_true_eq] at hh
        exact pick_ok c n hh.1.1 hh.1.2 hh.2
      · cases h
    · cases h
  · unfold ofG at h
    split at h
    · split at h
      · rename_i n hh
        cases h
        rw [i64B_eq, decide_eq_true_eq] at hh
        rw [ofW_eq]
        exact refOf n hh
      · cases h
    · cases h
  · obtain ⟨x, y, rfl, rfl⟩ := two_some (g := fun a b => (sdivW a b).v) (by funext l; rfl) h
    exact sdiv_ok x y
  · obtain ⟨x, y, rfl, rfl⟩ := two_some (g := fun a b => (smodW a b).v) (by funext l; rfl) h
    exact smod_ok x y
  · obtain ⟨x, y, n, rfl, rfl⟩ := three_some (g := fun a b c => (addmodW a b c).v) (by funext l; rfl) h
    exact addmod_ok x y n
  · obtain ⟨x, y, n, rfl, rfl⟩ := three_some (g := fun a b c => (mulmodW a b c).v) (by funext l; rfl) h
    exact mulmod_ok x y n
  · obtain ⟨x, y, rfl, rfl⟩ := two_some (g := fun a b => (expW a b).v) (by funext l; rfl) h
    exact exp_ok x y
end Go.Proofs.Ytbpnjkedflkabaa
