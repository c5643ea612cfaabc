/- Sk: the program's word.FromBytes. -/
import Derived.Test.YtfioapldbajpmaaDoorSj
set_option linter.unusedSimpArgs false
set_option linter.unusedVariables false
namespace Go.Ev
theorem beN_take (r : List UInt8) : ∀ {i : Nat} (h : i < r.length), beN (r.take (i + 1)) = beN (r.take i) + (r[i]).toNat * 256 ^ i := by
  induction r with
  | nil => intro i h; exact absurd h (Nat.not_lt_zero _)
  | cons x r ih =>
    intro i h
    cases i with
    | zero => simp [beN]
    | succ i =>
      simp only [List.take_succ_cons, beN, List.getElem_cons_succ]
      have e : ∀ a p : Nat, 256 * (a * p) = a * (p * 256) := fun a p => by rw [← Nat.mul_assoc, Nat.mul_comm 256 a, Nat.mul_assoc, Nat.mul_comm 256 p]
      rw [ih (by simpa using h), Nat.pow_succ, Nat.mul_add, e, Nat.add_assoc]
theorem beN_take_lt (r : List UInt8) {i : Nat} (h : i ≤ r.length) : beN (r.take i) < 256 ^ i := by
  have := beN_lt (r.take i)
  rw [List.length_take, Nat.min_eq_left h] at this
  exact this
theorem or_shl {x c r : Nat} (hr : r < 8) (hx : x < 256 ^ r) (hc : c < 256) : bitsI .or .u64 (x : Int) (shlI .u64 (c : Int) ((r : Int) * 8)) = ((x + c * 256 ^ r : Nat) : Int) ∧ x + c * 256 ^ r < 18446744073709551616 := by
  have e8 : (256 : Nat) ^ r = 2 ^ (8 * r) := by rw [Nat.pow_mul]
  have hle : (256 : Nat) ^ r ≤ 256 ^ 7 := Nat.pow_le_pow_right (by decide) (by omega)
  have hc2 : c * 256 ^ r ≤ 255 * 256 ^ r := Nat.mul_le_mul_right _ (by omega)
  have hlt : x + c * 256 ^ r < 256 * 256 ^ r := by omega
  have h64 : 256 * 256 ^ r ≤ 18446744073709551616 := by
    have := Nat.mul_le_mul_left 256 hle
    exact Nat.le_trans this (by decide)
  refine ⟨?_, by omega⟩
  have es : shlI .u64 (c : Int) ((r : Int) * 8) = ((c * 256 ^ r : Nat) : Int) := by
    unfold shlI
    rw [IntKind.wrap_u64, show ((r : Int) * 8).toNat = 8 * r by omega, show min (8 * r) IntKind.u64.bits = 8 * r by show min (8 * r) 64 = 8 * r; omega]
    rw [show (2 : Int) ^ (8 * r) = ((256 ^ r : Nat) : Int) by rw [e8, Int.natCast_pow]; rfl, ← Int.natCast_mul]
    omega
  rw [es]
  have h := bits_or_u64_nat x (c * 256 ^ r) (by omega) (by omega)
  have e : x ||| c * 256 ^ r = x + c * 256 ^ r := by
    rw [Nat.or_comm, Nat.mul_comm, e8, ← Nat.two_pow_add_eq_or_of_lt (by rw [← e8]; exact hx), Nat.add_comm]
  rw [e] at h
  exact h
/-- a word that is less than 2^(64 p + 8 r), and one more byte -/
theorem word_put {m c i p r : Nat} (hm : m < 256 ^ i) (hc : c < 256) (hr : r < 8) (hi : i = 8 * p + r) (hp : p < 4) :
    (W.of m).part p < 256 ^ r ∧ (W.of (m + c * 256 ^ i)).cells = List.set (W.of m).cells p (.int .u64 (((W.of m).part p + c * 256 ^ r : Nat) : Int)) := by
  have h7 : (256 : Nat) ^ r ≤ 72057594037927936 := Nat.le_trans (Nat.pow_le_pow_right (by decide) (by omega : r ≤ 7)) (by decide)
  have hP : c * 256 ^ r ≤ 255 * 256 ^ r := Nat.mul_le_mul_right _ (by omega)
  have ei : (256 : Nat) ^ i = 256 ^ (8 * p) * 256 ^ r := by rw [hi, Nat.pow_add]
  have ec : c * 256 ^ i = 256 ^ (8 * p) * (c * 256 ^ r) := by rw [ei, Nat.mul_left_comm]
  rw [ei] at hm
  rw [ec]
  generalize c * 256 ^ r = P at *
  generalize (256 : Nat) ^ r = T at *
  have hpw : 256 ^ (8 * p) * T ≤ 256 ^ (8 * 3) * 72057594037927936 := Nat.mul_le_mul (Nat.pow_le_pow_right (by decide) (by omega)) h7
  have hpw2 : 256 ^ (8 * 3) * 72057594037927936 = 452312848583266388373324160190187140051835877600158453279131187530910662656 := by decide
  have hn : (W.of m).num = m := by rw [W.num_of, Nat.mod_eq_of_lt (by omega)]
  generalize W.of m = w at *
  have ha := w.ha; have hb := w.hb; have hcc := w.hc; have hd := w.hd
  have hw : w.num = w.a + 18446744073709551616 * (w.b + 18446744073709551616 * (w.c + 18446744073709551616 * w.d)) := rfl
  obtain rfl | rfl | rfl | rfl : p = 0 ∨ p = 1 ∨ p = 2 ∨ p = 3 := by omega
  · rw [show (256 : Nat) ^ (8 * 0) = 1 by decide] at *
    have hx : w.a < T := by omega
    refine ⟨hx, ?_⟩
    rw [show W.of (m + 1 * P) = ⟨w.a + P, w.b, w.c, w.d, by omega, hb, hcc, hd⟩ from (W.eq_of (by rw [Nat.mod_eq_of_lt (by omega)]; show w.a + P + 18446744073709551616 * (w.b + 18446744073709551616 * (w.c + 18446744073709551616 * w.d)) = _; omega)).symm]
    rfl
  · rw [show (256 : Nat) ^ (8 * 1) = 18446744073709551616 by decide] at *
    have hx : w.b < T := by omega
    refine ⟨hx, ?_⟩
    rw [show W.of (m + 18446744073709551616 * P) = ⟨w.a, w.b + P, w.c, w.d, ha, by omega, hcc, hd⟩ from (W.eq_of (by rw [Nat.mod_eq_of_lt (by omega)]; show w.a + 18446744073709551616 * (w.b + P + 18446744073709551616 * (w.c + 18446744073709551616 * w.d)) = _; omega)).symm]
    rfl
  · rw [show (256 : Nat) ^ (8 * 2) = 340282366920938463463374607431768211456 by decide] at *
    have hx : w.c < T := by omega
    refine ⟨hx, ?_⟩
    rw [show W.of (m + 340282366920938463463374607431768211456 * P) = ⟨w.a, w.b, w.c + P, w.d, ha, hb, by omega, hd⟩ from (W.eq_of (by rw [Nat.mod_eq_of_lt (by omega)]; show w.a + 18446744073709551616 * (w.b + 18446744073709551616 * (w.c + P + 18446744073709551616 * w.d)) = _; omega)).symm]
    rfl
  · rw [show (256 : Nat) ^ (8 * 3) = 6277101735386680763835789423207666416102355444464034512896 by decide] at *
    have hx : w.d < T := by omega
    refine ⟨hx, ?_⟩
    rw [show W.of (m + 6277101735386680763835789423207666416102355444464034512896 * P) = ⟨w.a, w.b, w.c, w.d + P, ha, hb, hcc, by omega⟩ from (W.eq_of (by rw [Nat.mod_eq_of_lt (by omega)]; show w.a + 18446744073709551616 * (w.b + 18446744073709551616 * (w.c + 18446744073709551616 * (w.d + P))) = _; omega)).symm]
    rfl
end Go.Ev
namespace Go.Proofs.YtfioapldbajpmaaDoor
open Go Go.Ev Go.Proofs
set_option maxRecDepth 100000
set_option maxHeartbeats 4000000
end Go.Proofs.YtfioapldbajpmaaDoor
