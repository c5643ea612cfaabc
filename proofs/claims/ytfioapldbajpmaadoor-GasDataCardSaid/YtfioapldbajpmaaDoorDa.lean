/- Da: bits of words; twice a word. -/
import Derived.Test.YtfioapldbajpmaaDoorWd
set_option linter.unusedSimpArgs false
set_option linter.unusedVariables false
namespace Go.Ev
noncomputable def bitN : Nat → Nat → Nat := hid fun n k => n / 2 ^ k % 2
theorem bitN_eq (n k : Nat) : bitN n k = n / 2 ^ k % 2 := by unfold bitN; rw [hid_eq]
theorem bitN_le (n k : Nat) : bitN n k ≤ 1 := by rw [bitN_eq]; omega
theorem bit_at (p : Nat) {k : Nat} (hp : p < 18446744073709551616) (hk : k < 64) : bitsI .and .u64 (shrI .u64 (p : Int) (k : Int)) 1 = ((bitN p k : Nat) : Int) := by
  have e1 : shrI .u64 (p : Int) (k : Int) = ((p / 2 ^ k : Nat) : Int) := by
    rw [shr_u64 _ _ (by omega)]
    norm_cast
  rw [e1, bitN_eq]
  have h2 : p / 2 ^ k < 18446744073709551616 := Nat.lt_of_le_of_lt (Nat.div_le_self _ _) hp
  have := bits_and_u64_nat (p / 2 ^ k) 1 h2 (by decide)
  rw [Nat.and_one_is_mod] at this
  exact this
theorem bit_up (p r : Nat) {k : Nat} (hk : k < 64) : (p + 18446744073709551616 * r) / 2 ^ k % 2 = p / 2 ^ k % 2 := by
  have e : 18446744073709551616 = 2 ^ k * (2 * 2 ^ (63 - k)) := by
    have : (18446744073709551616 : Nat) = 2 ^ (k + (1 + (63 - k))) := by rw [show k + (1 + (63 - k)) = 64 by omega]
    rw [this, Nat.pow_add, Nat.pow_add]
  rw [e, Nat.mul_assoc, Nat.add_mul_div_left _ _ (Nat.pow_pos (by decide)), Nat.mul_assoc, Nat.add_mul_mod_self_left]
theorem bit_div (n i k : Nat) : n / 2 ^ (i + k) % 2 = (n / 2 ^ i) / 2 ^ k % 2 := by rw [Nat.pow_add, Nat.div_div_eq_div_mul]
/-- a number of 256 bits -/
structure W1 where
  w : W
def W1.cells (x : W1) : List Value := x.w.cells
def W1.num (x : W1) : Nat := x.w.num
/-- a number of 512 bits -/
structure W8 where
  lo : W
  hi : W
def W8.cells (x : W8) : List Value := x.lo.cells ++ x.hi.cells
def W8.v (x : W8) : Value := .agg x.cells.toArray
def W8.num (x : W8) : Nat := x.lo.num + 115792089237316195423570985008687907853269984665640564039457584007913129639936 * x.hi.num
theorem bit_part {n p r j : Nat} (h : n / 2 ^ j = p + 18446744073709551616 * r) {k : Nat} (hk : k < 64) : Value.int .u64 ((bitN p k : Nat) : Int) = .int .u64 ((bitN n (j + k) : Nat) : Int) := by
  rw [bitN_eq, bitN_eq, bit_div, h, bit_up _ _ hk]
theorem W1_bit0 (x : W1) {k : Nat} (hk : k < 64) : Value.int .u64 ((bitN x.w.a k : Nat) : Int) = .int .u64 ((bitN x.num (0 + k) : Nat) : Int) := bit_part (r := x.w.b + 18446744073709551616 * (x.w.c + 18446744073709551616 * (x.w.d))) (by have := x.w.ha; have := x.w.hb; have := x.w.hc; have := x.w.hd; unfold W1.num W.num; omega) hk
theorem W1_bit1 (x : W1) {k : Nat} (hk : k < 64) : Value.int .u64 ((bitN x.w.b k : Nat) : Int) = .int .u64 ((bitN x.num (64 + k) : Nat) : Int) := bit_part (r := x.w.c + 18446744073709551616 * (x.w.d)) (by have := x.w.ha; have := x.w.hb; have := x.w.hc; have := x.w.hd; unfold W1.num W.num; omega) hk
theorem W1_bit2 (x : W1) {k : Nat} (hk : k < 64) : Value.int .u64 ((bitN x.w.c k : Nat) : Int) = .int .u64 ((bitN x.num (128 + k) : Nat) : Int) := bit_part (r := x.w.d) (by have := x.w.ha; have := x.w.hb; have := x.w.hc; have := x.w.hd; unfold W1.num W.num; omega) hk
theorem W1_bit3 (x : W1) {k : Nat} (hk : k < 64) : Value.int .u64 ((bitN x.w.d k : Nat) : Int) = .int .u64 ((bitN x.num (192 + k) : Nat) : Int) := bit_part (r := 0) (by have := x.w.ha; have := x.w.hb; have := x.w.hc; have := x.w.hd; unfold W1.num W.num; omega) hk
theorem W8_bit0 (x : W8) {k : Nat} (hk : k < 64) : Value.int .u64 ((bitN x.lo.a k : Nat) : Int) = .int .u64 ((bitN x.num (0 + k) : Nat) : Int) := bit_part (r := x.lo.b + 18446744073709551616 * (x.lo.c + 18446744073709551616 * (x.lo.d + 18446744073709551616 * (x.hi.a + 18446744073709551616 * (x.hi.b + 18446744073709551616 * (x.hi.c + 18446744073709551616 * (x.hi.d))))))) (by have := x.lo.ha; have := x.lo.hb; have := x.lo.hc; have := x.lo.hd; have := x.hi.ha; have := x.hi.hb; have := x.hi.hc; have := x.hi.hd; unfold W8.num W.num; omega) hk
theorem W8_bit1 (x : W8) {k : Nat} (hk : k < 64) : Value.int .u64 ((bitN x.lo.b k : Nat) : Int) = .int .u64 ((bitN x.num (64 + k) : Nat) : Int) := bit_part (r := x.lo.c + 18446744073709551616 * (x.lo.d + 18446744073709551616 * (x.hi.a + 18446744073709551616 * (x.hi.b + 18446744073709551616 * (x.hi.c + 18446744073709551616 * (x.hi.d)))))) (by have := x.lo.ha; have := x.lo.hb; have := x.lo.hc; have := x.lo.hd; have := x.hi.ha; have := x.hi.hb; have := x.hi.hc; have := x.hi.hd; unfold W8.num W.num; omega) hk
theorem W8_bit2 (x : W8) {k : Nat} (hk : k < 64) : Value.int .u64 ((bitN x.lo.c k : Nat) : Int) = .int .u64 ((bitN x.num (128 + k) : Nat) : Int) := bit_part (r := x.lo.d + 18446744073709551616 * (x.hi.a + 18446744073709551616 * (x.hi.b + 18446744073709551616 * (x.hi.c + 18446744073709551616 * (x.hi.d))))) (by have := x.lo.ha; have := x.lo.hb; have := x.lo.hc; have := x.lo.hd; have := x.hi.ha; have := x.hi.hb; have := x.hi.hc; have := x.hi.hd; unfold W8.num W.num; omega) hk
theorem W8_bit3 (x : W8) {k : Nat} (hk : k < 64) : Value.int .u64 ((bitN x.lo.d k : Nat) : Int) = .int .u64 ((bitN x.num (192 + k) : Nat) : Int) := bit_part (r := x.hi.a + 18446744073709551616 * (x.hi.b + 18446744073709551616 * (x.hi.c + 18446744073709551616 * (x.hi.d)))) (by have := x.lo.ha; have := x.lo.hb; have := x.lo.hc; have := x.lo.hd; have := x.hi.ha; have := x.hi.hb; have := x.hi.hc; have := x.hi.hd; unfold W8.num W.num; omega) hk
theorem W8_bit4 (x : W8) {k : Nat} (hk : k < 64) : Value.int .u64 ((bitN x.hi.a k : Nat) : Int) = .int .u64 ((bitN x.num (256 + k) : Nat) : Int) := bit_part (r := x.hi.b + 18446744073709551616 * (x.hi.c + 18446744073709551616 * (x.hi.d))) (by have := x.lo.ha; have := x.lo.hb; have := x.lo.hc; have := x.lo.hd; have := x.hi.ha; have := x.hi.hb; have := x.hi.hc; have := x.hi.hd; unfold W8.num W.num; omega) hk
theorem W8_bit5 (x : W8) {k : Nat} (hk : k < 64) : Value.int .u64 ((bitN x.hi.b k : Nat) : Int) = .int .u64 ((bitN x.num (320 + k) : Nat) : Int) := bit_part (r := x.hi.c + 18446744073709551616 * (x.hi.d)) (by have := x.lo.ha; have := x.lo.hb; have := x.lo.hc; have := x.lo.hd; have := x.hi.ha; have := x.hi.hb; have := x.hi.hc; have := x.hi.hd; unfold W8.num W.num; omega) hk
theorem W8_bit6 (x : W8) {k : Nat} (hk : k < 64) : Value.int .u64 ((bitN x.hi.c k : Nat) : Int) = .int .u64 ((bitN x.num (384 + k) : Nat) : Int) := bit_part (r := x.hi.d) (by have := x.lo.ha; have := x.lo.hb; have := x.lo.hc; have := x.lo.hd; have := x.hi.ha; have := x.hi.hb; have := x.hi.hc; have := x.hi.hd; unfold W8.num W.num; omega) hk
theorem W8_bit7 (x : W8) {k : Nat} (hk : k < 64) : Value.int .u64 ((bitN x.hi.d k : Nat) : Int) = .int .u64 ((bitN x.num (448 + k) : Nat) : Int) := bit_part (r := 0) (by have := x.lo.ha; have := x.lo.hb; have := x.lo.hc; have := x.lo.hd; have := x.hi.ha; have := x.hi.hb; have := x.hi.hc; have := x.hi.hd; unfold W8.num W.num; omega) hk
attribute [push_cast] W1.cells W8.cells
theorem subH_self : ∀ (H : Hp), subH H H
  | [] => trivial
  | e :: r => ⟨by simp [findE], by simpa [remE] using subH_self r⟩
theorem findE_left {b : Nat} {e : Ent} {B : Hp} : ∀ {A : Hp}, findE A b = some e → findE (A ++ B) b = some e
  | [], h => by simp [findE] at h
  | x :: r, h => by
    simp only [List.cons_append, findE] at h ⊢
    split
    · rename_i hb; rw [if_pos hb] at h; exact h
    · rename_i hb; rw [if_neg hb] at h; exact findE_left h
end Go.Ev
namespace Go.Proofs.YtfioapldbajpmaaDoor
open Go Go.Ev Go.Proofs
set_option maxRecDepth 100000
set_option maxHeartbeats 4000000
end Go.Proofs.YtfioapldbajpmaaDoor
