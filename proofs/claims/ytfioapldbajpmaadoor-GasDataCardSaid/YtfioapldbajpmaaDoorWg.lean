/- Wg: the document's words: carried. -/
import Derived.Test.YtfioapldbajpmaaDoorWf
set_option linter.unusedSimpArgs false
set_option linter.unusedVariables false
namespace Go.Ev
/-- the number of digits to the base 256, the lowest one first -/
def sumI (L : List Int) : Nat → Int
  | 0 => 0
  | i + 1 => sumI L i + L.getD i 0 * 256 ^ i
theorem sum_step (L : List Int) (i : Nat) : sumI L (i + 1) / 256 ^ i = L.getD i 0 + sumI L i / 256 ^ i := by
  show (sumI L i + L.getD i 0 * 256 ^ i) / 256 ^ i = _
  rw [Int.add_mul_ediv_right _ _ (Int.pow_ne_zero (by decide)), Int.add_comm]
theorem sum_next (L : List Int) (i : Nat) : sumI L (i + 1) / 256 ^ (i + 1) = (L.getD i 0 + sumI L i / 256 ^ i) / 256 := by
  rw [Int.pow_succ, ← Int.ediv_ediv_of_nonneg (Int.le_of_lt (Int.pow_pos (by decide))), sum_step]
theorem sum_from (L : List Int) (i : Nat) : ∀ k, ∃ t, sumI L (i + k) = sumI L i + 256 ^ i * t
  | 0 => ⟨0, by simp⟩
  | k + 1 => by
    obtain ⟨t, ht⟩ := sum_from L i k
    refine ⟨t + L.getD (i + k) 0 * 256 ^ k, ?_⟩
    show sumI L (i + k) + L.getD (i + k) 0 * 256 ^ (i + k) = _
    rw [ht, Int.pow_add, Int.mul_add, Int.add_assoc, Int.mul_left_comm]
theorem sum_digit (L : List Int) {i k : Nat} (h : i < k) : sumI L k / 256 ^ i % 256 = (L.getD i 0 + sumI L i / 256 ^ i) % 256 := by
  obtain ⟨t, ht⟩ := sum_from L (i + 1) (k - (i + 1))
  rw [show i + 1 + (k - (i + 1)) = k by omega] at ht
  rw [ht, Int.pow_succ, Int.mul_assoc, Int.add_mul_ediv_left _ _ (Int.pow_ne_zero (by decide)), sum_step, Int.add_mul_emod_self_left]
/-- numbers of 32 digits go round at 2^256 -/
noncomputable def word : Int → Nat := hid fun n => (n % 115792089237316195423570985008687907853269984665640564039457584007913129639936).toNat
theorem word_eq (n : Int) : word n = (n % 115792089237316195423570985008687907853269984665640564039457584007913129639936).toNat := by unfold word; rw [hid_eq]
theorem word_digit (n : Int) {i : Nat} (h : i < 32) : ((digN (word n) i : Nat) : Int) = n / 256 ^ i % 256 := by
  have hw : ((word n : Nat) : Int) = n % 115792089237316195423570985008687907853269984665640564039457584007913129639936 := by
    rw [word_eq]; exact Int.toNat_of_nonneg (Int.emod_nonneg _ (by decide))
  rw [digN_eq]
  rw [Int.natCast_emod, Int.natCast_ediv, Int.natCast_pow, hw]
  show (n % 115792089237316195423570985008687907853269984665640564039457584007913129639936) / 256 ^ i % 256 = n / 256 ^ i % 256
  have e : (115792089237316195423570985008687907853269984665640564039457584007913129639936 : Int) = 256 ^ i * (256 * 256 ^ (31 - i)) := by
    rw [← Int.pow_succ', ← Int.pow_add, show i + (31 - i + 1) = 32 by omega]; decide
  have h2 := Int.mul_ediv_add_emod n 115792089237316195423570985008687907853269984665640564039457584007913129639936
  generalize n % 115792089237316195423570985008687907853269984665640564039457584007913129639936 = m at *
  generalize n / 115792089237316195423570985008687907853269984665640564039457584007913129639936 = q at *
  rw [e] at h2
  rw [← h2, Int.mul_assoc, Int.add_comm, Int.add_mul_ediv_left _ _ (Int.pow_ne_zero (by decide)), Int.mul_assoc, Int.add_mul_emod_self_left]
theorem zs_at (L : List Int) {i : Nat} (h : i < L.length) : List.take 1 (List.drop i (zs L)) = [.int .i64 (L.getD i 0)] := by
  unfold zs
  rw [← List.map_drop, ← List.map_take, List.drop_eq_getElem_cons h, List.take_succ_cons, List.take_zero, List.map_cons, List.map_nil, List.getD_eq_getElem?_getD, List.getElem?_eq_getElem h]; rfl
theorem tmod_neg {y : Int} (h : y.tmod 256 < 0) : y.tmod 256 + 256 = y % 256 := by
  have h1 := Int.tmod_eq_emod (a := y) (b := 256)
  rw [show Int.natAbs 256 = 256 from rfl] at h1
  split at h1 <;> omega
theorem tmod_nonneg {y : Int} (h : ¬ y.tmod 256 < 0) : y.tmod 256 = y % 256 := by
  have h1 := Int.tmod_eq_emod (a := y) (b := 256)
  rw [show Int.natAbs 256 = 256 from rfl] at h1
  split at h1 <;> omega
theorem tdiv_exact (y : Int) : (y - y % 256).tdiv 256 = y / 256 := by
  have : y - y % 256 = 256 * (y / 256) := by omega
  rw [this, Int.mul_tdiv_cancel_left _ (by decide)]
end Go.Ev
namespace Go.Proofs.YtfioapldbajpmaaDoor
open Go Go.Ev Go.Proofs
set_option maxRecDepth 100000
set_option maxHeartbeats 4000000
end Go.Proofs.YtfioapldbajpmaaDoor
