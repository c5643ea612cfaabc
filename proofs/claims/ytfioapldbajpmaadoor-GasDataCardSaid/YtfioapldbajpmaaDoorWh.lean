/- Wh: the document's words: FromDigits: written by wip/tools/fromdigits.py. -/
import Derived.Test.YtfioapldbajpmaaDoorWg
set_option linter.unusedSimpArgs false
set_option linter.unusedVariables false
namespace Go.Ev
/-- what a part is, when s digits are still to come -/
noncomputable def cut : Nat → Nat → Nat := hid fun x e => x / 256 ^ e
theorem cut_eq (x e : Nat) : cut x e = x / 256 ^ e := by unfold cut; rw [hid_eq]
theorem cut_zero (x : Nat) : cut x 0 = x := by rw [cut_eq, Nat.pow_zero, Nat.div_one]
theorem cut_lt {x : Nat} (h : x < 18446744073709551616) (e : Nat) : cut x e < 18446744073709551616 := by rw [cut_eq]; exact Nat.lt_of_le_of_lt (Nat.div_le_self _ _) h
theorem cut_8 {x : Nat} (h : x < 18446744073709551616) {e : Nat} (he : 8 ≤ e) : cut x e = 0 := by
  rw [cut_eq]
  refine Nat.div_eq_of_lt (Nat.lt_of_lt_of_le h ?_)
  exact Nat.le_trans (by decide : 18446744073709551616 ≤ 256 ^ 8) (Nat.pow_le_pow_right (by decide) he)
theorem cut_step (x e : Nat) : cut x (e + 1) * 256 + x / 256 ^ e % 256 = cut x e := by
  rw [cut_eq, cut_eq, Nat.pow_succ, ← Nat.div_div_eq_div_mul]; omega
theorem digs_at (m : Nat) {k i : Nat} (h : i < k) : List.take 1 (List.drop i (zs (digs m k))) = [.int .i64 ((digN m i : Nat) : Int)] := by
  rw [zs_at _ (by rw [digs_len]; exact h)]
  unfold digs
  rw [List.getD_eq_getElem?_getD, List.getElem?_map, List.getElem?_range h]; rfl
theorem digN_of (m : Nat) {i : Nat} (h : i < 32) : digN m i = digN (W.of m).num i := by
  have h1 := word_digit (m : Int) h
  have h2 : word (m : Int) = (W.of m).num := by
    rw [word_eq, W.num_of]
    omega
  rw [h2] at h1
  have : ((digN (W.of m).num i : Nat) : Int) = ((digN m i : Nat) : Int) := by
    rw [h1, digN_eq, Int.natCast_emod, Int.natCast_ediv, Int.natCast_pow]; rfl
  omega
theorem cut_top {m k : Nat} (h : 32 ≤ k ∨ m < 256 ^ k) {p : Nat} (hp : p < 4) : cut ((W.of m).part p) (min k 32 - 8 * p) = 0 := by
  rcases h with h | h
  · exact cut_8 (part_lt _ _) (by omega)
  · rcases Nat.lt_or_ge k 32 with hk | hk
    rotate_left
    · exact cut_8 (part_lt _ _) (by omega)
    rw [show min k 32 = k by omega]
    have hlt : m < 115792089237316195423570985008687907853269984665640564039457584007913129639936 := Nat.lt_of_lt_of_le h (Nat.le_trans (Nat.pow_le_pow_right (by decide) (by omega : k ≤ 32)) (by decide))
    have hn : (W.of m).num = m := by rw [W.num_of, Nat.mod_eq_of_lt hlt]
    rw [cut_eq]
    refine Nat.div_eq_of_lt ?_
    have hpart : (W.of m).part p * 256 ^ (8 * p) ≤ (W.of m).num := by
      obtain rfl | rfl | rfl | rfl : p = 0 ∨ p = 1 ∨ p = 2 ∨ p = 3 := by omega
      all_goals unfold W.num W.part; simp only [Nat.reducePow, Nat.reduceMul]; omega
    rw [hn] at hpart
    rcases Nat.lt_or_ge k (8 * p) with h1 | h1
    · rw [show k - 8 * p = 0 by omega, Nat.pow_zero]
      rcases Nat.eq_zero_or_pos ((W.of m).part p) with h0 | h0
      · omega
      · have := Nat.le_mul_of_pos_left (256 ^ (8 * p)) h0
        have := Nat.pow_le_pow_right (by decide : 0 < 256) (Nat.le_of_lt h1)
        omega
    · have e : 256 ^ k = 256 ^ (k - 8 * p) * 256 ^ (8 * p) := by rw [← Nat.pow_add]; congr 1; omega
      rw [e] at h
      exact Nat.lt_of_mul_lt_mul_right (Nat.lt_of_le_of_lt hpart h)
end Go.Ev
namespace Go.Proofs.YtfioapldbajpmaaDoor
open Go Go.Ev Go.Proofs
set_option maxRecDepth 100000
set_option maxHeartbeats 4000000
end Go.Proofs.YtfioapldbajpmaaDoor
