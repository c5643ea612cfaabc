/- Wg: the document's words: carried. -/
import Derived.Test.YtndioekjgmbomaaDoorWf
set_option linter.unusedSimpArgs false
set_option linter.unusedVariables false
namespace Go.Ev
/-- the number of digits to the base 256, the lowest one first -/
def sumI (L : List Int) : Nat → Int
  | 0 => 0
  | i + 1 => sumI L i + L.getD i 0 * 256 ^ i
theorem sum_step (L : List Int) (i : Nat) : sumI L (i + 1) / 256 ^ i = L.getD i 0 + sumI L i / 256 ^ i := by
  show (sumI L i + L.getD i 0 * 256 ^ i) / 256 ^ i = _
  rw [Int.add_mul_ediv_right _ _ (Int.pow_ne_zero (by decide)), Int.add_comm]
theorem sum_next (L : List Int) (i : Nat) : sumI L (i + 1) / 256 ^ (i + 1) = (L.getD i 0 + sumI L i / 256 ^ i) / 256 := by
  rw [Int.pow_succ, ← Int.ediv_ediv_of_nonneg (Int.le_of_lt (Int.pow_pos (by decide))), sum_step]
theorem sum_from (L : List Int) (i : Nat) : ∀ k, ∃ t, sumI L (i + k) = sumI L i + 256 ^ i * t
  | 0 => ⟨0, by simp⟩
  | k + 1 => by
    obtain ⟨t, ht⟩ := sum_from L i k
    refine ⟨t + L.getD (i + k) 0 * 256 ^ k, ?_⟩
    show sumI L (i + k) + L.getD (i + k) 0 * 256 ^ (i + k) = _
    rw [ht, Int.pow_add, Int.mul_add, Int.add_assoc, Int.mul_left_comm]
theorem sum_digit (L : List Int) {i k : Nat} (h : i < k) : sumI L k / 256 ^ i % 256 = (L.getD i 0 + sumI L i / 256 ^ i) % 256 := by
  obtain ⟨t, ht⟩ := sum_from L (i + 1) (k - (i + 1))
  rw [show i + 1 + (k - (i + 1)) = k by omega] at ht
  rw [ht, Int.pow_succ, Int.mul_assoc, Int.add_mul_ediv_left _ _ (Int.pow_ne_zero (by decide)), sum_step, Int.add_mul_emod_self_left]
/-- numbers of 32 digits go round at 2^256 -/
noncomputable def word : Int → Nat := hid fun n => (n % 115792089237316195423570985008687907853269984665640564039457584007913129639936).toNat
theorem word_eq (n : Int) : word n = (n % 115792089237316195423570985008687907853269984665640564039457584007913129639936).toNat := by unfold word; rw [hid_eq]
theorem word_digit (n : Int) {i : Nat} (h : i < 32) : ((digN (word n) i : Nat) : Int) = n / 256 ^ i % 256 := by
  have hw : ((word n : Nat) : Int) = n % 115792089237316195423570985008687907853269984665640564039457584007913129639936 := by
    rw [word_eq]; exact Int.toNat_of_nonneg (Int.emod_nonneg _ (by decide))
  rw [digN_eq]
  rw [Int.natCast_emod, Int.natCast_ediv, Int.natCast_pow, hw]
  show (n % 115792089237316195423570985008687907853269984665640564039457584007913129639936) / 256 ^ i % 256 = n / 256 ^ i % 256
  have e : (115792089237316195423570985008687907853269984665640564039457584007913129639936 : Int) = 256 ^ i * (256 * 256 ^ (31 - i)) := by
    rw [← Int.pow_succ', ← Int.pow_add, show i + (31 - i + 1) = 32 by omega]; decide
  have h2 := Int.mul_ediv_add_emod n 115792089237316195423570985008687907853269984665640564039457584007913129639936
  generalize n % 115792089237316195423570985008687907853269984665640564039457584007913129639936 = m at *
  generalize n / 115792089237316195423570985008687907853269984665640564039457584007913129639936 = q at *
  rw [e] at h2
  rw [← h2, Int.mul_assoc, Int.add_comm, Int.add_mul_ediv_left _ _ (Int.pow_ne_zero (by decide)), Int.mul_assoc, Int.add_mul_emod_self_left]
theorem zs_at (L : List Int) {i : Nat} (h : i < L.length) : List.take 1 (List.drop i (zs L)) = [.int .i64 (L.getD i 0)] := by
  unfold zs
  rw [← List.map_drop, ← List.map_take, List.drop_eq_getElem_cons h, List.take_succ_cons, List.take_zero, List.map_cons, List.map_nil, List.getD_eq_getElem?_getD, List.getElem?_eq_getElem h]; rfl
theorem tmod_neg {y : Int} (h : y.tmod 256 < 0) : y.tmod 256 + 256 = y % 256 := by
  have h1 := Int.tmod_eq_emod (a := y) (b := 256)
  rw [show Int.natAbs 256 = 256 from rfl] at h1
  split at h1 <;> omega
theorem tmod_nonneg {y : Int} (h : ¬ y.tmod 256 < 0) : y.tmod 256 = y % 256 := by
  have h1 := Int.tmod_eq_emod (a := y) (b := 256)
  rw [show Int.natAbs 256 = 256 from rfl] at h1
  split at h1 <;> omega
theorem tdiv_exact (y : Int) : (y - y % 256).tdiv 256 = y / 256 := by
  have : y - y % 256 = 256 * (y / 256) := by omega
  rw [this, Int.mul_tdiv_cancel_left _ (by decide)]
end Go.Ev
namespace Go.Proofs.YtndioekjgmbomaaDoor
open Go Go.Ev Go.Proofs
set_option maxRecDepth 100000
set_option maxHeartbeats 4000000
theorem carried_ok (L : List Int) (b n c : Nat) (hl : L.length = n) (h32 : 32 ≤ n) (hL : ∀ i, -1099511627776 ≤ L.getD i 0 ∧ L.getD i 0 ≤ 1099511627776) :
    CallsV Tryd.prog 36 [.slice (some ⟨b, 0, none⟩) n c] [⟨b, 0, .ro, zs L⟩] (OutC 3 1 (zs (digs (word (sumI L 32)) 32)) 32) := by
  refine callsO (noG_ok _) Tryd.mix Tryd.pl36 Tryd.func36 rfl Tryd.ntmps36 Tryd.results36 rfl (by first | rfl | assumption) (Nat.le_of_ble_eq_true rfl) (by kernel_rfl) ?_
  simp only [push_cast, Nat.reduceAdd, Nat.reduceSub, Nat.reduceMul, Nat.reduceLT, Nat.reduceLeDiff, Nat.reduceEqDiff, Nat.reduceMod, Nat.reduceDiv, Int.reduceAdd, Int.reduceSub, Int.reduceMul, Int.reduceLT, Int.reduceLE, Int.reduceEq, Int.reduceNeg, Int.reduceToNat, reduceIte, reduceCtorEq]
  obtain ⟨m, hm⟩ : ∃ m, m = word (sumI L 32) := ⟨_, rfl⟩
  rw [← hm]
  refine loopO (noG_ok _) (pl := Tryd.pl36) Tryd.mix (X := Nat × Int × Value × Hp)
    (fun s => ([(0, .slice (some ⟨b, 0, none⟩) n c), (3, s.2.2.1), (4, .int .i64 s.2.1), (5, .int .i64 s.1)], s.2.2.2 ++ [⟨b, 0, .ro, zs L⟩]))
    (fun s => s.1 ≤ 32 ∧ s.2.1 = sumI L s.1 / 256 ^ s.1 ∧ (-1099511627776 ≤ s.2.1 ∧ s.2.1 ≤ 1099511627776) ∧ OutC 3 1 (zs (digs m s.1)) s.1 s.2.2.1 s.2.2.2 ∧ freshN s.2.2.2 [⟨b, 0, .ro, zs L⟩]) (fun s => 32 - s.1) (0, 0, .slice none 0 0, []) ?_ ?_ (by kernel_rfl) ?_
  · exact ⟨by decide, by simp [sumI], by decide, .nil _ _, trivial⟩
  · simp only [push_cast, Nat.reduceAdd, Nat.reduceSub, Nat.reduceMul, Nat.reduceLT, Nat.reduceLeDiff, Nat.reduceEqDiff, Nat.reduceMod, Nat.reduceDiv, Int.reduceAdd, Int.reduceSub, Int.reduceMul, Int.reduceLT, Int.reduceLE, Int.reduceEq, Int.reduceNeg, Int.reduceToNat, reduceIte, reduceCtorEq]
  · rintro ⟨i, k, vo, No⟩ ⟨hi, hk, hb, ho, hf⟩
    dsimp only at hi hk hb ho hf ⊢
    have fb : findE (No ++ [⟨b, 0, .ro, zs L⟩]) b = some ⟨b, 0, .ro, zs L⟩ := by
      rw [findE_freshN hf (b := b) (e := ⟨b, 0, .ro, zs L⟩) (by simp only [push_cast, Nat.reduceAdd, Nat.reduceSub, Nat.reduceMul, Nat.reduceLT, Nat.reduceLeDiff, Nat.reduceEqDiff, Nat.reduceMod, Nat.reduceDiv, Int.reduceAdd, Int.reduceSub, Int.reduceMul, Int.reduceLT, Int.reduceLE, Int.reduceEq, Int.reduceNeg, Int.reduceToNat, reduceIte, reduceCtorEq])]; simp only [push_cast, Nat.reduceAdd, Nat.reduceSub, Nat.reduceMul, Nat.reduceLT, Nat.reduceLeDiff, Nat.reduceEqDiff, Nat.reduceMod, Nat.reduceDiv, Int.reduceAdd, Int.reduceSub, Int.reduceMul, Int.reduceLT, Int.reduceLE, Int.reduceEq, Int.reduceNeg, Int.reduceToNat, reduceIte, reduceCtorEq]
    rcases Nat.lt_or_ge i 32 with hlt | hge
    · have i32 : (i : Int) < 32 := by omega
      have in' : (i : Int) < (n : Int) := by omega
      have il : i + 1 ≤ (zs L).length := by rw [zs_len]; omega
      have hx := hL i
      have hz := zs_at L (i := i) (by omega)
      have hs := sum_next L i
      have hd := word_digit (sumI L 32) hlt
      rw [sum_digit L hlt, ← hm] at hd
      generalize L.getD i 0 = x at *
      generalize hq : sumI L i / 256 ^ i = q at *
      subst hk
      obtain ⟨y, hy⟩ : ∃ y, y = x + k := ⟨_, rfl⟩
      rw [← hy] at hs hd
      obtain ⟨r, hr⟩ : ∃ r, r = y % 256 := ⟨_, rfl⟩
      obtain ⟨c2, hc2⟩ : ∃ c, c = y / 256 := ⟨_, rfl⟩
      have e3 : (y - r).tdiv 256 = c2 := by rw [hr, tdiv_exact, hc2]
      have fin : ∀ v' N', OutC 3 1 (zs (digs m i) ++ [.int .i64 r]) (i + 1) v' N' → freshN N' [⟨b, 0, .ro, zs L⟩] → (i + 1 ≤ 32 ∧ c2 = sumI L (i + 1) / 256 ^ (i + 1) ∧ (-1099511627776 ≤ c2 ∧ c2 ≤ 1099511627776) ∧ OutC 3 1 (zs (digs m (i + 1))) (i + 1) v' N' ∧ freshN N' [⟨b, 0, .ro, zs L⟩]) := by
        intro v' N' ho' hf'
        refine ⟨by omega, by rw [hs, hc2], by omega, ?_, hf'⟩
        rw [digs_succ, zs_app, hd, ← hr]
        exact ho'
      by_cases hn : y.tmod 256 < 0
      · have e1 : y.tmod 256 + 256 = r := by rw [hr, tmod_neg hn]
        have e2 := wrap_i64' (show -9223372036854775808 ≤ y.tmod 256 ∧ y.tmod 256 ≤ 9223372036854775807 by omega)
        simp only [push_cast, Nat.reduceAdd, Nat.reduceSub, Nat.reduceMul, Nat.reduceLT, Nat.reduceLeDiff, Nat.reduceEqDiff, Nat.reduceMod, Nat.reduceDiv, Int.reduceAdd, Int.reduceSub, Int.reduceMul, Int.reduceLT, Int.reduceLE, Int.reduceEq, Int.reduceNeg, Int.reduceToNat, reduceIte, reduceCtorEq, fb, i32, in', il, hz, ← hy, wrap_i64' (show -9223372036854775808 ≤ y ∧ y ≤ 9223372036854775807 by omega), hn, e2, e1, wrap_i64' (show -9223372036854775808 ≤ r ∧ r ≤ 9223372036854775807 by omega)]
        intro b10 hb10
        refine append_out1 (e := 3) (sz := 1) (by_ := 8) (n := i) (m := 1) (ys := [.int .i64 r]) ho hb10 (by simp only [push_cast, Nat.reduceAdd, Nat.reduceSub, Nat.reduceMul, Nat.reduceLT, Nat.reduceLeDiff, Nat.reduceEqDiff, Nat.reduceMod, Nat.reduceDiv, Int.reduceAdd, Int.reduceSub, Int.reduceMul, Int.reduceLT, Int.reduceLE, Int.reduceEq, Int.reduceNeg, Int.reduceToNat, reduceIte, reduceCtorEq]) (by simp only [push_cast, Nat.reduceAdd, Nat.reduceSub, Nat.reduceMul, Nat.reduceLT, Nat.reduceLeDiff, Nat.reduceEqDiff, Nat.reduceMod, Nat.reduceDiv, Int.reduceAdd, Int.reduceSub, Int.reduceMul, Int.reduceLT, Int.reduceLE, Int.reduceEq, Int.reduceNeg, Int.reduceToNat, reduceIte, reduceCtorEq]) rfl rfl (by unfold two47; omega) fun v' N' ho' hf' => ?_
        simp only [push_cast, Nat.reduceAdd, Nat.reduceSub, Nat.reduceMul, Nat.reduceLT, Nat.reduceLeDiff, Nat.reduceEqDiff, Nat.reduceMod, Nat.reduceDiv, Int.reduceAdd, Int.reduceSub, Int.reduceMul, Int.reduceLT, Int.reduceLE, Int.reduceEq, Int.reduceNeg, Int.reduceToNat, reduceIte, reduceCtorEq, wrap_i64' (show -9223372036854775808 ≤ y - r ∧ y - r ≤ 9223372036854775807 by omega), e3, wrap_i64' (show -9223372036854775808 ≤ c2 ∧ c2 ≤ 9223372036854775807 by omega), wrap_i64' (show -9223372036854775808 ≤ (i : Int) + 1 ∧ (i : Int) + 1 ≤ 9223372036854775807 by omega)]
        refine ⟨(i + 1, c2, v', N'), fin v' N' ho' (freshN_cons hf'), by dsimp only; omega, ⟨rfl, rfl, rfl⟩, subH_pre (subH_cons (fresh_app hb10)) _, ?_⟩
        simp only [marks_append, marksOf, ho.wr.2, ho'.wr.2]
      · have e1 : y.tmod 256 = r := by rw [hr, tmod_nonneg hn]
        rw [e1] at hn
        simp only [push_cast, Nat.reduceAdd, Nat.reduceSub, Nat.reduceMul, Nat.reduceLT, Nat.reduceLeDiff, Nat.reduceEqDiff, Nat.reduceMod, Nat.reduceDiv, Int.reduceAdd, Int.reduceSub, Int.reduceMul, Int.reduceLT, Int.reduceLE, Int.reduceEq, Int.reduceNeg, Int.reduceToNat, reduceIte, reduceCtorEq, fb, i32, in', il, hz, ← hy, wrap_i64' (show -9223372036854775808 ≤ y ∧ y ≤ 9223372036854775807 by omega), e1, hn, wrap_i64' (show -9223372036854775808 ≤ r ∧ r ≤ 9223372036854775807 by omega)]
        intro b10 hb10
        refine append_out1 (e := 3) (sz := 1) (by_ := 8) (n := i) (m := 1) (ys := [.int .i64 r]) ho hb10 (by simp only [push_cast, Nat.reduceAdd, Nat.reduceSub, Nat.reduceMul, Nat.reduceLT, Nat.reduceLeDiff, Nat.reduceEqDiff, Nat.reduceMod, Nat.reduceDiv, Int.reduceAdd, Int.reduceSub, Int.reduceMul, Int.reduceLT, Int.reduceLE, Int.reduceEq, Int.reduceNeg, Int.reduceToNat, reduceIte, reduceCtorEq]) (by simp only [push_cast, Nat.reduceAdd, Nat.reduceSub, Nat.reduceMul, Nat.reduceLT, Nat.reduceLeDiff, Nat.reduceEqDiff, Nat.reduceMod, Nat.reduceDiv, Int.reduceAdd, Int.reduceSub, Int.reduceMul, Int.reduceLT, Int.reduceLE, Int.reduceEq, Int.reduceNeg, Int.reduceToNat, reduceIte, reduceCtorEq]) rfl rfl (by unfold two47; omega) fun v' N' ho' hf' => ?_
        simp only [push_cast, Nat.reduceAdd, Nat.reduceSub, Nat.reduceMul, Nat.reduceLT, Nat.reduceLeDiff, Nat.reduceEqDiff, Nat.reduceMod, Nat.reduceDiv, Int.reduceAdd, Int.reduceSub, Int.reduceMul, Int.reduceLT, Int.reduceLE, Int.reduceEq, Int.reduceNeg, Int.reduceToNat, reduceIte, reduceCtorEq, wrap_i64' (show -9223372036854775808 ≤ y - r ∧ y - r ≤ 9223372036854775807 by omega), e3, wrap_i64' (show -9223372036854775808 ≤ c2 ∧ c2 ≤ 9223372036854775807 by omega), wrap_i64' (show -9223372036854775808 ≤ (i : Int) + 1 ∧ (i : Int) + 1 ≤ 9223372036854775807 by omega)]
        refine ⟨(i + 1, c2, v', N'), fin v' N' ho' (freshN_cons hf'), by dsimp only; omega, ⟨rfl, rfl, rfl⟩, subH_pre (subH_cons (fresh_app hb10)) _, ?_⟩
        simp only [marks_append, marksOf, ho.wr.2, ho'.wr.2]
    · obtain rfl : i = 32 := by omega
      simp only [push_cast, Nat.reduceAdd, Nat.reduceSub, Nat.reduceMul, Nat.reduceLT, Nat.reduceLeDiff, Nat.reduceEqDiff, Nat.reduceMod, Nat.reduceDiv, Int.reduceAdd, Int.reduceSub, Int.reduceMul, Int.reduceLT, Int.reduceLE, Int.reduceEq, Int.reduceNeg, Int.reduceToNat, reduceIte, reduceCtorEq]
      refine ⟨No, ?_, ho⟩
      rw [dropM_eq (by simp only [marks_append, marksOf, ho.wr.2, List.append_nil])]
      exact List.sublist_append_left _ _
end Go.Proofs.YtndioekjgmbomaaDoor
