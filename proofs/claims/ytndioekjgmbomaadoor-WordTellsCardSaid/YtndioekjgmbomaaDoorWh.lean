/- Wh: the document's words: FromDigits: written by wip/tools/fromdigits.py. -/
import Derived.Test.YtndioekjgmbomaaDoorWg
set_option linter.unusedSimpArgs false
set_option linter.unusedVariables false
namespace Go.Ev
/-- what a part is, when s digits are still to come -/
noncomputable def cut : Nat → Nat → Nat := hid fun x e => x / 256 ^ e
theorem cut_eq (x e : Nat) : cut x e = x / 256 ^ e := by unfold cut; rw [hid_eq]
theorem cut_zero (x : Nat) : cut x 0 = x := by rw [cut_eq, Nat.pow_zero, Nat.div_one]
theorem cut_lt {x : Nat} (h : x < 18446744073709551616) (e : Nat) : cut x e < 18446744073709551616 := by rw [cut_eq]; exact Nat.lt_of_le_of_lt (Nat.div_le_self _ _) h
theorem cut_8 {x : Nat} (h : x < 18446744073709551616) {e : Nat} (he : 8 ≤ e) : cut x e = 0 := by
  rw [cut_eq]
  refine Nat.div_eq_of_lt (Nat.lt_of_lt_of_le h ?_)
  exact Nat.le_trans (by decide : 18446744073709551616 ≤ 256 ^ 8) (Nat.pow_le_pow_right (by decide) he)
theorem cut_step (x e : Nat) : cut x (e + 1) * 256 + x / 256 ^ e % 256 = cut x e := by
  rw [cut_eq, cut_eq, Nat.pow_succ, ← Nat.div_div_eq_div_mul]; omega
theorem digs_at (m : Nat) {k i : Nat} (h : i < k) : List.take 1 (List.drop i (zs (digs m k))) = [.int .i64 ((digN m i : Nat) : Int)] := by
  rw [zs_at _ (by rw [digs_len]; exact h)]
  unfold digs
  rw [List.getD_eq_getElem?_getD, List.getElem?_map, List.getElem?_range h]; rfl
theorem digN_of (m : Nat) {i : Nat} (h : i < 32) : digN m i = digN (W.of m).num i := by
  have h1 := word_digit (m : Int) h
  have h2 : word (m : Int) = (W.of m).num := by
    rw [word_eq, W.num_of]
    omega
  rw [h2] at h1
  have : ((digN (W.of m).num i : Nat) : Int) = ((digN m i : Nat) : Int) := by
    rw [h1, digN_eq, Int.natCast_emod, Int.natCast_ediv, Int.natCast_pow]; rfl
  omega
theorem cut_top {m k : Nat} (h : 32 ≤ k ∨ m < 256 ^ k) {p : Nat} (hp : p < 4) : cut ((W.of m).part p) (min k 32 - 8 * p) = 0 := by
  rcases h with h | h
  · exact cut_8 (part_lt _ _) (by omega)
  · rcases Nat.lt_or_ge k 32 with hk | hk
    rotate_left
    · exact cut_8 (part_lt _ _) (by omega)
    rw [show min k 32 = k by omega]
    have hlt : m < 115792089237316195423570985008687907853269984665640564039457584007913129639936 := Nat.lt_of_lt_of_le h (Nat.le_trans (Nat.pow_le_pow_right (by decide) (by omega : k ≤ 32)) (by decide))
    have hn : (W.of m).num = m := by rw [W.num_of, Nat.mod_eq_of_lt hlt]
    rw [cut_eq]
    refine Nat.div_eq_of_lt ?_
    have hpart : (W.of m).part p * 256 ^ (8 * p) ≤ (W.of m).num := by
      obtain rfl | rfl | rfl | rfl : p = 0 ∨ p = 1 ∨ p = 2 ∨ p = 3 := by omega
      all_goals unfold W.num W.part; simp only [Nat.reducePow, Nat.reduceMul]; omega
    rw [hn] at hpart
    rcases Nat.lt_or_ge k (8 * p) with h1 | h1
    · rw [show k - 8 * p = 0 by omega, Nat.pow_zero]
      rcases Nat.eq_zero_or_pos ((W.of m).part p) with h0 | h0
      · omega
      · have := Nat.le_mul_of_pos_left (256 ^ (8 * p)) h0
        have := Nat.pow_le_pow_right (by decide : 0 < 256) (Nat.le_of_lt h1)
        omega
    · have e : 256 ^ k = 256 ^ (k - 8 * p) * 256 ^ (8 * p) := by rw [← Nat.pow_add]; congr 1; omega
      rw [e] at h
      exact Nat.lt_of_mul_lt_mul_right (Nat.lt_of_le_of_lt hpart h)
end Go.Ev
namespace Go.Proofs.YtndioekjgmbomaaDoor
open Go Go.Ev Go.Proofs
set_option maxRecDepth 100000
set_option maxHeartbeats 4000000
theorem fromDigits_ok (m k b c : Nat) (hk : k < 1099511627776) (hmk : 32 ≤ k ∨ m < 256 ^ k) :
    CallsV Tryd.prog 35 [.slice (some ⟨b, 0, none⟩) k c] [⟨b, 0, .ro, zs (digs m k)⟩] (Ret0 (W.of m).v) := by
  obtain ⟨w, hw⟩ : ∃ w, w = W.of m := ⟨_, rfl⟩
  rw [← hw]
  have ha := w.ha; have hb := w.hb; have hc := w.hc; have hd := w.hd
  obtain ⟨q, hq⟩ : ∃ q, q = min k 32 := ⟨_, rfl⟩
  have eq : (if (32 : Int) < (k : Int) then (32 : Int) else (k : Int)) = (q : Int) := by split <;> omega
  refine callsO (noG_ok _) Tryd.mix Tryd.pl35 Tryd.func35 rfl Tryd.ntmps35 Tryd.results35 rfl (by first | rfl | assumption) (Nat.le_of_ble_eq_true rfl) (by kernel_rfl) ?_
  simp only [push_cast, Nat.reduceAdd, Nat.reduceSub, Nat.reduceMul, Nat.reduceLT, Nat.reduceLeDiff, Nat.reduceEqDiff, Nat.reduceMod, Nat.reduceDiv, Int.reduceAdd, Int.reduceSub, Int.reduceMul, Int.reduceLT, Int.reduceLE, Int.reduceEq, Int.reduceNeg, Int.reduceToNat, reduceIte, reduceCtorEq]
  intro b2 hb2 b3 hb3
  refine loopO (noG_ok _) (pl := Tryd.pl35) Tryd.mix (X := Nat)
    (fun s => ([(0, .slice (some ⟨b, 0, none⟩) k c), (2, .pointer (some ⟨b2, 0, none⟩)), (3, .pointer (some ⟨b3, 0, none⟩)), (4, .int .i64 ((s : Int) - 1))],
      [⟨b3, 0, .cel 24, [.int .u64 (cut w.a (s - 0) : Nat), .int .u64 (cut w.b (s - 8) : Nat), .int .u64 (cut w.c (s - 16) : Nat), .int .u64 (cut w.d (s - 24) : Nat)]⟩, ⟨b2, 0, .cel 24, [.int .u64 0, .int .u64 0, .int .u64 0, .int .u64 0]⟩, ⟨b, 0, .ro, zs (digs m k)⟩]))
    (fun s => s ≤ q) (fun s => s) q ?_ ?_ (by kernel_rfl) ?_
  · exact Nat.le_refl _
  · have z0 := cut_top hmk (p := 0) (by decide)
    have z1 := cut_top hmk (p := 1) (by decide)
    have z2 := cut_top hmk (p := 2) (by decide)
    have z3 := cut_top hmk (p := 3) (by decide)
    rw [← hw, ← hq] at z0 z1 z2 z3
    replace z0 : cut w.a (q - 0) = 0 := z0
    replace z1 : cut w.b (q - 8) = 0 := z1
    replace z2 : cut w.c (q - 16) = 0 := z2
    replace z3 : cut w.d (q - 24) = 0 := z3
    rw [z0, z1, z2, z3, eq, wrap_i64' (show -9223372036854775808 ≤ (q : Int) - 1 ∧ (q : Int) - 1 ≤ 9223372036854775807 by omega)]
    simp only [push_cast, Nat.reduceAdd, Nat.reduceSub, Nat.reduceMul, Nat.reduceLT, Nat.reduceLeDiff, Nat.reduceEqDiff, Nat.reduceMod, Nat.reduceDiv, Int.reduceAdd, Int.reduceSub, Int.reduceMul, Int.reduceLT, Int.reduceLE, Int.reduceEq, Int.reduceNeg, Int.reduceToNat, reduceIte, reduceCtorEq]
  · intro s hs
    dsimp only at hs ⊢
    rcases Nat.eq_zero_or_pos s with rfl | h0
    · simp only [push_cast, Nat.reduceAdd, Nat.reduceSub, Nat.reduceMul, Nat.reduceLT, Nat.reduceLeDiff, Nat.reduceEqDiff, Nat.reduceMod, Nat.reduceDiv, Int.reduceAdd, Int.reduceSub, Int.reduceMul, Int.reduceLT, Int.reduceLE, Int.reduceEq, Int.reduceNeg, Int.reduceToNat, reduceIte, reduceCtorEq, hb2, hb3, Nat.zero_sub, cut_zero]
      rfl
    · obtain ⟨j, rfl⟩ : ∃ j, s = j + 1 := ⟨s - 1, by omega⟩
      have hj : ((j + 1 : Nat) : Int) - 1 = (j : Int) := by omega
      have j0 : (0 : Int) ≤ (j : Int) := by omega
      have jk : (j : Int) < (k : Int) := by omega
      have jl : j + 1 ≤ (zs (digs m k)).length := by rw [zs_len, digs_len]; omega
      have hz := digs_at m (k := k) (i := j) (by omega)
      have hdg := digN_of m (i := j) (by omega)
      have hdl := digN_lt m j
      rw [← hw] at hdg
      generalize digN m j = dg at *
      rw [hj]
      obtain ⟨p, hp⟩ : ∃ p, p = j / 8 := ⟨_, rfl⟩
      have e8 : (j : Int).tdiv 8 = (p : Int) := by rw [hp]; rfl
      obtain rfl | rfl | rfl | rfl : p = 0 ∨ p = 1 ∨ p = 2 ∨ p = 3 := by omega
      · have hdig : dg = w.a / 256 ^ j % 256 := by
          rw [hdg]
          have := dig_part w (i := 0) (k := j) (by decide) (by omega)
          rw [show 8 * 0 + j = j by omega] at this
          exact this
        have hst := cut_step w.a j
        rw [← hdig, show j + 1 = j + 1 by omega] at hst
        have hlt := cut_lt (x := w.a) (by omega) j
        have h1a : j + 1 - 8 = 0 := by omega
        have h1b : (j - 8) = 0 := by omega
        have h2a : j + 1 - 16 = 0 := by omega
        have h2b : (j - 16) = 0 := by omega
        have h3a : j + 1 - 24 = 0 := by omega
        have h3b : (j - 24) = 0 := by omega
        obtain ⟨x1, hx1⟩ : ∃ x, x = cut w.a (j + 1) := ⟨_, rfl⟩
        obtain ⟨x2, hx2⟩ : ∃ x, x = cut w.a j := ⟨_, rfl⟩
        rw [← hx1, ← hx2] at hst
        rw [← hx2] at hlt
        have m1 : (x1 : Int) * 256 + (dg : Int) = (x2 : Int) := by omega
        simp only [push_cast, Nat.reduceAdd, Nat.reduceSub, Nat.reduceMul, Nat.reduceLT, Nat.reduceLeDiff, Nat.reduceEqDiff, Nat.reduceMod, Nat.reduceDiv, Int.reduceAdd, Int.reduceSub, Int.reduceMul, Int.reduceLT, Int.reduceLE, Int.reduceEq, Int.reduceNeg, Int.reduceToNat, reduceIte, reduceCtorEq, hb2, hb3, h1a, h1b, h2a, h2b, h3a, h3b, cut_zero, ← hx1, e8, j0, jk, jl, hz, m1, wrap_u64' (n := (x1 : Int) * 256) (by omega), wrap_u64' (n := (dg : Int)) (by omega), wrap_u64' (n := (x2 : Int)) (by omega), wrap_i64' (show -9223372036854775808 ≤ (j : Int) - 1 ∧ (j : Int) - 1 ≤ 9223372036854775807 by omega)]
        exact ⟨j, by omega, by omega, rfl, by simp only [hx2, h1b, h2b, h3b, cut_zero, Nat.sub_zero, Int.natCast_zero]⟩
      · have hdig : dg = w.b / 256 ^ (j - 8) % 256 := by
          rw [hdg]
          have := dig_part w (i := 1) (k := (j - 8)) (by decide) (by omega)
          rw [show 8 * 1 + (j - 8) = j by omega] at this
          exact this
        have hst := cut_step w.b (j - 8)
        rw [← hdig, show (j - 8) + 1 = j + 1 - 8 by omega] at hst
        have hlt := cut_lt (x := w.b) (by omega) (j - 8)
        have h0a : cut w.a (j + 1) = 0 := cut_8 (by omega) (by omega)
        have h0b : cut w.a j = 0 := cut_8 (by omega) (by omega)
        have h2a : j + 1 - 16 = 0 := by omega
        have h2b : (j - 16) = 0 := by omega
        have h3a : j + 1 - 24 = 0 := by omega
        have h3b : (j - 24) = 0 := by omega
        obtain ⟨x1, hx1⟩ : ∃ x, x = cut w.b (j + 1 - 8) := ⟨_, rfl⟩
        obtain ⟨x2, hx2⟩ : ∃ x, x = cut w.b (j - 8) := ⟨_, rfl⟩
        rw [← hx1, ← hx2] at hst
        rw [← hx2] at hlt
        have m1 : (x1 : Int) * 256 + (dg : Int) = (x2 : Int) := by omega
        simp only [push_cast, Nat.reduceAdd, Nat.reduceSub, Nat.reduceMul, Nat.reduceLT, Nat.reduceLeDiff, Nat.reduceEqDiff, Nat.reduceMod, Nat.reduceDiv, Int.reduceAdd, Int.reduceSub, Int.reduceMul, Int.reduceLT, Int.reduceLE, Int.reduceEq, Int.reduceNeg, Int.reduceToNat, reduceIte, reduceCtorEq, hb2, hb3, h0a, h0b, h2a, h2b, h3a, h3b, cut_zero, ← hx1, e8, j0, jk, jl, hz, m1, wrap_u64' (n := (x1 : Int) * 256) (by omega), wrap_u64' (n := (dg : Int)) (by omega), wrap_u64' (n := (x2 : Int)) (by omega), wrap_i64' (show -9223372036854775808 ≤ (j : Int) - 1 ∧ (j : Int) - 1 ≤ 9223372036854775807 by omega)]
        exact ⟨j, by omega, by omega, rfl, by simp only [hx2, h0b, h2b, h3b, cut_zero, Nat.sub_zero, Int.natCast_zero]⟩
      · have hdig : dg = w.c / 256 ^ (j - 16) % 256 := by
          rw [hdg]
          have := dig_part w (i := 2) (k := (j - 16)) (by decide) (by omega)
          rw [show 8 * 2 + (j - 16) = j by omega] at this
          exact this
        have hst := cut_step w.c (j - 16)
        rw [← hdig, show (j - 16) + 1 = j + 1 - 16 by omega] at hst
        have hlt := cut_lt (x := w.c) (by omega) (j - 16)
        have h0a : cut w.a (j + 1) = 0 := cut_8 (by omega) (by omega)
        have h0b : cut w.a j = 0 := cut_8 (by omega) (by omega)
        have h1a : cut w.b (j + 1 - 8) = 0 := cut_8 (by omega) (by omega)
        have h1b : cut w.b (j - 8) = 0 := cut_8 (by omega) (by omega)
        have h3a : j + 1 - 24 = 0 := by omega
        have h3b : (j - 24) = 0 := by omega
        obtain ⟨x1, hx1⟩ : ∃ x, x = cut w.c (j + 1 - 16) := ⟨_, rfl⟩
        obtain ⟨x2, hx2⟩ : ∃ x, x = cut w.c (j - 16) := ⟨_, rfl⟩
        rw [← hx1, ← hx2] at hst
        rw [← hx2] at hlt
        have m1 : (x1 : Int) * 256 + (dg : Int) = (x2 : Int) := by omega
        simp only [push_cast, Nat.reduceAdd, Nat.reduceSub, Nat.reduceMul, Nat.reduceLT, Nat.reduceLeDiff, Nat.reduceEqDiff, Nat.reduceMod, Nat.reduceDiv, Int.reduceAdd, Int.reduceSub, Int.reduceMul, Int.reduceLT, Int.reduceLE, Int.reduceEq, Int.reduceNeg, Int.reduceToNat, reduceIte, reduceCtorEq, hb2, hb3, h0a, h0b, h1a, h1b, h3a, h3b, cut_zero, ← hx1, e8, j0, jk, jl, hz, m1, wrap_u64' (n := (x1 : Int) * 256) (by omega), wrap_u64' (n := (dg : Int)) (by omega), wrap_u64' (n := (x2 : Int)) (by omega), wrap_i64' (show -9223372036854775808 ≤ (j : Int) - 1 ∧ (j : Int) - 1 ≤ 9223372036854775807 by omega)]
        exact ⟨j, by omega, by omega, rfl, by simp only [hx2, h0b, h1b, h3b, cut_zero, Nat.sub_zero, Int.natCast_zero]⟩
      · have hdig : dg = w.d / 256 ^ (j - 24) % 256 := by
          rw [hdg]
          have := dig_part w (i := 3) (k := (j - 24)) (by decide) (by omega)
          rw [show 8 * 3 + (j - 24) = j by omega] at this
          exact this
        have hst := cut_step w.d (j - 24)
        rw [← hdig, show (j - 24) + 1 = j + 1 - 24 by omega] at hst
        have hlt := cut_lt (x := w.d) (by omega) (j - 24)
        have h0a : cut w.a (j + 1) = 0 := cut_8 (by omega) (by omega)
        have h0b : cut w.a j = 0 := cut_8 (by omega) (by omega)
        have h1a : cut w.b (j + 1 - 8) = 0 := cut_8 (by omega) (by omega)
        have h1b : cut w.b (j - 8) = 0 := cut_8 (by omega) (by omega)
        have h2a : cut w.c (j + 1 - 16) = 0 := cut_8 (by omega) (by omega)
        have h2b : cut w.c (j - 16) = 0 := cut_8 (by omega) (by omega)
        obtain ⟨x1, hx1⟩ : ∃ x, x = cut w.d (j + 1 - 24) := ⟨_, rfl⟩
        obtain ⟨x2, hx2⟩ : ∃ x, x = cut w.d (j - 24) := ⟨_, rfl⟩
        rw [← hx1, ← hx2] at hst
        rw [← hx2] at hlt
        have m1 : (x1 : Int) * 256 + (dg : Int) = (x2 : Int) := by omega
        simp only [push_cast, Nat.reduceAdd, Nat.reduceSub, Nat.reduceMul, Nat.reduceLT, Nat.reduceLeDiff, Nat.reduceEqDiff, Nat.reduceMod, Nat.reduceDiv, Int.reduceAdd, Int.reduceSub, Int.reduceMul, Int.reduceLT, Int.reduceLE, Int.reduceEq, Int.reduceNeg, Int.reduceToNat, reduceIte, reduceCtorEq, hb2, hb3, h0a, h0b, h1a, h1b, h2a, h2b, cut_zero, ← hx1, e8, j0, jk, jl, hz, m1, wrap_u64' (n := (x1 : Int) * 256) (by omega), wrap_u64' (n := (dg : Int)) (by omega), wrap_u64' (n := (x2 : Int)) (by omega), wrap_i64' (show -9223372036854775808 ≤ (j : Int) - 1 ∧ (j : Int) - 1 ≤ 9223372036854775807 by omega)]
        exact ⟨j, by omega, by omega, rfl, by simp only [hx2, h0b, h1b, h2b, cut_zero, Nat.sub_zero, Int.natCast_zero]⟩
end Go.Proofs.YtndioekjgmbomaaDoor
