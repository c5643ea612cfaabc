/- Wj: the document's words: Mul. -/
import Derived.Test.YtndioekjgmbomaaDoorWi
set_option linter.unusedSimpArgs false
set_option linter.unusedVariables false
namespace Go.Ev
theorem sumF_upd (f : Nat → Int) {i : Nat} (d : Int) : ∀ {k : Nat}, i < k → sumF (updF f i (f i + d)) k = sumF f k + d * 256 ^ i
  | 0, h => absurd h (Nat.not_lt_zero _)
  | k + 1, h => by
    show sumF (updF f i (f i + d)) k + updF f i (f i + d) k * 256 ^ k = sumF f k + f k * 256 ^ k + d * 256 ^ i
    rcases Nat.lt_or_ge i k with h1 | h1
    · rw [sumF_upd f d h1]
      unfold updF
      rw [if_neg (by omega)]
      omega
    · obtain rfl : i = k := by omega
      have : sumF (updF f i (f i + d)) i = sumF f i := sumF_congr fun j hj => by unfold updF; rw [if_neg (by omega)]
      rw [this]
      unfold updF
      rw [if_pos rfl, Int.add_mul]
      omega
theorem sumF_from (f : Nat → Int) (i : Nat) : ∀ k, ∃ t, sumF f (i + k) = sumF f i + 256 ^ i * t
  | 0 => ⟨0, by simp⟩
  | k + 1 => by
    obtain ⟨t, ht⟩ := sumF_from f i k
    refine ⟨t + f (i + k) * 256 ^ k, ?_⟩
    show sumF f (i + k) + f (i + k) * 256 ^ (i + k) = _
    rw [ht, Int.pow_add, Int.mul_add, Int.add_assoc, Int.mul_left_comm]
/-- one more digit's row: what goes round is left out -/
theorem mul_row {S X Yk Y t T : Int} {i : Nat} (hi : i < 32) (hY : Y = Yk + 256 ^ (32 - i) * t) {z Z : Int} (hz : z + 115792089237316195423570985008687907853269984665640564039457584007913129639936 * T = S * Y) (hZ : Z = z + X * 256 ^ i * Yk) :
    ∃ T', Z + 115792089237316195423570985008687907853269984665640564039457584007913129639936 * T' = (S + X * 256 ^ i) * Y := by
  refine ⟨T + X * t, ?_⟩
  have e : (115792089237316195423570985008687907853269984665640564039457584007913129639936 : Int) = 256 ^ i * 256 ^ (32 - i) := by
    rw [← Int.pow_add, show i + (32 - i) = 32 by omega]; decide
  rw [Int.add_mul S, ← hz, hZ, hY]
  generalize (115792089237316195423570985008687907853269984665640564039457584007913129639936 : Int) = M at *
  have e2 : X * 256 ^ i * (256 ^ (32 - i) * t) = M * (X * t) := by rw [e]; simp only [Int.mul_comm, Int.mul_left_comm, Int.mul_assoc]
  rw [Int.mul_add (X * 256 ^ i), e2, Int.mul_add M]
  omega
/-- z is p, but for what goes round -/
noncomputable def round : Int → Int → Prop := hid fun z p => ∃ T, z + 115792089237316195423570985008687907853269984665640564039457584007913129639936 * T = p
theorem round_eq (z p : Int) : round z p ↔ ∃ T, z + 115792089237316195423570985008687907853269984665640564039457584007913129639936 * T = p := by unfold round; rw [hid_eq]
theorem round_zero (p : Int) : round 0 (0 * p) := (round_eq _ _).2 ⟨0, by omega⟩
theorem round_row (y : W) {S X : Int} {i : Nat} (hi : i < 32) {z Z : Int} (hz : round z (S * (y.num : Int))) (hZ : Z = z + X * 256 ^ i * sumF (fun j => ((digN y.num j : Nat) : Int)) (32 - i)) : round Z ((S + X * 256 ^ i) * (y.num : Int)) := by
  obtain ⟨T, hT⟩ := (round_eq _ _).1 hz
  obtain ⟨t, ht⟩ := sumF_from (fun j => ((digN y.num j : Nat) : Int)) (32 - i) i
  rw [show 32 - i + i = 32 by omega, sumF_word] at ht
  exact (round_eq _ _).2 (mul_row hi ht hT hZ)
theorem of_word_mul {z : Int} {n : Nat} (h : round z (n : Int)) : W.of (word z) = W.of n := by
  obtain ⟨T, hT⟩ := (round_eq _ _).1 h
  refine W.of_eq ?_
  rw [word_eq]
  omega
theorem mapL_zero : zs (mapL fun _ => 0) = List.replicate 32 (.int .i64 0) := by rw [mapL_eq]; rfl
end Go.Ev
namespace Go.Proofs.YtndioekjgmbomaaDoor
open Go Go.Ev Go.Proofs
set_option maxRecDepth 100000
set_option maxHeartbeats 4000000
theorem refMul (x y : W) : CallsV Tryd.prog 18 [x.v, y.v] [] (Ret0 (W.of (x.num * y.num)).v) := by
  obtain ⟨R, hR⟩ : ∃ R, R = W.of (x.num * y.num) := ⟨_, rfl⟩
  rw [← hR]
  refine callsO (noG_ok _) Tryd.mix Tryd.pl18 Tryd.func18 rfl Tryd.ntmps18 Tryd.results18 rfl (by first | rfl | assumption) (Nat.le_of_ble_eq_true rfl) (by kernel_rfl) ?_
  simp only [push_cast, Nat.reduceAdd, Nat.reduceSub, Nat.reduceMul, Nat.reduceLT, Nat.reduceLeDiff, Nat.reduceEqDiff, Nat.reduceMod, Nat.reduceDiv, Int.reduceAdd, Int.reduceSub, Int.reduceMul, Int.reduceLT, Int.reduceLE, Int.reduceEq, Int.reduceNeg, Int.reduceToNat, reduceIte, reduceCtorEq]
  intro b2 b3 hb3 b4 hb4
  simp only [push_cast, Nat.reduceAdd, Nat.reduceSub, Nat.reduceMul, Nat.reduceLT, Nat.reduceLeDiff, Nat.reduceEqDiff, Nat.reduceMod, Nat.reduceDiv, Int.reduceAdd, Int.reduceSub, Int.reduceMul, Int.reduceLT, Int.reduceLE, Int.reduceEq, Int.reduceNeg, Int.reduceToNat, reduceIte, reduceCtorEq, hb3, hb4]
  refine (digits_ok x).use trivial fun v1 N1 ho1 => ⟨ho1.wr.1, ho1.wr.2, fun hf1 => ?_⟩
  obtain ⟨bx, cx, rfl, hcx, -, rfl⟩ := ho1.pos (by decide)
  simp only [push_cast, Nat.reduceAdd, Nat.reduceSub, Nat.reduceMul, Nat.reduceLT, Nat.reduceLeDiff, Nat.reduceEqDiff, Nat.reduceMod, Nat.reduceDiv, Int.reduceAdd, Int.reduceSub, Int.reduceMul, Int.reduceLT, Int.reduceLE, Int.reduceEq, Int.reduceNeg, Int.reduceToNat, reduceIte, reduceCtorEq] at hf1
  simp only [push_cast, Nat.reduceAdd, Nat.reduceSub, Nat.reduceMul, Nat.reduceLT, Nat.reduceLeDiff, Nat.reduceEqDiff, Nat.reduceMod, Nat.reduceDiv, Int.reduceAdd, Int.reduceSub, Int.reduceMul, Int.reduceLT, Int.reduceLE, Int.reduceEq, Int.reduceNeg, Int.reduceToNat, reduceIte, reduceCtorEq, hb3, hb4, hf1]
  refine (digits_ok y).use trivial fun v2 N2 ho2 => ⟨ho2.wr.1, ho2.wr.2, fun hf2 => ?_⟩
  obtain ⟨by', cy, rfl, hcy, -, rfl⟩ := ho2.pos (by decide)
  simp only [push_cast, Nat.reduceAdd, Nat.reduceSub, Nat.reduceMul, Nat.reduceLT, Nat.reduceLeDiff, Nat.reduceEqDiff, Nat.reduceMod, Nat.reduceDiv, Int.reduceAdd, Int.reduceSub, Int.reduceMul, Int.reduceLT, Int.reduceLE, Int.reduceEq, Int.reduceNeg, Int.reduceToNat, reduceIte, reduceCtorEq] at hf2
  obtain ⟨X, hX⟩ : ∃ X : Nat → Nat, X = fun j => digN x.num j := ⟨_, rfl⟩
  obtain ⟨Y, hY⟩ : ∃ Y : Nat → Nat, Y = fun j => digN y.num j := ⟨_, rfl⟩
  have lx : ∀ j, X j < 256 := fun j => by rw [hX]; exact digN_lt _ _
  have ly : ∀ j, Y j < 256 := fun j => by rw [hY]; exact digN_lt _ _
  have sX : sumF (fun j => ((X j : Nat) : Int)) 32 = (x.num : Int) := by rw [hX]; exact sumF_word x
  have rowY : ∀ {S X : Int} {i : Nat}, i < 32 → ∀ {z Z : Int}, round z (S * (y.num : Int)) → Z = z + X * 256 ^ i * sumF (fun j => ((Y j : Nat) : Int)) (32 - i) → round Z ((S + X * 256 ^ i) * (y.num : Int)) := by
    intro S X i hi z Z hz hZ
    rw [hY] at hZ
    exact round_row y hi hz hZ
  have eX : digs x.num 32 = mapL fun j => ((X j : Nat) : Int) := by rw [hX, digs_map]
  have eY : digs y.num 32 = mapL fun j => ((Y j : Nat) : Int) := by rw [hY, digs_map]
  rw [eX, eY]
  clear hX hY eX eY
  simp only [push_cast, Nat.reduceAdd, Nat.reduceSub, Nat.reduceMul, Nat.reduceLT, Nat.reduceLeDiff, Nat.reduceEqDiff, Nat.reduceMod, Nat.reduceDiv, Int.reduceAdd, Int.reduceSub, Int.reduceMul, Int.reduceLT, Int.reduceLE, Int.reduceEq, Int.reduceNeg, Int.reduceToNat, reduceIte, reduceCtorEq, hb3, hb4, hf1, hf2]
  refine ⟨by unfold two47; decide, fun bz hbz => ?_⟩
  refine loopO (noG_ok _) (pl := Tryd.pl18) Tryd.mix (X := Nat × (Nat → Int))
    (fun s => ([(4, .pointer (some ⟨b4, 0, none⟩)), (5, .slice (some ⟨bx, 0, none⟩) 32 cx), (6, .slice (some ⟨by', 0, none⟩) 32 cy), (7, .slice (some ⟨bz, 0, none⟩) 32 32), (8, .int .i64 s.1)],
      [⟨bz, 0, .vec 3 1 32, zs (mapL s.2)⟩, ⟨by', 0, .vec 3 1 cy, zs (mapL fun j => ((Y j : Nat) : Int))⟩, ⟨bx, 0, .vec 3 1 cx, zs (mapL fun j => ((X j : Nat) : Int))⟩, ⟨b4, 0, .cel 24, [.int .u64 0, .int .u64 0, .int .u64 0, .int .u64 0]⟩]))
    (fun s => s.1 ≤ 32 ∧ (∀ j, 0 ≤ s.2 j ∧ s.2 j ≤ 65025 * (32 * s.1)) ∧ round (sumF s.2 32) (sumF (fun j => ((X j : Nat) : Int)) s.1 * (y.num : Int))) (fun s => 32 - s.1) (0, fun _ => 0) ?_ ?_ (by kernel_rfl) ?_
  · refine ⟨by decide, fun j => by simp, ?_⟩
    exact round_zero _
  · rw [mapL_zero]
    simp only [push_cast, Nat.reduceAdd, Nat.reduceSub, Nat.reduceMul, Nat.reduceLT, Nat.reduceLeDiff, Nat.reduceEqDiff, Nat.reduceMod, Nat.reduceDiv, Int.reduceAdd, Int.reduceSub, Int.reduceMul, Int.reduceLT, Int.reduceLE, Int.reduceEq, Int.reduceNeg, Int.reduceToNat, reduceIte, reduceCtorEq, hb3, hb4, hf1, hf2, hbz]
    rfl
  · rintro ⟨i, z⟩ ⟨hi, hzb, hzr⟩
    dsimp only at hi hzb hzr ⊢
    rcases Nat.lt_or_ge i 32 with hlt | hge
    · have i32 : (i : Int) < 32 := by omega
      simp only [push_cast, Nat.reduceAdd, Nat.reduceSub, Nat.reduceMul, Nat.reduceLT, Nat.reduceLeDiff, Nat.reduceEqDiff, Nat.reduceMod, Nat.reduceDiv, Int.reduceAdd, Int.reduceSub, Int.reduceMul, Int.reduceLT, Int.reduceLE, Int.reduceEq, Int.reduceNeg, Int.reduceToNat, reduceIte, reduceCtorEq, hb3, hb4, hf1, hf2, hbz, i32]
      obtain ⟨S0, hS0⟩ : ∃ S, S = sumF z 32 := ⟨_, rfl⟩
      refine loopO (noG_ok _) (pl := Tryd.pl18) Tryd.mix (X := Nat × (Nat → Int))
        (fun s => ([(4, .pointer (some ⟨b4, 0, none⟩)), (5, .slice (some ⟨bx, 0, none⟩) 32 cx), (6, .slice (some ⟨by', 0, none⟩) 32 cy), (7, .slice (some ⟨bz, 0, none⟩) 32 32), (8, .int .i64 i), (9, .int .i64 s.1)],
          [⟨bz, 0, .vec 3 1 32, zs (mapL s.2)⟩, ⟨by', 0, .vec 3 1 cy, zs (mapL fun j => ((Y j : Nat) : Int))⟩, ⟨bx, 0, .vec 3 1 cx, zs (mapL fun j => ((X j : Nat) : Int))⟩, ⟨b4, 0, .cel 24, [.int .u64 0, .int .u64 0, .int .u64 0, .int .u64 0]⟩]))
        (fun s => i + s.1 ≤ 32 ∧ (∀ j, 0 ≤ s.2 j ∧ s.2 j ≤ 65025 * (32 * i + s.1)) ∧ sumF s.2 32 = S0 + (X i : Int) * 256 ^ i * sumF (fun j => ((Y j : Nat) : Int)) s.1) (fun s => 32 - s.1) (0, z) ?_ ?_ (by kernel_rfl) ?_
      · exact ⟨by dsimp only; omega, by simpa using hzb, by simp [sumF, hS0]⟩
      · simp only [push_cast, Nat.reduceAdd, Nat.reduceSub, Nat.reduceMul, Nat.reduceLT, Nat.reduceLeDiff, Nat.reduceEqDiff, Nat.reduceMod, Nat.reduceDiv, Int.reduceAdd, Int.reduceSub, Int.reduceMul, Int.reduceLT, Int.reduceLE, Int.reduceEq, Int.reduceNeg, Int.reduceToNat, reduceIte, reduceCtorEq, hb3, hb4, hf1, hf2, hbz]
      · rintro ⟨k, z2⟩ ⟨hk, hb2, hs2⟩
        dsimp only at hk hb2 hs2 ⊢
        rcases Nat.lt_or_ge (i + k) 32 with klt | kge
        · obtain ⟨m, hm⟩ : ∃ m, m = i + k := ⟨_, rfl⟩
          have em : (i : Int) + (k : Int) = (m : Int) := by omega
          have m32 : (m : Int) < 32 := by omega
          have k32 : (k : Int) < 32 := by omega
          have g1 : m + 1 ≤ 32 := by omega
          have g2 : i + 1 ≤ 32 := by omega
          have g3 : k + 1 ≤ 32 := by omega
          have a1 := mapL_at (fun j => ((X j : Nat) : Int)) hlt
          have a2 := mapL_at (fun j => ((Y j : Nat) : Int)) (i := k) (by omega)
          have a3 := mapL_at z2 (i := m) (by omega)
          have lp : (X i) * (Y k) ≤ 255 * 255 := Nat.mul_le_mul (by have := lx i; omega) (by have := ly k; omega)
          have eP : (X i : Int) * (Y k : Int) = ((X i * Y k : Nat) : Int) := (Int.natCast_mul _ _).symm
          have hS : sumF (updF z2 m (z2 m + (X i : Int) * (Y k : Int))) 32 = S0 + (X i : Int) * 256 ^ i * sumF (fun j => ((Y j : Nat) : Int)) (k + 1) := by
            rw [sumF_upd z2 _ (by omega : m < 32), hs2]
            show _ = S0 + (X i : Int) * 256 ^ i * (sumF (fun j => ((Y j : Nat) : Int)) k + (Y k : Int) * 256 ^ k)
            rw [Int.mul_add, hm, Int.pow_add, ← Int.add_assoc]
            congr 1
            simp only [Int.mul_comm, Int.mul_left_comm, Int.mul_assoc]
          have hm2 := hb2 m
          rw [eP] at hS
          obtain ⟨P, hP⟩ : ∃ P, P = X i * Y k := ⟨_, rfl⟩
          rw [← hP] at lp eP hS
          have a4 := mapL_set z2 (i := m) (by omega) (z2 m + (P : Int))
          have hN : ∀ j, 0 ≤ updF z2 m (z2 m + (P : Int)) j ∧ updF z2 m (z2 m + (P : Int)) j ≤ 65025 * (32 * (i : Int) + ((k + 1 : Nat) : Int)) := by
            intro j
            have := hb2 j
            unfold updF; split <;> omega
          obtain ⟨s, hs⟩ : ∃ s, s = z2 m + (P : Int) := ⟨_, rfl⟩
          rw [← hs] at a4 hN hS
          simp only [push_cast, Nat.reduceAdd, Nat.reduceSub, Nat.reduceMul, Nat.reduceLT, Nat.reduceLeDiff, Nat.reduceEqDiff, Nat.reduceMod, Nat.reduceDiv, Int.reduceAdd, Int.reduceSub, Int.reduceMul, Int.reduceLT, Int.reduceLE, Int.reduceEq, Int.reduceNeg, Int.reduceToNat, reduceIte, reduceCtorEq, hb3, hb4, hf1, hf2, hbz, em, i32, m32, k32, g1, g2, g3, mapL_zlen, a1, a2, a3, eP, ← hs, a4, wrap_i64' (show -9223372036854775808 ≤ (m : Int) ∧ (m : Int) ≤ 9223372036854775807 by omega), wrap_i64' (show -9223372036854775808 ≤ (P : Int) ∧ (P : Int) ≤ 9223372036854775807 by omega), wrap_i64' (show -9223372036854775808 ≤ s ∧ s ≤ 9223372036854775807 by omega), wrap_i64' (show -9223372036854775808 ≤ (k : Int) + 1 ∧ (k : Int) + 1 ≤ 9223372036854775807 by omega)]
          exact ⟨(k + 1, updF z2 m s), ⟨by dsimp only; omega, hN, hS⟩, by dsimp only; omega, rfl, rfl⟩
        · have em : (i : Int) + (k : Int) = 32 := by omega
          obtain rfl : k = 32 - i := by omega
          simp only [push_cast, Nat.reduceAdd, Nat.reduceSub, Nat.reduceMul, Nat.reduceLT, Nat.reduceLeDiff, Nat.reduceEqDiff, Nat.reduceMod, Nat.reduceDiv, Int.reduceAdd, Int.reduceSub, Int.reduceMul, Int.reduceLT, Int.reduceLE, Int.reduceEq, Int.reduceNeg, Int.reduceToNat, reduceIte, reduceCtorEq, hb3, hb4, hf1, hf2, hbz, em, wrap_i64' (show -9223372036854775808 ≤ (32 : Int) ∧ (32 : Int) ≤ 9223372036854775807 by omega), wrap_i64' (show -9223372036854775808 ≤ (i : Int) + 1 ∧ (i : Int) + 1 ≤ 9223372036854775807 by omega)]
          refine ⟨(i + 1, z2), ⟨hlt, fun j => ?_, ?_⟩, by dsimp only; omega, rfl, rfl⟩
          · dsimp only
            have := hb2 j
            omega
          · rw [hS0] at hs2
            exact rowY hlt hzr hs2
    · obtain rfl : i = 32 := by omega
      simp only [push_cast, Nat.reduceAdd, Nat.reduceSub, Nat.reduceMul, Nat.reduceLT, Nat.reduceLeDiff, Nat.reduceEqDiff, Nat.reduceMod, Nat.reduceDiv, Int.reduceAdd, Int.reduceSub, Int.reduceMul, Int.reduceLT, Int.reduceLE, Int.reduceEq, Int.reduceNeg, Int.reduceToNat, reduceIte, reduceCtorEq, hb3, hb4, hf1, hf2, hbz]
      refine (carried_ok (mapL z) bz 32 32 (mapL_len _) (Nat.le_refl _) (mapL_bnd (by decide) fun j hj => ?_)).use ?_ fun v3 N3 ho3 => ⟨ho3.wr.1, ho3.wr.2, fun hf3 => ?_⟩
      · have := hzb j
        omega
      · simp only [push_cast, Nat.reduceAdd, Nat.reduceSub, Nat.reduceMul, Nat.reduceLT, Nat.reduceLeDiff, Nat.reduceEqDiff, Nat.reduceMod, Nat.reduceDiv, Int.reduceAdd, Int.reduceSub, Int.reduceMul, Int.reduceLT, Int.reduceLE, Int.reduceEq, Int.reduceNeg, Int.reduceToNat, reduceIte, reduceCtorEq, hf1, hf2, hbz, mapL_zlen, mapL_take]
      · obtain ⟨bc, cz, rfl, hcz, -, rfl⟩ := ho3.pos (by decide)
        simp only [push_cast, Nat.reduceAdd, Nat.reduceSub, Nat.reduceMul, Nat.reduceLT, Nat.reduceLeDiff, Nat.reduceEqDiff, Nat.reduceMod, Nat.reduceDiv, Int.reduceAdd, Int.reduceSub, Int.reduceMul, Int.reduceLT, Int.reduceLE, Int.reduceEq, Int.reduceNeg, Int.reduceToNat, reduceIte, reduceCtorEq] at hf3
        simp only [push_cast, Nat.reduceAdd, Nat.reduceSub, Nat.reduceMul, Nat.reduceLT, Nat.reduceLeDiff, Nat.reduceEqDiff, Nat.reduceMod, Nat.reduceDiv, Int.reduceAdd, Int.reduceSub, Int.reduceMul, Int.reduceLT, Int.reduceLE, Int.reduceEq, Int.reduceNeg, Int.reduceToNat, reduceIte, reduceCtorEq, hb3, hb4, hf1, hf2, hbz, hf3]
        refine (fromCarried (word (sumI (mapL z) 32)) bc cz).pure ?_ ?_
        · simp only [push_cast, Nat.reduceAdd, Nat.reduceSub, Nat.reduceMul, Nat.reduceLT, Nat.reduceLeDiff, Nat.reduceEqDiff, Nat.reduceMod, Nat.reduceDiv, Int.reduceAdd, Int.reduceSub, Int.reduceMul, Int.reduceLT, Int.reduceLE, Int.reduceEq, Int.reduceNeg, Int.reduceToNat, reduceIte, reduceCtorEq, zdigs_len, zdigs_take]
        · rw [sumI_map _ (Nat.le_refl _), of_word_mul (n := x.num * y.num) (by rw [Int.natCast_mul, ← sX]; exact hzr), ← hR]
          simp only [push_cast, Nat.reduceAdd, Nat.reduceSub, Nat.reduceMul, Nat.reduceLT, Nat.reduceLeDiff, Nat.reduceEqDiff, Nat.reduceMod, Nat.reduceDiv, Int.reduceAdd, Int.reduceSub, Int.reduceMul, Int.reduceLT, Int.reduceLE, Int.reduceEq, Int.reduceNeg, Int.reduceToNat, reduceIte, reduceCtorEq, hb3, hb4, hf1, hf2, hbz, hf3]
          done
end Go.Proofs.YtndioekjgmbomaaDoor
