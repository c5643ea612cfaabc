/- Texts of this claim, merged by program: Ic Id Rp Ie If. -/
import Derived.Test.YtpcjmmdgopihcaaGreatDoorZdAj
import Derived.Test.YtpcjmmdgopihcaaGreatDoorZdAf
import Derived.Test.YtpcjmmdgopihcaaGreatDoorRows
import Derived.MakeChecks
set_option linter.unusedSimpArgs false
set_option linter.unusedVariables false
namespace Go.Proofs.YtpcjmmdgopihcaaGreatDoor
open Go Go.Ev Go.Proofs
set_option maxRecDepth 100000
set_option maxHeartbeats 4000000
theorem theta_ok {a : List Nat} (h : Ln 25 a) : CallsV Tryz.prog 109 [.agg (lnC a).toArray] [] (Ret0 (.agg (lnC (thetaK a)).toArray)) := by
  rw [thetaK_eq]
  refine callsO gI0_ok Tryz.mix Tryz.pl109 Tryz.func109 rfl Tryz.ntmps109 Tryz.results109 rfl (by first | rfl | assumption) (Nat.le_of_ble_eq_true rfl) (by kernel_rfl) ?_
  simp only [push_cast, Nat.reduceAdd, Nat.reduceSub, Nat.reduceMul, Nat.reduceLT, Nat.reduceLeDiff, Nat.reduceEqDiff, Nat.reduceMod, Nat.reduceDiv, Int.reduceAdd, Int.reduceSub, Int.reduceMul, Int.reduceLT, Int.reduceLE, Int.reduceEq, Int.reduceNeg, Int.reduceToNat, reduceIte, reduceCtorEq, Int.reduceBEq, Int.reduceBNe]
  intro b1 b2 hb2 b3 hb3
  try simp only [push_cast, Nat.reduceAdd, Nat.reduceSub, Nat.reduceMul, Nat.reduceLT, Nat.reduceLeDiff, Nat.reduceEqDiff, Nat.reduceMod, Nat.reduceDiv, Int.reduceAdd, Int.reduceSub, Int.reduceMul, Int.reduceLT, Int.reduceLE, Int.reduceEq, Int.reduceNeg, Int.reduceToNat, reduceIte, reduceCtorEq, Int.reduceBEq, Int.reduceBNe, hb2, hb3]
  refine (places_ok).use trivial ?_
  rintro _ _ ⟨rfl, rfl⟩
  refine ⟨trivial, rfl, fun hfn => ?_⟩
  simp only [push_cast, Nat.reduceAdd, Nat.reduceSub, Nat.reduceMul, Nat.reduceLT, Nat.reduceLeDiff, Nat.reduceEqDiff, Nat.reduceMod, Nat.reduceDiv, Int.reduceAdd, Int.reduceSub, Int.reduceMul, Int.reduceLT, Int.reduceLE, Int.reduceEq, Int.reduceNeg, Int.reduceToNat, reduceIte, reduceCtorEq, Int.reduceBEq, Int.reduceBNe] at hfn
  try simp only [push_cast, Nat.reduceAdd, Nat.reduceSub, Nat.reduceMul, Nat.reduceLT, Nat.reduceLeDiff, Nat.reduceEqDiff, Nat.reduceMod, Nat.reduceDiv, Int.reduceAdd, Int.reduceSub, Int.reduceMul, Int.reduceLT, Int.reduceLE, Int.reduceEq, Int.reduceNeg, Int.reduceToNat, reduceIte, reduceCtorEq, Int.reduceBEq, Int.reduceBNe, hb2, hb3]
  refine rangeO gI0_ok (pl := Tryz.pl109) Tryz.mix (Hc := []) (Hm := []) places1_ok rfl
    (X := List Nat) (fun c => [⟨b3, 0, .cel 172, lnC c⟩, ⟨b2, 0, .cel 114, lnC (List.replicate 25 0)⟩, ⟨b1, 0, .cel 114, lnC a⟩])
    (fun k c => c = thC a k) (fun _ _ => False) (List.replicate 5 0)
    rfl ?_ rfl rfl (by simp) (fun s => rfl) (fun s u e he => .inl ?_) plcV_two (by kernel_rfl) (by kernel_rfl) (fun _ _ h => h.elim) ?_ ?_ (fun _ _ _ _ h => h.elim)
  · simp only [push_cast, Nat.reduceAdd, Nat.reduceSub, Nat.reduceMul, Nat.reduceLT, Nat.reduceLeDiff, Nat.reduceEqDiff, Nat.reduceMod, Nat.reduceDiv, Int.reduceAdd, Int.reduceSub, Int.reduceMul, Int.reduceLT, Int.reduceLE, Int.reduceEq, Int.reduceNeg, Int.reduceToNat, reduceIte, reduceCtorEq, Int.reduceBEq, Int.reduceBNe, hb2, hb3]
    exact ⟨rfl, rfl⟩
  · simp at he; rcases he with rfl | rfl | rfl <;> trivial
  · rintro lo k c args hk hc
    obtain ⟨hk1, rfl⟩ := plcV_at hk
    have hcl : Ln 5 c := hc ▸ thC_ln h k
    have hcs : c.set (k % 5) (xorN (ln c (k % 5)) (ln a k)) = thC a (k + 1) := by rw [hc]; rfl
    obtain ⟨x, hx⟩ : ∃ x, x = k % 5 := ⟨_, rfl⟩
    obtain ⟨y, hy⟩ : ∃ y, y = k / 5 := ⟨_, rfl⟩
    rw [← hx] at hcs ⊢
    rw [← hy]
    have x5 : x < 5 := by omega
    have y5 : y < 5 := by omega
    have x1 : (0 : Int) ≤ x := by omega
    have x2 : (x : Int) < 5 := by omega
    have e : 5 * ((y : Int) % 5) + (x : Int) % 5 = (k : Int) := by omega
    have a1 := lnC_at (a := c) (i := x) (by rw [hcl.len]; exact x5)
    have a2 := lnC_at (a := a) (i := k) (by rw [h.len]; exact hk1)
    have a3 := xor_u64 (hcl.at x) (h.at k)
    have a4 := lnC_set (a := c) (i := x) (x := xorN (ln c x) (ln a k)) (by rw [hcl.len]; exact x5)
    have l1 : (lnC c).length = 5 := by rw [lnC_len]; exact hcl.len
    have l2 : (lnC a).length = 25 := by rw [lnC_len]; exact h.len
    have x3 : (x : Int) < 1000 := by omega
    have y1 : (0 : Int) ≤ y := by omega
    have y3 : (y : Int) < 1000 := by omega
    have k1 : (0 : Int) ≤ k := by omega
    have k2 : (k : Int) < 25 := by omega
    have k3 : k + 1 ≤ 25 := by omega
    have x4 : x + 1 ≤ 5 := by omega
    simp only [push_cast, Nat.reduceAdd, Nat.reduceSub, Nat.reduceMul, Nat.reduceLT, Nat.reduceLeDiff, Nat.reduceEqDiff, Nat.reduceMod, Nat.reduceDiv, Int.reduceAdd, Int.reduceSub, Int.reduceMul, Int.reduceLT, Int.reduceLE, Int.reduceEq, Int.reduceNeg, Int.reduceToNat, reduceIte, reduceCtorEq, Int.reduceBEq, Int.reduceBNe, hb2, hb3, x1, x2, x3, x4, x5, y1, y3, k1, k2, k3, l1, l2, e, a1, a2, a3, a4]
    exact ⟨_, hcs, rfl⟩
  · intro D c hD hc
    simp only [push_cast, Nat.reduceAdd, Nat.reduceSub, Nat.reduceMul, Nat.reduceLT, Nat.reduceLeDiff, Nat.reduceEqDiff, Nat.reduceMod, Nat.reduceDiv, Int.reduceAdd, Int.reduceSub, Int.reduceMul, Int.reduceLT, Int.reduceLE, Int.reduceEq, Int.reduceNeg, Int.reduceToNat, reduceIte, reduceCtorEq, Int.reduceBEq, Int.reduceBNe] at hD
    have hc : c = thC a 25 := by rw [← plcV_len]; exact hc
    have hcl : Ln 5 c := hc ▸ thC_ln h _
    rw [← hc]
    simp only [push_cast, Nat.reduceAdd, Nat.reduceSub, Nat.reduceMul, Nat.reduceLT, Nat.reduceLeDiff, Nat.reduceEqDiff, Nat.reduceMod, Nat.reduceDiv, Int.reduceAdd, Int.reduceSub, Int.reduceMul, Int.reduceLT, Int.reduceLE, Int.reduceEq, Int.reduceNeg, Int.reduceToNat, reduceIte, reduceCtorEq, Int.reduceBEq, Int.reduceBNe, hb2, hb3, hD]
    refine (places_ok).use trivial ?_
    rintro _ _ ⟨rfl, rfl⟩
    refine ⟨trivial, rfl, fun hfn => ?_⟩
    simp only [push_cast, Nat.reduceAdd, Nat.reduceSub, Nat.reduceMul, Nat.reduceLT, Nat.reduceLeDiff, Nat.reduceEqDiff, Nat.reduceMod, Nat.reduceDiv, Int.reduceAdd, Int.reduceSub, Int.reduceMul, Int.reduceLT, Int.reduceLE, Int.reduceEq, Int.reduceNeg, Int.reduceToNat, reduceIte, reduceCtorEq, Int.reduceBEq, Int.reduceBNe] at hfn
    try simp only [push_cast, Nat.reduceAdd, Nat.reduceSub, Nat.reduceMul, Nat.reduceLT, Nat.reduceLeDiff, Nat.reduceEqDiff, Nat.reduceMod, Nat.reduceDiv, Int.reduceAdd, Int.reduceSub, Int.reduceMul, Int.reduceLT, Int.reduceLE, Int.reduceEq, Int.reduceNeg, Int.reduceToNat, reduceIte, reduceCtorEq, Int.reduceBEq, Int.reduceBNe, hb2, hb3, hD]
    refine rangeO gI0_ok (pl := Tryz.pl109) Tryz.mix (Hc := []) (Hm := [⟨D, 0, .obj (.deferred (some [])), []⟩]) places1_ok rfl
      (X := List Nat) (fun z => [⟨b3, 0, .cel 172, lnC c⟩, ⟨b2, 0, .cel 114, lnC (List.replicate 25 0)⟩, ⟨b1, 0, .cel 114, lnC z⟩])
      (fun k z => z = thA a c k) (fun _ _ => False) a
      rfl ?_ rfl rfl (by simp [Ent.wr]) (fun s => rfl) (fun s u e he => .inl ?_) plcV_two (by kernel_rfl) (by kernel_rfl) (fun _ _ h => h.elim) ?_ ?_ (fun _ _ _ _ h => h.elim)
    · simp only [push_cast, Nat.reduceAdd, Nat.reduceSub, Nat.reduceMul, Nat.reduceLT, Nat.reduceLeDiff, Nat.reduceEqDiff, Nat.reduceMod, Nat.reduceDiv, Int.reduceAdd, Int.reduceSub, Int.reduceMul, Int.reduceLT, Int.reduceLE, Int.reduceEq, Int.reduceNeg, Int.reduceToNat, reduceIte, reduceCtorEq, Int.reduceBEq, Int.reduceBNe, hb2, hb3, hD]
      try exact subH_self _
    · simp at he; rcases he with rfl | rfl | rfl <;> trivial
    · rintro lo k z args hk hz
      obtain ⟨hk1, rfl⟩ := plcV_at hk
      have hzl : Ln 25 z := hz ▸ thA_ln h hcl k
      have hzs : (z.set k (xorN (ln z k) (xorN (ln c ((k % 5 + 4) % 5)) (rot (ln c ((k % 5 + 1) % 5)) 1)))) = thA a c (k + 1) := by rw [hz]; rfl
      obtain ⟨x, hx⟩ : ∃ x, x = k % 5 := ⟨_, rfl⟩
      obtain ⟨y, hy⟩ : ∃ y, y = k / 5 := ⟨_, rfl⟩
      rw [← hx] at hzs ⊢
      rw [← hy]
      have e : 5 * ((y : Int) % 5) + (x : Int) % 5 = (k : Int) := by omega
      obtain ⟨u, hu⟩ : ∃ u, u = (x + 4) % 5 := ⟨_, rfl⟩
      obtain ⟨v, hv⟩ : ∃ v, v = (x + 1) % 5 := ⟨_, rfl⟩
      rw [← hu, ← hv] at hzs
      have eu : ((x : Int) + 5 - 1).tmod 5 = (u : Int) := by rw [Int.tmod_eq_emod_of_nonneg (by omega)]; omega
      have ev : ((x : Int) + 1).tmod 5 = (v : Int) := by rw [Int.tmod_eq_emod_of_nonneg (by omega)]; omega
      have x5 : x < 5 := by omega
      have u5 : u < 5 := by omega
      have v5 : v < 5 := by omega
      have x1 : (0 : Int) ≤ x := by omega
      have x3 : (x : Int) < 1000 := by omega
      have y1 : (0 : Int) ≤ y := by omega
      have y3 : (y : Int) < 1000 := by omega
      have k1 : (0 : Int) ≤ k := by omega
      have k2 : (k : Int) < 25 := by omega
      have k3 : k + 1 ≤ 25 := by omega
      have u1 : (0 : Int) ≤ u := by omega
      have u2 : (u : Int) < 5 := by omega
      have u4 : u + 1 ≤ 5 := by omega
      have v1 : (0 : Int) ≤ v := by omega
      have v2 : (v : Int) < 5 := by omega
      have v4 : v + 1 ≤ 5 := by omega
      have l1 : (lnC c).length = 5 := by rw [lnC_len]; exact hcl.len
      have l2 : (lnC z).length = 25 := by rw [lnC_len]; exact hzl.len
      have a1 := lnC_at (a := c) (i := u) (by rw [hcl.len]; exact u5)
      have a2 := lnC_at (a := c) (i := v) (by rw [hcl.len]; exact v5)
      have a3 := lnC_at (a := z) (i := k) (by rw [hzl.len]; exact hk1)
      have r1 := u64_nat (hcl.at v)
      have a4 := xor_u64 (hcl.at u) (rot_lt (hcl.at v) (show 1 < 64 by decide))
      have a5 := xor_u64 (hzl.at k) (xorN_lt (hcl.at u) (rot_lt (hcl.at v) (show 1 < 64 by decide)))
      have a6 := lnC_set (a := z) (i := k) (x := xorN (ln z k) (xorN (ln c u) (rot (ln c v) 1))) (by rw [hzl.len]; exact hk1)
      simp only [push_cast, Nat.reduceAdd, Nat.reduceSub, Nat.reduceMul, Nat.reduceLT, Nat.reduceLeDiff, Nat.reduceEqDiff, Nat.reduceMod, Nat.reduceDiv, Int.reduceAdd, Int.reduceSub, Int.reduceMul, Int.reduceLT, Int.reduceLE, Int.reduceEq, Int.reduceNeg, Int.reduceToNat, reduceIte, reduceCtorEq, Int.reduceBEq, Int.reduceBNe, hb2, hb3, x1, x3, y1, y3, k1, k2, k3, u1, u2, u4, v1, v2, v4, l1, l2, e, eu, ev, wrap_i64' (show -9223372036854775808 ≤ (x : Int) + 5 ∧ (x : Int) + 5 ≤ 9223372036854775807 by omega), wrap_i64' (show -9223372036854775808 ≤ (x : Int) + 5 - 1 ∧ (x : Int) + 5 - 1 ≤ 9223372036854775807 by omega), wrap_i64' (show -9223372036854775808 ≤ (x : Int) + 1 ∧ (x : Int) + 1 ≤ 9223372036854775807 by omega), a1, a2, a3, r1, Int.toNat_natCast, a4, a5, a6, hzs]
      exact ⟨_, rfl, rfl⟩
    · intro D2 z hD2 hz
      simp only [push_cast, Nat.reduceAdd, Nat.reduceSub, Nat.reduceMul, Nat.reduceLT, Nat.reduceLeDiff, Nat.reduceEqDiff, Nat.reduceMod, Nat.reduceDiv, Int.reduceAdd, Int.reduceSub, Int.reduceMul, Int.reduceLT, Int.reduceLE, Int.reduceEq, Int.reduceNeg, Int.reduceToNat, reduceIte, reduceCtorEq, Int.reduceBEq, Int.reduceBNe] at hD2
      have hz : z = thA a c 25 := by rw [← plcV_len]; exact hz
      have hzl : Ln 25 z := hz ▸ thA_ln h hcl _
      rw [← hz]
      simp only [push_cast, Nat.reduceAdd, Nat.reduceSub, Nat.reduceMul, Nat.reduceLT, Nat.reduceLeDiff, Nat.reduceEqDiff, Nat.reduceMod, Nat.reduceDiv, Int.reduceAdd, Int.reduceSub, Int.reduceMul, Int.reduceLT, Int.reduceLE, Int.reduceEq, Int.reduceNeg, Int.reduceToNat, reduceIte, reduceCtorEq, Int.reduceBEq, Int.reduceBNe, hb2, hb3, hD, hD2, hzl.cl, lnC_take hzl, lnC_one, (Ln.zero 25).cl, lnC_drop (Ln.zero 25), List.append_nil]
theorem turn_ok {a : List Nat} (h : Ln 25 a) : CallsV Tryz.prog 108 [.agg (lnC a).toArray] [] (Ret0 (.agg (lnC (turnK a)).toArray)) := by
  rw [turnK_eq]
  have a0 := lnC_at (a := a) (i := 0) (by rw [h.len]; decide)
  rw [List.drop_zero] at a0
  have z0 := lnC_set (a := List.replicate 25 0) (i := 0) (x := ln a 0) (by decide)
  have z1 : ([.int .u64 0, .int .u64 0, .int .u64 0, .int .u64 0, .int .u64 0, .int .u64 0, .int .u64 0, .int .u64 0, .int .u64 0, .int .u64 0, .int .u64 0, .int .u64 0, .int .u64 0, .int .u64 0, .int .u64 0, .int .u64 0, .int .u64 0, .int .u64 0, .int .u64 0, .int .u64 0, .int .u64 0, .int .u64 0, .int .u64 0, .int .u64 0, .int .u64 0] : List Value) = lnC (List.replicate 25 0) := rfl
  have l2 := h.cl
  refine callsO gI0_ok Tryz.mix Tryz.pl108 Tryz.func108 rfl Tryz.ntmps108 Tryz.results108 rfl (by first | rfl | assumption) (Nat.le_of_ble_eq_true rfl) (by kernel_rfl) ?_
  simp only [push_cast, Nat.reduceAdd, Nat.reduceSub, Nat.reduceMul, Nat.reduceLT, Nat.reduceLeDiff, Nat.reduceEqDiff, Nat.reduceMod, Nat.reduceDiv, Int.reduceAdd, Int.reduceSub, Int.reduceMul, Int.reduceLT, Int.reduceLE, Int.reduceEq, Int.reduceNeg, Int.reduceToNat, reduceIte, reduceCtorEq, Int.reduceBEq, Int.reduceBNe]
  intro b1 b2 hb2
  try simp only [push_cast, Nat.reduceAdd, Nat.reduceSub, Nat.reduceMul, Nat.reduceLT, Nat.reduceLeDiff, Nat.reduceEqDiff, Nat.reduceMod, Nat.reduceDiv, Int.reduceAdd, Int.reduceSub, Int.reduceMul, Int.reduceLT, Int.reduceLE, Int.reduceEq, Int.reduceNeg, Int.reduceToNat, reduceIte, reduceCtorEq, Int.reduceBEq, Int.reduceBNe, hb2, l2, a0]
  refine loopO gI0_ok (pl := Tryz.pl108) Tryz.mix (X := Nat)
    (fun t => ([(1, .pointer (some ⟨b1, 0, none⟩)), (2, .pointer (some ⟨b2, 0, none⟩)), (3, .int .i64 (tnS a t).1), (4, .int .i64 (tnS a t).2.1), (10, .int .i64 t)], [⟨b2, 0, .cel 114, lnC (tnS a t).2.2⟩, ⟨b1, 0, .cel 114, lnC a⟩]))
    (fun t => t ≤ 24) (fun t => 24 - t) 0 ?_ ?_ (by kernel_rfl) ?_
  · exact Nat.zero_le _
  · simp only [push_cast, Nat.reduceAdd, Nat.reduceSub, Nat.reduceMul, Nat.reduceLT, Nat.reduceLeDiff, Nat.reduceEqDiff, Nat.reduceMod, Nat.reduceDiv, Int.reduceAdd, Int.reduceSub, Int.reduceMul, Int.reduceLT, Int.reduceLE, Int.reduceEq, Int.reduceNeg, Int.reduceToNat, reduceIte, reduceCtorEq, Int.reduceBEq, Int.reduceBNe, hb2]
    exact ⟨⟨rfl, rfl⟩, rfl⟩
  · intro t ht
    obtain ⟨x5, y5, hol⟩ := tnS_ok h t
    by_cases hc : t < 24
    · have hst : tnS a (t + 1) = ((tnS a t).2.1, (2 * (tnS a t).1 + 3 * (tnS a t).2.1) % 5, (tnS a t).2.2.set (5 * ((2 * (tnS a t).1 + 3 * (tnS a t).2.1) % 5) + (tnS a t).2.1) (rot (ln a (5 * (tnS a t).2.1 + (tnS a t).1)) ((t + 1) * (t + 2) / 2 % 64))) := rfl
      obtain ⟨x, hx⟩ : ∃ x, x = (tnS a t).1 := ⟨_, rfl⟩
      obtain ⟨y, hy⟩ : ∃ y, y = (tnS a t).2.1 := ⟨_, rfl⟩
      obtain ⟨o, ho⟩ : ∃ o, o = (tnS a t).2.2 := ⟨_, rfl⟩
      rw [← hx, ← hy, ← ho] at hst ⊢
      rw [← hx] at x5
      rw [← hy] at y5
      rw [← ho] at hol
      obtain ⟨nx, hnx⟩ : ∃ nx, nx = (2 * x + 3 * y) % 5 := ⟨_, rfl⟩
      obtain ⟨d, hd⟩ : ∃ d, d = 5 * nx + y := ⟨_, rfl⟩
      obtain ⟨s, hs⟩ : ∃ s, s = 5 * y + x := ⟨_, rfl⟩
      obtain ⟨q, hq⟩ : ∃ q, q = (t + 1) * (t + 2) := ⟨_, rfl⟩
      rw [← hnx, ← hd, ← hs, ← hq] at hst
      have n5 : nx < 5 := by omega
      have q1 : q ≤ 24 * 25 := by rw [hq]; exact Nat.mul_le_mul (by omega) (by omega)
      have q2 : ((t : Int) + 1) * ((t : Int) + 2) = (q : Int) := by rw [hq]; push_cast; rfl
      have q3 : (q : Int).tdiv 2 = ((q / 2 : Nat) : Int) := by rw [Int.tdiv_eq_ediv_of_nonneg (by omega)]; omega
      obtain ⟨g, hg⟩ : ∃ g, g = q / 2 := ⟨_, rfl⟩
      rw [← hg] at hst q3
      have g1 : (0 : Int) ≤ g := by omega
      have g2 : (g : Int) < 10000 := by omega
      have en : (2 * (x : Int) + 3 * (y : Int)).tmod 5 = (nx : Int) := by rw [Int.tmod_eq_emod_of_nonneg (by omega), hnx]; omega
      have e1 : 5 * ((nx : Int) % 5) + (y : Int) % 5 = (d : Int) := by rw [Int.emod_eq_of_lt (by omega) (by omega), Int.emod_eq_of_lt (by omega) (by omega), hd, Int.natCast_add, Int.natCast_mul]; rfl
      have e2 : 5 * ((y : Int) % 5) + (x : Int) % 5 = (s : Int) := by omega
      have x1 : (0 : Int) ≤ x := by omega
      have x3 : (x : Int) < 1000 := by omega
      have y1 : (0 : Int) ≤ y := by omega
      have y3 : (y : Int) < 1000 := by omega
      have n1 : (0 : Int) ≤ nx := by omega
      have n3 : (nx : Int) < 1000 := by omega
      have d1 : (0 : Int) ≤ d := by omega
      have d2 : (d : Int) < 25 := by omega
      have d3 : d + 1 ≤ 25 := by omega
      have s1 : (0 : Int) ≤ s := by omega
      have s2 : (s : Int) < 25 := by omega
      have s3 : s + 1 ≤ 25 := by omega
      have t1 : (t : Int) < 24 := by omega
      have l3 := hol.cl
      have a1 := lnC_at (a := a) (i := s) (by rw [h.len]; omega)
      have r1 := u64_nat (h.at s)
      have a2 := lnC_set (a := o) (i := d) (x := rot (ln a s) (g % 64)) (by rw [hol.len]; omega)
      simp only [push_cast, Nat.reduceAdd, Nat.reduceSub, Nat.reduceMul, Nat.reduceLT, Nat.reduceLeDiff, Nat.reduceEqDiff, Nat.reduceMod, Nat.reduceDiv, Int.reduceAdd, Int.reduceSub, Int.reduceMul, Int.reduceLT, Int.reduceLE, Int.reduceEq, Int.reduceNeg, Int.reduceToNat, reduceIte, reduceCtorEq, Int.reduceBEq, Int.reduceBNe, hb2, hc, t1, wrap_i64' (show -9223372036854775808 ≤ 2 * (x : Int) ∧ 2 * (x : Int) ≤ 9223372036854775807 by omega), wrap_i64' (show -9223372036854775808 ≤ 3 * (y : Int) ∧ 3 * (y : Int) ≤ 9223372036854775807 by omega), wrap_i64' (show -9223372036854775808 ≤ 2 * (x : Int) + 3 * (y : Int) ∧ 2 * (x : Int) + 3 * (y : Int) ≤ 9223372036854775807 by omega), en, e1, e2, x1, x3, y1, y3, n1, n3, d1, d2, d3, s1, s2, s3, wrap_i64' (show -9223372036854775808 ≤ (t : Int) + 1 ∧ (t : Int) + 1 ≤ 9223372036854775807 by omega), wrap_i64' (show -9223372036854775808 ≤ (t : Int) + 2 ∧ (t : Int) + 2 ≤ 9223372036854775807 by omega), q2, wrap_i64' (show -9223372036854775808 ≤ (q : Int) ∧ (q : Int) ≤ 9223372036854775807 by omega), q3, wrap_i64' (show -9223372036854775808 ≤ (g : Int) ∧ (g : Int) ≤ 9223372036854775807 by omega), g1, g2, l2, l3, a1, r1, Int.toNat_natCast, a2]
      exact ⟨t + 1, hc, by omega, by rw [hst]; exact ⟨rfl, rfl, rfl⟩, by rw [hst]⟩
    · obtain rfl : t = 24 := by omega
      have t1 : ¬ ((24 : Nat) : Int) < 24 := by omega
      simp only [push_cast, Nat.reduceAdd, Nat.reduceSub, Nat.reduceMul, Nat.reduceLT, Nat.reduceLeDiff, Nat.reduceEqDiff, Nat.reduceMod, Nat.reduceDiv, Int.reduceAdd, Int.reduceSub, Int.reduceMul, Int.reduceLT, Int.reduceLE, Int.reduceEq, Int.reduceNeg, Int.reduceToNat, reduceIte, reduceCtorEq, Int.reduceBEq, Int.reduceBNe, hb2, hc, t1, hol.cl, lnC_take hol, lnC_one, lnC_drop hol, List.append_nil]
theorem chi_ok {a : List Nat} (h : Ln 25 a) : CallsV Tryz.prog 107 [.agg (lnC a).toArray] [] (Ret0 (.agg (lnC (chiK a)).toArray)) := by
  rw [chiK_eq]
  have l2 := h.cl
  refine callsO gI0_ok Tryz.mix Tryz.pl107 Tryz.func107 rfl Tryz.ntmps107 Tryz.results107 rfl (by first | rfl | assumption) (Nat.le_of_ble_eq_true rfl) (by kernel_rfl) ?_
  simp only [push_cast, Nat.reduceAdd, Nat.reduceSub, Nat.reduceMul, Nat.reduceLT, Nat.reduceLeDiff, Nat.reduceEqDiff, Nat.reduceMod, Nat.reduceDiv, Int.reduceAdd, Int.reduceSub, Int.reduceMul, Int.reduceLT, Int.reduceLE, Int.reduceEq, Int.reduceNeg, Int.reduceToNat, reduceIte, reduceCtorEq, Int.reduceBEq, Int.reduceBNe]
  intro b1 b2 hb2
  try simp only [push_cast, Nat.reduceAdd, Nat.reduceSub, Nat.reduceMul, Nat.reduceLT, Nat.reduceLeDiff, Nat.reduceEqDiff, Nat.reduceMod, Nat.reduceDiv, Int.reduceAdd, Int.reduceSub, Int.reduceMul, Int.reduceLT, Int.reduceLE, Int.reduceEq, Int.reduceNeg, Int.reduceToNat, reduceIte, reduceCtorEq, Int.reduceBEq, Int.reduceBNe, hb2]
  refine (places_ok).use trivial ?_
  rintro _ _ ⟨rfl, rfl⟩
  refine ⟨trivial, rfl, fun hfn => ?_⟩
  simp only [push_cast, Nat.reduceAdd, Nat.reduceSub, Nat.reduceMul, Nat.reduceLT, Nat.reduceLeDiff, Nat.reduceEqDiff, Nat.reduceMod, Nat.reduceDiv, Int.reduceAdd, Int.reduceSub, Int.reduceMul, Int.reduceLT, Int.reduceLE, Int.reduceEq, Int.reduceNeg, Int.reduceToNat, reduceIte, reduceCtorEq, Int.reduceBEq, Int.reduceBNe] at hfn
  try simp only [push_cast, Nat.reduceAdd, Nat.reduceSub, Nat.reduceMul, Nat.reduceLT, Nat.reduceLeDiff, Nat.reduceEqDiff, Nat.reduceMod, Nat.reduceDiv, Int.reduceAdd, Int.reduceSub, Int.reduceMul, Int.reduceLT, Int.reduceLE, Int.reduceEq, Int.reduceNeg, Int.reduceToNat, reduceIte, reduceCtorEq, Int.reduceBEq, Int.reduceBNe, hb2]
  refine rangeO gI0_ok (pl := Tryz.pl107) Tryz.mix (Hc := []) (Hm := []) places1_ok rfl
    (X := List Nat) (fun c => [⟨b2, 0, .cel 114, lnC c⟩, ⟨b1, 0, .cel 114, lnC a⟩])
    (fun k c => c = chS a k) (fun _ _ => False) (List.replicate 25 0)
    rfl ?_ rfl rfl (by simp) (fun s => rfl) (fun s u e he => .inl ?_) plcV_two (by kernel_rfl) (by kernel_rfl) (fun _ _ h => h.elim) ?_ ?_ (fun _ _ _ _ h => h.elim)
  · simp only [push_cast, Nat.reduceAdd, Nat.reduceSub, Nat.reduceMul, Nat.reduceLT, Nat.reduceLeDiff, Nat.reduceEqDiff, Nat.reduceMod, Nat.reduceDiv, Int.reduceAdd, Int.reduceSub, Int.reduceMul, Int.reduceLT, Int.reduceLE, Int.reduceEq, Int.reduceNeg, Int.reduceToNat, reduceIte, reduceCtorEq, Int.reduceBEq, Int.reduceBNe, hb2]
    try exact rfl
  · simp at he; rcases he with rfl | rfl <;> trivial
  · rintro lo k c args hk hc
    obtain ⟨hk1, rfl⟩ := plcV_at hk
    have hcl : Ln 25 c := hc ▸ chS_ln h k
    have hcs : c.set k (xorN (ln a k) (anN (ln a (5 * (k / 5) + (k % 5 + 2) % 5)) (ln a (5 * (k / 5) + (k % 5 + 1) % 5)))) = chS a (k + 1) := by rw [hc]; rfl
    obtain ⟨x, hx⟩ : ∃ x, x = k % 5 := ⟨_, rfl⟩
    obtain ⟨y, hy⟩ : ∃ y, y = k / 5 := ⟨_, rfl⟩
    rw [← hx, ← hy] at hcs ⊢
    obtain ⟨u, hu⟩ : ∃ u, u = 5 * y + (x + 2) % 5 := ⟨_, rfl⟩
    obtain ⟨v, hv⟩ : ∃ v, v = 5 * y + (x + 1) % 5 := ⟨_, rfl⟩
    rw [← hu, ← hv] at hcs
    have x5 : x < 5 := by omega
    have y5 : y < 5 := by omega
    have e : 5 * ((y : Int) % 5) + (x : Int) % 5 = (k : Int) := by omega
    have eu : 5 * ((y : Int) % 5) + ((x : Int) + 2) % 5 = (u : Int) := by omega
    have ev : 5 * ((y : Int) % 5) + ((x : Int) + 1) % 5 = (v : Int) := by omega
    have x1 : (0 : Int) ≤ x := by omega
    have x3 : (x : Int) < 1000 := by omega
    have x6 : (0 : Int) ≤ (x : Int) + 2 := by omega
    have x7 : (x : Int) + 2 < 1000 := by omega
    have x8 : (0 : Int) ≤ (x : Int) + 1 := by omega
    have x9 : (x : Int) + 1 < 1000 := by omega
    have y1 : (0 : Int) ≤ y := by omega
    have y3 : (y : Int) < 1000 := by omega
    have k1 : (0 : Int) ≤ k := by omega
    have k2 : (k : Int) < 25 := by omega
    have k3 : k + 1 ≤ 25 := by omega
    have u1 : (0 : Int) ≤ u := by omega
    have u2 : (u : Int) < 25 := by omega
    have u3 : u + 1 ≤ 25 := by omega
    have v1 : (0 : Int) ≤ v := by omega
    have v2 : (v : Int) < 25 := by omega
    have v3 : v + 1 ≤ 25 := by omega
    have l3 := hcl.cl
    have a1 := lnC_at (a := a) (i := k) (by rw [h.len]; exact hk1)
    have a2 := lnC_at (a := a) (i := u) (by rw [h.len]; omega)
    have a3 := lnC_at (a := a) (i := v) (by rw [h.len]; omega)
    have a4 := an_u64 (h.at u) (h.at v)
    have a5 := xor_u64 (h.at k) (anN_lt (y := ln a v) (h.at u))
    have a6 := lnC_set (a := c) (i := k) (x := xorN (ln a k) (anN (ln a u) (ln a v))) (by rw [hcl.len]; exact hk1)
    simp only [push_cast, Nat.reduceAdd, Nat.reduceSub, Nat.reduceMul, Nat.reduceLT, Nat.reduceLeDiff, Nat.reduceEqDiff, Nat.reduceMod, Nat.reduceDiv, Int.reduceAdd, Int.reduceSub, Int.reduceMul, Int.reduceLT, Int.reduceLE, Int.reduceEq, Int.reduceNeg, Int.reduceToNat, reduceIte, reduceCtorEq, Int.reduceBEq, Int.reduceBNe, hb2, x1, x3, x6, x7, x8, x9, y1, y3, k1, k2, k3, u1, u2, u3, v1, v2, v3, l2, l3, wrap_i64' (show -9223372036854775808 ≤ (x : Int) + 2 ∧ (x : Int) + 2 ≤ 9223372036854775807 by omega), wrap_i64' (show -9223372036854775808 ≤ (x : Int) + 1 ∧ (x : Int) + 1 ≤ 9223372036854775807 by omega), e, eu, ev, a1, a2, a3, a4, a5, a6, hcs]
    exact ⟨_, rfl, rfl⟩
  · intro D c hD hc
    simp only [push_cast, Nat.reduceAdd, Nat.reduceSub, Nat.reduceMul, Nat.reduceLT, Nat.reduceLeDiff, Nat.reduceEqDiff, Nat.reduceMod, Nat.reduceDiv, Int.reduceAdd, Int.reduceSub, Int.reduceMul, Int.reduceLT, Int.reduceLE, Int.reduceEq, Int.reduceNeg, Int.reduceToNat, reduceIte, reduceCtorEq, Int.reduceBEq, Int.reduceBNe] at hD
    have hc : c = chS a 25 := by rw [← plcV_len]; exact hc
    have hcl : Ln 25 c := hc ▸ chS_ln h _
    rw [← hc]
    simp only [push_cast, Nat.reduceAdd, Nat.reduceSub, Nat.reduceMul, Nat.reduceLT, Nat.reduceLeDiff, Nat.reduceEqDiff, Nat.reduceMod, Nat.reduceDiv, Int.reduceAdd, Int.reduceSub, Int.reduceMul, Int.reduceLT, Int.reduceLE, Int.reduceEq, Int.reduceNeg, Int.reduceToNat, reduceIte, reduceCtorEq, Int.reduceBEq, Int.reduceBNe, hb2, hD, hcl.cl, lnC_take hcl, lnC_one, lnC_drop hcl, List.append_nil]
end Go.Proofs.YtpcjmmdgopihcaaGreatDoor
set_option linter.unusedSimpArgs false
set_option linter.unusedVariables false
namespace Go.Ev
theorem lnC_get {a : List Nat} {i : Nat} (h : i < a.length) : (lnC a)[i]? = some (.int .u64 (ln a i : Nat)) := by
  unfold lnC ln
  rw [List.getElem?_map, List.getD_eq_getElem?_getD, List.getElem?_eq_getElem h]; rfl
def KonR (M : Hp) : Prop := cellsAt M 0 0 24 = some (lnC consK)
theorem KonR.congr {A B : Hp} (h : cellsAt A = cellsAt B) (hk : KonR A) : KonR B := by unfold KonR at hk ⊢; rw [← h]; exact hk
theorem KonR.open {M : Hp} (h : KonR M) : ∃ kd cs, findE M 0 = some ⟨0, 0, kd, cs⟩ ∧ 24 ≤ cs.length ∧ List.take 24 cs = lnC consK := by
  unfold KonR cellsAt at h
  cases he : findE M 0 with
  | none => rw [he] at h; cases h
  | some e =>
    rw [he] at h
    have hb := (findE_mem he).2
    obtain ⟨b, f, kd, cs⟩ := e
    dsimp only at hb h
    subst hb
    by_cases hf : f ≤ 0
    · obtain rfl := Nat.le_zero.1 hf
      rw [if_pos hf] at h
      unfold subL at h
      split at h
      · rename_i h2
        refine ⟨kd, cs, rfl, by omega, ?_⟩
        have := Option.some.inj h
        rw [Nat.sub_self, List.drop_zero] at this
        exact this
      · cases h
    · rw [if_neg hf] at h; cases h
end Go.Ev
namespace Go.Proofs.YtpcjmmdgopihcaaGreatDoor
open Go Go.Ev Go.Proofs
set_option maxRecDepth 100000
set_option maxHeartbeats 4000000
theorem perm_ok {M : Hp} {a : List Nat} (h : Ln 25 a) (hk : KonR M) (hm : marksOf M = []) : CallsV Tryz.prog 83 [.agg (lnC a).toArray] M (Ret0 (.agg (lnC (permK a)).toArray)) := by
  obtain ⟨kd, cs, he, hcl, hct⟩ := hk.open
  rw [permK_eq]
  have l2 := h.cl
  refine callsO gI0_ok Tryz.mix Tryz.pl83 Tryz.func83 rfl Tryz.ntmps83 Tryz.results83 rfl (by first | rfl | assumption) (Nat.le_of_ble_eq_true rfl) (by kernel_rfl) ?_
  simp only [push_cast, Nat.reduceAdd, Nat.reduceSub, Nat.reduceMul, Nat.reduceLT, Nat.reduceLeDiff, Nat.reduceEqDiff, Nat.reduceMod, Nat.reduceDiv, Int.reduceAdd, Int.reduceSub, Int.reduceMul, Int.reduceLT, Int.reduceLE, Int.reduceEq, Int.reduceNeg, Int.reduceToNat, reduceIte, reduceCtorEq, Int.reduceBEq, Int.reduceBNe]
  intro b1 hb1 b2 hb2
  have d1 := (fresh_findS hb1 he).2
  have d2 := (fresh_findS hb2.2.2 he).2
  try simp only [push_cast, Nat.reduceAdd, Nat.reduceSub, Nat.reduceMul, Nat.reduceLT, Nat.reduceLeDiff, Nat.reduceEqDiff, Nat.reduceMod, Nat.reduceDiv, Int.reduceAdd, Int.reduceSub, Int.reduceMul, Int.reduceLT, Int.reduceLE, Int.reduceEq, Int.reduceNeg, Int.reduceToNat, reduceIte, reduceCtorEq, Int.reduceBEq, Int.reduceBNe, hb1, hb2, he, d1, d2, hcl, hct]
  refine loopO gI0_ok (pl := Tryz.pl83) Tryz.mix (X := Nat)
    (fun k => ([(1, .pointer (some ⟨b1, 0, none⟩)), (2, .pointer (some ⟨b2, 0, none⟩)), (5, .agg (lnC consK).toArray), (6, .int .i64 k)], ⟨b2, 0, .cel 114, lnC (List.replicate 25 0)⟩ :: ⟨b1, 0, .cel 114, lnC (pmS a k)⟩ :: M))
    (fun k => k ≤ 24) (fun k => 24 - k) 0 ?_ ?_ (by kernel_rfl) ?_
  · exact Nat.zero_le _
  · simp only [push_cast, Nat.reduceAdd, Nat.reduceSub, Nat.reduceMul, Nat.reduceLT, Nat.reduceLeDiff, Nat.reduceEqDiff, Nat.reduceMod, Nat.reduceDiv, Int.reduceAdd, Int.reduceSub, Int.reduceMul, Int.reduceLT, Int.reduceLE, Int.reduceEq, Int.reduceNeg, Int.reduceToNat, reduceIte, reduceCtorEq, Int.reduceBEq, Int.reduceBNe, hb2]
    exact ⟨rfl, rfl⟩
  · intro k hk2
    have hA := pmS_ln h k
    by_cases hc : k < 24
    · have hst : pmS a (k + 1) = (chiK (turnK (thetaK (pmS a k)))).set 0 (xorN (ln (chiK (turnK (thetaK (pmS a k)))) 0) (ln consK k)) := rfl
      have k1 : (k : Int) < 24 := by omega
      have k0 : (0 : Int) ≤ k := by omega
      have k3 : k + 1 ≤ 24 := by omega
      have c0 := lnC_get (a := consK) (i := k) hc
      have cl := lnC_len consK
      have c1 := consK_at k
      obtain ⟨cs0, hcs0⟩ : ∃ x, x = lnC consK := ⟨_, rfl⟩
      obtain ⟨ck, hck⟩ : ∃ x, x = ln consK k := ⟨_, rfl⟩
      rw [← hcs0, ← hck] at c0
      rw [← hcs0] at cl ⊢
      rw [← hck] at c1 hst
      have cl2 : cs0.length = 24 := cl.trans rfl
      obtain ⟨A, hAe⟩ : ∃ A, A = pmS a k := ⟨_, rfl⟩
      rw [← hAe] at hA hst ⊢
      have hB := thetaK_ln hA
      have hC := turnK_ln hB
      have hD := chiK_ln hC
      simp only [push_cast, Nat.reduceAdd, Nat.reduceSub, Nat.reduceMul, Nat.reduceLT, Nat.reduceLeDiff, Nat.reduceEqDiff, Nat.reduceMod, Nat.reduceDiv, Int.reduceAdd, Int.reduceSub, Int.reduceMul, Int.reduceLT, Int.reduceLE, Int.reduceEq, Int.reduceNeg, Int.reduceToNat, reduceIte, reduceCtorEq, Int.reduceBEq, Int.reduceBNe, hb1, hb2, hc, k0, k1, k3, c0, cl2, hA.cl, lnC_take hA]
      refine (theta_ok hA).pure trivial ?_
      simp only [push_cast, Nat.reduceAdd, Nat.reduceSub, Nat.reduceMul, Nat.reduceLT, Nat.reduceLeDiff, Nat.reduceEqDiff, Nat.reduceMod, Nat.reduceDiv, Int.reduceAdd, Int.reduceSub, Int.reduceMul, Int.reduceLT, Int.reduceLE, Int.reduceEq, Int.reduceNeg, Int.reduceToNat, reduceIte, reduceCtorEq, Int.reduceBEq, Int.reduceBNe, hb1, hb2]
      refine (turn_ok hB).pure trivial ?_
      simp only [push_cast, Nat.reduceAdd, Nat.reduceSub, Nat.reduceMul, Nat.reduceLT, Nat.reduceLeDiff, Nat.reduceEqDiff, Nat.reduceMod, Nat.reduceDiv, Int.reduceAdd, Int.reduceSub, Int.reduceMul, Int.reduceLT, Int.reduceLE, Int.reduceEq, Int.reduceNeg, Int.reduceToNat, reduceIte, reduceCtorEq, Int.reduceBEq, Int.reduceBNe, hb1, hb2]
      refine (chi_ok hC).pure trivial ?_
      have d0 := lnC_at (a := chiK (turnK (thetaK A))) (i := 0) (by rw [hD.len]; decide)
      have d9 := lnC_set (a := chiK (turnK (thetaK A))) (i := 0) (x := xorN (ln (chiK (turnK (thetaK A))) 0) ck) (by rw [hD.len]; decide)
      rw [List.drop_zero] at d0
      rw [List.take_zero, List.nil_append] at d9
      have d3 := xor_u64 (hD.at 0) c1
      simp only [push_cast, Nat.reduceAdd, Nat.reduceSub, Nat.reduceMul, Nat.reduceLT, Nat.reduceLeDiff, Nat.reduceEqDiff, Nat.reduceMod, Nat.reduceDiv, Int.reduceAdd, Int.reduceSub, Int.reduceMul, Int.reduceLT, Int.reduceLE, Int.reduceEq, Int.reduceNeg, Int.reduceToNat, reduceIte, reduceCtorEq, Int.reduceBEq, Int.reduceBNe, hb1, hb2, hA.cl, hD.cl, lnC_one, lnC_drop hA, List.append_nil, d0, d3, wrap_i64' (show -9223372036854775808 ≤ (k : Int) + 1 ∧ (k : Int) + 1 ≤ 9223372036854775807 by omega)]
      exact ⟨k + 1, hc, by omega, rfl, by rw [hst, ← d9]⟩
    · obtain rfl : k = 24 := by omega
      have t1 : ¬ ((24 : Nat) : Int) < 24 := by omega
      simp only [push_cast, Nat.reduceAdd, Nat.reduceSub, Nat.reduceMul, Nat.reduceLT, Nat.reduceLeDiff, Nat.reduceEqDiff, Nat.reduceMod, Nat.reduceDiv, Int.reduceAdd, Int.reduceSub, Int.reduceMul, Int.reduceLT, Int.reduceLE, Int.reduceEq, Int.reduceNeg, Int.reduceToNat, reduceIte, reduceCtorEq, Int.reduceBEq, Int.reduceBNe, hb1, hb2, hc, t1, hA.cl, lnC_take hA, lnC_one, (Ln.zero 25).cl, lnC_drop (Ln.zero 25), List.append_nil]
end Go.Proofs.YtpcjmmdgopihcaaGreatDoor
set_option linter.unusedSimpArgs false
set_option linter.unusedVariables false
namespace Go.Ev
theorem trod_int_inv {H : Type} {enc : TypeId × Value → H} {P : Program} {w : World} {base : Nat} {sp : Nat → Bool} {held : Bool} {fuel : Nat} {e : TypeId} {k : IntKind} {cs : List Value} {n : Int} {p : List MemPlace}
    (he : P.underlying e = some (.int k)) (h : DataW.trod enc P w base sp held fuel e cs = some (.lit (.int k n), p)) : cs = [.int k n] := by
  cases fuel with
  | zero => simp [DataW.trod] at h
  | succ f =>
    unfold DataW.trod at h
    rw [he] at h
    split at h <;> first | cases h | skip
    all_goals try (rename_i heq; cases heq)
    all_goals try (split at h <;> first | cases h | skip)
    all_goals first | (rename_i hh; obtain ⟨rfl, _⟩ := hh; rfl) | skip
theorem trod_ints_inv {H : Type} {enc : TypeId × Value → H} {P : Program} {w : World} {base : Nat} {sp : Nat → Bool} {held : Bool} {fuel : Nat} {t e : TypeId} {N : Nat} {k : IntKind} {cs : List Value} {ns : List Int} {p : List MemPlace}
    (ht : P.underlying t = some (.array N e)) (he : P.underlying e = some (.int k)) (hc : P.cellsOf e = 1) (hn : P.cellsOf t = N)
    (h : DataW.trod enc P w base sp held fuel t cs = some (.agg (ns.map fun n => .lit (.int k n)), p)) : cs = ns.map fun n => .int k n := by
  cases fuel with
  | zero => simp [DataW.trod] at h
  | succ f =>
    unfold DataW.trod at h
    rw [ht] at h
    dsimp only at h
    split at h
    case isFalse => cases h
    rename_i hl
    obtain ⟨xs, hxs, hx⟩ := Option.map_eq_some_iff.1 h
    injection hx with hx1 hx2
    injection hx1 with hx1
    have hlen := mapM_some_length hxs
    rw [List.length_range] at hlen
    have hl2 : ns.length = N := by
      have h9 := congrArg List.length hx1
      rw [List.length_map, List.length_map] at h9
      omega
    refine List.ext_getElem (by rw [List.length_map, hl2, hl, hn]) fun i h1 h2 => ?_
    have hiN : i < N := by rw [hl, hn] at h1; exact h1
    have hg := mapM_some_get hxs i i (by simp [hiN])
    have hxi : xs[i]? = some xs[i] := List.getElem?_eq_getElem (by omega)
    rw [hxi, hc, Nat.mul_one] at hg
    have hfst : (xs[i]'(by omega)).1 = .lit (.int k (ns[i]'(by omega))) := by
      have := congrArg (fun l => l[i]?) hx1
      simp only [List.getElem?_map, hxi, List.getElem?_eq_getElem (show i < ns.length by omega), Option.map_some, Option.some.injEq] at this
      exact this
    obtain ⟨q, hq⟩ : ∃ q, xs[i]'(by omega) = (.lit (.int k (ns[i]'(by omega))), q) := ⟨_, Prod.ext hfst rfl⟩
    rw [hq] at hg
    have h3 := trod_int_inv he hg
    have h4 : List.take 1 (List.drop i cs) = [cs[i]] := by
      rw [List.drop_eq_getElem_cons h1]; rfl
    rw [h4] at h3
    injection h3 with h3
    rw [h3, List.getElem_map]
theorem laidVars_mem {P : Program} {w : World} : ∀ {l : List (String × DataW Unit)} {ps : List MemPlace}, DataW.LaidVars P w l ps → ∀ x ∈ l, ∃ g t cs fuel p, P.globalNamed x.1 = some g ∧ (P.globals[g]?).map (·.type) = some t ∧ w.var? P x.1 = some cs ∧ DataW.trod (fun _ => ()) P w 0 (fun _ => true) false fuel t cs.toList = some (x.2, p)
  | [], _, _, x, hx => by cases hx
  | (n, d) :: r, ps, h, x, hx => by
    obtain ⟨g, t, cs, fuel, p, q, h1, h2, h3, h4, h5, -⟩ := h
    rcases List.mem_cons.1 hx with rfl | hx
    · exact ⟨g, t, cs, fuel, p, h1, h2, h3, h4⟩
    · exact laidVars_mem h5 x hx
end Go.Ev
namespace Go.Ev
open Go.ChangeShapes Go.WideShapes Go.ChangeAt Go.RowKit
section
variable {H : Type} {enc : TypeId × Value → H} {P : Program} {w : World} {base : Nat} {spare : Nat → Bool} {held : Bool} {T : TypeId → Prop}
end
end Go.Ev
namespace Go.Proofs.YtpcjmmdgopihcaaGreatDoor
open Go Go.Ev Go.Proofs Go.ChangeShapes Go.WideShapes Go.ChangeAt Go.RowKit
set_option maxRecDepth 100000
set_option maxHeartbeats 4000000
theorem konR_of {W : World} {laid : List (String × DataW Unit)} (h : laidMetH Tryz.prog laid W) (hp : (laid.all fun x => x.2.handleName?.isNone) = true) (hm : ("railhead/keccak.constants", Rows.laid_railhead_keccak_constants) ∈ laid) : KonR (roW W) := by
  rw [MakeChecks.laidMetH_plain _ _ _ hp] at h
  obtain ⟨ps, h1, -, -⟩ := h
  obtain ⟨g, t, cs, fuel, p, hg, ht, hv, hd⟩ := laidVars_mem h1 _ hm
  have hg0 : Tryz.prog.globalNamed "railhead/keccak.constants" = some 0 := by kernel_rfl
  dsimp only at hg hv hd
  rw [hg0] at hg
  cases hg
  have ht0 : ((Tryz.prog.globals[0]?).map (·.type)) = some 135 := by kernel_rfl
  rw [ht0] at ht
  cases ht
  have hd2 : DataW.trod (fun _ => ()) Tryz.prog W 0 (fun _ => true) false fuel 135 cs.toList = some (.agg ((consK.map (fun n : Nat => (n : Int))).map fun n => .lit (.int .u64 n)), p) := hd
  have hcs := trod_ints_inv (e := 26) (N := 24) (by kernel_rfl) (by kernel_rfl) (by kernel_rfl) (by kernel_rfl) hd2
  unfold World.var? at hv
  rw [hg0] at hv
  simp only [Option.bind_some] at hv
  unfold KonR cellsAt
  cases hh : W.heap[0]? with
  | none => rw [hh] at hv; cases hv
  | some o =>
    have hlt : 0 < W.heap.size := (Array.getElem?_eq_some_iff.1 hh).1
    rw [hh] at hv
    cases o <;> first | cases hv | skip
    rw [roW_find hlt]
    unfold blkE
    rw [hh]
    dsimp only
    rw [hcs, if_pos (Nat.le_refl _)]
    simp only [Nat.sub_self]
    rfl
end Go.Proofs.YtpcjmmdgopihcaaGreatDoor
set_option linter.unusedSimpArgs false
set_option linter.unusedVariables false
namespace Go.Ev
def byC (x : UInt8) : List Value := [.int .u8 x.toNat]
theorem byC_len (x : UInt8) : (byC x).length = 1 := rfl
theorem byV_len (l : List UInt8) : (byteV l).length = l.length := by unfold byteV; rw [List.length_map]
theorem byV_flat (l : List UInt8) : l.flatMap byC = byteV l := by
  induction l with
  | nil => rfl
  | cons x r ih => rw [List.flatMap_cons, ih]; rfl
def lowN : List UInt8 → Nat
  | [] => 0
  | x :: r => x.toNat + 256 * lowN r
theorem lowN_lt : ∀ (r : List UInt8), lowN r < 256 ^ r.length
  | [] => by decide
  | x :: r => by
    have h := lowN_lt r
    have hx := x.toNat_lt
    rw [List.length_cons, Nat.pow_succ]
    show x.toNat + 256 * lowN r < _
    have : 256 * (lowN r + 1) ≤ 256 * 256 ^ r.length := Nat.mul_le_mul_left _ h
    rw [Nat.mul_comm (256 ^ r.length)]
    omega
theorem lowN_take (r : List UInt8) : ∀ {i : Nat} (h : i < r.length), lowN (r.take (i + 1)) = lowN (r.take i) + (r[i]).toNat * 256 ^ i := by
  induction r with
  | nil => intro i h; exact absurd h (Nat.not_lt_zero _)
  | cons x r ih =>
    intro i h
    cases i with
    | zero => simp [lowN]
    | succ i =>
      simp only [List.take_succ_cons, lowN, List.getElem_cons_succ]
      have e : ∀ a p : Nat, 256 * (a * p) = a * (p * 256) := fun a p => by rw [← Nat.mul_assoc, Nat.mul_comm 256 a, Nat.mul_assoc, Nat.mul_comm 256 p]
      rw [ih (by simpa using h), Nat.pow_succ, Nat.mul_add, e, Nat.add_assoc]
theorem or_shl8 {x c r : Nat} (hr : r < 8) (hx : x < 256 ^ r) (hc : c < 256) : bitsI .or .u64 (x : Int) (shlI .u64 (c : Int) (8 * (r : Int))) = ((x + c * 256 ^ r : Nat) : Int) ∧ x + c * 256 ^ r < 18446744073709551616 := by
  have e8 : (256 : Nat) ^ r = 2 ^ (8 * r) := by rw [Nat.pow_mul]
  have hle : (256 : Nat) ^ r ≤ 256 ^ 7 := Nat.pow_le_pow_right (by decide) (by omega)
  have hc2 : c * 256 ^ r ≤ 255 * 256 ^ r := Nat.mul_le_mul_right _ (by omega)
  have hlt : x + c * 256 ^ r < 256 * 256 ^ r := by omega
  have h64 : 256 * 256 ^ r ≤ 18446744073709551616 := by
    have := Nat.mul_le_mul_left 256 hle
    exact Nat.le_trans this (by decide)
  refine ⟨?_, by omega⟩
  have es : shlI .u64 (c : Int) (8 * (r : Int)) = ((c * 256 ^ r : Nat) : Int) := by
    unfold shlI
    rw [IntKind.wrap_u64, show (8 * (r : Int)).toNat = 8 * r by omega, show min (8 * r) IntKind.u64.bits = 8 * r by show min (8 * r) 64 = 8 * r; omega]
    rw [show (2 : Int) ^ (8 * r) = ((256 ^ r : Nat) : Int) by rw [e8, Int.natCast_pow]; rfl, ← Int.natCast_mul]
    omega
  rw [es]
  have h := bits_or_u64_nat x (c * 256 ^ r) (by omega) (by omega)
  have e : x ||| c * 256 ^ r = x + c * 256 ^ r := by
    rw [Nat.or_comm, Nat.mul_comm, e8, ← Nat.two_pow_add_eq_or_of_lt (by rw [← e8]; exact hx), Nat.add_comm]
  rw [e] at h
  exact h
def padJ (l : List UInt8) (j : Nat) : List UInt8 := l ++ 1 :: List.replicate j 0
theorem padJ_0 (l : List UInt8) : padJ l 0 = l ++ [1] := rfl
theorem padJ_s (l : List UInt8) (j : Nat) : padJ l (j + 1) = padJ l j ++ [0] := by
  unfold padJ
  rw [List.replicate_succ', List.append_assoc, List.cons_append]
theorem padJ_len (l : List UInt8) (j : Nat) : (padJ l j).length = l.length + 1 + j := by
  unfold padJ
  rw [List.length_append, List.length_cons, List.length_replicate]; omega
theorem byV_at {a : List UInt8} {i : Nat} (h : i < a.length) : List.take 1 (List.drop i (byteV a)) = [.int .u8 ((a.getD i 0).toNat : Nat)] := by
  unfold byteV
  rw [← List.map_drop, ← List.map_take, List.drop_eq_getElem_cons h, List.take_succ_cons, List.take_zero, List.map_cons, List.map_nil, List.getD_eq_getElem?_getD, List.getElem?_eq_getElem h, Option.getD_some]
theorem byV_set {a : List UInt8} {i : Nat} {x : UInt8} (h : i < a.length) : List.take i (byteV a) ++ .int .u8 (x.toNat : Nat) :: List.drop (i + 1) (byteV a) = byteV (a.set i x) := by
  unfold byteV
  rw [List.set_eq_take_append_cons_drop, if_pos h, List.map_append, List.map_cons, List.map_take, List.map_drop]
def padJ_many (n : Nat) : Nat := (136 - (n + 1) % 136) % 136
def orL (L : List UInt8) : List UInt8 := L.set (L.length - 1) (L.getD (L.length - 1) 0 ||| 128)
noncomputable def padK (l : List UInt8) : List UInt8 := orL (padJ l (padJ_many l.length))
theorem padK_len (l : List UInt8) : (padK l).length = l.length + 1 + padJ_many l.length := by
  unfold padK orL
  rw [List.length_set, padJ_len]
theorem padK_mod (l : List UInt8) : (padK l).length % 136 = 0 := by
  rw [padK_len]
  unfold padJ_many
  omega
theorem or128 : ∀ x < 256, bitsI .or .u8 ((x : Nat) : Int) 128 = ((x ||| 128 : Nat) : Int) := by decide +kernel
end Go.Ev
namespace Go.Proofs.YtpcjmmdgopihcaaGreatDoor
open Go Go.Ev Go.Proofs
set_option maxRecDepth 100000
set_option maxHeartbeats 4000000
theorem low_ok {M : Hp} {l : List UInt8} {v : Value} (hl : LiR byC 1 M l v) (hm : marksOf M = []) (h8 : l.length ≤ 8) : CallsV Tryz.prog 82 [v] M (Ret0 (.int .u64 (lowN l : Nat))) := by
  obtain ⟨p, k, rfl, hla⟩ := LiR.openC byC_len (by decide) hl
  refine callsO gI0_ok Tryz.mix Tryz.pl82 Tryz.func82 rfl Tryz.ntmps82 Tryz.results82 rfl (by first | rfl | assumption) (Nat.le_of_ble_eq_true rfl) (by kernel_rfl) ?_
  simp only [push_cast, Nat.reduceAdd, Nat.reduceSub, Nat.reduceMul, Nat.reduceLT, Nat.reduceLeDiff, Nat.reduceEqDiff, Nat.reduceMod, Nat.reduceDiv, Int.reduceAdd, Int.reduceSub, Int.reduceMul, Int.reduceLT, Int.reduceLE, Int.reduceEq, Int.reduceNeg, Int.reduceToNat, reduceIte, reduceCtorEq, Int.reduceBEq, Int.reduceBNe]
  refine loopO gI0_ok (pl := Tryz.pl82) Tryz.mix (X := Nat)
    (fun i => ([(2, .int .u64 (lowN (l.take i) : Nat)), (5, .slice p l.length k), (6, .int .i64 l.length), (7, .int .i64 i)], M))
    (fun i => i ≤ l.length) (fun i => l.length - i) 0 ?_ ?_ (by kernel_rfl) ?_
  · exact Nat.zero_le _
  · simp only [push_cast, Nat.reduceAdd, Nat.reduceSub, Nat.reduceMul, Nat.reduceLT, Nat.reduceLeDiff, Nat.reduceEqDiff, Nat.reduceMod, Nat.reduceDiv, Int.reduceAdd, Int.reduceSub, Int.reduceMul, Int.reduceLT, Int.reduceLE, Int.reduceEq, Int.reduceNeg, Int.reduceToNat, reduceIte, reduceCtorEq, Int.reduceBEq, Int.reduceBNe, List.take_zero, lowN]
    try exact subH_self _
  · intro i hi
    by_cases hc : i < l.length
    · rcases hla with hl0 | ⟨b, f, d, kd, cs, rfl, hfe, hat⟩
      · rw [hl0] at hc; simp at hc
      obtain ⟨a1, a2⟩ := hat i l[i] (List.getElem?_eq_getElem hc)
      rw [Nat.mul_one] at a1 a2
      rw [show byC l[i] = [.int .u8 (l[i]).toNat] from rfl] at a2
      have i1 : (i : Int) < (l.length : Int) := by omega
      have hst := lowN_take l hc
      have hx := lowN_lt (l.take i)
      rw [List.length_take, Nat.min_eq_left (by omega)] at hx
      obtain ⟨c, hcc⟩ : ∃ c, c = (l[i]).toNat := ⟨_, rfl⟩
      have hc2 : c < 256 := hcc ▸ (l[i]).toNat_lt
      rw [← hcc] at a2 hst
      obtain ⟨o1, o2⟩ := or_shl8 (x := lowN (l.take i)) (c := c) (r := i) (by omega) hx hc2
      rw [← hst] at o1 o2
      have w1 : IntKind.u64.wrap (c : Int) = (c : Int) := by rw [IntKind.wrap_u64]; omega
      have w2 : ¬ (8 * (i : Int) < 0) := by omega
      simp only [push_cast, Nat.reduceAdd, Nat.reduceSub, Nat.reduceMul, Nat.reduceLT, Nat.reduceLeDiff, Nat.reduceEqDiff, Nat.reduceMod, Nat.reduceDiv, Int.reduceAdd, Int.reduceSub, Int.reduceMul, Int.reduceLT, Int.reduceLE, Int.reduceEq, Int.reduceNeg, Int.reduceToNat, reduceIte, reduceCtorEq, Int.reduceBEq, Int.reduceBNe, hc, i1, hfe, a1, a2, w1, w2, wrap_i64' (show -9223372036854775808 ≤ 8 * (i : Int) ∧ 8 * (i : Int) ≤ 9223372036854775807 by omega), o1, wrap_i64' (show -9223372036854775808 ≤ (i : Int) + 1 ∧ (i : Int) + 1 ≤ 9223372036854775807 by omega)]
      exact ⟨i + 1, hc, by omega, rfl, rfl⟩
    · obtain rfl : i = l.length := by omega
      have i1 : ¬ (l.length : Int) < (l.length : Int) := by omega
      simp only [push_cast, Nat.reduceAdd, Nat.reduceSub, Nat.reduceMul, Nat.reduceLT, Nat.reduceLeDiff, Nat.reduceEqDiff, Nat.reduceMod, Nat.reduceDiv, Int.reduceAdd, Int.reduceSub, Int.reduceMul, Int.reduceLT, Int.reduceLE, Int.reduceEq, Int.reduceNeg, Int.reduceToNat, reduceIte, reduceCtorEq, Int.reduceBEq, Int.reduceBNe, hc, i1, List.take_length]
theorem low_R {M : Hp} {l : List UInt8} {v : Value} (hl : LiR byC 1 M l v) (h8 : l.length ≤ 8) : ∀ M0, roM M0 → cellsAt M0 = cellsAt M → CallsV Tryz.prog 82 [v] M0 (Ret0 (.int .u64 (lowN l : Nat))) :=
  fun _ hr he => low_ok (hl.congr he.symm) hr.marks h8
noncomputable def gI1 : Gam := addM bytesFlag flagM gI0
attribute [push_cast] gI1
theorem gI1_ok : GamOk Tryz.prog gI1 := addM_ok flagM_ok gI0_ok
attribute [-push_cast] evAppend_nil evAppend_some
theorem pad_ok (l : List UInt8) (hl : l.length ≤ 2000000) : CallsV Tryz.prog 81 [.string ⟨l.toArray⟩] [] (Ret0 (.string ⟨(padK l).toArray⟩)) := by
  have hsz : (ByteArray.mk l.toArray).size = l.length := by simp [ByteArray.size]
  refine callsO gI1_ok Tryz.mix Tryz.pl81 Tryz.func81 rfl Tryz.ntmps81 Tryz.results81 rfl (by first | rfl | assumption) (Nat.le_of_ble_eq_true rfl) (by kernel_rfl) ?_
  simp only [push_cast, Nat.reduceAdd, Nat.reduceSub, Nat.reduceMul, Nat.reduceLT, Nat.reduceLeDiff, Nat.reduceEqDiff, Nat.reduceMod, Nat.reduceDiv, Int.reduceAdd, Int.reduceSub, Int.reduceMul, Int.reduceLT, Int.reduceLE, Int.reduceEq, Int.reduceNeg, Int.reduceToNat, reduceIte, reduceCtorEq, Int.reduceBEq, Int.reduceBNe, hsz]
  intro b c hc b1 hb1
  obtain ⟨J, hJ0⟩ : ∃ J, J = padJ_many l.length := ⟨_, rfl⟩
  have hJ : J = (136 - (l.length + 1) % 136) % 136 := hJ0
  have hb1' : fresh b1 [⟨b, 0, .vec 5 1 c, byteV l⟩] := ⟨hb1.1, hb1.2, trivial⟩
  refine push_gA (P := Tryz.prog) (e := 5) (sz := 1) (c := byC) (x := (1 : UInt8)) (N := [⟨b, 0, .vec 5 1 c, byteV l⟩]) (X := []) [] (by_ := 1) (q := 1) (ag := false) (l := l) (.inr ⟨b, c, rfl, hc, by rw [byV_flat, byV_len, Nat.mul_one], by rw [byV_flat]⟩) ⟨hb1', trivial⟩ (by simp only [push_cast, Nat.reduceAdd, Nat.reduceSub, Nat.reduceMul, Nat.reduceLT, Nat.reduceLeDiff, Nat.reduceEqDiff, Nat.reduceMod, Nat.reduceDiv, Int.reduceAdd, Int.reduceSub, Int.reduceMul, Int.reduceLT, Int.reduceLE, Int.reduceEq, Int.reduceNeg, Int.reduceToNat, reduceIte, reduceCtorEq, Int.reduceBEq, Int.reduceBNe]) (by simp only [push_cast, Nat.reduceAdd, Nat.reduceSub, Nat.reduceMul, Nat.reduceLT, Nat.reduceLeDiff, Nat.reduceEqDiff, Nat.reduceMod, Nat.reduceDiv, Int.reduceAdd, Int.reduceSub, Int.reduceMul, Int.reduceLT, Int.reduceLE, Int.reduceEq, Int.reduceNeg, Int.reduceToNat, reduceIte, reduceCtorEq, Int.reduceBEq, Int.reduceBNe]) rfl rfl (by unfold two47; omega) fun v3 N3 ho4 hf4 => ?_
  rw [← padJ_0] at ho4
  obtain ⟨p3, c3, rfl⟩ := ho4.slice
  have h0l := padJ_len l 0
  rw [h0l] at ho4
  simp only [push_cast, Nat.reduceAdd, Nat.reduceSub, Nat.reduceMul, Nat.reduceLT, Nat.reduceLeDiff, Nat.reduceEqDiff, Nat.reduceMod, Nat.reduceDiv, Int.reduceAdd, Int.reduceSub, Int.reduceMul, Int.reduceLT, Int.reduceLE, Int.reduceEq, Int.reduceNeg, Int.reduceToNat, reduceIte, reduceCtorEq, Int.reduceBEq, Int.reduceBNe]
  have w3 := ho4.wr.2
  refine loopO gI1_ok (pl := Tryz.pl81) Tryz.mix (X := {x : (Nat × Value) × Hp // marksOf x.2 = []})
    (fun x => ([(3, x.1.1.2)], x.1.2))
    (fun x => x.1.1.1 ≤ J ∧ OutG 5 1 ((padJ l x.1.1.1).flatMap byC) (l.length + 1 + x.1.1.1) x.1.1.2 x.1.2) (fun x => J - x.1.1.1) ⟨((0, .slice p3 (l.length + 1 + 0) c3), N3), w3⟩ ?_ ?_ (by kernel_rfl) ?_
  · exact ⟨Nat.zero_le _, ho4⟩
  · simp only [push_cast, Nat.reduceAdd, Nat.reduceSub, Nat.reduceMul, Nat.reduceLT, Nat.reduceLeDiff, Nat.reduceEqDiff, Nat.reduceMod, Nat.reduceDiv, Int.reduceAdd, Int.reduceSub, Int.reduceMul, Int.reduceLT, Int.reduceLE, Int.reduceEq, Int.reduceNeg, Int.reduceToNat, reduceIte, reduceCtorEq, Int.reduceBEq, Int.reduceBNe, marks_append, marksOf, w3, h0l]
    try exact subH_app _ _
  · rintro ⟨⟨⟨j, vj⟩, N⟩, hNm⟩ ⟨hj, ho⟩
    dsimp only at hj ho hNm ⊢
    obtain ⟨pj, cj, rfl⟩ := ho.slice
    have hlen := padJ_len l j
    have hstep := padJ_s l j
    obtain ⟨L, hL⟩ : ∃ L, L = padJ l j := ⟨_, rfl⟩
    obtain ⟨n, hn⟩ : ∃ n, n = l.length + 1 + j := ⟨_, rfl⟩
    rw [← hL] at ho hlen hstep
    rw [← hn] at hlen ho ⊢
    have et : (n : Int).tmod 136 = (n : Int) % 136 := Int.tmod_eq_emod_of_nonneg (by omega)
    by_cases hc2 : j < J
    · have m1 : ((n : Int) % 136 != 0) = true := bne_iff_ne.2 (by omega)
      simp only [push_cast, Nat.reduceAdd, Nat.reduceSub, Nat.reduceMul, Nat.reduceLT, Nat.reduceLeDiff, Nat.reduceEqDiff, Nat.reduceMod, Nat.reduceDiv, Int.reduceAdd, Int.reduceSub, Int.reduceMul, Int.reduceLT, Int.reduceLE, Int.reduceEq, Int.reduceNeg, Int.reduceToNat, reduceIte, reduceCtorEq, Int.reduceBEq, Int.reduceBNe, et, m1]
      intro bs hbs
      rw [← hlen] at ho ⊢
      have hNN : N = N ++ [] := (List.append_nil N).symm
      obtain ⟨N0, hN0⟩ : ∃ N0, N0 = N := ⟨_, rfl⟩
      rw [← hN0] at hNN ho hbs ⊢
      rw [hNN]
      refine push_gA (P := Tryz.prog) (e := 5) (sz := 1) (c := byC) (x := (0 : UInt8)) (N := N0) (X := []) [] (by_ := 1) (q := 1) (ag := false) (l := L) ho ⟨hbs, trivial⟩ (by simp only [push_cast, Nat.reduceAdd, Nat.reduceSub, Nat.reduceMul, Nat.reduceLT, Nat.reduceLeDiff, Nat.reduceEqDiff, Nat.reduceMod, Nat.reduceDiv, Int.reduceAdd, Int.reduceSub, Int.reduceMul, Int.reduceLT, Int.reduceLE, Int.reduceEq, Int.reduceNeg, Int.reduceToNat, reduceIte, reduceCtorEq, Int.reduceBEq, Int.reduceBNe]) (by simp only [push_cast, Nat.reduceAdd, Nat.reduceSub, Nat.reduceMul, Nat.reduceLT, Nat.reduceLeDiff, Nat.reduceEqDiff, Nat.reduceMod, Nat.reduceDiv, Int.reduceAdd, Int.reduceSub, Int.reduceMul, Int.reduceLT, Int.reduceLE, Int.reduceEq, Int.reduceNeg, Int.reduceToNat, reduceIte, reduceCtorEq, Int.reduceBEq, Int.reduceBNe]) rfl rfl (by unfold two47; omega) fun v4 N4 ho5 hf5 => ?_
      obtain ⟨p4, c4, rfl⟩ := ho5.slice
      have hl5 : (L ++ [0]).length = l.length + 1 + (j + 1) := by rw [List.length_append, hlen]; show n + 1 = _; omega
      rw [hl5, ← hstep] at ho5
      have w5 := ho5.wr.2
      have w0 := ho.wr.2
      simp only [push_cast, Nat.reduceAdd, Nat.reduceSub, Nat.reduceMul, Nat.reduceLT, Nat.reduceLeDiff, Nat.reduceEqDiff, Nat.reduceMod, Nat.reduceDiv, Int.reduceAdd, Int.reduceSub, Int.reduceMul, Int.reduceLT, Int.reduceLE, Int.reduceEq, Int.reduceNeg, Int.reduceToNat, reduceIte, reduceCtorEq, Int.reduceBEq, Int.reduceBNe, hl5]
      refine ⟨⟨((j + 1, .slice p4 (l.length + 1 + (j + 1)) c4), N4), w5⟩, ⟨hc2, ho5⟩, by dsimp only; omega, rfl, ?_, ?_⟩
      · exact subH_app _ _
      · simp [marks_append, marksOf, w5, w0]
    · obtain rfl : j = J := by omega
      have m1 : ((n : Int) % 136 != 0) = false := by rw [show (n : Int) % 136 = 0 by omega]; rfl
      rcases ho with ⟨r1, -⟩ | ⟨bu, cu, r3, r4, r5, rfl⟩
      · omega
      cases r3
      obtain ⟨m, hm⟩ : ∃ m, m = l.length + j := ⟨_, rfl⟩
      have em : IntKind.i64.wrap ((n : Int) - 1) = (m : Int) := by
        rw [show (n : Int) - 1 = (m : Int) by omega]
        exact IntWalk.i64_in _ (by omega)
      have hmL : m < L.length := by omega
      have a1 := byV_at hmL
      have a2 := or128 (L.getD m 0).toNat (L.getD m 0).toNat_lt
      have a3 := byV_set (x := L.getD m 0 ||| 128) hmL
      rw [UInt8.toNat_or, show (128 : UInt8).toNat = 128 from rfl] at a3
      have m2 : (0 : Int) ≤ m := by omega
      have m3 : (m : Int) < (n : Int) := by omega
      have m4 : m + 1 ≤ n := by omega
      have lb : (byteV L).length = n := by rw [byV_len, hlen]
      have lc : (byteV (L.set m (L.getD m 0 ||| 128))).length = n := by rw [byV_len, List.length_set, hlen]
      have hfin : padK l = L.set m (L.getD m 0 ||| 128) := by
        unfold padK orL
        rw [← hJ0, ← hL, hlen, show n - 1 = m by omega]
      rw [hfin]
      rw [byV_flat]
      simp only [push_cast, Nat.reduceAdd, Nat.reduceSub, Nat.reduceMul, Nat.reduceLT, Nat.reduceLeDiff, Nat.reduceEqDiff, Nat.reduceMod, Nat.reduceDiv, Int.reduceAdd, Int.reduceSub, Int.reduceMul, Int.reduceLT, Int.reduceLE, Int.reduceEq, Int.reduceNeg, Int.reduceToNat, reduceIte, reduceCtorEq, Int.reduceBEq, Int.reduceBNe, et, m1, em, m2, m3, m4, lb, lc, a1, a2, a3, (show ¬ n = 0 by omega), (List.take_of_length_le (Nat.le_of_eq lc) : List.take n (byteV (L.set m (L.getD m 0 ||| 128))) = _), bytesOf_byteV]
end Go.Proofs.YtpcjmmdgopihcaaGreatDoor
set_option linter.unusedSimpArgs false
set_option linter.unusedVariables false
namespace Go.Proofs.YtpcjmmdgopihcaaGreatDoor
open Go Go.Ev Go.Proofs
set_option maxRecDepth 100000
set_option maxHeartbeats 4000000
def chkV (bq B : Nat) : List (List Value) := (List.range B).map fun j => [.slice (some ⟨bq, 136 * j, none⟩) 136 136]
theorem chkV_at {bq B k : Nat} {args : List Value} (h : (chkV bq B)[k]? = some args) : k < B ∧ args = [.slice (some ⟨bq, 136 * k, none⟩) 136 136] := by
  unfold chkV at h
  rw [List.getElem?_map] at h
  obtain ⟨j, hj, rfl⟩ := Option.map_eq_some_iff.1 h
  obtain ⟨h1, h2⟩ := List.getElem?_eq_some_iff.1 hj
  rw [List.getElem_range] at h2
  subst h2
  rw [List.length_range] at h1
  exact ⟨h1, rfl⟩
theorem chkV_one {bq B : Nat} : ∀ args ∈ chkV bq B, args.length = 1 := fun args h => by
  obtain ⟨j, -, rfl⟩ := List.mem_map.1 h
  rfl
theorem chkV_len (bq B : Nat) : (chkV bq B).length = B := by unfold chkV; simp
theorem chunk1_ok {Hc : Hp} {b2 b3 bq B c T : Nat} {k2 k3 : Kind} (hT : T = 136 * B) (hTc : T ≤ c) (hB : B ≤ 1000000) (hmc : marksOf Hc = []) (h2 : findE Hc b2 = some ⟨b2, 0, k2, [.slice (some ⟨bq, 0, none⟩) T c]⟩) (h3 : findE Hc b3 = some ⟨b3, 0, k3, [.int .i64 136]⟩) :
    IterV Tryz.prog 106 [.pointer (some ⟨b2, 0, none⟩), .pointer (some ⟨b3, 0, none⟩)] Hc (chkV bq B) := by
  refine ⟨enterO Tryz.func106 rfl rfl, fun X Ho I St l x0 hro hmk h0 hy => ?_⟩
  have hmarks : ∀ x, marksOf (Hc ++ Ho x) = [] := fun x => by rw [marks_append, hmc, hmk]; rfl
  have hm0 := hmarks x0
  have h2' := fun z => findE_appT (B := Ho z) h2
  have h3' := fun z => findE_appT (B := Ho z) h3
  have yl : ∀ (j : Nat) (z : X) (v : Value) (K' : Value → Hp → Prop), j < B → v = .slice (some ⟨bq, 136 * j, none⟩) 136 136 → I j z → (∀ x', I (j + 1) x' → K' (.bool true) (Hc ++ Ho x')) → (∀ x', St x' → K' (.bool false) (Hc ++ Ho x')) → YieldV Tryz.prog l [v] (Hc ++ Ho z) K' := fun j z v K' hj hv hi ht hf => by
    subst hv
    refine (hy j z [.slice (some ⟨bq, 136 * j, none⟩) 136 136] (by unfold chkV; rw [List.getElem?_map, List.getElem?_range hj]; rfl) hi).frame ?_ ?_
    · rintro v H' (⟨rfl, x', _, rfl⟩ | ⟨rfl, x', _, rfl⟩) <;> exact hro z x'
    · rintro v H' (⟨rfl, x', h, rfl⟩ | ⟨rfl, x', h, rfl⟩)
      · exact ht x' h
      · exact hf x' h
  have yf : ∀ (x' : X), (I (chkV bq B).length x' ∨ St x') → ∃ H'_1, List.Sublist H'_1 (dropM (Hc ++ Ho x')) ∧ ∃ z, (I (chkV bq B).length z ∨ St z) ∧ H'_1 = Ho z := fun x' hst => by
    refine ⟨Ho x', ?_, x', hst, rfl⟩
    rw [dropM_eq (hmarks x')]
    exact List.sublist_append_right _ _
  have hvl := chkV_len bq B
  obtain ⟨vs, hvs⟩ : ∃ vs, vs = chkV bq B := ⟨_, rfl⟩
  rw [← hvs] at yf hvl ⊢
  refine callsO gI0_ok Tryz.mix Tryz.pl106 Tryz.func106 rfl Tryz.ntmps106 Tryz.results106 rfl (by first | rfl | assumption) (Nat.le_of_ble_eq_true rfl) (by kernel_rfl) ?_
  simp only [push_cast, Nat.reduceAdd, Nat.reduceSub, Nat.reduceMul, Nat.reduceLT, Nat.reduceLeDiff, Nat.reduceEqDiff, Nat.reduceMod, Nat.reduceDiv, Int.reduceAdd, Int.reduceSub, Int.reduceMul, Int.reduceLT, Int.reduceLE, Int.reduceEq, Int.reduceNeg, Int.reduceToNat, reduceIte, reduceCtorEq, Int.reduceBEq, Int.reduceBNe, h2', h3']
  refine loopO gI0_ok (pl := Tryz.pl106) Tryz.mix (X := Nat × X)
    (fun s => ([(0, .func (.yield l) #[] #[]), (1, .pointer (some ⟨b2, 0, none⟩)), (2, .pointer (some ⟨b3, 0, none⟩)), (4, .int .i64 (136 * (s.1 : Int)))], Hc ++ Ho s.2))
    (fun s => s.1 ≤ B ∧ I s.1 s.2) (fun s => B - s.1) (0, x0) ?_ ?_ (by kernel_rfl) ?_
  · exact ⟨Nat.zero_le _, h0⟩
  · simp only [push_cast, Nat.reduceAdd, Nat.reduceSub, Nat.reduceMul, Nat.reduceLT, Nat.reduceLeDiff, Nat.reduceEqDiff, Nat.reduceMod, Nat.reduceDiv, Int.reduceAdd, Int.reduceSub, Int.reduceMul, Int.reduceLT, Int.reduceLE, Int.reduceEq, Int.reduceNeg, Int.reduceToNat, reduceIte, reduceCtorEq, Int.reduceBEq, Int.reduceBNe, hm0, subH_self]
  · rintro ⟨k, z⟩ ⟨hk, hi⟩
    dsimp only at hk hi ⊢
    obtain ⟨p, hp⟩ : ∃ p, p = 136 * k := ⟨_, rfl⟩
    have ep : 136 * (k : Int) = (p : Int) := by omega
    by_cases hc : k < B
    · have k1 : (p : Int) < (T : Int) := by omega
      have k2 : p < T := by omega
      have k3 : (0 : Int) ≤ (p : Int) := by omega
      have k4 : (p : Int) ≤ (T : Int) := by omega
      have k5 : p ≤ T := by omega
      have k6 : (136 : Int) ≤ ((T - p : Nat) : Int) := by omega
      obtain ⟨q, hq⟩ : ∃ q, q = p + 136 := ⟨_, rfl⟩
      have kw : IntKind.i64.wrap ((p : Int) + 136) = (q : Int) := by
        rw [show (p : Int) + 136 = (q : Int) by omega]
        exact IntWalk.i64_in _ (by omega)
      have k7 : (q : Int) ≤ (c : Int) := by omega
      have k8 : q ≤ c := by omega
      have k9 : p ≤ q := by omega
      have k10 : (0 : Int) ≤ (q : Int) := by omega
      have k11 : ¬ ((T : Int) - (p : Int) < 136) := by omega
      have k13 : ¬ (q = p) := by omega
      have k14 : q - p = 136 := by omega
      simp only [push_cast, Nat.reduceAdd, Nat.reduceSub, Nat.reduceMul, Nat.reduceLT, Nat.reduceLeDiff, Nat.reduceEqDiff, Nat.reduceMod, Nat.reduceDiv, Int.reduceAdd, Int.reduceSub, Int.reduceMul, Int.reduceLT, Int.reduceLE, Int.reduceEq, Int.reduceNeg, Int.reduceToNat, reduceIte, reduceCtorEq, Int.reduceBEq, Int.reduceBNe, h2', h3', hc, ep, k1, k2, k3, k4, k5, k6, kw, k7, k8, k9, k10, k11, Int.le_refl, Nat.le_refl, Int.toNat_natCast, k13, k14]
      refine yl k z (.slice (some ⟨bq, p, none⟩) 136 136) _ hc (by rw [hp]) hi (fun x' hx' => ?_) (fun x' hx' => ?_)
      · simp only [push_cast, Nat.reduceAdd, Nat.reduceSub, Nat.reduceMul, Nat.reduceLT, Nat.reduceLeDiff, Nat.reduceEqDiff, Nat.reduceMod, Nat.reduceDiv, Int.reduceAdd, Int.reduceSub, Int.reduceMul, Int.reduceLT, Int.reduceLE, Int.reduceEq, Int.reduceNeg, Int.reduceToNat, reduceIte, reduceCtorEq, Int.reduceBEq, Int.reduceBNe, h2', h3', kw]
        exact ⟨(k + 1, x'), ⟨hc, hx'⟩, by dsimp only; omega, by dsimp only; rw [hq, hp]; congr 1, subH_self _, by simp only [hmarks]⟩
      · simp only [push_cast, Nat.reduceAdd, Nat.reduceSub, Nat.reduceMul, Nat.reduceLT, Nat.reduceLeDiff, Nat.reduceEqDiff, Nat.reduceMod, Nat.reduceDiv, Int.reduceAdd, Int.reduceSub, Int.reduceMul, Int.reduceLT, Int.reduceLE, Int.reduceEq, Int.reduceNeg, Int.reduceToNat, reduceIte, reduceCtorEq, Int.reduceBEq, Int.reduceBNe]
        exact yf x' (.inr hx')
    · obtain rfl : k = B := by omega
      have k1 : ¬ (p : Int) < (T : Int) := by omega
      have k2 : ¬ p < T := by omega
      simp only [push_cast, Nat.reduceAdd, Nat.reduceSub, Nat.reduceMul, Nat.reduceLT, Nat.reduceLeDiff, Nat.reduceEqDiff, Nat.reduceMod, Nat.reduceDiv, Int.reduceAdd, Int.reduceSub, Int.reduceMul, Int.reduceLT, Int.reduceLE, Int.reduceEq, Int.reduceNeg, Int.reduceToNat, reduceIte, reduceCtorEq, Int.reduceBEq, Int.reduceBNe, h2', h3', hc, ep, k1, k2]
      exact yf z (.inl (by rw [hvl]; exact hi))
theorem chunk_ok (p : Option Addr) (T c : Nat) : CallsV Tryz.prog 80 [.slice p T c, .int .i64 136] [] (fun v N => ∃ b2 b3, v = .func (.func 106) #[] #[.pointer (some ⟨b2, 0, none⟩), .pointer (some ⟨b3, 0, none⟩)] ∧ N = [⟨b3, 0, .cel 3, [.int .i64 136]⟩, ⟨b2, 0, .cel 101, [.slice p T c]⟩] ∧ ¬ b3 = b2) := by
  refine callsO gI0_ok Tryz.mix Tryz.pl80 Tryz.func80 rfl Tryz.ntmps80 Tryz.results80 rfl (by first | rfl | assumption) (Nat.le_of_ble_eq_true rfl) (by kernel_rfl) ?_
  simp only [push_cast, Nat.reduceAdd, Nat.reduceSub, Nat.reduceMul, Nat.reduceLT, Nat.reduceLeDiff, Nat.reduceEqDiff, Nat.reduceMod, Nat.reduceDiv, Int.reduceAdd, Int.reduceSub, Int.reduceMul, Int.reduceLT, Int.reduceLE, Int.reduceEq, Int.reduceNeg, Int.reduceToNat, reduceIte, reduceCtorEq, Int.reduceBEq, Int.reduceBNe]
  intro b2 b3 hb3
  try simp only [push_cast, Nat.reduceAdd, Nat.reduceSub, Nat.reduceMul, Nat.reduceLT, Nat.reduceLeDiff, Nat.reduceEqDiff, Nat.reduceMod, Nat.reduceDiv, Int.reduceAdd, Int.reduceSub, Int.reduceMul, Int.reduceLT, Int.reduceLE, Int.reduceEq, Int.reduceNeg, Int.reduceToNat, reduceIte, reduceCtorEq, Int.reduceBEq, Int.reduceBNe, hb3]
  exact ⟨[_, _], List.Sublist.refl _, b2, b3, rfl, rfl, hb3.1⟩
end Go.Proofs.YtpcjmmdgopihcaaGreatDoor
