/- Df: the whole product: written by program (wip/tools/prod.py). -/
import Derived.Test.YtbpnjkedflkabaaDe
set_option linter.unusedSimpArgs false
set_option linter.unusedVariables false
namespace Go.Ev
theorem prod_s0 {L x ya yb yc yd w0 w1 w2 w3 m0 m1 m2 m3 c1 c2 c3 c4 : Nat} (e0 : m0 + 18446744073709551616 * c1 = x * ya + w0 + 0) (e1 : m1 + 18446744073709551616 * c2 = x * yb + w1 + c1) (e2 : m2 + 18446744073709551616 * c3 = x * yc + w2 + c2) (e3 : m3 + 18446744073709551616 * c4 = x * yd + w3 + c3)
    (h : w0 + 18446744073709551616 * (w1 + 18446744073709551616 * (w2 + 18446744073709551616 * (w3 + 18446744073709551616 * (0 + 18446744073709551616 * (0 + 18446744073709551616 * (0 + 18446744073709551616 * (0))))))) = L * (ya + 18446744073709551616 * (yb + 18446744073709551616 * (yc + 18446744073709551616 * (yd))))) : m0 + 18446744073709551616 * (m1 + 18446744073709551616 * (m2 + 18446744073709551616 * (m3 + 18446744073709551616 * (c4 + 18446744073709551616 * (0 + 18446744073709551616 * (0 + 18446744073709551616 * (0))))))) = (L + x) * (ya + 18446744073709551616 * (yb + 18446744073709551616 * (yc + 18446744073709551616 * (yd)))) := by
  rw [Nat.add_mul, mulY x, ← h]
  generalize x * ya = pa at *; generalize x * yb = pb at *; generalize x * yc = pc at *; generalize x * yd = pd at *
  omega
theorem prod_s1 {L x ya yb yc yd w0 w1 w2 w3 w4 m1 m2 m3 m4 c1 c2 c3 c4 : Nat} (e0 : m1 + 18446744073709551616 * c1 = x * ya + w1 + 0) (e1 : m2 + 18446744073709551616 * c2 = x * yb + w2 + c1) (e2 : m3 + 18446744073709551616 * c3 = x * yc + w3 + c2) (e3 : m4 + 18446744073709551616 * c4 = x * yd + w4 + c3)
    (h : w0 + 18446744073709551616 * (w1 + 18446744073709551616 * (w2 + 18446744073709551616 * (w3 + 18446744073709551616 * (w4 + 18446744073709551616 * (0 + 18446744073709551616 * (0 + 18446744073709551616 * (0))))))) = L * (ya + 18446744073709551616 * (yb + 18446744073709551616 * (yc + 18446744073709551616 * (yd))))) : w0 + 18446744073709551616 * (m1 + 18446744073709551616 * (m2 + 18446744073709551616 * (m3 + 18446744073709551616 * (m4 + 18446744073709551616 * (c4 + 18446744073709551616 * (0 + 18446744073709551616 * (0))))))) = (L + 18446744073709551616 * (x)) * (ya + 18446744073709551616 * (yb + 18446744073709551616 * (yc + 18446744073709551616 * (yd)))) := by
  rw [Nat.add_mul, Nat.mul_assoc, mulY x, ← h]
  generalize x * ya = pa at *; generalize x * yb = pb at *; generalize x * yc = pc at *; generalize x * yd = pd at *
  omega
theorem prod_s2 {L x ya yb yc yd w0 w1 w2 w3 w4 w5 m2 m3 m4 m5 c1 c2 c3 c4 : Nat} (e0 : m2 + 18446744073709551616 * c1 = x * ya + w2 + 0) (e1 : m3 + 18446744073709551616 * c2 = x * yb + w3 + c1) (e2 : m4 + 18446744073709551616 * c3 = x * yc + w4 + c2) (e3 : m5 + 18446744073709551616 * c4 = x * yd + w5 + c3)
    (h : w0 + 18446744073709551616 * (w1 + 18446744073709551616 * (w2 + 18446744073709551616 * (w3 + 18446744073709551616 * (w4 + 18446744073709551616 * (w5 + 18446744073709551616 * (0 + 18446744073709551616 * (0))))))) = L * (ya + 18446744073709551616 * (yb + 18446744073709551616 * (yc + 18446744073709551616 * (yd))))) : w0 + 18446744073709551616 * (w1 + 18446744073709551616 * (m2 + 18446744073709551616 * (m3 + 18446744073709551616 * (m4 + 18446744073709551616 * (m5 + 18446744073709551616 * (c4 + 18446744073709551616 * (0))))))) = (L + 18446744073709551616 * (18446744073709551616 * (x))) * (ya + 18446744073709551616 * (yb + 18446744073709551616 * (yc + 18446744073709551616 * (yd)))) := by
  rw [Nat.add_mul, Nat.mul_assoc, Nat.mul_assoc, mulY x, ← h]
  generalize x * ya = pa at *; generalize x * yb = pb at *; generalize x * yc = pc at *; generalize x * yd = pd at *
  omega
theorem prod_s3 {L x ya yb yc yd w0 w1 w2 w3 w4 w5 w6 m3 m4 m5 m6 c1 c2 c3 c4 : Nat} (e0 : m3 + 18446744073709551616 * c1 = x * ya + w3 + 0) (e1 : m4 + 18446744073709551616 * c2 = x * yb + w4 + c1) (e2 : m5 + 18446744073709551616 * c3 = x * yc + w5 + c2) (e3 : m6 + 18446744073709551616 * c4 = x * yd + w6 + c3)
    (h : w0 + 18446744073709551616 * (w1 + 18446744073709551616 * (w2 + 18446744073709551616 * (w3 + 18446744073709551616 * (w4 + 18446744073709551616 * (w5 + 18446744073709551616 * (w6 + 18446744073709551616 * (0))))))) = L * (ya + 18446744073709551616 * (yb + 18446744073709551616 * (yc + 18446744073709551616 * (yd))))) : w0 + 18446744073709551616 * (w1 + 18446744073709551616 * (w2 + 18446744073709551616 * (m3 + 18446744073709551616 * (m4 + 18446744073709551616 * (m5 + 18446744073709551616 * (m6 + 18446744073709551616 * (c4))))))) = (L + 18446744073709551616 * (18446744073709551616 * (18446744073709551616 * (x)))) * (ya + 18446744073709551616 * (yb + 18446744073709551616 * (yc + 18446744073709551616 * (yd)))) := by
  rw [Nat.add_mul, Nat.mul_assoc, Nat.mul_assoc, Nat.mul_assoc, mulY x, ← h]
  generalize x * ya = pa at *; generalize x * yb = pb at *; generalize x * yc = pc at *; generalize x * yd = pd at *
  omega
theorem prod_l0 (x y : W) {Z : Nat} (h : Z = (x.lows 0 + x.a) * y.num) : Z = x.lows 1 * y.num := by
  have e2 : x.lows 0 = 0 := rfl
  have e3 : x.lows 1 = x.a := rfl
  rw [h]; congr 1; omega
theorem prod_l1 (x y : W) {Z : Nat} (h : Z = (x.lows 1 + 18446744073709551616 * (x.b)) * y.num) : Z = x.lows 2 * y.num := h
theorem prod_l2 (x y : W) {Z : Nat} (h : Z = (x.lows 2 + 18446744073709551616 * (18446744073709551616 * (x.c))) * y.num) : Z = x.lows 3 * y.num := mul_l2 x y h
theorem prod_l3 (x y : W) {Z : Nat} (h : Z = (x.lows 3 + 18446744073709551616 * (18446744073709551616 * (18446744073709551616 * (x.d)))) * y.num) : Z = x.lows 4 * y.num := mul_l3 x y h
noncomputable def prodW (x y : W) : W8 := ⟨W.of (x.num * y.num), W.of (x.num * y.num / 115792089237316195423570985008687907853269984665640564039457584007913129639936)⟩
theorem prod_lt (x y : W) : x.num * y.num < 115792089237316195423570985008687907853269984665640564039457584007913129639936 * 115792089237316195423570985008687907853269984665640564039457584007913129639936 := Nat.mul_lt_mul'' x.num_lt y.num_lt
theorem prodW_num (x y : W) : (prodW x y).num = x.num * y.num := by
  have h := prod_lt x y
  unfold prodW W8.num
  dsimp only
  rw [W.num_of, W.num_of]
  generalize x.num * y.num = p at *
  omega
theorem W8.ext {u : W8} {x y : W} (h : u.num = x.num * y.num) : u = prodW x y := by
  obtain ⟨lo, hi⟩ := u
  have h1 := lo.num_lt
  have h2 := hi.num_lt
  unfold W8.num at h
  dsimp only at h
  unfold prodW
  congr 1
  · refine W.eq_of ?_
    rw [← h]
    omega
  · refine W.eq_of ?_
    rw [← h]
    omega
theorem lt0 : 0 < 18446744073709551616 := by decide
def zerosP (i w4 w5 w6 w7 : Nat) : Prop := (i = 0 → w4 = 0) ∧ (i ≤ 1 → w5 = 0) ∧ (i ≤ 2 → w6 = 0) ∧ (i ≤ 3 → w7 = 0)
end Go.Ev
namespace Go.Proofs.Ytbpnjkedflkabaa
open Go Go.Ev Go.Proofs
set_option maxRecDepth 100000
set_option maxHeartbeats 4000000
theorem product_ok (x y : W) : CallsV Try.prog 40 [x.v, y.v] [] (Ret0 (prodW x y).v) := by
  obtain ⟨R, hR⟩ : ∃ R, R = prodW x y := ⟨_, rfl⟩
  rw [← hR]
  have ha := x.ha; have hb := x.hb; have hc := x.hc; have hd := x.hd; have ya := y.ha; have yb := y.hb; have yc := y.hc; have yd := y.hd
  refine callsO gX_ok Try.mix (fun i => if i = 1 then [(0, 9)] else Try.pl40 i) Try.func40 rfl Try.ntmps40 Try.results40 rfl (by first | rfl | assumption) (Nat.le_of_ble_eq_true rfl) (by kernel_rfl) ?_
  simp only [push_cast, Nat.reduceAdd, Nat.reduceSub, Nat.reduceMul, Nat.reduceLT, Nat.reduceLeDiff, Nat.reduceEqDiff, Nat.reduceMod, Nat.reduceDiv, Int.reduceAdd, Int.reduceSub, Int.reduceMul, Int.reduceLT, Int.reduceLE, Int.reduceEq, Int.reduceNeg, Int.reduceToNat, reduceIte, reduceCtorEq]
  intro b2 b3 hb3 b4 hb4
  refine regO gX_ok ?_
  simp only [push_cast, Nat.reduceAdd, Nat.reduceSub, Nat.reduceMul, Nat.reduceLT, Nat.reduceLeDiff, Nat.reduceEqDiff, Nat.reduceMod, Nat.reduceDiv, Int.reduceAdd, Int.reduceSub, Int.reduceMul, Int.reduceLT, Int.reduceLE, Int.reduceEq, Int.reduceNeg, Int.reduceToNat, reduceIte, reduceCtorEq, hb3, hb4]
  refine loopO gX_ok (pl := Try.pl40) Try.mix (X := Nat × Nat × Nat × Nat × Nat × Nat × Nat × Nat × Nat)
    (fun s => ([(2, .pointer (some ⟨b2, 0, none⟩)), (3, .pointer (some ⟨b3, 0, none⟩)), (4, .pointer (some ⟨b4, 0, none⟩)), (13, x.v), (14, .int .i64 s.1)],
      [⟨b4, 0, .cel 47, [.int .u64 s.2.1, .int .u64 s.2.2.1, .int .u64 s.2.2.2.1, .int .u64 s.2.2.2.2.1, .int .u64 s.2.2.2.2.2.1, .int .u64 s.2.2.2.2.2.2.1, .int .u64 s.2.2.2.2.2.2.2.1, .int .u64 s.2.2.2.2.2.2.2.2]⟩, ⟨b3, 0, .cel 24, y.cells⟩, ⟨b2, 0, .cel 24, x.cells⟩]))
    (fun s => s.1 ≤ 4 ∧ s.2.1 < 18446744073709551616 ∧ s.2.2.1 < 18446744073709551616 ∧ s.2.2.2.1 < 18446744073709551616 ∧ s.2.2.2.2.1 < 18446744073709551616 ∧ s.2.2.2.2.2.1 < 18446744073709551616 ∧ s.2.2.2.2.2.2.1 < 18446744073709551616 ∧ s.2.2.2.2.2.2.2.1 < 18446744073709551616 ∧ s.2.2.2.2.2.2.2.2 < 18446744073709551616 ∧ zerosP s.1 s.2.2.2.2.2.1 s.2.2.2.2.2.2.1 s.2.2.2.2.2.2.2.1 s.2.2.2.2.2.2.2.2 ∧
      s.2.1 + 18446744073709551616 * (s.2.2.1 + 18446744073709551616 * (s.2.2.2.1 + 18446744073709551616 * (s.2.2.2.2.1 + 18446744073709551616 * (s.2.2.2.2.2.1 + 18446744073709551616 * (s.2.2.2.2.2.2.1 + 18446744073709551616 * (s.2.2.2.2.2.2.2.1 + 18446744073709551616 * (s.2.2.2.2.2.2.2.2))))))) = x.lows s.1 * y.num)
    (fun s => 4 - s.1) (0, 0, 0, 0, 0, 0, 0, 0, 0) ?_ ?_ (by kernel_rfl) ?_
  · exact ⟨by decide, by decide, by decide, by decide, by decide, by decide, by decide, by decide, by decide, ⟨fun _ => rfl, fun _ => rfl, fun _ => rfl, fun _ => rfl⟩, by simp [W.lows]⟩
  · simp only [push_cast, Nat.reduceAdd, Nat.reduceSub, Nat.reduceMul, Nat.reduceLT, Nat.reduceLeDiff, Nat.reduceEqDiff, Nat.reduceMod, Nat.reduceDiv, Int.reduceAdd, Int.reduceSub, Int.reduceMul, Int.reduceLT, Int.reduceLE, Int.reduceEq, Int.reduceNeg, Int.reduceToNat, reduceIte, reduceCtorEq]
  · rintro ⟨i, w0, w1, w2, w3, w4, w5, w6, w7⟩ ⟨hi, h0, h1, h2, h3, h4, h5, h6, h7, hz, ht⟩
    dsimp only at hi h0 h1 h2 h3 h4 h5 h6 h7 hz ht ⊢
    have g0 := b64_of h0; have g1 := b64_of h1; have g2 := b64_of h2; have g3 := b64_of h3; have g4 := b64_of h4; have g5 := b64_of h5; have g6 := b64_of h6; have g7 := b64_of h7
    obtain ⟨z4, z5, z6, z7⟩ := hz
    obtain rfl | rfl | rfl | rfl | rfl : i = 0 ∨ i = 1 ∨ i = 2 ∨ i = 3 ∨ i = 4 := by omega
    · obtain rfl := z4 (by decide); obtain rfl := z5 (by decide); obtain rfl := z6 (by decide); obtain rfl := z7 (by decide)
      simp only [push_cast, Nat.reduceAdd, Nat.reduceSub, Nat.reduceMul, Nat.reduceLT, Nat.reduceLeDiff, Nat.reduceEqDiff, Nat.reduceMod, Nat.reduceDiv, Int.reduceAdd, Int.reduceSub, Int.reduceMul, Int.reduceLT, Int.reduceLE, Int.reduceEq, Int.reduceNeg, Int.reduceToNat, reduceIte, reduceCtorEq, hb3, hb4]
      refine unrollO gX_ok (pl := Try.pl40) Try.mix 5 (by kernel_rfl) ?_
      simp only [push_cast, Nat.reduceAdd, Nat.reduceSub, Nat.reduceMul, Nat.reduceLT, Nat.reduceLeDiff, Nat.reduceEqDiff, Nat.reduceMod, Nat.reduceDiv, Int.reduceAdd, Int.reduceSub, Int.reduceMul, Int.reduceLT, Int.reduceLE, Int.reduceEq, Int.reduceNeg, Int.reduceToNat, reduceIte, reduceCtorEq, hb3, hb4, mac_hi, ha, hb, hc, hd, ya, yb, yc, yd, g0, h0, g1, h1, g2, h2, g3, h3]
      exact ⟨(1, macLo x.a y.a w0 0, macLo x.a y.b w1 (macHi x.a y.a w0 0), macLo x.a y.c w2 (macHi x.a y.b w1 (macHi x.a y.a w0 0)), macLo x.a y.d w3 (macHi x.a y.c w2 (macHi x.a y.b w1 (macHi x.a y.a w0 0))), macHi x.a y.d w3 (macHi x.a y.c w2 (macHi x.a y.b w1 (macHi x.a y.a w0 0))), 0, 0, 0), ⟨by dsimp only; omega, macLo_lt _ _ _ _, macLo_lt _ _ _ _, macLo_lt _ _ _ _, macLo_lt _ _ _ _, macHi_lt _ _ _ _, lt0, lt0, lt0, ⟨fun h => by dsimp only at h; omega, fun _ => rfl, fun _ => rfl, fun _ => rfl⟩, prod_l0 x y (prod_s0 (mac_eq ha ya h0 (by decide)) (mac_eq ha yb h1 (macHi_lt _ _ _ _)) (mac_eq ha yc h2 (macHi_lt _ _ _ _)) (mac_eq ha yd h3 (macHi_lt _ _ _ _)) ht)⟩, by dsimp only; omega, rfl, rfl⟩
    · obtain rfl := z5 (by decide); obtain rfl := z6 (by decide); obtain rfl := z7 (by decide)
      simp only [push_cast, Nat.reduceAdd, Nat.reduceSub, Nat.reduceMul, Nat.reduceLT, Nat.reduceLeDiff, Nat.reduceEqDiff, Nat.reduceMod, Nat.reduceDiv, Int.reduceAdd, Int.reduceSub, Int.reduceMul, Int.reduceLT, Int.reduceLE, Int.reduceEq, Int.reduceNeg, Int.reduceToNat, reduceIte, reduceCtorEq, hb3, hb4]
      refine unrollO gX_ok (pl := Try.pl40) Try.mix 5 (by kernel_rfl) ?_
      simp only [push_cast, Nat.reduceAdd, Nat.reduceSub, Nat.reduceMul, Nat.reduceLT, Nat.reduceLeDiff, Nat.reduceEqDiff, Nat.reduceMod, Nat.reduceDiv, Int.reduceAdd, Int.reduceSub, Int.reduceMul, Int.reduceLT, Int.reduceLE, Int.reduceEq, Int.reduceNeg, Int.reduceToNat, reduceIte, reduceCtorEq, hb3, hb4, mac_hi, ha, hb, hc, hd, ya, yb, yc, yd, g0, h0, g1, h1, g2, h2, g3, h3, g4, h4]
      exact ⟨(2, w0, macLo x.b y.a w1 0, macLo x.b y.b w2 (macHi x.b y.a w1 0), macLo x.b y.c w3 (macHi x.b y.b w2 (macHi x.b y.a w1 0)), macLo x.b y.d w4 (macHi x.b y.c w3 (macHi x.b y.b w2 (macHi x.b y.a w1 0))), macHi x.b y.d w4 (macHi x.b y.c w3 (macHi x.b y.b w2 (macHi x.b y.a w1 0))), 0, 0), ⟨by dsimp only; omega, h0, macLo_lt _ _ _ _, macLo_lt _ _ _ _, macLo_lt _ _ _ _, macLo_lt _ _ _ _, macHi_lt _ _ _ _, lt0, lt0, ⟨fun h => by dsimp only at h; omega, fun h => by dsimp only at h; omega, fun _ => rfl, fun _ => rfl⟩, prod_l1 x y (prod_s1 (mac_eq hb ya h1 (by decide)) (mac_eq hb yb h2 (macHi_lt _ _ _ _)) (mac_eq hb yc h3 (macHi_lt _ _ _ _)) (mac_eq hb yd h4 (macHi_lt _ _ _ _)) ht)⟩, by dsimp only; omega, rfl, rfl⟩
    · obtain rfl := z6 (by decide); obtain rfl := z7 (by decide)
      simp only [push_cast, Nat.reduceAdd, Nat.reduceSub, Nat.reduceMul, Nat.reduceLT, Nat.reduceLeDiff, Nat.reduceEqDiff, Nat.reduceMod, Nat.reduceDiv, Int.reduceAdd, Int.reduceSub, Int.reduceMul, Int.reduceLT, Int.reduceLE, Int.reduceEq, Int.reduceNeg, Int.reduceToNat, reduceIte, reduceCtorEq, hb3, hb4]
      refine unrollO gX_ok (pl := Try.pl40) Try.mix 5 (by kernel_rfl) ?_
      simp only [push_cast, Nat.reduceAdd, Nat.reduceSub, Nat.reduceMul, Nat.reduceLT, Nat.reduceLeDiff, Nat.reduceEqDiff, Nat.reduceMod, Nat.reduceDiv, Int.reduceAdd, Int.reduceSub, Int.reduceMul, Int.reduceLT, Int.reduceLE, Int.reduceEq, Int.reduceNeg, Int.reduceToNat, reduceIte, reduceCtorEq, hb3, hb4, mac_hi, ha, hb, hc, hd, ya, yb, yc, yd, g0, h0, g1, h1, g2, h2, g3, h3, g4, h4, g5, h5]
      exact ⟨(3, w0, w1, macLo x.c y.a w2 0, macLo x.c y.b w3 (macHi x.c y.a w2 0), macLo x.c y.c w4 (macHi x.c y.b w3 (macHi x.c y.a w2 0)), macLo x.c y.d w5 (macHi x.c y.c w4 (macHi x.c y.b w3 (macHi x.c y.a w2 0))), macHi x.c y.d w5 (macHi x.c y.c w4 (macHi x.c y.b w3 (macHi x.c y.a w2 0))), 0), ⟨by dsimp only; omega, h0, h1, macLo_lt _ _ _ _, macLo_lt _ _ _ _, macLo_lt _ _ _ _, macLo_lt _ _ _ _, macHi_lt _ _ _ _, lt0, ⟨fun h => by dsimp only at h; omega, fun h => by dsimp only at h; omega, fun h => by dsimp only at h; omega, fun _ => rfl⟩, prod_l2 x y (prod_s2 (mac_eq hc ya h2 (by decide)) (mac_eq hc yb h3 (macHi_lt _ _ _ _)) (mac_eq hc yc h4 (macHi_lt _ _ _ _)) (mac_eq hc yd h5 (macHi_lt _ _ _ _)) ht)⟩, by dsimp only; omega, rfl, rfl⟩
    · obtain rfl := z7 (by decide)
      simp only [push_cast, Nat.reduceAdd, Nat.reduceSub, Nat.reduceMul, Nat.reduceLT, Nat.reduceLeDiff, Nat.reduceEqDiff, Nat.reduceMod, Nat.reduceDiv, Int.reduceAdd, Int.reduceSub, Int.reduceMul, Int.reduceLT, Int.reduceLE, Int.reduceEq, Int.reduceNeg, Int.reduceToNat, reduceIte, reduceCtorEq, hb3, hb4]
      refine unrollO gX_ok (pl := Try.pl40) Try.mix 5 (by kernel_rfl) ?_
      simp only [push_cast, Nat.reduceAdd, Nat.reduceSub, Nat.reduceMul, Nat.reduceLT, Nat.reduceLeDiff, Nat.reduceEqDiff, Nat.reduceMod, Nat.reduceDiv, Int.reduceAdd, Int.reduceSub, Int.reduceMul, Int.reduceLT, Int.reduceLE, Int.reduceEq, Int.reduceNeg, Int.reduceToNat, reduceIte, reduceCtorEq, hb3, hb4, mac_hi, ha, hb, hc, hd, ya, yb, yc, yd, g0, h0, g1, h1, g2, h2, g3, h3, g4, h4, g5, h5, g6, h6]
      exact ⟨(4, w0, w1, w2, macLo x.d y.a w3 0, macLo x.d y.b w4 (macHi x.d y.a w3 0), macLo x.d y.c w5 (macHi x.d y.b w4 (macHi x.d y.a w3 0)), macLo x.d y.d w6 (macHi x.d y.c w5 (macHi x.d y.b w4 (macHi x.d y.a w3 0))), macHi x.d y.d w6 (macHi x.d y.c w5 (macHi x.d y.b w4 (macHi x.d y.a w3 0)))), ⟨by dsimp only; omega, h0, h1, h2, macLo_lt _ _ _ _, macLo_lt _ _ _ _, macLo_lt _ _ _ _, macLo_lt _ _ _ _, macHi_lt _ _ _ _, ⟨fun h => by dsimp only at h; omega, fun h => by dsimp only at h; omega, fun h => by dsimp only at h; omega, fun h => by dsimp only at h; omega⟩, prod_l3 x y (prod_s3 (mac_eq hd ya h3 (by decide)) (mac_eq hd yb h4 (macHi_lt _ _ _ _)) (mac_eq hd yc h5 (macHi_lt _ _ _ _)) (mac_eq hd yd h6 (macHi_lt _ _ _ _)) ht)⟩, by dsimp only; omega, rfl, rfl⟩
    · simp only [push_cast, Nat.reduceAdd, Nat.reduceSub, Nat.reduceMul, Nat.reduceLT, Nat.reduceLeDiff, Nat.reduceEqDiff, Nat.reduceMod, Nat.reduceDiv, Int.reduceAdd, Int.reduceSub, Int.reduceMul, Int.reduceLT, Int.reduceLE, Int.reduceEq, Int.reduceNeg, Int.reduceToNat, reduceIte, reduceCtorEq, hb3, hb4]
      have hlow : x.lows 4 = x.num := rfl
      rw [hlow] at ht
      rw [hR, ← W8.ext (u := ⟨⟨w0, w1, w2, w3, h0, h1, h2, h3⟩, ⟨w4, w5, w6, w7, h4, h5, h6, h7⟩⟩) (by
        rw [← ht]
        show w0 + 18446744073709551616 * (w1 + 18446744073709551616 * (w2 + 18446744073709551616 * w3)) + 115792089237316195423570985008687907853269984665640564039457584007913129639936 * (w4 + 18446744073709551616 * (w5 + 18446744073709551616 * (w6 + 18446744073709551616 * w7))) = _
        omega)]
      rfl
end Go.Proofs.Ytbpnjkedflkabaa
