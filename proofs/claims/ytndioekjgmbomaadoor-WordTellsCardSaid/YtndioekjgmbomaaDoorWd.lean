/- Wd: the program's words: Of, Sub, Mul. -/
import Derived.Test.YtndioekjgmbomaaDoorWc
import Derived.Test.YtndioekjgmbomaaDoorWb
set_option linter.unusedSimpArgs false
set_option linter.unusedVariables false
namespace Go.Ev
/-- the lowest parts of a word -/
def W.lows (x : W) : Nat → Nat
  | 0 => 0
  | 1 => x.a
  | 2 => x.a + 18446744073709551616 * x.b
  | 3 => x.a + 18446744073709551616 * (x.b + 18446744073709551616 * x.c)
  | _ => x.num
theorem W.at0 (x : W) (h : 0 < x.cells.toArray.size) : x.cells.toArray[0]'h = .int .u64 x.a := rfl
theorem W.at1 (x : W) (h : 1 < x.cells.toArray.size) : x.cells.toArray[1]'h = .int .u64 x.b := rfl
theorem W.at2 (x : W) (h : 2 < x.cells.toArray.size) : x.cells.toArray[2]'h = .int .u64 x.c := rfl
theorem W.at3 (x : W) (h : 3 < x.cells.toArray.size) : x.cells.toArray[3]'h = .int .u64 x.d := rfl
theorem indexV_W (P : Program) (t : TypeId) (x : W) (k : IntKind) (i : Int) : indexV P t x.v (.int k i) = (match elemI P t with
  | some (some n, s, ag) => if 0 ≤ i ∧ i < (n : Int) then partL ag x.cells.toArray (i.toNat * s) s else none
  | _ => none) := rfl
theorem W.q0 (x : W) : x.cells.toArray[0]? = some (.int .u64 x.a) := rfl
theorem W.q1 (x : W) : x.cells.toArray[1]? = some (.int .u64 x.b) := rfl
theorem W.q2 (x : W) : x.cells.toArray[2]? = some (.int .u64 x.c) := rfl
theorem W.q3 (x : W) : x.cells.toArray[3]? = some (.int .u64 x.d) := rfl
attribute [push_cast] indexV_W W.at0 W.at1 W.at2 W.at3 W.q0 W.q1 W.q2 W.q3
theorem b64_of {n : Nat} (h : n < 18446744073709551616) : b64 (n : Int) = true := by rw [b64_eq, decide_eq_true_eq]; omega
theorem mulY (x a b c d : Nat) : x * (a + 18446744073709551616 * (b + 18446744073709551616 * (c + 18446744073709551616 * d))) = x * a + 18446744073709551616 * (x * b + 18446744073709551616 * (x * c + 18446744073709551616 * (x * d))) := by
  have s : ∀ a Z, x * (a + 18446744073709551616 * Z) = x * a + 18446744073709551616 * (x * Z) := fun a Z => by rw [Nat.mul_add, Nat.mul_left_comm]
  rw [s, s, s]
theorem mul_s0 {x ya yb yc yd w0 w1 w2 w3 m0 m1 m2 m3 c1 c2 c3 c4 t : Nat} (e0 : m0 + 18446744073709551616 * c1 = x * ya + w0 + 0) (e1 : m1 + 18446744073709551616 * c2 = x * yb + w1 + c1) (e2 : m2 + 18446744073709551616 * c3 = x * yc + w2 + c2) (e3 : m3 + 18446744073709551616 * c4 = x * yd + w3 + c3)
    (h : w0 + 18446744073709551616 * (w1 + 18446744073709551616 * (w2 + 18446744073709551616 * w3)) + 115792089237316195423570985008687907853269984665640564039457584007913129639936 * t = 0) : m0 + 18446744073709551616 * (m1 + 18446744073709551616 * (m2 + 18446744073709551616 * m3)) + 115792089237316195423570985008687907853269984665640564039457584007913129639936 * (t + c4) = x * (ya + 18446744073709551616 * (yb + 18446744073709551616 * (yc + 18446744073709551616 * yd))) := by
  rw [mulY]
  generalize x * ya = pa at *; generalize x * yb = pb at *; generalize x * yc = pc at *; generalize x * yd = pd at *
  omega
theorem mul_s1 {L x ya yb yc yd w0 w1 w2 w3 m1 m2 m3 c2 c3 c4 t : Nat} (e1 : m1 + 18446744073709551616 * c2 = x * ya + w1 + 0) (e2 : m2 + 18446744073709551616 * c3 = x * yb + w2 + c2) (e3 : m3 + 18446744073709551616 * c4 = x * yc + w3 + c3)
    (h : w0 + 18446744073709551616 * (w1 + 18446744073709551616 * (w2 + 18446744073709551616 * w3)) + 115792089237316195423570985008687907853269984665640564039457584007913129639936 * t = L * (ya + 18446744073709551616 * (yb + 18446744073709551616 * (yc + 18446744073709551616 * yd)))) : w0 + 18446744073709551616 * (m1 + 18446744073709551616 * (m2 + 18446744073709551616 * m3)) + 115792089237316195423570985008687907853269984665640564039457584007913129639936 * (t + c4 + x * yd) = (L + 18446744073709551616 * x) * (ya + 18446744073709551616 * (yb + 18446744073709551616 * (yc + 18446744073709551616 * yd))) := by
  rw [Nat.add_mul, Nat.mul_assoc, mulY x, ← h]
  generalize x * ya = pa at *; generalize x * yb = pb at *; generalize x * yc = pc at *; generalize x * yd = pd at *
  omega
theorem mul_s2 {L x ya yb yc yd w0 w1 w2 w3 m2 m3 c3 c4 t : Nat} (e2 : m2 + 18446744073709551616 * c3 = x * ya + w2 + 0) (e3 : m3 + 18446744073709551616 * c4 = x * yb + w3 + c3)
    (h : w0 + 18446744073709551616 * (w1 + 18446744073709551616 * (w2 + 18446744073709551616 * w3)) + 115792089237316195423570985008687907853269984665640564039457584007913129639936 * t = L * (ya + 18446744073709551616 * (yb + 18446744073709551616 * (yc + 18446744073709551616 * yd)))) : w0 + 18446744073709551616 * (w1 + 18446744073709551616 * (m2 + 18446744073709551616 * m3)) + 115792089237316195423570985008687907853269984665640564039457584007913129639936 * (t + c4 + x * yc + 18446744073709551616 * (x * yd)) = (L + 18446744073709551616 * (18446744073709551616 * x)) * (ya + 18446744073709551616 * (yb + 18446744073709551616 * (yc + 18446744073709551616 * yd))) := by
  rw [Nat.add_mul, Nat.mul_assoc, Nat.mul_assoc, mulY x, ← h]
  generalize x * ya = pa at *; generalize x * yb = pb at *; generalize x * yc = pc at *; generalize x * yd = pd at *
  omega
theorem mul_s3 {L x ya yb yc yd w0 w1 w2 w3 m3 c4 t : Nat} (e3 : m3 + 18446744073709551616 * c4 = x * ya + w3 + 0)
    (h : w0 + 18446744073709551616 * (w1 + 18446744073709551616 * (w2 + 18446744073709551616 * w3)) + 115792089237316195423570985008687907853269984665640564039457584007913129639936 * t = L * (ya + 18446744073709551616 * (yb + 18446744073709551616 * (yc + 18446744073709551616 * yd)))) : w0 + 18446744073709551616 * (w1 + 18446744073709551616 * (w2 + 18446744073709551616 * m3)) + 115792089237316195423570985008687907853269984665640564039457584007913129639936 * (t + c4 + x * yb + 18446744073709551616 * (x * yc) + 18446744073709551616 * (18446744073709551616 * (x * yd))) = (L + 18446744073709551616 * (18446744073709551616 * (18446744073709551616 * x))) * (ya + 18446744073709551616 * (yb + 18446744073709551616 * (yc + 18446744073709551616 * yd))) := by
  rw [Nat.add_mul, Nat.mul_assoc, Nat.mul_assoc, Nat.mul_assoc, mulY x, ← h]
  generalize x * ya = pa at *; generalize x * yb = pb at *; generalize x * yc = pc at *; generalize x * yd = pd at *
  omega
theorem mul_l1 (x y : W) {Z : Nat} (h : Z = (x.a + 18446744073709551616 * x.b) * y.num) : Z = x.lows 2 * y.num := h
theorem mul_l2 (x y : W) {Z : Nat} (h : Z = (x.lows 2 + 18446744073709551616 * (18446744073709551616 * x.c)) * y.num) : Z = x.lows 3 * y.num := by
  have e2 : x.lows 2 = x.a + 18446744073709551616 * x.b := rfl
  have e3 : x.lows 3 = x.a + 18446744073709551616 * (x.b + 18446744073709551616 * x.c) := rfl
  rw [h]; congr 1; omega
theorem mul_l3 (x y : W) {Z : Nat} (h : Z = (x.lows 3 + 18446744073709551616 * (18446744073709551616 * (18446744073709551616 * x.d))) * y.num) : Z = x.lows 4 * y.num := by
  have e3 : x.lows 3 = x.a + 18446744073709551616 * (x.b + 18446744073709551616 * x.c) := rfl
  have e4 : x.lows 4 = x.a + 18446744073709551616 * (x.b + 18446744073709551616 * (x.c + 18446744073709551616 * x.d)) := rfl
  rw [h]; congr 1; omega
theorem sub_key {xa xb xc xd ya yb yc yd l0 l1 l2 l3 c0 c1 c2 c3 : Nat} (e0 : l0 + ya = xa + 18446744073709551616 * c0) (e1 : l1 + yb + c0 = xb + 18446744073709551616 * c1) (e2 : l2 + yc + c1 = xc + 18446744073709551616 * c2) (e3 : l3 + yd + c2 = xd + 18446744073709551616 * c3) :
    (l0 + 18446744073709551616 * (l1 + 18446744073709551616 * (l2 + 18446744073709551616 * l3))) + (ya + 18446744073709551616 * (yb + 18446744073709551616 * (yc + 18446744073709551616 * yd))) =
    (xa + 18446744073709551616 * (xb + 18446744073709551616 * (xc + 18446744073709551616 * xd))) + 115792089237316195423570985008687907853269984665640564039457584007913129639936 * c3 := by omega
theorem sub_mod {X Y L c : Nat} (h1 : Y < 115792089237316195423570985008687907853269984665640564039457584007913129639936) (h0 : X < 115792089237316195423570985008687907853269984665640564039457584007913129639936) (h2 : L < 115792089237316195423570985008687907853269984665640564039457584007913129639936) (hc : c ≤ 1) (h : L + Y = X + 115792089237316195423570985008687907853269984665640564039457584007913129639936 * c) :
    L = (X + 115792089237316195423570985008687907853269984665640564039457584007913129639936 - Y) % 115792089237316195423570985008687907853269984665640564039457584007913129639936 := by
  have hc' : c = 0 ∨ c = 1 := by omega
  rcases hc' with rfl | rfl <;> omega
theorem sub_step {x y b : Nat} (hx : x < 18446744073709551616) (hy : y < 18446744073709551616) (hb : b ≤ 1) : subLo x y b + y + b = x + 18446744073709551616 * subB x y b := by
  simp only [subLo_eq, subB_eq]; split <;> omega
theorem sub_num (x y : W) : (⟨subLo x.a y.a 0, subLo x.b y.b (subB x.a y.a 0), subLo x.c y.c (subB x.b y.b (subB x.a y.a 0)), subLo x.d y.d (subB x.c y.c (subB x.b y.b (subB x.a y.a 0))), subLo_lt _ _ _, subLo_lt _ _ _, subLo_lt _ _ _, subLo_lt _ _ _⟩ : W) =
    W.of (x.num + 115792089237316195423570985008687907853269984665640564039457584007913129639936 - y.num) := by
  refine W.eq_of ?_
  refine sub_mod y.num_lt x.num_lt (W.num_lt _) (subB_le x.d y.d (subB x.c y.c (subB x.b y.b (subB x.a y.a 0)))) ?_
  exact sub_key (sub_step x.ha y.ha (Nat.zero_le 1)) (sub_step x.hb y.hb (subB_le _ _ _)) (sub_step x.hc y.hc (subB_le _ _ _)) (sub_step x.hd y.hd (subB_le _ _ _))
end Go.Ev
namespace Go.Proofs.YtndioekjgmbomaaDoor
open Go Go.Ev Go.Proofs
set_option maxRecDepth 100000
set_option maxHeartbeats 4000000
theorem wordCmpG (args : List Value) (v : Value) (h : cmpWG args = some v) : CallsV Tryd.prog 25 args [] (Ret0 v) := by
  obtain ⟨x, y, rfl, rfl⟩ := cmpWG_some h; exact wordCmp x y
theorem refCmpG (args : List Value) (v : Value) (h : cmpWG args = some v) : CallsV Tryd.prog 26 args [] (Ret0 v) := by
  obtain ⟨x, y, rfl, rfl⟩ := cmpWG_some h; exact refCmp x y
noncomputable def gW : Gam := (addG 25 cmpWG (addG 26 cmpWG gM))
attribute [push_cast] gW
theorem gW_ok : GamOk Tryd.prog gW := (addG_ok wordCmpG (addG_ok refCmpG gM_ok))
theorem wordSub (x y : W) : CallsV Tryd.prog 15 [x.v, y.v] [] (Ret0 (W.of (x.num + 115792089237316195423570985008687907853269984665640564039457584007913129639936 - y.num)).v) := by
  obtain ⟨R, hR⟩ : ∃ R, R = W.of (x.num + 115792089237316195423570985008687907853269984665640564039457584007913129639936 - y.num) := ⟨_, rfl⟩
  rw [← hR]
  refine callsO gW_ok Tryd.mix Tryd.pl15 Tryd.func15 rfl Tryd.ntmps15 Tryd.results15 rfl (by first | rfl | assumption) (Nat.le_of_ble_eq_true rfl) (by kernel_rfl) ?_
  simp only [push_cast, Nat.reduceAdd, Nat.reduceSub, Nat.reduceMul, Nat.reduceLT, Nat.reduceLeDiff, Nat.reduceEqDiff, Nat.reduceMod, Nat.reduceDiv, Int.reduceAdd, Int.reduceSub, Int.reduceMul, Int.reduceLT, Int.reduceLE, Int.reduceEq, Int.reduceNeg, Int.reduceToNat, reduceIte, reduceCtorEq]
  intro b2 b3 hb3 b4 hb4
  refine unrollO gW_ok (pl := Tryd.pl15) Tryd.mix 5 (by kernel_rfl) ?_
  simp only [push_cast, Nat.reduceAdd, Nat.reduceSub, Nat.reduceMul, Nat.reduceLT, Nat.reduceLeDiff, Nat.reduceEqDiff, Nat.reduceMod, Nat.reduceDiv, Int.reduceAdd, Int.reduceSub, Int.reduceMul, Int.reduceLT, Int.reduceLE, Int.reduceEq, Int.reduceNeg, Int.reduceToNat, reduceIte, reduceCtorEq, hb3, hb4]
  rw [hR, ← sub_num]
  rfl
theorem wordMul (x y : W) : CallsV Tryd.prog 17 [x.v, y.v] [] (Ret0 (W.of (x.num * y.num)).v) := by
  obtain ⟨R, hR⟩ : ∃ R, R = W.of (x.num * y.num) := ⟨_, rfl⟩
  rw [← hR]
  have ha := x.ha; have hb := x.hb; have hc := x.hc; have hd := x.hd; have ya := y.ha; have yb := y.hb; have yc := y.hc; have yd := y.hd
  refine callsO gW_ok Tryd.mix Tryd.pl17 Tryd.func17 rfl Tryd.ntmps17 Tryd.results17 rfl (by first | rfl | assumption) (Nat.le_of_ble_eq_true rfl) (by kernel_rfl) ?_
  simp only [push_cast, Nat.reduceAdd, Nat.reduceSub, Nat.reduceMul, Nat.reduceLT, Nat.reduceLeDiff, Nat.reduceEqDiff, Nat.reduceMod, Nat.reduceDiv, Int.reduceAdd, Int.reduceSub, Int.reduceMul, Int.reduceLT, Int.reduceLE, Int.reduceEq, Int.reduceNeg, Int.reduceToNat, reduceIte, reduceCtorEq]
  intro b2 b3 hb3 b4 hb4
  try simp only [push_cast, Nat.reduceAdd, Nat.reduceSub, Nat.reduceMul, Nat.reduceLT, Nat.reduceLeDiff, Nat.reduceEqDiff, Nat.reduceMod, Nat.reduceDiv, Int.reduceAdd, Int.reduceSub, Int.reduceMul, Int.reduceLT, Int.reduceLE, Int.reduceEq, Int.reduceNeg, Int.reduceToNat, reduceIte, reduceCtorEq, hb3, hb4]
  refine loopO gW_ok (pl := Tryd.pl17) Tryd.mix (X := Nat × Nat × Nat × Nat × Nat)
    (fun s => ([(2, .pointer (some ⟨b2, 0, none⟩)), (3, .pointer (some ⟨b3, 0, none⟩)), (4, .pointer (some ⟨b4, 0, none⟩)), (12, x.v), (13, .int .i64 s.1)],
      [⟨b4, 0, .cel 24, [.int .u64 s.2.1, .int .u64 s.2.2.1, .int .u64 s.2.2.2.1, .int .u64 s.2.2.2.2]⟩, ⟨b3, 0, .cel 24, y.cells⟩, ⟨b2, 0, .cel 24, x.cells⟩]))
    (fun s => s.1 ≤ 4 ∧ s.2.1 < 18446744073709551616 ∧ s.2.2.1 < 18446744073709551616 ∧ s.2.2.2.1 < 18446744073709551616 ∧ s.2.2.2.2 < 18446744073709551616 ∧
      ∃ t, s.2.1 + 18446744073709551616 * (s.2.2.1 + 18446744073709551616 * (s.2.2.2.1 + 18446744073709551616 * s.2.2.2.2)) + 115792089237316195423570985008687907853269984665640564039457584007913129639936 * t = x.lows s.1 * y.num)
    (fun s => 4 - s.1) (0, 0, 0, 0, 0) ?_ ?_ (by kernel_rfl) ?_
  · exact ⟨by decide, by decide, by decide, by decide, by decide, 0, by simp [W.lows]⟩
  · simp only [push_cast, Nat.reduceAdd, Nat.reduceSub, Nat.reduceMul, Nat.reduceLT, Nat.reduceLeDiff, Nat.reduceEqDiff, Nat.reduceMod, Nat.reduceDiv, Int.reduceAdd, Int.reduceSub, Int.reduceMul, Int.reduceLT, Int.reduceLE, Int.reduceEq, Int.reduceNeg, Int.reduceToNat, reduceIte, reduceCtorEq]
  · rintro ⟨i, w0, w1, w2, w3⟩ ⟨hi, h0, h1, h2, h3, t, ht⟩
    dsimp only at hi h0 h1 h2 h3 ht ⊢
    have g0 := b64_of h0; have g1 := b64_of h1; have g2 := b64_of h2; have g3 := b64_of h3
    obtain rfl | rfl | rfl | rfl | rfl : i = 0 ∨ i = 1 ∨ i = 2 ∨ i = 3 ∨ i = 4 := by omega
    · simp only [push_cast, Nat.reduceAdd, Nat.reduceSub, Nat.reduceMul, Nat.reduceLT, Nat.reduceLeDiff, Nat.reduceEqDiff, Nat.reduceMod, Nat.reduceDiv, Int.reduceAdd, Int.reduceSub, Int.reduceMul, Int.reduceLT, Int.reduceLE, Int.reduceEq, Int.reduceNeg, Int.reduceToNat, reduceIte, reduceCtorEq]
      refine unrollO gW_ok (pl := Tryd.pl17) Tryd.mix 5 (by kernel_rfl) ?_
      simp only [push_cast, Nat.reduceAdd, Nat.reduceSub, Nat.reduceMul, Nat.reduceLT, Nat.reduceLeDiff, Nat.reduceEqDiff, Nat.reduceMod, Nat.reduceDiv, Int.reduceAdd, Int.reduceSub, Int.reduceMul, Int.reduceLT, Int.reduceLE, Int.reduceEq, Int.reduceNeg, Int.reduceToNat, reduceIte, reduceCtorEq, hb3, hb4, mac_hi, ha, hb, hc, hd, ya, yb, yc, yd, g0, g1, g2, g3, h0, h1, h2, h3]
      exact ⟨(1, macLo x.a y.a w0 0, macLo x.a y.b w1 (macHi x.a y.a w0 0), macLo x.a y.c w2 (macHi x.a y.b w1 (macHi x.a y.a w0 0)), macLo x.a y.d w3 (macHi x.a y.c w2 (macHi x.a y.b w1 (macHi x.a y.a w0 0)))), ⟨by dsimp only; omega, macLo_lt _ _ _ _, macLo_lt _ _ _ _, macLo_lt _ _ _ _, macLo_lt _ _ _ _, ⟨_, mul_s0 (mac_eq ha ya h0 (by decide)) (mac_eq ha yb h1 (macHi_lt _ _ _ _)) (mac_eq ha yc h2 (macHi_lt _ _ _ _)) (mac_eq ha yd h3 (macHi_lt _ _ _ _)) (by rw [ht]; exact Nat.zero_mul _)⟩⟩, by dsimp only; omega, rfl, rfl⟩
    · simp only [push_cast, Nat.reduceAdd, Nat.reduceSub, Nat.reduceMul, Nat.reduceLT, Nat.reduceLeDiff, Nat.reduceEqDiff, Nat.reduceMod, Nat.reduceDiv, Int.reduceAdd, Int.reduceSub, Int.reduceMul, Int.reduceLT, Int.reduceLE, Int.reduceEq, Int.reduceNeg, Int.reduceToNat, reduceIte, reduceCtorEq]
      refine unrollO gW_ok (pl := Tryd.pl17) Tryd.mix 5 (by kernel_rfl) ?_
      simp only [push_cast, Nat.reduceAdd, Nat.reduceSub, Nat.reduceMul, Nat.reduceLT, Nat.reduceLeDiff, Nat.reduceEqDiff, Nat.reduceMod, Nat.reduceDiv, Int.reduceAdd, Int.reduceSub, Int.reduceMul, Int.reduceLT, Int.reduceLE, Int.reduceEq, Int.reduceNeg, Int.reduceToNat, reduceIte, reduceCtorEq, hb3, hb4, mac_hi, ha, hb, hc, hd, ya, yb, yc, yd, g0, g1, g2, g3, h0, h1, h2, h3]
      exact ⟨(2, w0, macLo x.b y.a w1 0, macLo x.b y.b w2 (macHi x.b y.a w1 0), macLo x.b y.c w3 (macHi x.b y.b w2 (macHi x.b y.a w1 0))), ⟨by dsimp only; omega, h0, macLo_lt _ _ _ _, macLo_lt _ _ _ _, macLo_lt _ _ _ _, ⟨_, mul_l1 x y (mul_s1 (mac_eq hb ya h1 (by decide)) (mac_eq hb yb h2 (macHi_lt _ _ _ _)) (mac_eq hb yc h3 (macHi_lt _ _ _ _)) ht)⟩⟩, by dsimp only; omega, rfl, rfl⟩
    · simp only [push_cast, Nat.reduceAdd, Nat.reduceSub, Nat.reduceMul, Nat.reduceLT, Nat.reduceLeDiff, Nat.reduceEqDiff, Nat.reduceMod, Nat.reduceDiv, Int.reduceAdd, Int.reduceSub, Int.reduceMul, Int.reduceLT, Int.reduceLE, Int.reduceEq, Int.reduceNeg, Int.reduceToNat, reduceIte, reduceCtorEq]
      refine unrollO gW_ok (pl := Tryd.pl17) Tryd.mix 5 (by kernel_rfl) ?_
      simp only [push_cast, Nat.reduceAdd, Nat.reduceSub, Nat.reduceMul, Nat.reduceLT, Nat.reduceLeDiff, Nat.reduceEqDiff, Nat.reduceMod, Nat.reduceDiv, Int.reduceAdd, Int.reduceSub, Int.reduceMul, Int.reduceLT, Int.reduceLE, Int.reduceEq, Int.reduceNeg, Int.reduceToNat, reduceIte, reduceCtorEq, hb3, hb4, mac_hi, ha, hb, hc, hd, ya, yb, yc, yd, g0, g1, g2, g3, h0, h1, h2, h3]
      exact ⟨(3, w0, w1, macLo x.c y.a w2 0, macLo x.c y.b w3 (macHi x.c y.a w2 0)), ⟨by dsimp only; omega, h0, h1, macLo_lt _ _ _ _, macLo_lt _ _ _ _, ⟨_, mul_l2 x y (mul_s2 (mac_eq hc ya h2 (by decide)) (mac_eq hc yb h3 (macHi_lt _ _ _ _)) ht)⟩⟩, by dsimp only; omega, rfl, rfl⟩
    · simp only [push_cast, Nat.reduceAdd, Nat.reduceSub, Nat.reduceMul, Nat.reduceLT, Nat.reduceLeDiff, Nat.reduceEqDiff, Nat.reduceMod, Nat.reduceDiv, Int.reduceAdd, Int.reduceSub, Int.reduceMul, Int.reduceLT, Int.reduceLE, Int.reduceEq, Int.reduceNeg, Int.reduceToNat, reduceIte, reduceCtorEq]
      refine unrollO gW_ok (pl := Tryd.pl17) Tryd.mix 5 (by kernel_rfl) ?_
      simp only [push_cast, Nat.reduceAdd, Nat.reduceSub, Nat.reduceMul, Nat.reduceLT, Nat.reduceLeDiff, Nat.reduceEqDiff, Nat.reduceMod, Nat.reduceDiv, Int.reduceAdd, Int.reduceSub, Int.reduceMul, Int.reduceLT, Int.reduceLE, Int.reduceEq, Int.reduceNeg, Int.reduceToNat, reduceIte, reduceCtorEq, hb3, hb4, mac_hi, ha, hb, hc, hd, ya, yb, yc, yd, g0, g1, g2, g3, h0, h1, h2, h3]
      exact ⟨(4, w0, w1, w2, macLo x.d y.a w3 0), ⟨by dsimp only; omega, h0, h1, h2, macLo_lt _ _ _ _, ⟨_, mul_l3 x y (mul_s3 (mac_eq hd ya h3 (by decide)) ht)⟩⟩, by dsimp only; omega, rfl, rfl⟩
    · simp only [push_cast, Nat.reduceAdd, Nat.reduceSub, Nat.reduceMul, Nat.reduceLT, Nat.reduceLeDiff, Nat.reduceEqDiff, Nat.reduceMod, Nat.reduceDiv, Int.reduceAdd, Int.reduceSub, Int.reduceMul, Int.reduceLT, Int.reduceLE, Int.reduceEq, Int.reduceNeg, Int.reduceToNat, reduceIte, reduceCtorEq, hb3, hb4]
      rw [hR]
      have hlow : x.lows 4 = x.num := rfl
      rw [hlow] at ht
      have : (⟨w0, w1, w2, w3, h0, h1, h2, h3⟩ : W) = W.of (x.num * y.num) := W.eq_of (by
        rw [← ht]
        show w0 + 18446744073709551616 * (w1 + 18446744073709551616 * (w2 + 18446744073709551616 * w3)) = _
        omega)
      rw [← this]
      rfl
theorem wordOf (n : Int) (hn : -9223372036854775808 ≤ n ∧ n ≤ 9223372036854775807) : CallsV Tryd.prog 11 [.int .i64 n] [] (Ret0 (W.ofInt n).v) := by
  obtain ⟨R, hR⟩ : ∃ R, R = W.ofInt n := ⟨_, rfl⟩
  rw [← hR]
  refine callsO gW_ok Tryd.mix Tryd.pl11 Tryd.func11 rfl Tryd.ntmps11 Tryd.results11 rfl (by first | rfl | assumption) (Nat.le_of_ble_eq_true rfl) (by kernel_rfl) ?_
  simp only [push_cast, Nat.reduceAdd, Nat.reduceSub, Nat.reduceMul, Nat.reduceLT, Nat.reduceLeDiff, Nat.reduceEqDiff, Nat.reduceMod, Nat.reduceDiv, Int.reduceAdd, Int.reduceSub, Int.reduceMul, Int.reduceLT, Int.reduceLE, Int.reduceEq, Int.reduceNeg, Int.reduceToNat, reduceIte, reduceCtorEq]
  rw [hR]
  rcases Int.lt_or_le n 0 with h | h
  · have e1 : shrI .i64 n 63 = -1 := by
      unfold shrI
      rw [Int.fdiv_eq_ediv_of_nonneg _ (Int.pow_nonneg (by decide))]
      show n / 9223372036854775808 = -1
      omega
    rw [e1, W.ofInt, if_neg (by omega), IntKind.wrap_u64, IntKind.wrap_u64]
    simp only [W.v, W.cells, Value.agg.injEq]
    congr 2
    simp only [Value.int.injEq, true_and]
    omega
  · have e1 : shrI .i64 n 63 = 0 := by
      unfold shrI
      rw [Int.fdiv_eq_ediv_of_nonneg _ (Int.pow_nonneg (by decide))]
      show n / 9223372036854775808 = 0
      omega
    rw [e1, W.ofInt, if_pos h, IntKind.wrap_u64, IntKind.wrap_u64]
    simp only [W.v, W.cells, Value.agg.injEq]
    congr 2
    simp only [Value.int.injEq, true_and]
    omega
end Go.Proofs.YtndioekjgmbomaaDoor
