/- Wd: the program's words: Of, Sub, Mul. -/
import Derived.Test.YtfioapldbajpmaaDoorWc
import Derived.Test.YtfioapldbajpmaaDoorWb
set_option linter.unusedSimpArgs false
set_option linter.unusedVariables false
namespace Go.Ev
/-- the lowest parts of a word -/
def W.lows (x : W) : Nat → Nat
  | 0 => 0
  | 1 => x.a
  | 2 => x.a + 18446744073709551616 * x.b
  | 3 => x.a + 18446744073709551616 * (x.b + 18446744073709551616 * x.c)
  | _ => x.num
theorem W.at0 (x : W) (h : 0 < x.cells.toArray.size) : x.cells.toArray[0]'h = .int .u64 x.a := rfl
theorem W.at1 (x : W) (h : 1 < x.cells.toArray.size) : x.cells.toArray[1]'h = .int .u64 x.b := rfl
theorem W.at2 (x : W) (h : 2 < x.cells.toArray.size) : x.cells.toArray[2]'h = .int .u64 x.c := rfl
theorem W.at3 (x : W) (h : 3 < x.cells.toArray.size) : x.cells.toArray[3]'h = .int .u64 x.d := rfl
theorem indexV_W (P : Program) (t : TypeId) (x : W) (k : IntKind) (i : Int) : indexV P t x.v (.int k i) = (match elemI P t with
  | some (some n, s, ag) => if 0 ≤ i ∧ i < (n : Int) then partL ag x.cells.toArray (i.toNat * s) s else none
  | _ => none) := rfl
theorem W.q0 (x : W) : x.cells.toArray[0]? = some (.int .u64 x.a) := rfl
theorem W.q1 (x : W) : x.cells.toArray[1]? = some (.int .u64 x.b) := rfl
theorem W.q2 (x : W) : x.cells.toArray[2]? = some (.int .u64 x.c) := rfl
theorem W.q3 (x : W) : x.cells.toArray[3]? = some (.int .u64 x.d) := rfl
attribute [push_cast] indexV_W W.at0 W.at1 W.at2 W.at3 W.q0 W.q1 W.q2 W.q3
theorem b64_of {n : Nat} (h : n < 18446744073709551616) : b64 (n : Int) = true := by rw [b64_eq, decide_eq_true_eq]; omega
theorem mulY (x a b c d : Nat) : x * (a + 18446744073709551616 * (b + 18446744073709551616 * (c + 18446744073709551616 * d))) = x * a + 18446744073709551616 * (x * b + 18446744073709551616 * (x * c + 18446744073709551616 * (x * d))) := by
  have s : ∀ a Z, x * (a + 18446744073709551616 * Z) = x * a + 18446744073709551616 * (x * Z) := fun a Z => by rw [Nat.mul_add, Nat.mul_left_comm]
  rw [s, s, s]
theorem mul_s0 {x ya yb yc yd w0 w1 w2 w3 m0 m1 m2 m3 c1 c2 c3 c4 t : Nat} (e0 : m0 + 18446744073709551616 * c1 = x * ya + w0 + 0) (e1 : m1 + 18446744073709551616 * c2 = x * yb + w1 + c1) (e2 : m2 + 18446744073709551616 * c3 = x * yc + w2 + c2) (e3 : m3 + 18446744073709551616 * c4 = x * yd + w3 + c3)
    (h : w0 + 18446744073709551616 * (w1 + 18446744073709551616 * (w2 + 18446744073709551616 * w3)) + 115792089237316195423570985008687907853269984665640564039457584007913129639936 * t = 0) : m0 + 18446744073709551616 * (m1 + 18446744073709551616 * (m2 + 18446744073709551616 * m3)) + 115792089237316195423570985008687907853269984665640564039457584007913129639936 * (t + c4) = x * (ya + 18446744073709551616 * (yb + 18446744073709551616 * (yc + 18446744073709551616 * yd))) := by
  rw [mulY]
  generalize x * ya = pa at *; generalize x * yb = pb at *; generalize x * yc = pc at *; generalize x * yd = pd at *
  omega
theorem mul_s1 {L x ya yb yc yd w0 w1 w2 w3 m1 m2 m3 c2 c3 c4 t : Nat} (e1 : m1 + 18446744073709551616 * c2 = x * ya + w1 + 0) (e2 : m2 + 18446744073709551616 * c3 = x * yb + w2 + c2) (e3 : m3 + 18446744073709551616 * c4 = x * yc + w3 + c3)
    (h : w0 + 18446744073709551616 * (w1 + 18446744073709551616 * (w2 + 18446744073709551616 * w3)) + 115792089237316195423570985008687907853269984665640564039457584007913129639936 * t = L * (ya + 18446744073709551616 * (yb + 18446744073709551616 * (yc + 18446744073709551616 * yd)))) : w0 + 18446744073709551616 * (m1 + 18446744073709551616 * (m2 + 18446744073709551616 * m3)) + 115792089237316195423570985008687907853269984665640564039457584007913129639936 * (t + c4 + x * yd) = (L + 18446744073709551616 * x) * (ya + 18446744073709551616 * (yb + 18446744073709551616 * (yc + 18446744073709551616 * yd))) := by
  rw [Nat.add_mul, Nat.mul_assoc, mulY x, ← h]
  generalize x * ya = pa at *; generalize x * yb = pb at *; generalize x * yc = pc at *; generalize x * yd = pd at *
  omega
theorem mul_s2 {L x ya yb yc yd w0 w1 w2 w3 m2 m3 c3 c4 t : Nat} (e2 : m2 + 18446744073709551616 * c3 = x * ya + w2 + 0) (e3 : m3 + 18446744073709551616 * c4 = x * yb + w3 + c3)
    (h : w0 + 18446744073709551616 * (w1 + 18446744073709551616 * (w2 + 18446744073709551616 * w3)) + 115792089237316195423570985008687907853269984665640564039457584007913129639936 * t = L * (ya + 18446744073709551616 * (yb + 18446744073709551616 * (yc + 18446744073709551616 * yd)))) : w0 + 18446744073709551616 * (w1 + 18446744073709551616 * (m2 + 18446744073709551616 * m3)) + 115792089237316195423570985008687907853269984665640564039457584007913129639936 * (t + c4 + x * yc + 18446744073709551616 * (x * yd)) = (L + 18446744073709551616 * (18446744073709551616 * x)) * (ya + 18446744073709551616 * (yb + 18446744073709551616 * (yc + 18446744073709551616 * yd))) := by
  rw [Nat.add_mul, Nat.mul_assoc, Nat.mul_assoc, mulY x, ← h]
  generalize x * ya = pa at *; generalize x * yb = pb at *; generalize x * yc = pc at *; generalize x * yd = pd at *
  omega
theorem mul_s3 {L x ya yb yc yd w0 w1 w2 w3 m3 c4 t : Nat} (e3 : m3 + 18446744073709551616 * c4 = x * ya + w3 + 0)
    (h : w0 + 18446744073709551616 * (w1 + 18446744073709551616 * (w2 + 18446744073709551616 * w3)) + 115792089237316195423570985008687907853269984665640564039457584007913129639936 * t = L * (ya + 18446744073709551616 * (yb + 18446744073709551616 * (yc + 18446744073709551616 * yd)))) : w0 + 18446744073709551616 * (w1 + 18446744073709551616 * (w2 + 18446744073709551616 * m3)) + 115792089237316195423570985008687907853269984665640564039457584007913129639936 * (t + c4 + x * yb + 18446744073709551616 * (x * yc) + 18446744073709551616 * (18446744073709551616 * (x * yd))) = (L + 18446744073709551616 * (18446744073709551616 * (18446744073709551616 * x))) * (ya + 18446744073709551616 * (yb + 18446744073709551616 * (yc + 18446744073709551616 * yd))) := by
  rw [Nat.add_mul, Nat.mul_assoc, Nat.mul_assoc, Nat.mul_assoc, mulY x, ← h]
  generalize x * ya = pa at *; generalize x * yb = pb at *; generalize x * yc = pc at *; generalize x * yd = pd at *
  omega
theorem mul_l1 (x y : W) {Z : Nat} (h : Z = (x.a + 18446744073709551616 * x.b) * y.num) : Z = x.lows 2 * y.num := h
theorem mul_l2 (x y : W) {Z : Nat} (h : Z = (x.lows 2 + 18446744073709551616 * (18446744073709551616 * x.c)) * y.num) : Z = x.lows 3 * y.num := by
  have e2 : x.lows 2 = x.a + 18446744073709551616 * x.b := rfl
  have e3 : x.lows 3 = x.a + 18446744073709551616 * (x.b + 18446744073709551616 * x.c) := rfl
  rw [h]; congr 1; omega
theorem mul_l3 (x y : W) {Z : Nat} (h : Z = (x.lows 3 + 18446744073709551616 * (18446744073709551616 * (18446744073709551616 * x.d))) * y.num) : Z = x.lows 4 * y.num := by
  have e3 : x.lows 3 = x.a + 18446744073709551616 * (x.b + 18446744073709551616 * x.c) := rfl
  have e4 : x.lows 4 = x.a + 18446744073709551616 * (x.b + 18446744073709551616 * (x.c + 18446744073709551616 * x.d)) := rfl
  rw [h]; congr 1; omega
theorem sub_key {xa xb xc xd ya yb yc yd l0 l1 l2 l3 c0 c1 c2 c3 : Nat} (e0 : l0 + ya = xa + 18446744073709551616 * c0) (e1 : l1 + yb + c0 = xb + 18446744073709551616 * c1) (e2 : l2 + yc + c1 = xc + 18446744073709551616 * c2) (e3 : l3 + yd + c2 = xd + 18446744073709551616 * c3) :
    (l0 + 18446744073709551616 * (l1 + 18446744073709551616 * (l2 + 18446744073709551616 * l3))) + (ya + 18446744073709551616 * (yb + 18446744073709551616 * (yc + 18446744073709551616 * yd))) =
    (xa + 18446744073709551616 * (xb + 18446744073709551616 * (xc + 18446744073709551616 * xd))) + 115792089237316195423570985008687907853269984665640564039457584007913129639936 * c3 := by omega
theorem sub_mod {X Y L c : Nat} (h1 : Y < 115792089237316195423570985008687907853269984665640564039457584007913129639936) (h0 : X < 115792089237316195423570985008687907853269984665640564039457584007913129639936) (h2 : L < 115792089237316195423570985008687907853269984665640564039457584007913129639936) (hc : c ≤ 1) (h : L + Y = X + 115792089237316195423570985008687907853269984665640564039457584007913129639936 * c) :
    L = (X + 115792089237316195423570985008687907853269984665640564039457584007913129639936 - Y) % 115792089237316195423570985008687907853269984665640564039457584007913129639936 := by
  have hc' : c = 0 ∨ c = 1 := by omega
  rcases hc' with rfl | rfl <;> omega
theorem sub_step {x y b : Nat} (hx : x < 18446744073709551616) (hy : y < 18446744073709551616) (hb : b ≤ 1) : subLo x y b + y + b = x + 18446744073709551616 * subB x y b := by
  simp only [subLo_eq, subB_eq]; split <;> omega
theorem sub_num (x y : W) : (⟨subLo x.a y.a 0, subLo x.b y.b (subB x.a y.a 0), subLo x.c y.c (subB x.b y.b (subB x.a y.a 0)), subLo x.d y.d (subB x.c y.c (subB x.b y.b (subB x.a y.a 0))), subLo_lt _ _ _, subLo_lt _ _ _, subLo_lt _ _ _, subLo_lt _ _ _⟩ : W) =
    W.of (x.num + 115792089237316195423570985008687907853269984665640564039457584007913129639936 - y.num) := by
  refine W.eq_of ?_
  refine sub_mod y.num_lt x.num_lt (W.num_lt _) (subB_le x.d y.d (subB x.c y.c (subB x.b y.b (subB x.a y.a 0)))) ?_
  exact sub_key (sub_step x.ha y.ha (Nat.zero_le 1)) (sub_step x.hb y.hb (subB_le _ _ _)) (sub_step x.hc y.hc (subB_le _ _ _)) (sub_step x.hd y.hd (subB_le _ _ _))
end Go.Ev
namespace Go.Proofs.YtfioapldbajpmaaDoor
open Go Go.Ev Go.Proofs
set_option maxRecDepth 100000
set_option maxHeartbeats 4000000
theorem refCmpG (args : List Value) (v : Value) (h : cmpWG args = some v) : CallsV Tryd.prog 80 args [] (Ret0 v) := by
  obtain ⟨x, y, rfl, rfl⟩ := cmpWG_some h; exact refCmp x y
noncomputable def gW : Gam := (addG 80 cmpWG gM)
attribute [push_cast] gW
theorem gW_ok : GamOk Tryd.prog gW := (addG_ok refCmpG gM_ok)
end Go.Proofs.YtfioapldbajpmaaDoor
