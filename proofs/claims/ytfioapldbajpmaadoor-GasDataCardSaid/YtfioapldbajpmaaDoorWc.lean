/- Wc: sums, differences and products of numbers of 64 bits, as math/bits tells them. -/
import Derived.Test.YtfioapldbajpmaaDoorWa
import Derived.Shelf.Spec.BitsCarry
import Derived.Lib.Mul64
import Derived.Shelf.Bits.Mul64
set_option linter.unusedSimpArgs false
set_option linter.unusedVariables false
namespace Go.Ev
open Go.Proofs
/-- the word of a number, modulo 2^256 -/
def W.ofN (n : Nat) : W := ⟨n % 18446744073709551616, n / 18446744073709551616 % 18446744073709551616, n / 18446744073709551616 / 18446744073709551616 % 18446744073709551616, n / 18446744073709551616 / 18446744073709551616 / 18446744073709551616 % 18446744073709551616,
  Nat.mod_lt _ (by decide), Nat.mod_lt _ (by decide), Nat.mod_lt _ (by decide), Nat.mod_lt _ (by decide)⟩
noncomputable def W.of : Nat → W := hid W.ofN
theorem W.of_N (n : Nat) : W.of n = W.ofN n := congrFun (hid_eq W.ofN) n
theorem W.num_of (n : Nat) : (W.of n).num = n % 115792089237316195423570985008687907853269984665640564039457584007913129639936 := by
  rw [W.of_N]
  unfold W.ofN W.num
  dsimp only
  omega
theorem W.num_lt (w : W) : w.num < 115792089237316195423570985008687907853269984665640564039457584007913129639936 := by
  have := w.ha; have := w.hb; have := w.hc; have := w.hd
  unfold W.num
  omega
theorem W.of_num (w : W) : W.of w.num = w := W.num_inj (by rw [W.num_of, Nat.mod_eq_of_lt w.num_lt])
theorem W.of_eq {n m : Nat} (h : n % 115792089237316195423570985008687907853269984665640564039457584007913129639936 = m % 115792089237316195423570985008687907853269984665640564039457584007913129639936) : W.of n = W.of m := W.num_inj (by rw [W.num_of, W.num_of, h])
theorem W.eq_of {w : W} {n : Nat} (h : w.num = n % 115792089237316195423570985008687907853269984665640564039457584007913129639936) : w = W.of n := W.num_inj (by rw [W.num_of, h])
/-! a sum, a difference, a product of two numbers of 64 bits: their two parts -/
noncomputable def addLo : Nat → Nat → Nat → Nat := hid fun x y c => (x + y + c) % 18446744073709551616
theorem addLo_eq (x y c : Nat) : addLo x y c = (x + y + c) % 18446744073709551616 := by unfold addLo; rw [hid_eq]
noncomputable def addC : Nat → Nat → Nat → Nat := hid fun x y c => if 18446744073709551616 ≤ x + y + c then 1 else 0
theorem addC_eq (x y c : Nat) : addC x y c = if 18446744073709551616 ≤ x + y + c then 1 else 0 := by unfold addC; rw [hid_eq]
noncomputable def subLo : Nat → Nat → Nat → Nat := hid fun x y b => (x + 18446744073709551616 - y - b) % 18446744073709551616
theorem subLo_eq (x y b : Nat) : subLo x y b = (x + 18446744073709551616 - y - b) % 18446744073709551616 := by unfold subLo; rw [hid_eq]
noncomputable def subB : Nat → Nat → Nat → Nat := hid fun x y b => if x < y + b then 1 else 0
theorem subB_eq (x y b : Nat) : subB x y b = if x < y + b then 1 else 0 := by unfold subB; rw [hid_eq]
noncomputable def mulLo : Nat → Nat → Nat := hid fun x y => x * y % 18446744073709551616
theorem mulLo_eq (x y : Nat) : mulLo x y = x * y % 18446744073709551616 := by unfold mulLo; rw [hid_eq]
noncomputable def mulHi : Nat → Nat → Nat := hid fun x y => x * y / 18446744073709551616
theorem mulHi_eq (x y : Nat) : mulHi x y = x * y / 18446744073709551616 := by unfold mulHi; rw [hid_eq]
/-- a product, and two numbers more -/
noncomputable def macLo : Nat → Nat → Nat → Nat → Nat := hid fun x y w c => (x * y + w + c) % 18446744073709551616
theorem macLo_eq (x y w c : Nat) : macLo x y w c = (x * y + w + c) % 18446744073709551616 := by unfold macLo; rw [hid_eq]
noncomputable def macHi : Nat → Nat → Nat → Nat → Nat := hid fun x y w c => ((x % 18446744073709551616) * (y % 18446744073709551616) + w % 18446744073709551616 + c % 18446744073709551616) / 18446744073709551616
theorem macHi_eq' (x y w c : Nat) : macHi x y w c = ((x % 18446744073709551616) * (y % 18446744073709551616) + w % 18446744073709551616 + c % 18446744073709551616) / 18446744073709551616 := by unfold macHi; rw [hid_eq]
theorem macHi_eq {x y w c : Nat} (hx : x < 18446744073709551616) (hy : y < 18446744073709551616) (hw : w < 18446744073709551616) (hc : c < 18446744073709551616) : macHi x y w c = (x * y + w + c) / 18446744073709551616 := by rw [macHi_eq', Nat.mod_eq_of_lt hx, Nat.mod_eq_of_lt hy, Nat.mod_eq_of_lt hw, Nat.mod_eq_of_lt hc]
theorem addLo_lt (x y c : Nat) : addLo x y c < 18446744073709551616 := by rw [addLo_eq]; exact Nat.mod_lt _ (by decide)
theorem subLo_lt (x y c : Nat) : subLo x y c < 18446744073709551616 := by rw [subLo_eq]; exact Nat.mod_lt _ (by decide)
theorem mulLo_lt (x y : Nat) : mulLo x y < 18446744073709551616 := by rw [mulLo_eq]; exact Nat.mod_lt _ (by decide)
theorem macLo_lt (x y w c : Nat) : macLo x y w c < 18446744073709551616 := by rw [macLo_eq]; exact Nat.mod_lt _ (by decide)
theorem addC_le (x y c : Nat) : addC x y c ≤ 1 := by simp only [addC_eq]; split <;> omega
theorem subB_le (x y c : Nat) : subB x y c ≤ 1 := by simp only [subB_eq]; split <;> omega
theorem mul_le {x y : Nat} (hx : x < 18446744073709551616) (hy : y < 18446744073709551616) : x * y ≤ 340282366920938463426481119284349108225 := Nat.mul_le_mul (Nat.le_of_lt_succ hx : x ≤ 18446744073709551615) (Nat.le_of_lt_succ hy : y ≤ 18446744073709551615)
theorem mulHi_lt {x y : Nat} (hx : x < 18446744073709551616) (hy : y < 18446744073709551616) : mulHi x y < 18446744073709551616 := by
  have := mul_le hx hy; simp only [mulHi_eq]; omega
theorem macHi_lt (x y w c : Nat) : macHi x y w c < 18446744073709551616 := by
  have := mul_le (Nat.mod_lt x (by decide : 0 < 18446744073709551616)) (Nat.mod_lt y (by decide : 0 < 18446744073709551616))
  rw [macHi_eq']; omega
theorem mac_lo (x y w c : Nat) : addLo (addLo (mulLo x y) w 0) c 0 = macLo x y w c := by simp only [addLo_eq, mulLo_eq, macLo_eq]; omega
theorem mac_hi {x y w c : Nat} (hx : x < 18446744073709551616) (hy : y < 18446744073709551616) (hw : w < 18446744073709551616) (hc : c < 18446744073709551616) :
    IntKind.u64.wrap (IntKind.u64.wrap ((mulHi x y : Nat) + (addC (mulLo x y) w 0 : Nat)) + (addC (addLo (mulLo x y) w 0) c 0 : Nat)) = ((macHi x y w c : Nat) : Int) := by
  have h := mul_le hx hy
  rw [IntKind.wrap_u64, IntKind.wrap_u64]
  simp only [mulHi_eq, mulLo_eq, addLo_eq, addC_eq, macHi_eq hx hy hw hc]
  split <;> split <;> omega
theorem mac_eq {x y w c : Nat} (hx : x < 18446744073709551616) (hy : y < 18446744073709551616) (hw : w < 18446744073709551616) (hc : c < 18446744073709551616) : macLo x y w c + 18446744073709551616 * macHi x y w c = x * y + w + c := by rw [macLo_eq, macHi_eq hx hy hw hc]; omega
noncomputable def cmpWG : List Value → Option Value
  | [x, y] => (wOf x).bind fun a => (wOf y).bind fun b => some (.int .i64 (a.cmp b))
  | _ => none
attribute [push_cast] cmpWG
theorem cmpWG_some {args : List Value} {v : Value} (h : cmpWG args = some v) : ∃ x y : W, args = [x.v, y.v] ∧ v = .int .i64 (x.cmp y) := by
  unfold cmpWG at h
  split at h
  · rename_i x y
    cases hx : wOf x with
    | none => simp [hx] at h
    | some a =>
      cases hy : wOf y with
      | none => simp [hx, hy] at h
      | some b => simp [hx, hy] at h; exact ⟨a, b, by rw [wOf_some hx, wOf_some hy], h.symm⟩
  · cases h
noncomputable def b64 : Int → Bool := hid fun x => decide (0 ≤ x ∧ x < 18446744073709551616)
theorem b64_eq (x : Int) : b64 x = decide (0 ≤ x ∧ x < 18446744073709551616) := by unfold b64; rw [hid_eq]
theorem b64_lo1 (x y c : Nat) : b64 (addLo x y c : Nat) = true := by have := addLo_lt x y c; simp only [b64_eq]; rw [decide_eq_true_eq]; omega
theorem b64_lo2 (x y c : Nat) : b64 (subLo x y c : Nat) = true := by have := subLo_lt x y c; simp only [b64_eq]; rw [decide_eq_true_eq]; omega
theorem b64_lo3 (x y : Nat) : b64 (mulLo x y : Nat) = true := by have := mulLo_lt x y; simp only [b64_eq]; rw [decide_eq_true_eq]; omega
theorem b64_lo4 (x y w c : Nat) : b64 (macLo x y w c : Nat) = true := by have := macLo_lt x y w c; simp only [b64_eq]; rw [decide_eq_true_eq]; omega
theorem b64_a (w : W) : b64 (w.a : Nat) = true := by have := w.ha; simp only [b64_eq]; rw [decide_eq_true_eq]; omega
theorem b64_b (w : W) : b64 (w.b : Nat) = true := by have := w.hb; simp only [b64_eq]; rw [decide_eq_true_eq]; omega
theorem b64_c (w : W) : b64 (w.c : Nat) = true := by have := w.hc; simp only [b64_eq]; rw [decide_eq_true_eq]; omega
theorem b64_d (w : W) : b64 (w.d : Nat) = true := by have := w.hd; simp only [b64_eq]; rw [decide_eq_true_eq]; omega
theorem b64_0 : b64 0 = true := by rw [b64_eq]; rfl
theorem b64_1 : b64 1 = true := by rw [b64_eq]; rfl
noncomputable def b1 : Int → Bool := hid fun x => decide (0 ≤ x ∧ x ≤ 1)
theorem b1_eq (x : Int) : b1 x = decide (0 ≤ x ∧ x ≤ 1) := by unfold b1; rw [hid_eq]
theorem b1_add (x y c : Nat) : b1 (addC x y c : Nat) = true := by have := addC_le x y c; simp only [b1_eq]; rw [decide_eq_true_eq]; omega
theorem b1_sub (x y c : Nat) : b1 (subB x y c : Nat) = true := by have := subB_le x y c; simp only [b1_eq]; rw [decide_eq_true_eq]; omega
theorem b1_0 : b1 0 = true := by rw [b1_eq]; rfl
theorem b64_hi (x y w c : Nat) : b64 (macHi x y w c : Nat) = true := by
  have := macHi_lt x y w c; simp only [b64_eq]; rw [decide_eq_true_eq]; omega
attribute [push_cast] macHi_lt macLo_lt b64_hi
theorem shr_u64 (x : Int) (k : Nat) (hk : k ≤ 64) : shrI .u64 x k = x / 2 ^ k := by
  unfold shrI
  rw [Int.fdiv_eq_ediv_of_nonneg _ (Int.pow_nonneg (by decide)), Int.toNat_natCast, show min k IntKind.u64.bits = k from Nat.min_eq_left hk]
theorem shr32 (x : Int) : shrI .u64 x 32 = x / 4294967296 := shr_u64 x 32 (by decide)
theorem maskI (a : Nat) (ha : a < 18446744073709551616) : bitsI .and .u64 (a : Int) 4294967295 = ((a % 4294967296 : Nat) : Int) := Mul64.maskN a ha
noncomputable def addX : List Value → Option Value
  | [.int .u64 x, .int .u64 y, .int .u64 c] => if b64 x && b64 y && b1 c then some (.tuple #[.int .u64 (addLo x.toNat y.toNat c.toNat : Nat), .int .u64 (addC x.toNat y.toNat c.toNat : Nat)]) else none
  | _ => none
noncomputable def subX : List Value → Option Value
  | [.int .u64 x, .int .u64 y, .int .u64 c] => if b64 x && b64 y && b1 c then some (.tuple #[.int .u64 (subLo x.toNat y.toNat c.toNat : Nat), .int .u64 (subB x.toNat y.toNat c.toNat : Nat)]) else none
  | _ => none
noncomputable def mulX : List Value → Option Value
  | [.int .u64 x, .int .u64 y] => if b64 x && b64 y then some (.tuple #[.int .u64 (mulHi x.toNat y.toNat : Nat), .int .u64 (mulLo x.toNat y.toNat : Nat)]) else none
  | _ => none
attribute [push_cast] addX subX mulX b64_lo1 b64_lo2 b64_lo3 b64_lo4 b64_a b64_b b64_c b64_d b64_0 b64_1 b1_add b1_sub b1_0 mac_lo
end Go.Ev
namespace Go.Proofs.YtfioapldbajpmaaDoor
open Go Go.Ev Go.Proofs
set_option maxRecDepth 100000
set_option maxHeartbeats 4000000
noncomputable def gM : Gam := noG
attribute [push_cast] gM
theorem gM_ok : GamOk Tryd.prog gM := (noG_ok _)
end Go.Proofs.YtfioapldbajpmaaDoor
