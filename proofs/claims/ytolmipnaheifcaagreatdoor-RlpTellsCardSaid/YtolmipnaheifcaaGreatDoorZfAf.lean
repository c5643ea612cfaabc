/- Texts of this claim, merged by program: Wa Wc Wb Wd Da Wk Wl R0 EvS EvT. -/
import Derived.Test.YtolmipnaheifcaaGreatDoorZfAe
import Derived.Shelf.Spec.BitsCarry
import Derived.Lib.Mul64
import Derived.Shelf.Bits.Mul64
import Derived.PlainAid
import Derived.Test.YtolmipnaheifcaaGreatDoorZfAd
import Derived.ChangeMaps5
import Derived.Test.YtolmipnaheifcaaGreatDoorZfAc
set_option linter.unusedSimpArgs false
set_option linter.unusedVariables false
namespace Go.Ev
structure W where
  a : Nat
  b : Nat
  c : Nat
  d : Nat
  ha : a < 18446744073709551616
  hb : b < 18446744073709551616
  hc : c < 18446744073709551616
  hd : d < 18446744073709551616
def W.cells (w : W) : List Value := [.int .u64 w.a, .int .u64 w.b, .int .u64 w.c, .int .u64 w.d]
def W.v (w : W) : Value := .agg w.cells.toArray
def W.num (w : W) : Nat := w.a + 18446744073709551616 * (w.b + 18446744073709551616 * (w.c + 18446744073709551616 * w.d))
theorem W.eq {x y : W} (ha : x.a = y.a) (hb : x.b = y.b) (hc : x.c = y.c) (hd : x.d = y.d) : x = y := by
  cases x; cases y; simp at ha hb hc hd; subst ha hb hc hd; rfl
theorem W.num_inj {x y : W} (h : x.num = y.num) : x = y := by
  have := x.ha; have := x.hb; have := x.hc; have := x.hd; have := y.ha; have := y.hb; have := y.hc; have := y.hd
  unfold W.num at h
  refine W.eq ?_ ?_ ?_ ?_ <;> omega
theorem W.cells_inj {x y : W} (h : x.cells = y.cells) : x = y := by
  simp only [W.cells, List.cons.injEq, Value.int.injEq, true_and, and_true, Int.ofNat_inj] at h
  exact W.eq h.1 h.2.1 h.2.2.1 h.2.2.2
theorem W.v_inj {x y : W} (h : x.v = y.v) : x = y := by
  simp only [W.v, Value.agg.injEq] at h
  exact W.cells_inj (by simpa using congrArg Array.toList h)
instance : DecidableEq W := fun x y => if h : x.num = y.num then .isTrue (W.num_inj h) else .isFalse fun e => h (by rw [e])
noncomputable def wOf (v : Value) : Option W := @dite (Option W) (∃ x : W, x.v = v) (Classical.propDecidable _) (fun h => some (Classical.choose h)) (fun _ => none)
theorem wOf_v (x : W) : wOf x.v = some x := by
  have h : ∃ y : W, y.v = x.v := ⟨x, rfl⟩
  unfold wOf
  rw [dif_pos h, W.v_inj (Classical.choose_spec h)]
theorem wOf_some {v : Value} {x : W} (h : wOf v = some x) : v = x.v := by
  unfold wOf at h
  by_cases hx : ∃ x : W, x.v = v
  · rw [dif_pos hx] at h; cases h; exact (Classical.choose_spec hx).symm
  · rw [dif_neg hx] at h; cases h
theorem W.v_cells (x : W) : x.v.cells = x.cells.toArray := rfl
theorem W.agg (x : W) : Value.agg x.cells.toArray = x.v := rfl
theorem W.len (x : W) : x.cells.length = 4 := rfl
theorem W.sub (x : W) : subL x.cells 0 4 = some x.cells := rfl
theorem W.sub0 (x : W) : subL x.cells 0 1 = some [.int .u64 x.a] := rfl
theorem W.sub1 (x : W) : subL x.cells 1 1 = some [.int .u64 x.b] := rfl
theorem W.sub2 (x : W) : subL x.cells 2 1 = some [.int .u64 x.c] := rfl
theorem W.sub3 (x : W) : subL x.cells 3 1 = some [.int .u64 x.d] := rfl
theorem W.take (x : W) : List.take 4 x.cells = x.cells := rfl
theorem W.t0 (x : W) : List.take 1 x.cells = [.int .u64 x.a] := rfl
theorem W.t1 (x : W) : List.take 1 (List.drop 1 x.cells) = [.int .u64 x.b] := rfl
theorem W.t2 (x : W) : List.take 1 (List.drop 2 x.cells) = [.int .u64 x.c] := rfl
theorem W.t3 (x : W) : List.take 1 (List.drop 3 x.cells) = [.int .u64 x.d] := rfl
theorem W.all1 (x : W) : x.cells.all oneC = true := rfl
theorem W.takeA (x : W) (l : List Value) : List.take 4 (x.cells ++ l) = x.cells := rfl
theorem W.dropA (x : W) (l : List Value) : List.drop 4 (x.cells ++ l) = l := rfl
theorem W.dropB (x : W) (l : List Value) (n : Nat) : List.drop (n + 4) (x.cells ++ l) = List.drop n l := rfl
theorem W.drop4 (x : W) : List.drop 4 x.cells = [] := rfl
theorem W.take0 (x : W) (l : List Value) (n : Nat) : List.take (n + 4) (x.cells ++ l) = x.cells ++ List.take n l := rfl
def W.zero : W := ⟨0, 0, 0, 0, by decide, by decide, by decide, by decide⟩
attribute [push_cast] wOf_v W.v_cells W.agg W.len W.sub W.sub0 W.sub1 W.sub2 W.sub3 W.take W.t0 W.t1 W.t2 W.t3 W.all1 W.takeA W.dropA W.dropB W.drop4 W.take0 List.append_assoc List.length_append List.toList_toArray
theorem sub1 {K : Value → Hp → Prop} {v : Value} {e : Ent} {H : Hp} (h : K v [e]) : ∃ H', List.Sublist H' (e :: H) ∧ K v H' := ⟨[e], (List.nil_sublist H).cons_cons e, h⟩
theorem sub0 {K : Value → Hp → Prop} {v : Value} {H : Hp} (h : K v []) : ∃ H', List.Sublist H' H ∧ K v H' := ⟨[], List.nil_sublist H, h⟩
def W.ofInt (n : Int) : W := if 0 ≤ n then ⟨n.toNat % 18446744073709551616, 0, 0, 0, Nat.mod_lt _ (by decide), by decide, by decide, by decide⟩
  else ⟨(n + 18446744073709551616).toNat % 18446744073709551616, 18446744073709551615, 18446744073709551615, 18446744073709551615, Nat.mod_lt _ (by decide), by decide, by decide, by decide⟩
def NewS (e s : Nat) (n : Nat) (cells : List Value) : Value → Hp → Prop := fun v N => ∃ b c, v = .slice (some ⟨b, 0, none⟩) n c ∧ n ≤ c ∧ N = [⟨b, 0, .vec e s c, cells⟩]
end Go.Ev
namespace Go.Proofs.YtolmipnaheifcaaGreatDoor
open Go Go.Ev Go.Proofs
set_option maxRecDepth 100000
set_option maxHeartbeats 4000000
end Go.Proofs.YtolmipnaheifcaaGreatDoor
set_option linter.unusedSimpArgs false
set_option linter.unusedVariables false
namespace Go.Ev
open Go.Proofs
def W.ofN (n : Nat) : W := ⟨n % 18446744073709551616, n / 18446744073709551616 % 18446744073709551616, n / 18446744073709551616 / 18446744073709551616 % 18446744073709551616, n / 18446744073709551616 / 18446744073709551616 / 18446744073709551616 % 18446744073709551616,
  Nat.mod_lt _ (by decide), Nat.mod_lt _ (by decide), Nat.mod_lt _ (by decide), Nat.mod_lt _ (by decide)⟩
noncomputable def W.of : Nat → W := hid W.ofN
theorem W.of_N (n : Nat) : W.of n = W.ofN n := congrFun (hid_eq W.ofN) n
theorem W.num_of (n : Nat) : (W.of n).num = n % 115792089237316195423570985008687907853269984665640564039457584007913129639936 := by
  rw [W.of_N]
  unfold W.ofN W.num
  dsimp only
  omega
theorem W.num_lt (w : W) : w.num < 115792089237316195423570985008687907853269984665640564039457584007913129639936 := by
  have := w.ha; have := w.hb; have := w.hc; have := w.hd
  unfold W.num
  omega
theorem W.eq_of {w : W} {n : Nat} (h : w.num = n % 115792089237316195423570985008687907853269984665640564039457584007913129639936) : w = W.of n := W.num_inj (by rw [W.num_of, h])
noncomputable def addLo : Nat → Nat → Nat → Nat := hid fun x y c => (x + y + c) % 18446744073709551616
theorem addLo_eq (x y c : Nat) : addLo x y c = (x + y + c) % 18446744073709551616 := by unfold addLo; rw [hid_eq]
noncomputable def addC : Nat → Nat → Nat → Nat := hid fun x y c => if 18446744073709551616 ≤ x + y + c then 1 else 0
theorem addC_eq (x y c : Nat) : addC x y c = if 18446744073709551616 ≤ x + y + c then 1 else 0 := by unfold addC; rw [hid_eq]
noncomputable def subLo : Nat → Nat → Nat → Nat := hid fun x y b => (x + 18446744073709551616 - y - b) % 18446744073709551616
theorem subLo_eq (x y b : Nat) : subLo x y b = (x + 18446744073709551616 - y - b) % 18446744073709551616 := by unfold subLo; rw [hid_eq]
noncomputable def subB : Nat → Nat → Nat → Nat := hid fun x y b => if x < y + b then 1 else 0
theorem subB_eq (x y b : Nat) : subB x y b = if x < y + b then 1 else 0 := by unfold subB; rw [hid_eq]
noncomputable def mulLo : Nat → Nat → Nat := hid fun x y => x * y % 18446744073709551616
theorem mulLo_eq (x y : Nat) : mulLo x y = x * y % 18446744073709551616 := by unfold mulLo; rw [hid_eq]
noncomputable def macLo : Nat → Nat → Nat → Nat → Nat := hid fun x y w c => (x * y + w + c) % 18446744073709551616
theorem macLo_eq (x y w c : Nat) : macLo x y w c = (x * y + w + c) % 18446744073709551616 := by unfold macLo; rw [hid_eq]
noncomputable def macHi : Nat → Nat → Nat → Nat → Nat := hid fun x y w c => ((x % 18446744073709551616) * (y % 18446744073709551616) + w % 18446744073709551616 + c % 18446744073709551616) / 18446744073709551616
theorem macHi_eq' (x y w c : Nat) : macHi x y w c = ((x % 18446744073709551616) * (y % 18446744073709551616) + w % 18446744073709551616 + c % 18446744073709551616) / 18446744073709551616 := by unfold macHi; rw [hid_eq]
theorem addLo_lt (x y c : Nat) : addLo x y c < 18446744073709551616 := by rw [addLo_eq]; exact Nat.mod_lt _ (by decide)
theorem subLo_lt (x y c : Nat) : subLo x y c < 18446744073709551616 := by rw [subLo_eq]; exact Nat.mod_lt _ (by decide)
theorem mulLo_lt (x y : Nat) : mulLo x y < 18446744073709551616 := by rw [mulLo_eq]; exact Nat.mod_lt _ (by decide)
theorem macLo_lt (x y w c : Nat) : macLo x y w c < 18446744073709551616 := by rw [macLo_eq]; exact Nat.mod_lt _ (by decide)
theorem addC_le (x y c : Nat) : addC x y c ≤ 1 := by simp only [addC_eq]; split <;> omega
theorem subB_le (x y c : Nat) : subB x y c ≤ 1 := by simp only [subB_eq]; split <;> omega
theorem mul_le {x y : Nat} (hx : x < 18446744073709551616) (hy : y < 18446744073709551616) : x * y ≤ 340282366920938463426481119284349108225 := Nat.mul_le_mul (Nat.le_of_lt_succ hx : x ≤ 18446744073709551615) (Nat.le_of_lt_succ hy : y ≤ 18446744073709551615)
theorem macHi_lt (x y w c : Nat) : macHi x y w c < 18446744073709551616 := by
  have := mul_le (Nat.mod_lt x (by decide : 0 < 18446744073709551616)) (Nat.mod_lt y (by decide : 0 < 18446744073709551616))
  rw [macHi_eq']; omega
theorem mac_lo (x y w c : Nat) : addLo (addLo (mulLo x y) w 0) c 0 = macLo x y w c := by simp only [addLo_eq, mulLo_eq, macLo_eq]; omega
noncomputable def b64 : Int → Bool := hid fun x => decide (0 ≤ x ∧ x < 18446744073709551616)
theorem b64_eq (x : Int) : b64 x = decide (0 ≤ x ∧ x < 18446744073709551616) := by unfold b64; rw [hid_eq]
theorem b64_lo1 (x y c : Nat) : b64 (addLo x y c : Nat) = true := by have := addLo_lt x y c; simp only [b64_eq]; rw [decide_eq_true_eq]; omega
theorem b64_lo2 (x y c : Nat) : b64 (subLo x y c : Nat) = true := by have := subLo_lt x y c; simp only [b64_eq]; rw [decide_eq_true_eq]; omega
theorem b64_lo3 (x y : Nat) : b64 (mulLo x y : Nat) = true := by have := mulLo_lt x y; simp only [b64_eq]; rw [decide_eq_true_eq]; omega
theorem b64_lo4 (x y w c : Nat) : b64 (macLo x y w c : Nat) = true := by have := macLo_lt x y w c; simp only [b64_eq]; rw [decide_eq_true_eq]; omega
theorem b64_a (w : W) : b64 (w.a : Nat) = true := by have := w.ha; simp only [b64_eq]; rw [decide_eq_true_eq]; omega
theorem b64_b (w : W) : b64 (w.b : Nat) = true := by have := w.hb; simp only [b64_eq]; rw [decide_eq_true_eq]; omega
theorem b64_c (w : W) : b64 (w.c : Nat) = true := by have := w.hc; simp only [b64_eq]; rw [decide_eq_true_eq]; omega
theorem b64_d (w : W) : b64 (w.d : Nat) = true := by have := w.hd; simp only [b64_eq]; rw [decide_eq_true_eq]; omega
theorem b64_0 : b64 0 = true := by rw [b64_eq]; rfl
theorem b64_1 : b64 1 = true := by rw [b64_eq]; rfl
noncomputable def b1 : Int → Bool := hid fun x => decide (0 ≤ x ∧ x ≤ 1)
theorem b1_eq (x : Int) : b1 x = decide (0 ≤ x ∧ x ≤ 1) := by unfold b1; rw [hid_eq]
theorem b1_add (x y c : Nat) : b1 (addC x y c : Nat) = true := by have := addC_le x y c; simp only [b1_eq]; rw [decide_eq_true_eq]; omega
theorem b1_sub (x y c : Nat) : b1 (subB x y c : Nat) = true := by have := subB_le x y c; simp only [b1_eq]; rw [decide_eq_true_eq]; omega
theorem b1_0 : b1 0 = true := by rw [b1_eq]; rfl
theorem b64_hi (x y w c : Nat) : b64 (macHi x y w c : Nat) = true := by
  have := macHi_lt x y w c; simp only [b64_eq]; rw [decide_eq_true_eq]; omega
attribute [push_cast] macHi_lt macLo_lt b64_hi
attribute [push_cast] b64_lo1 b64_lo2 b64_lo3 b64_lo4 b64_a b64_b b64_c b64_d b64_0 b64_1 b1_add b1_sub b1_0 mac_lo
end Go.Ev
namespace Go.Proofs.YtolmipnaheifcaaGreatDoor
open Go Go.Ev Go.Proofs
set_option maxRecDepth 100000
set_option maxHeartbeats 4000000
noncomputable def gM : Gam := noG
attribute [push_cast] gM
theorem gM_ok : GamOk Tryz.prog gM := (noG_ok _)
end Go.Proofs.YtolmipnaheifcaaGreatDoor
set_option linter.unusedSimpArgs false
set_option linter.unusedVariables false
namespace Go.Proofs.YtolmipnaheifcaaGreatDoor
open Go Go.Ev Go.Proofs
set_option maxRecDepth 100000
set_option maxHeartbeats 4000000
theorem refOf (n : Int) (hn : -9223372036854775808 ≤ n ∧ n ≤ 9223372036854775807) : CallsV Tryz.prog 23 [.int .i64 n] [] (Ret0 (W.ofInt n).v) := by
  refine callsO (noG_ok _) Tryz.mix Tryz.pl23 Tryz.func23 rfl Tryz.ntmps23 Tryz.results23 rfl (by first | rfl | assumption) (Nat.le_of_ble_eq_true rfl) (by kernel_rfl) ?_
  simp only [push_cast, seval, reduceCtorEq]
  intro b1 b2 hb2
  rcases Int.lt_or_le n 0 with h | h
  · simp only [push_cast, seval, reduceCtorEq, h, hb2]
    refine unrollO (noG_ok _) (pl := Tryz.pl23) Tryz.mix 4 (by kernel_rfl) ?_
    simp only [push_cast, seval, reduceCtorEq, hb2]
    rw [W.ofInt, if_neg (by omega), PlainAid.u64_neg h (by omega)]
    simp only [W.v, W.cells, Value.agg.injEq]
    congr 2
    simp only [Value.int.injEq, true_and]
    omega
  · simp only [push_cast, seval, reduceCtorEq, Int.not_lt.2 h, hb2]
    rw [W.ofInt, if_pos (by omega), PlainAid.u64_nonneg (by omega) (by omega)]
    simp only [W.v, W.cells, Value.agg.injEq]
    congr 2
    simp only [Value.int.injEq, true_and]
    omega
end Go.Proofs.YtolmipnaheifcaaGreatDoor
set_option linter.unusedSimpArgs false
set_option linter.unusedVariables false
namespace Go.Ev
theorem W.at0 (x : W) (h : 0 < x.cells.toArray.size) : x.cells.toArray[0]'h = .int .u64 x.a := rfl
theorem W.at1 (x : W) (h : 1 < x.cells.toArray.size) : x.cells.toArray[1]'h = .int .u64 x.b := rfl
theorem W.at2 (x : W) (h : 2 < x.cells.toArray.size) : x.cells.toArray[2]'h = .int .u64 x.c := rfl
theorem W.at3 (x : W) (h : 3 < x.cells.toArray.size) : x.cells.toArray[3]'h = .int .u64 x.d := rfl
theorem indexV_W (P : Program) (t : TypeId) (x : W) (k : IntKind) (i : Int) : indexV P t x.v (.int k i) = (match elemI P t with
  | some (some n, s, ag) => if 0 ≤ i ∧ i < (n : Int) then partL ag x.cells.toArray (i.toNat * s) s else none
  | _ => none) := rfl
theorem W.q0 (x : W) : x.cells.toArray[0]? = some (.int .u64 x.a) := rfl
theorem W.q1 (x : W) : x.cells.toArray[1]? = some (.int .u64 x.b) := rfl
theorem W.q2 (x : W) : x.cells.toArray[2]? = some (.int .u64 x.c) := rfl
theorem W.q3 (x : W) : x.cells.toArray[3]? = some (.int .u64 x.d) := rfl
attribute [push_cast] indexV_W W.at0 W.at1 W.at2 W.at3 W.q0 W.q1 W.q2 W.q3
end Go.Ev
namespace Go.Proofs.YtolmipnaheifcaaGreatDoor
open Go Go.Ev Go.Proofs
set_option maxRecDepth 100000
set_option maxHeartbeats 4000000
noncomputable def gW : Gam := gM
attribute [push_cast] gW
theorem gW_ok : GamOk Tryz.prog gW := gM_ok
theorem wordOf (n : Int) (hn : -9223372036854775808 ≤ n ∧ n ≤ 9223372036854775807) : CallsV Tryz.prog 70 [.int .i64 n] [] (Ret0 (W.ofInt n).v) := by
  obtain ⟨R, hR⟩ : ∃ R, R = W.ofInt n := ⟨_, rfl⟩
  rw [← hR]
  refine callsO gW_ok Tryz.mix Tryz.pl70 Tryz.func70 rfl Tryz.ntmps70 Tryz.results70 rfl (by first | rfl | assumption) (Nat.le_of_ble_eq_true rfl) (by kernel_rfl) ?_
  simp only [push_cast, seval, reduceCtorEq]
  rw [hR]
  rcases Int.lt_or_le n 0 with h | h
  · have e1 : shrI .i64 n 63 = -1 := by
      unfold shrI
      rw [Int.fdiv_eq_ediv_of_nonneg _ (Int.pow_nonneg (by decide))]
      show n / 9223372036854775808 = -1
      omega
    rw [e1, W.ofInt, if_neg (by omega), IntKind.wrap_u64, IntKind.wrap_u64]
    simp only [W.v, W.cells, Value.agg.injEq]
    congr 2
    simp only [Value.int.injEq, true_and]
    omega
  · have e1 : shrI .i64 n 63 = 0 := by
      unfold shrI
      rw [Int.fdiv_eq_ediv_of_nonneg _ (Int.pow_nonneg (by decide))]
      show n / 9223372036854775808 = 0
      omega
    rw [e1, W.ofInt, if_pos h, IntKind.wrap_u64, IntKind.wrap_u64]
    simp only [W.v, W.cells, Value.agg.injEq]
    congr 2
    simp only [Value.int.injEq, true_and]
    omega
end Go.Proofs.YtolmipnaheifcaaGreatDoor
set_option linter.unusedSimpArgs false
set_option linter.unusedVariables false
namespace Go.Ev
structure W1 where
  w : W
def W1.cells (x : W1) : List Value := x.w.cells
def W1.num (x : W1) : Nat := x.w.num
structure W8 where
  lo : W
  hi : W
def W8.cells (x : W8) : List Value := x.lo.cells ++ x.hi.cells
def W8.v (x : W8) : Value := .agg x.cells.toArray
def W8.num (x : W8) : Nat := x.lo.num + 115792089237316195423570985008687907853269984665640564039457584007913129639936 * x.hi.num
theorem findE_left {b : Nat} {e : Ent} {B : Hp} : ∀ {A : Hp}, findE A b = some e → findE (A ++ B) b = some e
  | [], h => by simp [findE] at h
  | x :: r, h => by
    simp only [List.cons_append, findE] at h ⊢
    split
    · rename_i hb; rw [if_pos hb] at h; exact h
    · rename_i hb; rw [if_neg hb] at h; exact findE_left h
end Go.Ev
namespace Go.Proofs.YtolmipnaheifcaaGreatDoor
open Go Go.Ev Go.Proofs
set_option maxRecDepth 100000
set_option maxHeartbeats 4000000
end Go.Proofs.YtolmipnaheifcaaGreatDoor
set_option linter.unusedSimpArgs false
set_option linter.unusedVariables false
namespace Go.Ev
noncomputable def plusW : W → W → W := hid fun x y => W.of (x.num + y.num)
noncomputable def plusG : List Value → Option Value
  | [x, y] => (wOf x).bind fun a => (wOf y).bind fun b => some (plusW a b).v
  | _ => none
noncomputable def intW : W → Int × Bool := hid fun w => if w.num ≤ 4611686018427387903 then ((w.num : Int), true) else (0, false)
theorem intW_eq (w : W) : intW w = if w.num ≤ 4611686018427387903 then ((w.num : Int), true) else (0, false) := by unfold intW; rw [hid_eq]
noncomputable def intG : List Value → Option Value
  | [x] => (wOf x).bind fun a => some (.tuple #[.int .i64 (intW a).1, .bool (intW a).2])
  | _ => none
attribute [push_cast] plusG intG
theorem wun_some {args : List Value} {v : Value} {g : W → Value} {f : List Value → Option Value} (hf : f = fun l => match l with | [x] => (wOf x).bind fun a => some (g a) | _ => none) (h : f args = some v) : ∃ x : W, args = [x.v] ∧ v = g x := by
  rw [hf] at h
  dsimp only at h
  split at h
  · rename_i x
    cases hx : wOf x with
    | none => simp [hx] at h
    | some a =>
      simp only [hx, Option.bind_some, Option.some.injEq] at h
      rw [wOf_some hx]
      exact ⟨a, rfl, h.symm⟩
  · cases h
theorem or_zero {x y : Nat} (h : x ||| y = 0) : x = 0 ∧ y = 0 := by
  have h1 := Nat.left_le_or (n := x) (m := y)
  have h2 := Nat.right_le_or (n := x) (m := y)
  omega
end Go.Ev
namespace Go.Proofs.YtolmipnaheifcaaGreatDoor
open Go Go.Ev Go.Proofs
set_option maxRecDepth 100000
set_option maxHeartbeats 4000000
theorem wordInt (w : W) : CallsV Tryz.prog 82 [w.v] [] (Ret0 (.tuple #[.int .i64 (intW w).1, .bool (intW w).2])) := by
  have ha := w.ha; have hb := w.hb; have hc := w.hc; have hd := w.hd
  have hn : w.num = w.a + 18446744073709551616 * (w.b + 18446744073709551616 * (w.c + 18446744073709551616 * w.d)) := rfl
  have h1 : bitsI .or .u64 (w.b : Int) (w.c : Int) = ((w.b ||| w.c : Nat) : Int) := bits_or_u64_nat w.b w.c hb hc
  have hu : w.b ||| w.c < 18446744073709551616 := Nat.or_lt_two_pow (n := 64) hb hc
  have h2 : bitsI .or .u64 ((w.b ||| w.c : Nat) : Int) (w.d : Int) = ((w.b ||| w.c ||| w.d : Nat) : Int) := bits_or_u64_nat (w.b ||| w.c) w.d hu hd
  have hz : w.b ||| w.c ||| w.d = 0 → w.b = 0 ∧ w.c = 0 ∧ w.d = 0 := fun h => by
    have g1 := or_zero h
    have g2 := or_zero g1.1
    exact ⟨g2.1, g2.2, g1.2⟩
  obtain ⟨v, hv⟩ : ∃ v, v = w.b ||| w.c ||| w.d := ⟨_, rfl⟩
  rw [← hv] at h2 hz
  rw [intW_eq]
  refine callsO gW_ok Tryz.mix Tryz.pl82 Tryz.func82 rfl Tryz.ntmps82 Tryz.results82 rfl (by first | rfl | assumption) (Nat.le_of_ble_eq_true rfl) (by kernel_rfl) ?_
  simp only [push_cast, seval, reduceCtorEq]
  by_cases h0 : v = 0
  · obtain ⟨z1, z2, z3⟩ := hz h0
    have hn' : w.num = w.a := by rw [hn, z1, z2, z3]; omega
    rw [hn']
    have hv0 : ((v : Int) != 0) = false := by rw [h0]; rfl
    by_cases hl : w.a ≤ 4611686018427387903
    · have hl' : ¬ 4611686018427387903 < (w.a : Int) := by omega
      simp only [push_cast, seval, reduceCtorEq, h1, h2, hv0, hl', wrap_i64' (show -9223372036854775808 ≤ (w.a : Int) ∧ (w.a : Int) ≤ 9223372036854775807 by omega), hl]
    · have hl' : 4611686018427387903 < (w.a : Int) := by omega
      simp only [push_cast, seval, reduceCtorEq, h1, h2, hv0, hl', hl]
  · have hv' : ((v : Int) != 0) = true := by rw [bne_iff_ne]; omega
    have hl : ¬ w.num ≤ 4611686018427387903 := fun h => h0 (by
      rw [hv]
      have : w.b = 0 := by omega
      have : w.c = 0 := by omega
      have : w.d = 0 := by omega
      simp [*])
    simp only [push_cast, seval, reduceCtorEq, h1, h2, hv', hl]
theorem wordIntG (args : List Value) (v : Value) (h : intG args = some v) : CallsV Tryz.prog 82 args [] (Ret0 v) := by
  obtain ⟨x, rfl, rfl⟩ := wun_some (g := fun a => .tuple #[.int .i64 (intW a).1, .bool (intW a).2]) (by funext l; rfl) h
  exact wordInt x
noncomputable def gK : Gam := (addG 82 intG gW)
end Go.Proofs.YtolmipnaheifcaaGreatDoor
set_option linter.unusedSimpArgs false
set_option linter.unusedVariables false
namespace Go.Ev
noncomputable def pickN : Int → Int → Nat := hid fun c n => ((if c < 0 then -(c + 1) else c) % n).toNat
theorem pickN_eq (c n : Int) : pickN c n = ((if c < 0 then -(c + 1) else c) % n).toNat := by unfold pickN; rw [hid_eq]
noncomputable def posB : Int → Bool := hid fun n => decide (0 < n)
theorem posB_eq (n : Int) : posB n = decide (0 < n) := by unfold posB; rw [hid_eq]
theorem posB_in {n : Int} (h : 0 < n) : posB n = true := by rw [posB_eq, decide_eq_true h]
theorem pickN_lt (c : Int) {n : Int} (h : 0 < n) : (pickN c n : Int) < n := by
  rw [pickN_eq]
  have := Int.emod_nonneg (if c < 0 then -(c + 1) else c) (by omega : n ≠ 0)
  have := Int.emod_lt_of_pos (if c < 0 then -(c + 1) else c) h
  omega
def i64In (c : Int) : Prop := -9223372036854775808 ≤ c ∧ c ≤ 9223372036854775807
instance (c : Int) : Decidable (i64In c) := inferInstanceAs (Decidable (_ ∧ _))
noncomputable def i64B : Int → Bool := hid fun c => decide (i64In c)
theorem i64B_eq (c : Int) : i64B c = decide (i64In c) := by unfold i64B; rw [hid_eq]
theorem i64B_in {c : Int} (h : i64In c) : i64B c = true := by rw [i64B_eq, decide_eq_true h]
noncomputable def pickG : List Value → Option Value
  | [.int .i64 c, .int .i64 n] => if i64B c && posB n && i64B n then some (.int .i64 (pickN c n)) else none
  | _ => none
attribute [push_cast] pickG
end Go.Ev
namespace Go.Proofs.YtolmipnaheifcaaGreatDoor
open Go Go.Ev Go.Proofs
set_option maxRecDepth 100000
set_option maxHeartbeats 4000000
theorem pick_ok (c n : Int) (hc : i64In c) (hn : 0 < n) (hn2 : i64In n) : CallsV Tryz.prog 6 [.int .i64 c, .int .i64 n] [] (Ret0 (.int .i64 (pickN c n))) := by
  have h2 := pickN_lt c hn
  have hn0 : ¬ n = 0 := by omega
  unfold i64In at hc hn2
  refine callsO (noG_ok _) Tryz.mix Tryz.pl6 Tryz.func6 rfl Tryz.ntmps6 Tryz.results6 rfl (by first | rfl | assumption) (Nat.le_of_ble_eq_true rfl) (by kernel_rfl) ?_
  rcases Int.lt_or_le c 0 with h | h
  · have e1 : pickN c n = (-(c + 1)).tmod n := by
      have := Int.emod_nonneg (-(c + 1)) hn0
      rw [pickN_eq, if_pos h, Int.tmod_eq_emod_of_nonneg (by omega)]; omega
    have e2 : (0 - (c + 1)) = -(c + 1) := by omega
    simp only [push_cast, seval, reduceCtorEq, h, wrap_i64' (show -9223372036854775808 ≤ c + 1 ∧ c + 1 ≤ 9223372036854775807 by omega), hn0, e2, wrap_i64' (show -9223372036854775808 ≤ -(c + 1) ∧ -(c + 1) ≤ 9223372036854775807 by omega), e1]
  · have h' : ¬ c < 0 := by omega
    have e1 : pickN c n = c.tmod n := by
      have := Int.emod_nonneg c hn0
      rw [pickN_eq, if_neg h', Int.tmod_eq_emod_of_nonneg (by omega)]; omega
    simp only [push_cast, seval, reduceCtorEq, h', hn0, e1]
theorem pickG_ok (args : List Value) (v : Value) (h : pickG args = some v) : CallsV Tryz.prog 6 args [] (Ret0 v) := by
  unfold pickG at h
  split at h
  · split at h
    · rename_i c n hh
      cases h
      simp only [Bool.and_eq_true, i64B_eq, posB_eq, decide_eq_true_eq] at hh
      exact pick_ok c n hh.1.1 hh.1.2 hh.2
    · cases h
  · cases h
end Go.Proofs.YtolmipnaheifcaaGreatDoor
set_option linter.unusedSimpArgs false
set_option linter.unusedVariables false
namespace Go.Proofs.YtolmipnaheifcaaGreatDoor
open Go Go.Ev Go.Proofs Go.ChangeShapes Go.WideShapes Go.ChangeAt Go.RowKit
set_option maxRecDepth 100000
set_option maxHeartbeats 4000000
theorem own : ownKnob Tryz.prog.godebug = none := by kernel_rfl
theorem kids : Kids Tryz.prog (· < Tryz.prog.types.size) := kids_rows (by kernel_rfl) (by kernel_rfl)
theorem full : ∀ t e, t < Tryz.prog.types.size → Tryz.prog.underlying t = some (.slice e) → 0 < Tryz.prog.cellsOf e := slices_full_of Tryz.prog (by kernel_rfl)
theorem i64_wf {n : Int} (h : (Lit.int .i64 n).wf = true) : i64In n := by
  simp [Lit.wf, IntKind.min, IntKind.max, IntKind.signed, IntKind.bits] at h
  exact ⟨by omega, by omega⟩
theorem u64_wf {n : Int} (h : (Lit.int .u64 n).wf = true) : ∃ m : Nat, n = m ∧ m < 18446744073709551616 := by
  simp [Lit.wf, IntKind.min, IntKind.max, IntKind.signed, IntKind.bits] at h
  exact ⟨n.toNat, by omega, by omega⟩
theorem word_cells {cs : List Value} (h : All2 FK.ok [.int .u64, .int .u64, .int .u64, .int .u64] cs) : ∃ w : W, cs = w.cells := by
  cases h with
  | cons a1 h => cases h with
    | cons a2 h => cases h with
      | cons a3 h => cases h with
        | cons a4 h =>
          cases h
          obtain ⟨x1, rfl, w1⟩ := a1
          obtain ⟨x2, rfl, w2⟩ := a2
          obtain ⟨x3, rfl, w3⟩ := a3
          obtain ⟨x4, rfl, w4⟩ := a4
          obtain ⟨y1, rfl, z1⟩ := u64_wf w1
          obtain ⟨y2, rfl, z2⟩ := u64_wf w2
          obtain ⟨y3, rfl, z3⟩ := u64_wf w3
          obtain ⟨y4, rfl, z4⟩ := u64_wf w4
          exact ⟨⟨y1, y2, y3, y4, z1, z2, z3, z4⟩, rfl⟩
theorem word_of {H : Type} {enc : TypeId × Value → H} {W0 : World} {r : Reach} {b0 base : Nat} {spare : Nat → Bool} {held : Bool} {v : Value} {dd : DataW H} {ps : List MemPlace} (hval : Value.okWide Tryz.prog W0 r b0 25 v)
    (h : DataW.Trod enc Tryz.prog W0 base spare held 25 v dd ps) : ∃ w : W, v = w.v := by
  obtain ⟨w, hw⟩ := word_cells (flat_of_Trod kids (d := 8) (ks := [.int .u64, .int .u64, .int .u64, .int .u64]) (by show _ < _; decide +kernel) (by kernel_rfl) h)
  obtain ⟨e, hu⟩ : ∃ e, Tryz.prog.underlying 25 = some (.array 4 e) := ⟨23, by kernel_rfl⟩
  simp only [Value.okWide, hu] at hval
  obtain ⟨cs, rfl, h2, _⟩ := hval
  refine ⟨w, ?_⟩
  unfold W.v
  rw [← hw]
  rfl
theorem calls_law {W : World} {f : FuncId} {args : Array Value} {K : Ending → World → Prop} (h : CallsV Tryz.prog f args.toList (roW W) (Ret0 (.bool true)))
    (hk : ∀ W', W'.os = W.os → W'.output = W.output → (∀ b, b < W.heap.size → W'.heap[b]? = W.heap[b]?) → K (.returned (.bool true)) W') : Calls Tryz.prog f args W K := by
  have h2 := (h.2 W (fun _ => False) W (roW_sat W)).calls (fun k => by unfold Fence.room Fr; simp)
  rw [Array.toArray_toList] at h2
  refine h2.mono ?_
  rintro e W' ⟨v, H', rfl, ⟨rfl, _⟩, hs, _⟩
  exact hk W' hs.os hs.output fun b hb => hs.old b hb id
end Go.Proofs.YtolmipnaheifcaaGreatDoor
set_option linter.unusedSimpArgs false
set_option linter.unusedVariables false
namespace Go.Ev
theorem cellsAt_findS {H : Hp} {b o n : Nat} {cs : List Value} (h : cellsAt H b o n = some cs) : ∃ e, findE H b = some e := by
  unfold cellsAt at h
  cases hf : findE H b with
  | none => rw [hf] at h; cases h
  | some e => exact ⟨e, rfl⟩
def roAll : Hp → Hp
  | [] => []
  | e :: r => { e with kind := .ro } :: (roAll r).filter (fun x => x.blk != e.blk)
theorem findE_filter (b c : Nat) (h : b ≠ c) : ∀ H : Hp, findE (H.filter fun x => x.blk != c) b = findE H b
  | [] => rfl
  | e :: r => by
    rw [List.filter_cons]
    by_cases hc : e.blk = c
    · have : (e.blk != c) = false := by simp [hc]
      rw [this, if_neg (by simp), findE_filter b c h r, findE, if_neg (by rw [hc]; exact h)]
    · have : (e.blk != c) = true := by simp [hc]
      rw [this, if_pos rfl, findE, findE, findE_filter b c h r]
theorem findE_roAll (b : Nat) : ∀ H : Hp, findE (roAll H) b = (findE H b).map fun e => { e with kind := .ro }
  | [] => rfl
  | e :: r => by
    unfold roAll
    rw [findE, findE]
    by_cases h : b = e.blk
    · rw [if_pos h, if_pos h]; rfl
    · rw [if_neg h, if_neg h, findE_filter b e.blk h, findE_roAll b r]
theorem cellsAt_roAll (H : Hp) : cellsAt (roAll H) = cellsAt H := by
  funext b o n
  unfold cellsAt
  rw [findE_roAll]
  cases findE H b <;> rfl
theorem roAll_mem : ∀ {H : Hp} {e : Ent}, e ∈ roAll H → e.kind = .ro ∧ findE (roAll H) e.blk = some e
  | [], e, h => by cases h
  | x :: r, e, h => by
    unfold roAll at h ⊢
    rcases List.mem_cons.1 h with rfl | h
    · exact ⟨rfl, by simp [findE]⟩
    · obtain ⟨h1, h2⟩ := List.mem_filter.1 h
      obtain ⟨h3, h4⟩ := roAll_mem h1
      have hne : e.blk ≠ x.blk := by simpa using h2
      refine ⟨h3, ?_⟩
      rw [findE, if_neg hne, findE_filter _ _ hne, h4]
theorem derE_of {H : Hp} : ∀ {L : Hp}, (∀ e ∈ L, e.kind = .ro ∧ findE H e.blk = some e) → derE H L
  | [], _ => trivial
  | e :: r, h => by
    obtain ⟨h1, h2⟩ := h e (by simp)
    refine ⟨⟨h1, ?_⟩, derE_of fun x hx => h x (by simp [hx])⟩
    unfold cellsAt
    rw [h2]
    simp [subL]
structure roM (M : Hp) : Prop where
  der : derE M M
  marks : marksOf M = []
theorem roAll_ro (H : Hp) : roM (roAll H) := by
  have hk : ∀ {L : Hp}, (∀ e ∈ L, e.kind = .ro) → marksOf L = [] := by
    intro L
    induction L with
    | nil => intro _; rfl
    | cons x r ih => intro h; simp only [marksOf, h x (by simp)]; exact ih fun e he => h e (by simp [he])
  exact ⟨derE_of fun e he => roAll_mem he, hk fun e he => (roAll_mem he).1⟩
structure Ext (H H' : Hp) : Prop where
  marks : marksOf H' = []
  keep : ∀ b o n cs, cellsAt H b o n = some cs → cellsAt H' b o n = some cs
theorem Ext.trans {H H' H'' : Hp} (h : Ext H H') (h' : Ext H' H'') : Ext H H'' := ⟨h'.marks, fun b o n cs hc => h'.keep _ _ _ _ (h.keep _ _ _ _ hc)⟩
theorem fresh_findS {b : Nat} : ∀ {H : Hp}, fresh b H → ∀ {c : Nat} {e : Ent}, findE H c = some e → ¬ b = c ∧ ¬ c = b
  | [], _, _, _, h => by simp [findE] at h
  | x :: r, hf, c, e, h => by
    simp only [findE] at h
    by_cases hc : c = x.blk
    · subst hc; exact ⟨hf.1, hf.2.1⟩
    · rw [if_neg hc] at h; exact fresh_findS hf.2.2 h
theorem fresh_appS {b : Nat} : ∀ {A B : Hp}, fresh b A → fresh b B → fresh b (A ++ B)
  | [], _, _, h => h
  | e :: r, B, h, h' => ⟨h.1, h.2.1, fresh_appS h.2.2 h'⟩
theorem fresh_app_iff {b : Nat} : ∀ {A B : Hp}, fresh b (A ++ B) ↔ fresh b A ∧ fresh b B
  | [], _ => ⟨fun h => ⟨trivial, h⟩, fun h => h.2⟩
  | e :: r, B => by
    show (b ≠ e.blk ∧ e.blk ≠ b ∧ fresh b (r ++ B)) ↔ _
    rw [fresh_app_iff]
    exact ⟨fun ⟨h1, h2, h3, h4⟩ => ⟨⟨h1, h2, h3⟩, h4⟩, fun ⟨⟨h1, h2, h3⟩, h4⟩ => ⟨h1, h2, h3, h4⟩⟩
theorem Ext.cons {H : Hp} {e : Ent} (hm : marksOf H = []) (he : marksOf [e] = []) (hf : fresh e.blk H) : Ext H (e :: H) := by
  refine ⟨by rw [show e :: H = [e] ++ H from rfl, marks_append, he, hm]; rfl, fun b o n cs h => ?_⟩
  obtain ⟨e', he'⟩ := cellsAt_findS h
  have := (fresh_findS hf he').2
  unfold cellsAt at h ⊢
  simp only [findE, if_neg this]
  exact h
theorem findE_app {b : Nat} : ∀ {A B : Hp}, findE (A ++ B) b = (match findE A b with | some e => some e | none => findE B b)
  | [], _ => rfl
  | e :: r, B => by
    simp only [List.cons_append, findE]
    split
    · rfl
    · exact findE_app
theorem cellsAt_swap {N M : Hp} (hf : freshN N M) : cellsAt (N ++ M) = cellsAt (M ++ N) := by
  have hne : ∀ {N : Hp}, freshN N M → ∀ {b : Nat} {e e' : Ent}, findE N b = some e → findE M b = some e' → False := by
    intro N
    induction N with
    | nil => intro _ b e e' h; simp [findE] at h
    | cons x r ih =>
      intro hf b e e' h h'
      simp only [findE] at h
      by_cases hb : b = x.blk
      · exact (fresh_findS hf.1 h').2 hb
      · rw [if_neg hb] at h; exact ih hf.2 h h'
  funext b o n
  unfold cellsAt
  rw [findE_app, findE_app]
  cases h1 : findE N b with
  | none => cases h2 : findE M b <;> rfl
  | some e => cases h2 : findE M b with
    | none => rfl
    | some e' => exact (hne hf h1 h2).elim
theorem Ext.app {M N : Hp} (hm : marksOf M = []) (hn : marksOf N = []) : Ext M (M ++ N) := by
  refine ⟨by rw [marks_append, hm, hn]; rfl, fun b o n cs h => ?_⟩
  obtain ⟨e, he⟩ := cellsAt_findS h
  unfold cellsAt at h ⊢
  rw [findE_app, he]
  rw [he] at h
  exact h
theorem freshN_mono {N A B : Hp} (h : freshN N (A ++ B)) : freshN N A ∧ freshN N B := by
  induction N with
  | nil => exact ⟨trivial, trivial⟩
  | cons x r ih =>
    obtain ⟨h1, h2⟩ := fresh_app_iff.1 h.1
    exact ⟨⟨h1, (ih h.2).1⟩, ⟨h2, (ih h.2).2⟩⟩
theorem freshN_sym : ∀ {L N : Hp}, freshN N L → freshN L N := by
  intro L N h
  have hne : ∀ e ∈ N, ∀ x ∈ L, x.blk ≠ e.blk ∧ e.blk ≠ x.blk := by
    induction N with
    | nil => intro e he; cases he
    | cons y r ih =>
      intro e he x hx
      rcases List.mem_cons.1 he with rfl | he
      · have := fresh_ne h.1 x hx; exact ⟨this, Ne.symm this⟩
      · exact ih h.2 e he x hx
  exact freshN_of fun e he x hx => (hne x hx e he).2
theorem freshN_comb : ∀ {L A B : Hp}, freshN L A → freshN L B → freshN L (A ++ B)
  | [], _, _, _, _ => trivial
  | e :: r, A, B, h, h' => ⟨fresh_appS h.1 h'.1, freshN_comb h.2 h'.2⟩
def NewK (M0 : Hp) (Q : Value → Hp → Prop) : Value → Hp → Prop := fun v N => allWr N ∧ marksOf N = [] ∧ (freshN N M0 → Q v (N ++ M0))
def RdOnly (Q : Value → Hp → Prop) : Prop := ∀ v A B, cellsAt A = cellsAt B → Q v A → Q v B
def CallsR (P : Program) (g : FuncId) (args : List Value) (M : Hp) (Q : Value → Hp → Prop) : Prop :=
  ∀ M0, roM M0 → cellsAt M0 = cellsAt M → CallsV P g args M0 (NewK M0 Q)
theorem freshN_iff {N H : Hp} : freshN N H ↔ ∀ e ∈ N, ∀ x ∈ H, x.blk ≠ e.blk := by
  constructor
  · intro h
    induction N with
    | nil => intro e he; cases he
    | cons y r ih =>
      intro e he x hx
      rcases List.mem_cons.1 he with rfl | he
      · exact fresh_ne h.1 x hx
      · exact ih h.2 e he x hx
  · exact freshN_of
theorem CallsV.perm {P : Program} {g : FuncId} {args : List Value} {H : Hp} {K K' : Value → Hp → Prop} (hc : CallsV P g args H K) (hk : ∀ v H', K v H' → ∃ H'', H''.Perm H' ∧ marksOf H'' = marksOf H' ∧ K' v H'') : CallsV P g args H K' := by
  refine ⟨hc.1, fun w0 mu w hs => (hc.2 w0 mu w hs).mono ?_⟩
  rintro e w' ⟨v, H', rfl, h1, h2, h3⟩
  obtain ⟨H'', h4, h5, h6⟩ := hk v H' h1
  exact ⟨v, H'', rfl, h6, h2.perm h4.symm, h5.trans h3⟩
def Gr (M M' : Hp) : Prop := marksOf M = [] ∧ ∃ N, M' = M ++ N ∧ allWr N ∧ marksOf N = []
theorem allWr_app : ∀ {A B : Hp}, allWr A → allWr B → allWr (A ++ B)
  | [], _, _, h => h
  | _ :: _, _, h, h' => ⟨h.1, allWr_app h.2 h'⟩
theorem Gr.refl {M : Hp} (h : marksOf M = []) : Gr M M := ⟨h, [], by simp, trivial, rfl⟩
theorem Gr.trans {M M' M'' : Hp} (h : Gr M M') (h' : Gr M' M'') : Gr M M'' := by
  obtain ⟨h1, N, rfl, h2, h3⟩ := h
  obtain ⟨_, N', rfl, h4, h5⟩ := h'
  exact ⟨h1, N ++ N', by rw [List.append_assoc], allWr_app h2 h4, by rw [marks_append, h3, h5]; rfl⟩
theorem Gr.ext {M M' : Hp} (h : Gr M M') : Ext M M' := by
  obtain ⟨h1, N, rfl, _, h3⟩ := h
  exact Ext.app h1 h3
theorem Gr.marks {M M' : Hp} (h : Gr M M') : marksOf M' = [] := h.ext.marks
theorem derE_behind {L M : Hp} (hL : freshN L M) : derE (L ++ M) (roAll M) := by
  have hl : ∀ {R : Hp}, (∀ e ∈ R, e ∈ roAll M) → derE (L ++ M) R := by
    intro R
    induction R with
    | nil => intro _; trivial
    | cons e r ih =>
      intro h
      obtain ⟨h1, h2⟩ := roAll_mem (h e (by simp))
      refine ⟨⟨h1, ?_⟩, ih fun x hx => h x (by simp [hx])⟩
      rw [findE_roAll] at h2
      obtain ⟨e0, h3, h4⟩ := Option.map_eq_some_iff.1 h2
      have hLn : findE L e.blk = none := by
        cases hL0 : findE L e.blk with
        | none => rfl
        | some x =>
          obtain ⟨hx1, hx2⟩ := findE_mem hL0
          obtain ⟨hy1, hy2⟩ := findE_mem h3
          exact absurd (hy2.trans hx2.symm) (freshN_iff.1 hL x hx1 e0 hy1)
      unfold cellsAt
      rw [findE_app, hLn, h3, ← h4]
      simp [subL]
  exact hl fun _ h => h
theorem useL {P : Program} {g : FuncId} {args : List Value} (L : Hp) {M : Hp} {Q : Value → Hp → Prop} {K' : Value → Hp → Prop} (hc : CallsR P g args M Q) (hQ : RdOnly Q) (hm : marksOf M = []) (hL : freshN L M)
    (hk : ∀ v M', Gr M M' → freshN L M' → Q v M' → K' v (L ++ M')) : CallsV P g args (L ++ M) K' := by
  have hc0 := hc (roAll M) (roAll_ro M) (cellsAt_roAll M)
  have hder := derE_behind hL
  refine (hc0.use hder (K' := fun v H' => ∃ N, H' = N ++ (L ++ M) ∧ marksOf N = [] ∧ K' v (L ++ (M ++ N))) ?_).perm ?_
  · rintro v N ⟨h1, h2, h3⟩
    refine ⟨h1, h2, fun hf => ⟨N, rfl, h2, ?_⟩⟩
    have hfL := (freshN_mono hf).1
    have hfM := (freshN_mono hf).2
    have hf0 : freshN N (roAll M) := freshN_iff.2 fun e he x hx => by
      have h2 := (roAll_mem hx).2
      rw [findE_roAll] at h2
      obtain ⟨e0, h3, h4⟩ := Option.map_eq_some_iff.1 h2
      obtain ⟨hy1, hy2⟩ := findE_mem h3
      rw [← hy2]
      exact freshN_iff.1 hfM e he e0 hy1
    refine hk v (M ++ N) ⟨hm, N, rfl, h1, h2⟩ (freshN_comb hL (freshN_sym hfL)) (hQ _ _ _ ?_ (h3 hf0))
    rw [cellsAt_swap hf0]
    funext b o n
    have hh := congrFun (congrFun (congrFun (cellsAt_roAll M) b) o) n
    unfold cellsAt at hh ⊢
    rw [findE_app, findE_app]
    rw [findE_roAll] at hh ⊢
    cases hfm : findE M b with
    | none => rfl
    | some e => rw [hfm] at hh; exact hh
  · rintro v H' ⟨N, rfl, hN, hk'⟩
    refine ⟨L ++ (M ++ N), ?_, ?_, hk'⟩
    · rw [← List.append_assoc]; exact List.perm_append_comm
    · simp only [marks_append, hN, List.append_nil, List.nil_append]
theorem useP {P : Program} {g : FuncId} {args : List Value} (L : Hp) {M : Hp} {v : Value} {K' : Value → Hp → Prop} (hc : ∀ M0, roM M0 → cellsAt M0 = cellsAt M → CallsV P g args M0 (Ret0 v)) (hL : freshN L M)
    (hk : K' v (L ++ M)) : CallsV P g args (L ++ M) K' :=
  (hc (roAll M) (roAll_ro M) (cellsAt_roAll M)).pure (derE_behind hL) hk
def LiR {α : Type} (c : α → List Value) (s : Nat) (H : Hp) (l : List α) (v : Value) : Prop :=
  ∃ p k, v = .slice p l.length k ∧ (l = [] ∨ ∃ b o, p = some ⟨b, o, none⟩ ∧ cellsAt H b o (l.length * s) = some (l.flatMap c))
section
variable {α : Type} {c : α → List Value} {s : Nat} {H : Hp} {l : List α} {v : Value}
theorem LiR.ext {H' : Hp} (h : Ext H H') (hl : LiR c s H l v) : LiR c s H' l v := by
  obtain ⟨p, k, rfl, h1 | ⟨b, o, rfl, h1⟩⟩ := hl
  · exact ⟨p, k, rfl, .inl h1⟩
  · exact ⟨_, k, rfl, .inr ⟨b, o, rfl, h.keep _ _ _ _ h1⟩⟩
theorem LiR.congr {H' : Hp} (h : cellsAt H = cellsAt H') (hl : LiR c s H l v) : LiR c s H' l v := by
  obtain ⟨p, k, rfl, h1 | ⟨b, o, rfl, h1⟩⟩ := hl
  · exact ⟨p, k, rfl, .inl h1⟩
  · exact ⟨_, k, rfl, .inr ⟨b, o, rfl, by rw [← h]; exact h1⟩⟩
theorem LiR.nil (H : Hp) (k : Nat) : LiR c s H [] (.slice none 0 k) := ⟨none, k, rfl, .inl rfl⟩
theorem flatMap_len (hs : ∀ x, (c x).length = s) : ∀ l : List α, (l.flatMap c).length = l.length * s
  | [] => by simp
  | x :: r => by rw [List.flatMap_cons, List.length_append, hs, flatMap_len hs r, List.length_cons, Nat.succ_mul, Nat.add_comm]
theorem flatMap_at (hs : ∀ x, (c x).length = s) : ∀ {l : List α} {i : Nat} {x : α}, l[i]? = some x → ∀ {q n : Nat}, q + n ≤ s → List.take n (List.drop (i * s + q) (l.flatMap c)) = List.take n (List.drop q (c x))
  | [], i, x, h, _, _, _ => by simp at h
  | y :: r, 0, x, h, q, n, hq => by
    simp only [List.getElem?_cons_zero, Option.some.injEq] at h
    subst h
    rw [Nat.zero_mul, Nat.zero_add, List.flatMap_cons, List.drop_append_of_le_length (by rw [hs]; omega), List.take_append_of_le_length (by rw [List.length_drop, hs]; omega)]
  | y :: r, i + 1, x, h, q, n, hq => by
    rw [List.flatMap_cons, Nat.succ_mul, show i * s + s + q = s + (i * s + q) by omega, ← List.drop_drop, show List.drop s (c y ++ r.flatMap c) = r.flatMap c by rw [← hs y]; exact List.drop_left ..]
    exact flatMap_at hs (l := r) (by simpa using h) hq
theorem LiR.open (hs : ∀ x, (c x).length = s) (h0 : 0 < s) (hl : LiR c s H l v) : ∃ p k, v = .slice p l.length k ∧ (l = [] ∨ ∃ b f d kd cs, p = some ⟨b, f + d, none⟩ ∧ findE H b = some ⟨b, f, kd, cs⟩ ∧
    (∀ i x, l[i]? = some x → ∀ q n, q + n ≤ s → d + i * s + q + n ≤ cs.length ∧ List.take n (List.drop (d + i * s + q) cs) = List.take n (List.drop q (c x))) ∧ d + l.length * s ≤ cs.length ∧ List.take (l.length * s) (List.drop d cs) = l.flatMap c) := by
  obtain ⟨p, k, rfl, h1 | ⟨b, o, rfl, h1⟩⟩ := hl
  · exact ⟨p, k, rfl, .inl h1⟩
  · refine ⟨_, k, rfl, .inr ?_⟩
    obtain ⟨⟨b', f, kd, cs⟩, he⟩ := cellsAt_findS h1
    obtain rfl : b' = b := (findE_mem he).2
    unfold cellsAt at h1
    rw [he] at h1
    dsimp only at h1
    split at h1
    case isFalse => cases h1
    rename_i hle
    obtain ⟨d, rfl⟩ : ∃ d, o = f + d := ⟨o - f, by omega⟩
    rw [Nat.add_sub_cancel_left] at h1
    unfold subL at h1
    split at h1
    case isFalse => cases h1
    rename_i hlen
    have h2 := Option.some.inj h1
    refine ⟨b', f, d, kd, cs, rfl, he, fun i x hx q n hq => ?_, hlen, h2⟩
    have hi := (List.getElem?_eq_some_iff.1 hx).1
    have hm : i * s + s ≤ l.length * s := by rw [← Nat.succ_mul]; exact Nat.mul_le_mul_right _ hi
    refine ⟨by omega, ?_⟩
    rw [← flatMap_at hs hx hq, ← h2, List.drop_take, List.take_take, List.drop_drop, Nat.min_eq_left (by omega), Nat.add_assoc]
end
end Go.Ev
set_option linter.unusedSimpArgs false
set_option linter.unusedVariables false
namespace Go.Ev
open Go.RowKit
theorem drawO {P : Program} {G : Gam} (hG : GamOk P G) (hmix : P.follows .mixedOrders = true) {r : Option Nat} {n : Nat} {id : Nat} {ops : Array Oper} {K : Exit → Tm → Hp → Prop} {T : Tm} {H : Hp} (s : List (Nat × Nat)) (hp : (planS ops s || planOk ops s) = true) (h : oD P G n ops.toList (K .normal) s T H) : WpV P r n (.region id ops true) K T H :=
  drawV hG hmix _ (((Bool.or_eq_true _ _).mp hp).elim planS_ok fun hh => hh) (by rw [oD_eq] at h; exact h)
def backB (ops : Array Oper) : Bool := (List.range ops.size).all fun i => match ops[i]? with
  | some o => o.guard.isNone && o.after.all (fun e => !Region.binds .any e || decide (e.on < i))
  | none => true
theorem backB_spec {ops : Array Oper} (h : backB ops = true) {i : Nat} {o : Oper} (ho : ops[i]? = some o) : o.guard = none ∧ ∀ e ∈ o.after, Region.binds .any e = true → e.on < i := by
  have hi := (Array.getElem?_eq_some_iff.1 ho).1
  have := List.all_eq_true.1 h i (List.mem_range.2 hi)
  rw [ho] at this
  simp only [Bool.and_eq_true] at this
  refine ⟨by simpa using this.1, fun e he hb => ?_⟩
  have h2 := Array.all_eq_true_iff_forall_mem.1 this.2 e he
  rw [hb] at h2
  simpa using h2
def ApartE (H : Hp) : Prop := H.Pairwise fun e f => (e.wr ∨ f.wr) → e.blk ≠ f.blk
theorem drawI {P : Program} {r : Option Nat} {n : Nat} {G : Gam} (hG : GamOk P G) (hmix : P.follows .mixedOrders = true) {id : Nat} {ops : Array Oper} {K : Exit → Tm → Hp → Prop} {T : Tm} {H : Hp} (inv : (Nat → Bool) → Tm → Hp → Prop) (hb : backB ops = true) (h0 : inv (fun _ => false) T H)
    (step : ∀ (l : Nat → Bool) (T' : Tm) (H' : Hp) (i : Nat) (o : Oper), ApartE H' → inv l T' H' → ops[i]? = some o → l i = false → (∀ e ∈ o.after, Region.binds .any e = true → l e.on = true) → ∃ (H0 : Hp) (Kp : Value → Hp → Prop), H'.Perm H0 ∧ marksOf H0 = marksOf H' ∧ evOp P G T' H0 o.op Kp ∧ ∀ v H'', Kp v H'' → inv (fun j => j == i || l j) (putT n T' o.dst v) H'')
    (fin : ∀ (l : Nat → Bool) (T' : Tm) (H' : Hp), (∀ i, i < ops.size → l i = true) → ApartE H' → inv l T' H' → ∃ H0 T0, H'.Perm H0 ∧ marksOf H0 = marksOf H' ∧ subT T' T0 ∧ K .normal T0 H0) : WpV P r n (.region id ops true) K T H := by
  intro w0 mu a w hr ht hs hd
  have finw : ∀ (l : Nat → Bool) (T' : Tm) (H' : Hp) (a' : Act) (w' : World), (∀ i, i < ops.size → l i = true) → TRel n T' a' → Sat w0 mu H' w' → marksOf H' = marksOf H → a'.defers = defersOf H → inv l T' H' → ∃ T H', K .normal T H' ∧ TRel n T a' ∧ Sat w0 mu H' w' ∧ a'.defers = defersOf H' := by
    intro l T' H' a' w' hall ht' hs' hm' hd' hi'
    obtain ⟨H0, T0, h1, h2, h3, h4⟩ := fin l T' H' hall hs'.apart hi'
    exact ⟨T0, H0, h4, ht'.sub h3, hs'.perm h1, by rw [hd', defersOf, defersOf, h2, hm']⟩
  have key : ∀ (f : Nat) (listed : Array Bool) (l : Nat → Bool) (T' : Tm) (H' : Hp) (a' : Act) (w' : World), listed.size = ops.size → (∀ j, j < ops.size → listed[j]? = some (l j)) → ((List.range ops.size).filter fun j => !l j).length ≤ f → TRel n T' a' → Sat w0 mu H' w' → marksOf H' = marksOf H → a'.defers = defersOf H → inv l T' H' →
      wpAnyIn (Fr r) 0 P .any ops (fun e a w => e = .normal ∧ ∃ T H', K .normal T H' ∧ TRel n T a ∧ Sat w0 mu H' w ∧ a.defers = defersOf H') f listed a' w' := by
    have done : ∀ (listed : Array Bool) (l : Nat → Bool), listed.size = ops.size → (∀ j, j < ops.size → listed[j]? = some (l j)) → Region.ready .any ops listed = [] → ∀ i, i < ops.size → l i = true := by
      intro listed l hsz hl hrd i
      induction i using Nat.strongRecOn with
      | _ i ih =>
        intro hi
        cases hli : l i with
        | true => rfl
        | false =>
          have ho : ops[i]? = some ops[i] := Array.getElem?_eq_getElem hi
          have hmem : i ∈ Region.ready .any ops listed := by
            rw [mem_ready]
            refine ⟨by rw [Array.getD_eq_getD_getElem?, hl i hi, hli]; rfl, _, ho, fun e he hbb => ?_⟩
            have hlt := (backB_spec hb ho).2 e he hbb
            rw [Array.getD_eq_getD_getElem?, hl e.on (by omega), ih e.on hlt (by omega)]; rfl
          rw [hrd] at hmem; cases hmem
    intro f
    induction f with
    | zero =>
      intro listed l T' H' a' w' hsz hl hn ht' hs' hm' hd' hi'
      have hall : ∀ i, i < ops.size → l i = true := fun i hi => by
        cases hli : l i with
        | true => rfl
        | false =>
          have : i ∈ (List.range ops.size).filter fun j => !l j := List.mem_filter.2 ⟨List.mem_range.2 hi, by simp [hli]⟩
          rw [List.length_eq_zero_iff.1 (Nat.le_zero.1 hn)] at this; cases this
      refine ⟨?_, rfl, finw l T' H' a' w' hall ht' hs' hm' hd' hi'⟩
      rw [List.eq_nil_iff_forall_not_mem]
      intro i hmem
      obtain ⟨h1, o, ho, _⟩ := mem_ready.1 hmem
      have hi := (Array.getElem?_eq_some_iff.1 ho).1
      rw [Array.getD_eq_getD_getElem?, hl i hi, hall i hi] at h1
      cases h1
    | succ f ih =>
      intro listed l T' H' a' w' hsz hl hn ht' hs' hm' hd' hi'
      refine ⟨fun h => ⟨rfl, finw l T' H' a' w' (done listed l hsz hl h) ht' hs' hm' hd' hi'⟩, fun i hmem => ?_⟩
      obtain ⟨h1, o, ho, hdeps⟩ := mem_ready.1 hmem
      have hi := (Array.getElem?_eq_some_iff.1 ho).1
      have hli : l i = false := by rw [Array.getD_eq_getD_getElem?, hl i hi] at h1; exact h1
      obtain ⟨hg, hlt⟩ := backB_spec hb ho
      obtain ⟨H0, Kp, hp0, hm0, hst, hkp⟩ := step l T' H' i o hs'.apart hi' ho hli fun e he hbb => by
        have := hdeps e he hbb
        rw [Array.getD_eq_getD_getElem?, hl e.on (by have := hlt e he hbb; omega)] at this
        exact this
      have hw : Region.wanted o (yielded ops a'.tmps) = true := by
        rcases gd_ok (ops := ops) (o := o) (A := True) (B := False) ht' (by rw [hg]; trivial) with ⟨h, _⟩ | ⟨_, h⟩
        · exact h
        · exact h.elim
      unfold wpOpIn
      rw [ho]
      dsimp only
      rw [if_pos hw]
      refine evOp_ok hG ht' (hs'.perm hp0) hst ?_
      intro v H'' w'' hi3 hs'' hm''
      replace hi3 := hkp v H'' hi3
      refine ih _ (fun j => j == i || l j) _ H'' _ w'' (by simpa using hsz) (fun j hj => ?_) ?_ (ht'.put o.dst v) hs'' (hm''.trans (hm0.trans hm')) ?_ hi3
      · rw [Array.getElem?_setIfInBounds]
        by_cases hji : i = j
        · subst hji; rw [if_pos rfl, if_pos (by omega)]; simp
        · rw [if_neg hji, hl j hj]; simp [Ne.symm hji]
      · have : ((List.range ops.size).filter fun j => !(j == i || l j)).length < ((List.range ops.size).filter fun j => !l j).length := by
          have hsl : ((List.range ops.size).filter fun j => !(j == i || l j)) = ((List.range ops.size).filter fun j => !l j).filter fun j => !(j == i) := by
            rw [List.filter_filter]
            congr 1
            funext j
            simp
          rw [hsl]
          refine List.length_filter_lt_length_iff_exists.2 ⟨i, List.mem_filter.2 ⟨List.mem_range.2 hi, by simp [hli]⟩, by simp⟩
        omega
      · cases o.dst <;> exact hd'
  have hA := key ops.size (Array.replicate ops.size false) (fun _ => false) T H a _ (by simp) (fun j hj => by simp [hj]) (Nat.le_trans (List.length_filter_le _ _) (by simp)) ht hs.drew rfl hd h0
  refine wpIn_mono (wpIn_region_any hmix hA) ?_
  rintro e a' w' ⟨rfl, T', H', hk⟩
  exact ⟨T', H', hk⟩
theorem getT_put {n k : Nat} (hk : k < n) (T : Tm) (v : Value) (j : Nat) : getT (putT n T (some k) v) j = if j = k then some v else getT T j := by
  simp only [putT, if_pos hk, getT]
def upd {α : Type} (f : Nat → α) (i : Nat) (a : α) : Nat → α := fun j => if j = i then a else f j
theorem upd_self {α : Type} (f : Nat → α) (i : Nat) (a : α) : upd f i a i = a := by simp [upd]
theorem upd_ne {α : Type} {f : Nat → α} {i j : Nat} {a : α} (h : j ≠ i) : upd f i a j = f j := by simp [upd, h]
def dstB (n : Nat) (ops : Array Oper) : Bool := (List.range ops.size).all fun i => match ops[i]? with
  | some o => match o.dst with
    | some s => decide (s < n) && (List.range ops.size).all fun j => i == j || !((ops[j]?).any fun p => p.dst == some s)
    | none => true
  | none => true
theorem dstB_spec {n : Nat} {ops : Array Oper} (h : dstB n ops = true) {i : Nat} {o : Oper} {s : Nat} (ho : ops[i]? = some o) (hs : o.dst = some s) : s < n ∧ ∀ j p, ops[j]? = some p → p.dst = some s → i = j := by
  have hi := (Array.getElem?_eq_some_iff.1 ho).1
  have := List.all_eq_true.1 h i (List.mem_range.2 hi)
  rw [ho] at this
  dsimp only at this
  rw [hs] at this
  simp only [Bool.and_eq_true, decide_eq_true_eq] at this
  refine ⟨this.1, fun j p hp hps => ?_⟩
  have h2 := List.all_eq_true.1 this.2 j (List.mem_range.2 (Array.getElem?_eq_some_iff.1 hp).1)
  rw [hp] at h2
  simpa [hps] using h2
theorem perm_part {α : Type} [DecidableEq α] {l m : List α} (hl : l.Nodup) (hm : m.Nodup) (h : ∀ x ∈ m, x ∈ l) : l.Perm (m ++ l.filter fun x => !m.contains x) := by
  refine (List.perm_ext_iff_of_nodup hl (List.nodup_append.2 ⟨hm, hl.sublist List.filter_sublist, fun a ha b hb he => ?_⟩)).2 fun x => ?_
  · subst he
    have := (List.mem_filter.1 hb).2
    simp [ha] at this
  · rw [List.mem_append, List.mem_filter]
    refine ⟨fun hx => ?_, fun hx => hx.elim (h x) (·.1)⟩
    by_cases hxm : x ∈ m
    · exact .inl hxm
    · exact .inr ⟨hx, by simp [hxm]⟩
def usedB (ops : Array Oper) (used : Nat → List Nat) : Bool := (List.range ops.size).all fun i => decide ((used i).Nodup) && (used i).all fun j => decide (j < i) && ((ops[i]?).any fun o => o.after.any fun e => Region.binds .any e && e.on == j) && (List.range ops.size).all fun k => k == i || !(used k).contains j
def freeB (ops : Array Oper) (used : Nat → List Nat) (i : Nat) : Bool := (List.range ops.size).all fun k => !(used k).contains i
theorem freshN_apart {A B : Hp} (h : ApartE (A ++ B)) (hw : allWr A) : freshN A B :=
  freshN_iff.2 fun e he x hx => ((List.pairwise_append.1 h).2.2 e he x hx (.inl (allWr_mem hw e he))).symm
theorem allWr_of {N : Hp} (h : ∀ e ∈ N, e.wr) : allWr N := by
  induction N with
  | nil => trivial
  | cons e r ih => exact ⟨h e (by simp), ih fun x hx => h x (by simp [hx])⟩
theorem marks_flat {mem : Nat → Hp} : ∀ {L : List Nat}, (∀ i ∈ L, marksOf (mem i) = []) → marksOf (L.flatMap mem) = []
  | [], _ => rfl
  | i :: r, h => by rw [List.flatMap_cons, marks_append, h i (by simp), marks_flat fun j hj => h j (by simp [hj])]; rfl
theorem flat_upd {mem : Nat → Hp} {i : Nat} {N : Hp} {L : List Nat} (h : i ∉ L) : L.flatMap (upd mem i N) = L.flatMap mem := by
  rw [List.flatMap_def, List.flatMap_def]
  congr 1
  exact List.map_congr_left fun j hj => upd_ne fun e => h (e ▸ hj)
theorem subT_of {T' : Tm} : ∀ {A : Tm}, (∀ k v, (k, v) ∈ A → getT T' k = some v) → subT T' A
  | [], _ => trivial
  | x :: _, h => ⟨h x.1 x.2 (by simp), subT_of fun k v hm => h k v (by simp [hm])⟩
theorem subT_mem {T' : Tm} {k : Nat} {v : Value} : ∀ {A : Tm}, subT T' A → (k, v) ∈ A → getT T' k = some v
  | [], _, hm => by cases hm
  | x :: _, h, hm => by
    rcases List.mem_cons.1 hm with rfl | hm
    · exact h.1
    · exact subT_mem h.2 hm
def dstsL (val : Nat → Value) (Tb : Tm) : List Oper → Nat → Tm
  | [], _ => Tb
  | o :: r, i => match o.dst with
    | some s => (s, val i) :: dstsL val Tb r (i + 1)
    | none => dstsL val Tb r (i + 1)
attribute [push_cast] dstsL
theorem dstsL_mem {val : Nat → Value} {Tb : Tm} {k : Nat} {u : Value} : ∀ {l : List Oper} {i : Nat}, (k, u) ∈ dstsL val Tb l i → (k, u) ∈ Tb ∨ ∃ j o, l[j]? = some o ∧ o.dst = some k ∧ u = val (i + j)
  | [], _, h => .inl h
  | o :: r, i, h => by
    have hrec : (k, u) ∈ dstsL val Tb r (i + 1) → (k, u) ∈ Tb ∨ ∃ j p, (o :: r)[j]? = some p ∧ p.dst = some k ∧ u = val (i + j) := fun h => by
      rcases dstsL_mem h with h | ⟨j, p, h1, h2, h3⟩
      · exact .inl h
      · exact .inr ⟨j + 1, p, by simpa using h1, h2, by rw [h3]; congr 1; omega⟩
    unfold dstsL at h
    split at h
    · rename_i s hs
      rcases List.mem_cons.1 h with h | h
      · injection h with h1 h2
        exact .inr ⟨0, o, rfl, by rw [hs, h1], h2⟩
      · exact hrec h
    · exact hrec h
theorem drawS {P : Program} {r : Option Nat} {n : Nat} {G : Gam} (hG : GamOk P G) (hmix : P.follows .mixedOrders = true) {id : Nat} {ops : Array Oper} {K : Exit → Tm → Hp → Prop} {T : Tm} {X : Hp} (Tb : Tm) (V : Nat → (Nat → Value) → Prop) (Q : Nat → (Nat → Value) → Hp → Prop) (used : Nat → List Nat) (F : List Nat)
    (hb : backB ops = true) (hd : dstB n ops = true) (hu : usedB ops used = true) (hTb : subT T Tb) (hTd : (Tb.all fun x => !(ops.toList.filterMap (·.dst)).contains x.1) = true)
    (hF : F.Nodup) (hFs : (F.all fun i => decide (i < ops.size) && freeB ops used i) = true) (hFn : ∀ i, i < ops.size → i ∉ F → (∀ val N, Q i val N → N = []) ∨ freeB ops used i = false)
    (stabV : ∀ i o, ops[i]? = some o → ∀ val val' : Nat → Value, val' i = val i → (∀ j, (o.after.any fun e => Region.binds .any e && e.on == j) = true → val' j = val j) → V i val → V i val')
    (stabQ : ∀ i o, ops[i]? = some o → ∀ (val val' : Nat → Value) (N : Hp), val' i = val i → (∀ j, (o.after.any fun e => Region.binds .any e && e.on == j) = true → val' j = val j) → Q i val N → Q i val' N)
    (hop : ∀ (i : Nat) (o : Oper), ops[i]? = some o → ∀ (T' : Tm) (Y : Hp) (val : Nat → Value) (mem : Nat → Hp), subT T' Tb → (∀ j, (o.after.any fun e => Region.binds .any e && e.on == j) = true → V j val ∧ ∀ s, (ops[j]?).bind (·.dst) = some s → getT T' s = some (val j)) → (∀ j ∈ used i, Q j val (mem j)) →
      freshN ((used i).flatMap mem) Y → (∀ b e, findE X b = some e → findE Y b = some e) → marksOf Y = marksOf X → ApartE Y → evOp P G T' ((used i).flatMap mem ++ Y) o.op (fun v H'' => ∃ N, H'' = N ++ Y ∧ allWr N ∧ marksOf N = [] ∧ V i (upd val i v) ∧ Q i (upd val i v) N))
    (fin : ∀ (val : Nat → Value) (mem : Nat → Hp), (∀ i, i < ops.size → V i val) → (∀ i ∈ F, Q i val (mem i)) → ApartE (F.flatMap mem ++ X) → allWr (F.flatMap mem) → K .normal (dstsL val Tb ops.toList 0) (F.flatMap mem ++ X)) : WpV P r n (.region id ops true) K T X := by
  have husd : ∀ {i : Nat}, i < ops.size → (used i).Nodup ∧ ∀ j ∈ used i, j < i ∧ (∃ o, ops[i]? = some o ∧ ∃ e ∈ o.after, Region.binds .any e = true ∧ e.on = j) ∧ ∀ k, k < ops.size → k ≠ i → j ∉ used k := by
    intro i hi
    have := List.all_eq_true.1 hu i (List.mem_range.2 hi)
    simp only [Bool.and_eq_true, decide_eq_true_eq, List.all_eq_true] at this
    refine ⟨this.1, fun j hj => ?_⟩
    obtain ⟨⟨h1, h2⟩, h3⟩ := this.2 j hj
    refine ⟨h1, ?_, fun k hk hki hmem => ?_⟩
    · cases ho : ops[i]? with
      | none => rw [ho] at h2; cases h2
      | some o =>
        rw [ho] at h2
        obtain ⟨e, he, heb⟩ := Array.any_eq_true'.1 h2
        simp only [Bool.and_eq_true, beq_iff_eq] at heb
        exact ⟨o, rfl, e, he, heb.1, heb.2⟩
    · have := h3 k (List.mem_range.2 hk)
      simp [hki, hmem] at this
  have hbase : ∀ {T' : Tm}, (∀ k v, (k, v) ∈ Tb → getT T' k = some v) → subT T' Tb := fun h => subT_of h
  have hbase' : ∀ {T' : Tm}, subT T' Tb → ∀ k v, (k, v) ∈ Tb → getT T' k = some v := fun h k v hm => subT_mem h hm
  refine drawI hG hmix (fun l T' H' => ∃ (val : Nat → Value) (mem : Nat → Hp) (ord : List Nat), ord.Nodup ∧ (∀ i ∈ ord, l i = true ∧ i < ops.size) ∧ (∀ i, l i = true → i < ops.size → i ∉ ord → ∃ j, j < ops.size ∧ l j = true ∧ i ∈ used j) ∧ (∀ i ∈ ord, ∀ j, j < ops.size → l j = true → i ∉ used j) ∧ H' = ord.flatMap mem ++ X ∧ (∀ i ∈ ord, allWr (mem i) ∧ marksOf (mem i) = []) ∧
    (∀ i o, ops[i]? = some o → l i = true → (∀ e ∈ o.after, Region.binds .any e = true → l e.on = true) ∧ V i val ∧ (i ∈ ord → Q i val (mem i)) ∧ ∀ s, o.dst = some s → getT T' s = some (val i)) ∧ subT T' Tb) hb ?_ ?_ ?_
  · exact ⟨fun _ => undef, fun _ => [], [], List.nodup_nil, by simp, by simp, by simp, rfl, by simp, by simp, hTb⟩
  · rintro l T' H' i o hap ⟨val, mem, ord, h1, h2, h3, h4, rfl, h6, h7, h8⟩ ho hli hdeps
    have hi := (Array.getElem?_eq_some_iff.1 ho).1
    obtain ⟨hun, hus⟩ := husd hi
    have hin : ∀ j ∈ used i, j ∈ ord := fun j hj => by
      obtain ⟨hji, ⟨o', ho', e, he, heb, rfl⟩, hk⟩ := hus j hj
      obtain rfl : o = o' := Option.some.inj (ho.symm.trans ho')
      have hlj := hdeps e he heb
      rcases Classical.em (e.on ∈ ord) with h | h
      · exact h
      · obtain ⟨k, hk1, hk2, hk3⟩ := h3 e.on hlj (by omega) h
        by_cases hki : k = i
        · rw [hki, hli] at hk2; cases hk2
        · exact absurd hk3 (hk k hk1 hki)
    obtain ⟨rest, hperm⟩ : ∃ rest, ord.Perm (used i ++ rest) := ⟨_, perm_part h1 hun hin⟩
    have hnd : (used i ++ rest).Nodup := hperm.nodup_iff.1 h1
    have hnr : rest.Nodup := (List.nodup_append.1 hnd).2.1
    have hio : i ∉ ord := fun h => by rw [(h2 i h).1] at hli; cases hli
    have hir : i ∉ rest := fun h => hio (hperm.mem_iff.2 (List.mem_append_right _ h))
    have hpm : (ord.flatMap mem ++ X).Perm ((used i).flatMap mem ++ (rest.flatMap mem ++ X)) := by
      rw [← List.append_assoc, ← List.flatMap_append]
      exact (hperm.flatMap_right mem).append_right X
    have hm1 : marksOf (ord.flatMap mem) = [] := marks_flat fun j hj => (h6 j hj).2
    have hm2 : marksOf ((used i).flatMap mem) = [] := marks_flat fun j hj => (h6 j (hin j hj)).2
    have hro : ∀ j ∈ rest, j ∈ ord := fun j hj => hperm.mem_iff.2 (List.mem_append_right _ hj)
    have hm3 : marksOf (rest.flatMap mem) = [] := marks_flat fun j hj => (h6 j (hro j hj)).2
    have hap' : ApartE ((used i).flatMap mem ++ (rest.flatMap mem ++ X)) := (hpm.pairwise_iff (fun {x y} hxy hw => (hxy hw.symm).symm)).1 hap
    have hwr : ∀ {L : List Nat}, (∀ j ∈ L, j ∈ ord) → allWr (L.flatMap mem) := fun {L} hL => allWr_of fun e he => by
      obtain ⟨j, hj, hej⟩ := List.mem_flatMap.1 he
      exact allWr_mem (h6 j (hL j hj)).1 e hej
    have hap2 : ApartE (rest.flatMap mem ++ X) := (List.pairwise_append.1 hap').2.1
    refine ⟨_, _, hpm, by simp only [marks_append, hm1, hm2, hm3, List.nil_append], hop i o ho T' (rest.flatMap mem ++ X) val mem h8 (fun j hj => ?_) (fun j hj => ?_) (freshN_apart hap' (hwr hin)) (fun b e hbe => ?_) (by rw [marks_append, hm3]; rfl) hap2, ?_⟩
    · obtain ⟨e, he, heb⟩ := Array.any_eq_true'.1 hj
      simp only [Bool.and_eq_true, beq_iff_eq] at heb
      obtain ⟨hbb, rfl⟩ := heb
      have hlt := (backB_spec hb ho).2 e he hbb
      have hp : ops[e.on]? = some ops[e.on] := Array.getElem?_eq_getElem (by omega)
      obtain ⟨_, g1, _, g2⟩ := h7 e.on _ hp (hdeps e he hbb)
      exact ⟨g1, fun s hs => g2 s (by rw [hp] at hs; exact hs)⟩
    · have hj2 := h2 j (hin j hj)
      exact (h7 j _ (Array.getElem?_eq_getElem hj2.2) hj2.1).2.2.1 (hin j hj)
    · rw [findE_freshN (freshN_apart hap2 (hwr hro)) hbe]; exact hbe
    · rintro v H'' ⟨N, rfl, hN1, hN2, hV, hQ⟩
      have hl' : ∀ j, l j = true → (j == i || l j) = true := fun j hj => by rw [hj, Bool.or_true]
      have hni : ∀ j, l j = true → j ≠ i := fun j hj h => by rw [h, hli] at hj; cases hj
      have hlr : ∀ j ∈ rest, l j = true := fun j hj => (h2 j (hro j hj)).1
      refine ⟨upd val i v, upd mem i N, i :: rest, List.nodup_cons.2 ⟨hir, hnr⟩, ?_, ?_, ?_, ?_, ?_, ?_, ?_⟩
      · intro j hj
        rcases List.mem_cons.1 hj with rfl | hj
        · exact ⟨by simp, hi⟩
        · exact ⟨hl' j (hlr j hj), (h2 j (hro j hj)).2⟩
      · intro j hj hjs hjo
        have hji : j ≠ i := fun h => hjo (h ▸ List.mem_cons_self ..)
        have hjl : l j = true := by simpa [hji] using hj
        rcases Classical.em (j ∈ ord) with h | h
        · rcases List.mem_append.1 (hperm.mem_iff.1 h) with h | h
          · exact ⟨i, hi, by simp, h⟩
          · exact absurd (List.mem_cons_of_mem _ h) hjo
        · obtain ⟨k, k1, k2, k3⟩ := h3 j hjl hjs h
          exact ⟨k, k1, hl' k k2, k3⟩
      · intro j hj k hk hkl hjk
        rcases List.mem_cons.1 hj with rfl | hjr
        · obtain ⟨hk1, ⟨o', ho', e, he, heb, hej⟩, -⟩ := (husd hk).2 j hjk
          have hkj : k ≠ j := by omega
          have hkl' : l k = true := by simpa [hkj] using hkl
          have := (h7 k o' ho' hkl').1 e he heb
          rw [hej, hli] at this; cases this
        · by_cases hki : k = i
          · subst hki
            exact (List.nodup_append.1 hnd).2.2 j hjk j hjr rfl
          · exact h4 j (hro j hjr) k hk (by simpa [hki] using hkl) hjk
      · rw [List.flatMap_cons, upd_self, flat_upd hir, List.append_assoc]
      · intro j hj
        rcases List.mem_cons.1 hj with rfl | hj
        · rw [upd_self]; exact ⟨hN1, hN2⟩
        · rw [upd_ne (hni j (hlr j hj))]; exact h6 j (hro j hj)
      · intro j p hp hj
        by_cases hji : j = i
        · subst hji
          obtain rfl : o = p := Option.some.inj (ho.symm.trans hp)
          refine ⟨fun e he hbb => hl' _ (hdeps e he hbb), hV, fun _ => by rw [upd_self]; exact hQ, fun s hs => ?_⟩
          rw [hs, getT_put (dstB_spec hd ho hs).1, if_pos rfl, upd_self]
        · have hjl : l j = true := by simpa [hji] using hj
          obtain ⟨g1, g2, g3, g4⟩ := h7 j p hp hjl
          have hv : upd val i v j = val j := upd_ne hji
          have hve : ∀ k, (p.after.any fun e => Region.binds .any e && e.on == k) = true → upd val i v k = val k := fun k hk => by
            obtain ⟨e, he, heb⟩ := Array.any_eq_true'.1 hk
            simp only [Bool.and_eq_true, beq_iff_eq] at heb
            obtain ⟨hbb, rfl⟩ := heb
            exact upd_ne (hni _ (g1 e he hbb))
          refine ⟨fun e he hbb => hl' _ (g1 e he hbb), stabV j p hp val _ hv hve g2, fun hjo => ?_, fun s hs => ?_⟩
          · have hjr : j ∈ rest := (List.mem_cons.1 hjo).resolve_left hji
            rw [upd_ne hji]
            exact stabQ j p hp val _ _ hv hve (g3 (hro j hjr))
          · rw [hv]
            cases hod : o.dst with
            | none => exact g4 s hs
            | some s' =>
              rw [getT_put (dstB_spec hd ho hod).1, if_neg (fun hss => hji ((dstB_spec hd hp hs).2 i o ho (by rw [hod, hss])))]
              exact g4 s hs
      · refine hbase fun k u hm => ?_
        have h9 := hbase' h8 k u hm
        cases hod : o.dst with
        | none => exact h9
        | some s' =>
          rw [getT_put (dstB_spec hd ho hod).1, if_neg (fun hks => ?_)]
          · exact h9
          · have := List.all_eq_true.1 hTd (k, u) hm
            simp only [Bool.not_eq_true', List.contains_eq_mem, decide_eq_false_iff_not] at this
            exact this (List.mem_filterMap.2 ⟨o, List.mem_of_getElem? (by simpa using ho), by rw [hod, hks]⟩)
  · rintro l T' H' hall hap ⟨val, mem, ord, h1, h2, h3, h4, rfl, h6, h7, h8⟩
    have hFs' : ∀ i ∈ F, i < ops.size ∧ freeB ops used i = true := fun i hi => by
      have := List.all_eq_true.1 hFs i hi
      simpa using this
    have hFo : ∀ i ∈ F, i ∈ ord := fun i hi => by
      obtain ⟨k1, k2⟩ := hFs' i hi
      rcases Classical.em (i ∈ ord) with h | h
      · exact h
      · obtain ⟨k, k3, k4, k5⟩ := h3 i (hall i k1) k1 h
        have := List.all_eq_true.1 k2 k (List.mem_range.2 k3)
        simp [k5] at this
    have hperm := perm_part h1 hF hFo
    have hnil : (ord.filter fun x => !F.contains x).flatMap mem = [] := by
      rw [List.flatMap_eq_nil_iff]
      intro i hi
      obtain ⟨hio, hiF⟩ := List.mem_filter.1 hi
      have hiF' : i ∉ F := by simpa using hiF
      have hsz := (h2 i hio).2
      rcases hFn i hsz hiF' with h | h
      · exact h val _ ((h7 i _ (Array.getElem?_eq_getElem hsz) (hall i hsz)).2.2.1 hio)
      · have : freeB ops used i = true := List.all_eq_true.2 fun k hk => by
          have := h4 i hio k (List.mem_range.1 hk) (hall k (List.mem_range.1 hk))
          simpa using this
        rw [this] at h; cases h
    have hpm : (ord.flatMap mem ++ X).Perm (F.flatMap mem ++ X) := by
      have := (hperm.flatMap_right mem).append_right X
      rw [List.flatMap_append, hnil, List.append_nil] at this
      exact this
    have hm1 : marksOf (ord.flatMap mem) = [] := marks_flat fun j hj => (h6 j hj).2
    have hm2 : marksOf (F.flatMap mem) = [] := marks_flat fun j hj => (h6 j (hFo j hj)).2
    refine ⟨_, _, hpm, by simp only [marks_append, hm1, hm2], ?_, fin val mem (fun i hi => (h7 i _ (Array.getElem?_eq_getElem hi) (hall i hi)).2.1) (fun i hi => (h7 i _ (Array.getElem?_eq_getElem (hFs' i hi).1) (hall i (hFs' i hi).1)).2.2.1 (hFo i hi)) ((hpm.pairwise_iff (fun {x y} hxy hw => (hxy hw.symm).symm)).1 hap) (allWr_of fun e he => ?_)⟩
    · refine subT_of fun k u hm => ?_
      rcases dstsL_mem hm with hm | ⟨j, o, hj, hs, rfl⟩
      · exact hbase' h8 k u hm
      · have ho : ops[j]? = some o := by simpa using hj
        have hi := (Array.getElem?_eq_some_iff.1 ho).1
        rw [Nat.zero_add]
        exact (h7 j o ho (hall j hi)).2.2.2 k hs
    · obtain ⟨j, hj, hej⟩ := List.mem_flatMap.1 he
      exact allWr_mem (h6 j (hFo j hj)).1 e hej
end Go.Ev
