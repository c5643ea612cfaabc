/- Texts of this claim, merged by program: Wc Wd Da We Mc Md Me. -/
import Derived.Test.YtpcjmmdgopihcaaGreatDoorZgAf
import Derived.Shelf.Spec.BitsCarry
import Derived.Lib.Mul64
import Derived.Shelf.Bits.Mul64
import Derived.Test.YtpcjmmdgopihcaaGreatDoorZgAd
import Derived.Test.YtpcjmmdgopihcaaGreatDoorZgAc
import Derived.Test.YtpcjmmdgopihcaaGreatDoorZgAo
set_option linter.unusedSimpArgs false
set_option linter.unusedVariables false
set_option maxRecDepth 100000
set_option maxHeartbeats 4000000
namespace Go.Ev
open Go.Proofs
def W.ofN (n : Nat) : W := ⟨n % 18446744073709551616, n / 18446744073709551616 % 18446744073709551616, n / 18446744073709551616 / 18446744073709551616 % 18446744073709551616, n / 18446744073709551616 / 18446744073709551616 / 18446744073709551616 % 18446744073709551616,
 Nat.mod_lt _ (by decide), Nat.mod_lt _ (by decide), Nat.mod_lt _ (by decide), Nat.mod_lt _ (by decide)⟩
noncomputable def W.of : Nat → W := hid W.ofN
noncomputable def addLo : Nat → Nat → Nat → Nat := hid fun x y c => (x + y + c) % 18446744073709551616
theorem addLo_eq (x y c : Nat) : addLo x y c = (x + y + c) % 18446744073709551616 := by unfold addLo; rw [hid_eq]
noncomputable def addC : Nat → Nat → Nat → Nat := hid fun x y c => if 18446744073709551616 ≤ x + y + c then 1 else 0
theorem addC_eq (x y c : Nat) : addC x y c = if 18446744073709551616 ≤ x + y + c then 1 else 0 := by unfold addC; rw [hid_eq]
noncomputable def subLo : Nat → Nat → Nat → Nat := hid fun x y b => (x + 18446744073709551616 - y - b) % 18446744073709551616
theorem subLo_eq (x y b : Nat) : subLo x y b = (x + 18446744073709551616 - y - b) % 18446744073709551616 := by unfold subLo; rw [hid_eq]
noncomputable def subB : Nat → Nat → Nat → Nat := hid fun x y b => if x < y + b then 1 else 0
theorem subB_eq (x y b : Nat) : subB x y b = if x < y + b then 1 else 0 := by unfold subB; rw [hid_eq]
noncomputable def mulLo : Nat → Nat → Nat := hid fun x y => x * y % 18446744073709551616
theorem mulLo_eq (x y : Nat) : mulLo x y = x * y % 18446744073709551616 := by unfold mulLo; rw [hid_eq]
noncomputable def macLo : Nat → Nat → Nat → Nat → Nat := hid fun x y w c => (x * y + w + c) % 18446744073709551616
theorem macLo_eq (x y w c : Nat) : macLo x y w c = (x * y + w + c) % 18446744073709551616 := by unfold macLo; rw [hid_eq]
noncomputable def macHi : Nat → Nat → Nat → Nat → Nat := hid fun x y w c => ((x % 18446744073709551616) * (y % 18446744073709551616) + w % 18446744073709551616 + c % 18446744073709551616) / 18446744073709551616
theorem macHi_eq' (x y w c : Nat) : macHi x y w c = ((x % 18446744073709551616) * (y % 18446744073709551616) + w % 18446744073709551616 + c % 18446744073709551616) / 18446744073709551616 := by unfold macHi; rw [hid_eq]
theorem addLo_lt (x y c : Nat) : addLo x y c < 18446744073709551616 := by rw [addLo_eq]; exact Nat.mod_lt _ (by decide)
theorem subLo_lt (x y c : Nat) : subLo x y c < 18446744073709551616 := by rw [subLo_eq]; exact Nat.mod_lt _ (by decide)
theorem mulLo_lt (x y : Nat) : mulLo x y < 18446744073709551616 := by rw [mulLo_eq]; exact Nat.mod_lt _ (by decide)
theorem macLo_lt (x y w c : Nat) : macLo x y w c < 18446744073709551616 := by rw [macLo_eq]; exact Nat.mod_lt _ (by decide)
theorem addC_le (x y c : Nat) : addC x y c ≤ 1 := by simp only [addC_eq]; split <;> omega
theorem subB_le (x y c : Nat) : subB x y c ≤ 1 := by simp only [subB_eq]; split <;> omega
theorem mul_le {x y : Nat} (hx : x < 18446744073709551616) (hy : y < 18446744073709551616) : x * y ≤ 340282366920938463426481119284349108225 := Nat.mul_le_mul (Nat.le_of_lt_succ hx : x ≤ 18446744073709551615) (Nat.le_of_lt_succ hy : y ≤ 18446744073709551615)
theorem macHi_lt (x y w c : Nat) : macHi x y w c < 18446744073709551616 := by
 have := mul_le (Nat.mod_lt x (by decide : 0 < 18446744073709551616)) (Nat.mod_lt y (by decide : 0 < 18446744073709551616))
 rw [macHi_eq']; omega
theorem mac_lo (x y w c : Nat) : addLo (addLo (mulLo x y) w 0) c 0 = macLo x y w c := by simp only [addLo_eq, mulLo_eq, macLo_eq]; omega
noncomputable def cmpVG : List Value → Option Value
 | [x, y] => (wOf x).bind fun a => (wOf y).bind fun b => some (.int .i64 (a.cmp b))
 | _ => none
attribute [push_cast] cmpVG
theorem cmpVG_some {args : List Value} {v : Value} (h : cmpVG args = some v) : ∃ x y : W, args = [x.v, y.v] ∧ v = .int .i64 (x.cmp y) := by
 unfold cmpVG at h
 split at h
 · rename_i x y
   cases hx : wOf x with
   | none => simp [hx] at h
   | some a =>
     cases hy : wOf y with
     | none => simp [hx, hy] at h
     | some b => simp [hx, hy] at h; exact ⟨a, b, by rw [wOf_some hx, wOf_some hy], h.symm⟩
 · cases h
noncomputable def b64 : Int → Bool := hid fun x => decide (0 ≤ x ∧ x < 18446744073709551616)
theorem b64_eq (x : Int) : b64 x = decide (0 ≤ x ∧ x < 18446744073709551616) := by unfold b64; rw [hid_eq]
theorem b64_lo1 (x y c : Nat) : b64 (addLo x y c : Nat) = true := by have := addLo_lt x y c; simp only [b64_eq]; rw [decide_eq_true_eq]; omega
theorem b64_lo2 (x y c : Nat) : b64 (subLo x y c : Nat) = true := by have := subLo_lt x y c; simp only [b64_eq]; rw [decide_eq_true_eq]; omega
theorem b64_lo3 (x y : Nat) : b64 (mulLo x y : Nat) = true := by have := mulLo_lt x y; simp only [b64_eq]; rw [decide_eq_true_eq]; omega
theorem b64_lo4 (x y w c : Nat) : b64 (macLo x y w c : Nat) = true := by have := macLo_lt x y w c; simp only [b64_eq]; rw [decide_eq_true_eq]; omega
theorem b64_a (w : W) : b64 (w.a : Nat) = true := by have := w.ha; simp only [b64_eq]; rw [decide_eq_true_eq]; omega
theorem b64_b (w : W) : b64 (w.b : Nat) = true := by have := w.hb; simp only [b64_eq]; rw [decide_eq_true_eq]; omega
theorem b64_c (w : W) : b64 (w.c : Nat) = true := by have := w.hc; simp only [b64_eq]; rw [decide_eq_true_eq]; omega
theorem b64_d (w : W) : b64 (w.d : Nat) = true := by have := w.hd; simp only [b64_eq]; rw [decide_eq_true_eq]; omega
theorem b64_0 : b64 0 = true := by rw [b64_eq]; rfl
theorem b64_1 : b64 1 = true := by rw [b64_eq]; rfl
noncomputable def b1 : Int → Bool := hid fun x => decide (0 ≤ x ∧ x ≤ 1)
theorem b1_eq (x : Int) : b1 x = decide (0 ≤ x ∧ x ≤ 1) := by unfold b1; rw [hid_eq]
theorem b1_add (x y c : Nat) : b1 (addC x y c : Nat) = true := by have := addC_le x y c; simp only [b1_eq]; rw [decide_eq_true_eq]; omega
theorem b1_sub (x y c : Nat) : b1 (subB x y c : Nat) = true := by have := subB_le x y c; simp only [b1_eq]; rw [decide_eq_true_eq]; omega
theorem b1_0 : b1 0 = true := by rw [b1_eq]; rfl
theorem b64_hi (x y w c : Nat) : b64 (macHi x y w c : Nat) = true := by
 have := macHi_lt x y w c; simp only [b64_eq]; rw [decide_eq_true_eq]; omega
attribute [push_cast] macHi_lt macLo_lt b64_hi
attribute [push_cast] b64_lo1 b64_lo2 b64_lo3 b64_lo4 b64_a b64_b b64_c b64_d b64_0 b64_1 b1_add b1_sub b1_0 mac_lo
end Go.Ev
namespace Go.Proofs.YtpcjmmdgopihcaaGreatDoor
open Go Go.Ev Go.Proofs
noncomputable def gM : Gam := noG
attribute [push_cast] gM
theorem gM_ok : GamOk Tryz.prog gM := (noG_ok _)
end Go.Proofs.YtpcjmmdgopihcaaGreatDoor
namespace Go.Ev
theorem W.at0 (x : W) (h : 0 < x.cells.toArray.size) : x.cells.toArray[0]'h = .int .u64 x.a := rfl
theorem W.at1 (x : W) (h : 1 < x.cells.toArray.size) : x.cells.toArray[1]'h = .int .u64 x.b := rfl
theorem W.at2 (x : W) (h : 2 < x.cells.toArray.size) : x.cells.toArray[2]'h = .int .u64 x.c := rfl
theorem W.at3 (x : W) (h : 3 < x.cells.toArray.size) : x.cells.toArray[3]'h = .int .u64 x.d := rfl
theorem indexV_W (P : Program) (t : TypeId) (x : W) (k : IntKind) (i : Int) : indexV P t x.v (.int k i) = (match elemI P t with
 | some (some n, s, ag) => if 0 ≤ i ∧ i < (n : Int) then partL ag x.cells.toArray (i.toNat * s) s else none
 | _ => none) := rfl
theorem W.q0 (x : W) : x.cells.toArray[0]? = some (.int .u64 x.a) := rfl
theorem W.q1 (x : W) : x.cells.toArray[1]? = some (.int .u64 x.b) := rfl
theorem W.q2 (x : W) : x.cells.toArray[2]? = some (.int .u64 x.c) := rfl
theorem W.q3 (x : W) : x.cells.toArray[3]? = some (.int .u64 x.d) := rfl
attribute [push_cast] indexV_W W.at0 W.at1 W.at2 W.at3 W.q0 W.q1 W.q2 W.q3
end Go.Ev
namespace Go.Proofs.YtpcjmmdgopihcaaGreatDoor
open Go Go.Ev Go.Proofs
theorem wordCmpG (args : List Value) (v : Value) (h : cmpVG args = some v) : CallsV Tryz.prog 141 args [] (Ret0 v) := by
 obtain ⟨x, y, rfl, rfl⟩ := cmpVG_some h; exact wordCmp x y
theorem refCmpG (args : List Value) (v : Value) (h : cmpVG args = some v) : CallsV Tryz.prog 61 args [] (Ret0 v) := by
 obtain ⟨x, y, rfl, rfl⟩ := cmpVG_some h; exact refCmp x y
noncomputable def gW : Gam := (addG 141 cmpVG (addG 61 cmpVG gM))
attribute [push_cast] gW
theorem gW_ok : GamOk Tryz.prog gW := (addG_ok wordCmpG (addG_ok refCmpG gM_ok))
theorem wordOf (n : Int) (hn : -9223372036854775808 ≤ n ∧ n ≤ 9223372036854775807) : CallsV Tryz.prog 78 [.int .i64 n] [] (Ret0 (W.ofInt n).v) := by
 obtain ⟨R, hR⟩ : ∃ R, R = W.ofInt n := ⟨_, rfl⟩
 rw [← hR]
 refine callsO gW_ok Tryz.mix Tryz.pl78 Tryz.func78 rfl Tryz.ntmps78 Tryz.results78 rfl (by first | rfl | assumption) (Nat.le_of_ble_eq_true rfl) (by kernel_rfl) ?_
 simp only [push_cast, seval, reduceCtorEq]
 rw [hR]
 rcases Int.lt_or_le n 0 with h | h
 · have e1 : shrI .i64 n 63 = -1 := by
    unfold shrI
    rw [Int.fdiv_eq_ediv_of_nonneg _ (Int.pow_nonneg (by decide))]
    show n / 9223372036854775808 = -1
    omega
   rw [e1, W.ofInt, if_neg (by omega), IntKind.wrap_u64, IntKind.wrap_u64]
   simp only [W.v, W.cells, Value.agg.injEq]
   congr 2
   simp only [Value.int.injEq, true_and]
   omega
 · have e1 : shrI .i64 n 63 = 0 := by
    unfold shrI
    rw [Int.fdiv_eq_ediv_of_nonneg _ (Int.pow_nonneg (by decide))]
    show n / 9223372036854775808 = 0
    omega
   rw [e1, W.ofInt, if_pos h, IntKind.wrap_u64, IntKind.wrap_u64]
   simp only [W.v, W.cells, Value.agg.injEq]
   congr 2
   simp only [Value.int.injEq, true_and]
   omega
end Go.Proofs.YtpcjmmdgopihcaaGreatDoor
namespace Go.Ev
structure W1 where
 w : W
def W1.cells (x : W1) : List Value := x.w.cells
def W1.num (x : W1) : Nat := x.w.num
structure W8 where
 lo : W
 hi : W
def W8.cells (x : W8) : List Value := x.lo.cells ++ x.hi.cells
def W8.v (x : W8) : Value := .agg x.cells.toArray
def W8.num (x : W8) : Nat := x.lo.num + 115792089237316195423570985008687907853269984665640564039457584007913129639936 * x.hi.num
theorem findE_left {b : Nat} {e : Ent} {B : Hp} : ∀ {A : Hp}, findE A b = some e → findE (A ++ B) b = some e
 | [], h => by simp [findE] at h
 | x :: r, h => by
   simp only [List.cons_append, findE] at h ⊢
   split
   · rename_i hb; rw [if_pos hb] at h; exact h
   · rename_i hb; rw [if_neg hb] at h; exact findE_left h
end Go.Ev
namespace Go.Proofs.YtpcjmmdgopihcaaGreatDoor
open Go Go.Ev Go.Proofs
end Go.Proofs.YtpcjmmdgopihcaaGreatDoor
namespace Go.Ev
theorem OutC.pos {e s n : Nat} {cs : List Value} {v : Value} {N : Hp} (h : OutC e s cs n v N) (hn : 0 < n) : ∃ b c, v = .slice (some ⟨b, 0, none⟩) n c ∧ n ≤ c ∧ cs.length = n * s ∧ N = [⟨b, 0, .vec e s c, cs⟩] := by
 rcases h with ⟨rfl, _, _, _⟩ | ⟨b, c, _, h1, h2, h3, h4⟩
 · exact absurd hn (Nat.lt_irrefl 0)
 · exact ⟨b, c, h1, h2, h3, h4⟩
theorem subH_rot {e : Ent} : ∀ {Hc : Hp}, fresh e.blk Hc → subH (e :: Hc) (Hc ++ [e])
 | [], _ => by
   refine ⟨by simp [findE], ?_⟩
   exact trivial
 | x :: r, h => by
   have h1 : ¬ x.blk = e.blk := h.2.1
   refine ⟨by simp [findE, h1], ?_⟩
   have : remE (e :: x :: r) x.blk = e :: r := by simp [remE, h1]
   rw [this]
   exact subH_rot h.2.2
def zs (l : List Int) : List Value := l.map fun x => .int .i64 x
theorem zs_len (l : List Int) : (zs l).length = l.length := by simp [zs]
theorem zs_app (l m : List Int) : zs (l ++ m) = zs l ++ zs m := by simp [zs]
noncomputable def digN : Nat → Nat → Nat := hid fun n j => n / 256 ^ j % 256
theorem digN_eq (n j : Nat) : digN n j = n / 256 ^ j % 256 := by unfold digN; rw [hid_eq]
theorem digN_lt (n j : Nat) : digN n j < 256 := by rw [digN_eq]; omega
noncomputable def digs (n k : Nat) : List Int := (List.range k).map fun j => ((digN n j : Nat) : Int)
theorem digs_succ (n k : Nat) : digs n (k + 1) = digs n k ++ [((digN n k : Nat) : Int)] := by
 unfold digs; rw [List.range_succ, List.map_append]; rfl
theorem digs_len (n k : Nat) : (digs n k).length = k := by simp [digs]
def W.part (w : W) : Nat → Nat
 | 0 => w.a
 | 1 => w.b
 | 2 => w.c
 | _ => w.d
end Go.Ev
namespace Go.Ev
theorem digN_part {n p r j : Nat} (h : n / 256 ^ j = p + 18446744073709551616 * r) {k : Nat} (hk : k < 8) : digN n (j + k) = p / 256 ^ k % 256 := by
 rw [digN_eq, Nat.pow_add, ← Nat.div_div_eq_div_mul, h]
 obtain rfl | rfl | rfl | rfl | rfl | rfl | rfl | rfl : k = 0 ∨ k = 1 ∨ k = 2 ∨ k = 3 ∨ k = 4 ∨ k = 5 ∨ k = 6 ∨ k = 7 := by omega
 all_goals simp only [Nat.reducePow]; omega
theorem dig_part (w : W) {i k : Nat} (hi : i < 4) (hk : k < 8) : digN w.num (8 * i + k) = w.part i / 256 ^ k % 256 := by
 have := w.ha; have := w.hb; have := w.hc; have := w.hd
 obtain rfl | rfl | rfl | rfl : i = 0 ∨ i = 1 ∨ i = 2 ∨ i = 3 := by omega
 · exact digN_part (r := w.b + 18446744073709551616 * (w.c + 18446744073709551616 * w.d)) (by unfold W.num W.part; simp only [Nat.reducePow, Nat.reduceMul]; omega) hk
 · exact digN_part (r := w.c + 18446744073709551616 * w.d) (by unfold W.num W.part; simp only [Nat.reducePow, Nat.reduceMul]; omega) hk
 · exact digN_part (r := w.d) (by unfold W.num W.part; simp only [Nat.reducePow, Nat.reduceMul]; omega) hk
 · exact digN_part (r := 0) (by unfold W.num W.part; simp only [Nat.reducePow, Nat.reduceMul]; omega) hk
end Go.Ev
namespace Go.Ev
def nC (a : List Nat) : List Value := a.map fun n => .int .i64 (n : Nat)
theorem nC_len (a : List Nat) : (nC a).length = a.length := List.length_map ..
theorem nC_app (a b : List Nat) : nC (a ++ b) = nC a ++ nC b := List.map_append ..
theorem nC_at {a : List Nat} {i : Nat} (h : i < a.length) : List.take 1 (List.drop i (nC a)) = [.int .i64 (ln a i : Nat)] := by
 unfold nC ln
 rw [← List.map_drop, ← List.map_take, List.drop_eq_getElem_cons h, List.take_succ_cons, List.take_zero, List.map_cons, List.map_nil, List.getD_eq_getElem?_getD, List.getElem?_eq_getElem h, Option.getD_some]
theorem nC_set {a : List Nat} {i x : Nat} (h : i < a.length) : List.take i (nC a) ++ .int .i64 (x : Nat) :: List.drop (i + 1) (nC a) = nC (a.set i x) := by
 unfold nC
 rw [List.set_eq_take_append_cons_drop, if_pos h, List.map_append, List.map_cons, List.map_take, List.map_drop]
theorem nC_one (a : List Nat) : (nC a).all oneC = true := by
 rw [List.all_eq_true]
 intro v hv
 obtain ⟨n, -, rfl⟩ := List.mem_map.1 hv
 rfl
theorem tC_len (n : Nat) (g : Nat → Nat) : (nC (tab n g)).length = n := by rw [nC_len, tab_len]
theorem tC_at {n : Nat} (g : Nat → Nat) {p : Nat} (h : p < n) : List.take 1 (List.drop p (nC (tab n g))) = [.int .i64 (g p : Nat)] := by
 rw [nC_at (by rw [tab_len]; exact h), tab_ln h]
theorem tC_set {n : Nat} (g : Nat → Nat) {p : Nat} (x : Nat) (h : p < n) : List.take p (nC (tab n g)) ++ .int .i64 (x : Nat) :: List.drop (p + 1) (nC (tab n g)) = nC (tab n fun q => if q = p then x else g q) := by
 rw [nC_set (by rw [tab_len]; exact h), tab_set]
theorem tC_zero : ∀ n, repV n [.int .i64 0] = nC (tab n fun _ => 0)
 | 0 => rfl
 | n + 1 => by
   rw [repV_succ, tC_zero n]
   unfold nC tab
   rw [List.range_succ_eq_map, List.map_cons, List.map_cons, List.map_map, List.map_map, List.map_map]
   rfl
theorem tC_app (n : Nat) (g : Nat → Nat) : nC (tab n g) ++ [.int .i64 (g n : Nat)] = nC (tab (n + 1) g) := by rw [tab_s, nC_app]; rfl
theorem tC_take (n : Nat) (g : Nat → Nat) : List.take n (nC (tab n g)) = nC (tab n g) := List.take_of_length_le (by rw [tC_len]; exact Nat.le_refl _)
def colN (a : Nat → Nat) (q : Nat) : Nat → Nat
 | 0 => 0
 | k + 1 => colN a q k + a (q + 320 * k)
theorem colN_5 (a : Nat → Nat) (q : Nat) : colN a q 5 % 2 = thCB a q := by
 unfold thCB
 simp [colN]
theorem colN_le {a : Nat → Nat} (ha : ∀ p, a p < 2) (q : Nat) : ∀ k, colN a q k ≤ k
 | 0 => Nat.le_refl _
 | k + 1 => by
   have h1 := colN_le ha q k
   have h2 := ha (q + 320 * k)
   rw [colN]; omega
noncomputable def at4B : Int → Int → Int → Bool := hid fun x y z => decide (-5 ≤ x ∧ x < 1000 ∧ -5 ≤ y ∧ y < 1000 ∧ -64 ≤ z ∧ z < 1000)
theorem at4B_iff {x y z : Int} : at4B x y z = true ↔ (-5 ≤ x ∧ x < 1000 ∧ -5 ≤ y ∧ y < 1000 ∧ -64 ≤ z ∧ z < 1000) := by unfold at4B; rw [hid_eq, decide_eq_true_eq]
noncomputable def at4N : Int → Int → Int → Int := hid fun x y z => 64 * (5 * ((y + 5) % 5) + (x + 5) % 5) + (z + 64) % 64
theorem at4N_eq (x y z : Int) : at4N x y z = 64 * (5 * ((y + 5) % 5) + (x + 5) % 5) + (z + 64) % 64 := by unfold at4N; rw [hid_eq]
theorem at4_int {x y z : Int} {p : Nat} (h : -5 ≤ x ∧ x < 1000 ∧ -5 ≤ y ∧ y < 1000 ∧ -64 ≤ z ∧ z < 1000) (hp : (p : Int) = 64 * (5 * ((y + 5) % 5) + (x + 5) % 5) + (z + 64) % 64) : at4B x y z = true ∧ at4N x y z = (p : Int) := ⟨at4B_iff.2 h, by rw [at4N_eq, hp]⟩
theorem at4_nat {x y z p : Nat} (hx : x < 5) (hy : y < 5) (hz : z < 64) (hp : p = 64 * (5 * y + x) + z) : at4B x y z = true ∧ at4N x y z = (p : Int) := at4_int (by omega) (by omega)
noncomputable def at4G : List Value → Option Value
 | [.int .i64 x, .int .i64 y, .int .i64 z] => if at4B x y z = true then some (.int .i64 (at4N x y z)) else none
 | _ => none
attribute [push_cast] at4G
end Go.Ev
namespace Go.Proofs.YtpcjmmdgopihcaaGreatDoor
open Go Go.Ev Go.Proofs
theorem at4_ok (x y z : Int) (h : at4B x y z = true) : CallsV Tryz.prog 150 [.int .i64 x, .int .i64 y, .int .i64 z] [] (Ret0 (.int .i64 (at4N x y z))) := by
 obtain ⟨h1, h2, h3, h4, h5, h6⟩ := at4B_iff.1 h
 rw [at4N_eq]
 have e1 : (x + 5).tmod 5 = (x + 5) % 5 := Int.tmod_eq_emod_of_nonneg (by omega)
 have e2 : (y + 5).tmod 5 = (y + 5) % 5 := Int.tmod_eq_emod_of_nonneg (by omega)
 have e3 : (z + 64).tmod 64 = (z + 64) % 64 := Int.tmod_eq_emod_of_nonneg (by omega)
 refine callsO (noG_ok _) Tryz.mix Tryz.pl150 Tryz.func150 rfl Tryz.ntmps150 Tryz.results150 rfl (by first | rfl | assumption) (Nat.le_of_ble_eq_true rfl) (by kernel_rfl) ?_
 simp only [push_cast, seval, reduceCtorEq, wrap_i64' (show -9223372036854775808 ≤ x + 5 ∧ x + 5 ≤ 9223372036854775807 by omega), wrap_i64' (show -9223372036854775808 ≤ y + 5 ∧ y + 5 ≤ 9223372036854775807 by omega), wrap_i64' (show -9223372036854775808 ≤ z + 64 ∧ z + 64 ≤ 9223372036854775807 by omega), e1, e2, e3, wrap_i64' (show -9223372036854775808 ≤ 5 * ((y + 5) % 5) ∧ 5 * ((y + 5) % 5) ≤ 9223372036854775807 by omega), wrap_i64' (show -9223372036854775808 ≤ 5 * ((y + 5) % 5) + (x + 5) % 5 ∧ 5 * ((y + 5) % 5) + (x + 5) % 5 ≤ 9223372036854775807 by omega), wrap_i64' (show -9223372036854775808 ≤ 64 * (5 * ((y + 5) % 5) + (x + 5) % 5) ∧ 64 * (5 * ((y + 5) % 5) + (x + 5) % 5) ≤ 9223372036854775807 by omega), wrap_i64' (show -9223372036854775808 ≤ 64 * (5 * ((y + 5) % 5) + (x + 5) % 5) + (z + 64) % 64 ∧ 64 * (5 * ((y + 5) % 5) + (x + 5) % 5) + (z + 64) % 64 ≤ 9223372036854775807 by omega)]
theorem at4G_ok (args : List Value) (v : Value) (h : at4G args = some v) : CallsV Tryz.prog 150 args [] (Ret0 v) := by
 unfold at4G at h
 split at h
 · split at h
   · rename_i x y z hh; cases h; exact at4_ok x y z hh
   · cases h
 · cases h
noncomputable def gM0 : Gam := (addG 150 at4G gI0)
attribute [push_cast] gM0
theorem gM0_ok : GamOk Tryz.prog gM0 := (addG_ok at4G_ok gI0_ok)
end Go.Proofs.YtpcjmmdgopihcaaGreatDoor
namespace Go.Ev
theorem OutC.tab0 (e : Nat) (g : Nat → Nat) : OutC e 1 (nC (tab 0 g)) 0 (.slice none 0 0) [] := .nil _ _
theorem thB_at (a : Nat → Nat) {x y z p : Nat} (hx : x < 5) (hz : z < 64) (hp : p = 64 * (5 * y + x) + z) : thB a p = (a p + (thCB a (64 * ((x + 4) % 5) + z) + thCB a (64 * ((x + 1) % 5) + (z + 63) % 64))) % 2 := by
 unfold thB
 rw [show p / 64 % 5 = x by omega, show p % 64 = z by omega]
theorem scan_xzy {g f : Nat → Nat} {x y z p r : Nat} (hx : x < 5) (hz : z < 64) (hy : y < 5) (hp : p = 64 * (5 * y + x) + z) (hr : r = f p)
  (h : ∀ q < 1600, (q / 64 % 5 < x ∨ (q / 64 % 5 = x ∧ (q % 64 < z ∨ (q % 64 = z ∧ q / 320 < y)))) → g q = f q) :
  ∀ q < 1600, (q / 64 % 5 < x ∨ (q / 64 % 5 = x ∧ (q % 64 < z ∨ (q % 64 = z ∧ q / 320 < y + 1)))) → (if q = p then r else g q) = f q := fun q hq hl => by
 by_cases hqp : q = p
 · rw [if_pos hqp, hqp, hr]
 · rw [if_neg hqp]
   exact h q hq (by omega)
end Go.Ev
namespace Go.Proofs.YtpcjmmdgopihcaaGreatDoor
open Go Go.Ev Go.Proofs
theorem dtheta_ok {a : Nat → Nat} (ha : ∀ p, a p < 2) (b c : Nat) : CallsV Tryz.prog 140 [.slice (some ⟨b, 0, none⟩) 1600 c] [⟨b, 0, .ro, nC (tab 1600 a)⟩] (OutC 3 1 (nC (tab 1600 (thB a))) 1600) := by
 obtain ⟨E, hE⟩ : ∃ e : Ent, e = ⟨b, 0, .ro, nC (tab 1600 a)⟩ := ⟨_, rfl⟩
 have fb0 : findE [E] b = some E := by rw [hE]; simp [findE]
 have Ek : E.kind = .ro := by rw [hE]
 have Eo : E.off = 0 := by rw [hE]
 have Em : marksOf [E] = [] := by rw [hE]; rfl
 have El : E.cells.length = 1600 := by rw [hE]; exact tC_len _ _
 have Ea : ∀ {p : Nat}, p < 1600 → List.take 1 (List.drop p E.cells) = [.int .i64 (a p : Nat)] := fun h => by rw [hE]; exact tC_at a h
 rw [← hE]
 refine callsO gM0_ok Tryz.mix Tryz.pl140 Tryz.func140 rfl Tryz.ntmps140 Tryz.results140 rfl (by first | rfl | assumption) (Nat.le_of_ble_eq_true rfl) (by kernel_rfl) ?_
 simp only [push_cast, seval, reduceCtorEq]
 refine loopO gM0_ok (pl := Tryz.pl140) Tryz.mix (X := Nat × Value × Hp)
  (fun s => ([(0, .slice (some ⟨b, 0, none⟩) 1600 c), (3, s.2.1), (4, .int .i64 s.1)], s.2.2 ++ [E]))
  (fun s => s.1 ≤ 5 ∧ OutC 3 1 (nC (tab (64 * s.1) (thCB a))) (64 * s.1) s.2.1 s.2.2 ∧ freshN s.2.2 [E]) (fun s => 5 - s.1) (0, .slice none 0 0, []) ?_ ?_ (by kernel_rfl) ?_
 · exact ⟨by decide, .tab0 _ _, trivial⟩
 · simp only [push_cast, seval, reduceCtorEq]
   try exact subH_self _
 · rintro ⟨x, vo, No⟩ ⟨hx, ho, hf⟩
   dsimp only at hx ho hf ⊢
   have fb : findE (No ++ [E]) b = some E := by rw [findE_freshN hf fb0]; exact fb0
   by_cases hc : x < 5
   · have x1 : (x : Int) < 5 := by omega
     simp only [push_cast, seval, reduceCtorEq, x1]
     refine loopO gM0_ok (pl := Tryz.pl140) Tryz.mix (X := Nat × Value × Hp)
      (fun s => ([(0, .slice (some ⟨b, 0, none⟩) 1600 c), (3, s.2.1), (4, .int .i64 x), (5, .int .i64 s.1)], s.2.2 ++ [E]))
      (fun s => s.1 ≤ 64 ∧ OutC 3 1 (nC (tab (64 * x + s.1) (thCB a))) (64 * x + s.1) s.2.1 s.2.2 ∧ freshN s.2.2 [E]) (fun s => 64 - s.1) (0, vo, No) ?_ ?_ (by kernel_rfl) ?_
     · exact ⟨Nat.zero_le _, ho, hf⟩
     · simp only [push_cast, seval, reduceCtorEq]
       try exact subH_self _
     · rintro ⟨z, vi, Ni⟩ ⟨hz, hi, hfi⟩
       dsimp only at hz hi hfi ⊢
       have fi : findE (Ni ++ [E]) b = some E := by rw [findE_freshN hfi fb0]; exact fb0
       by_cases hc2 : z < 64
       · have z1 : (z : Int) < 64 := by omega
         obtain ⟨q, hq⟩ : ∃ q, q = 64 * x + z := ⟨_, rfl⟩
         simp only [push_cast, seval, reduceCtorEq, x1, z1]
         refine loopO gM0_ok (pl := Tryz.pl140) Tryz.mix (X := Nat)
          (fun y => ([(0, .slice (some ⟨b, 0, none⟩) 1600 c), (3, vi), (4, .int .i64 x), (5, .int .i64 z), (6, .int .i64 (colN a q y : Nat)), (7, .int .i64 y)], Ni ++ [E]))
          (fun y => y ≤ 5) (fun y => 5 - y) 0 ?_ ?_ (by kernel_rfl) ?_
         · exact Nat.zero_le _
         · simp only [push_cast, seval, reduceCtorEq, colN]
           try exact subH_self _
         · intro y hy
           have hn := colN_le ha q y
           by_cases hc3 : y < 5
           · have y1 : (y : Int) < 5 := by omega
             have hs : colN a q (y + 1) = colN a q y + a (q + 320 * y) := rfl
             obtain ⟨p, hp⟩ : ∃ p, p = q + 320 * y := ⟨_, rfl⟩
             rw [← hp] at hs
             obtain ⟨e1, e2⟩ := at4_nat (x := x) (y := y) (z := z) (p := p) hc hc3 hc2 (by omega)
             have p0 : (0 : Int) ≤ p := by omega
             have p1 : (p : Int) < 1600 := by omega
             have p2 : p + 1 ≤ 1600 := by omega
             have a1 := Ea (p := p) (by omega)
             have h2 := ha p
             obtain ⟨n, hn0⟩ : ∃ n, n = colN a q y := ⟨_, rfl⟩
             obtain ⟨m, hm0⟩ : ∃ m, m = a p := ⟨_, rfl⟩
             rw [← hn0, ← hm0] at hs
             rw [← hn0] at hn ⊢
             rw [← hm0] at a1 h2
             simp only [push_cast, seval, reduceCtorEq, x1, y1, z1, e1, e2, p0, p1, p2, fi, Ek, Eo, El, a1, wrap_i64' (show -9223372036854775808 ≤ (n : Int) + (m : Int) ∧ (n : Int) + (m : Int) ≤ 9223372036854775807 by omega), wrap_i64' (show -9223372036854775808 ≤ (y : Int) + 1 ∧ (y : Int) + 1 ≤ 9223372036854775807 by omega)]
             exact ⟨y + 1, hc3, by omega, by rw [hs]; exact ⟨rfl, rfl⟩⟩
           · obtain rfl : y = 5 := by omega
             have h5 := colN_5 a q
             obtain ⟨n, hn0⟩ : ∃ n, n = colN a q 5 := ⟨_, rfl⟩
             rw [← hn0] at hn h5 ⊢
             have t1 : (n : Int).tmod 2 = (thCB a q : Nat) := by rw [← h5]; rfl
             have hl := thCB_lt a q
             obtain ⟨r, hr⟩ : ∃ r, r = thCB a q := ⟨_, rfl⟩
             rw [← hr] at t1 hl
             simp only [push_cast, seval, reduceCtorEq, x1, z1, t1, wrap_i64' (show -9223372036854775808 ≤ (r : Int) ∧ (r : Int) ≤ 9223372036854775807 by omega)]
             intro b10 hb10
             rw [← hq] at hi
             refine append_out1 (e := 3) (sz := 1) (by_ := 8) (n := q) (m := 1) (ys := [.int .i64 (r : Nat)]) hi hb10 (by simp only [push_cast, seval, reduceCtorEq]) (by simp only [push_cast, seval, reduceCtorEq]) rfl rfl (by unfold two47; omega) fun v' N' ho' hf' => ?_
             simp only [push_cast, seval, reduceCtorEq, wrap_i64' (show -9223372036854775808 ≤ (z : Int) + 1 ∧ (z : Int) + 1 ≤ 9223372036854775807 by omega)]
             refine ⟨(z + 1, v', N'), ⟨hc2, ?_, freshN_cons hf'⟩, by dsimp only; omega, ⟨rfl, rfl⟩, subH_pre (subH_cons (fresh_app hb10)) _, ?_⟩
             · dsimp only
               rw [hr, tC_app, hq] at ho'
               rw [show 64 * x + (z + 1) = 64 * x + z + 1 by omega]
               exact ho'
             · simp only [marks_append, marksOf, hi.wr.2, ho'.wr.2]
       · obtain rfl : z = 64 := by omega
         simp only [push_cast, seval, reduceCtorEq, x1, wrap_i64' (show -9223372036854775808 ≤ (x : Int) + 1 ∧ (x : Int) + 1 ≤ 9223372036854775807 by omega)]
         refine ⟨(x + 1, vi, Ni), ⟨hc, ?_, hfi⟩, by dsimp only; omega, ⟨rfl, rfl⟩, subH_self _, rfl⟩
         · dsimp only
           rw [show 64 * (x + 1) = 64 * x + 64 by omega]
           exact hi
   · obtain rfl : x = 5 := by omega
     obtain ⟨bc, cc, rfl, hcc, -, rfl⟩ := ho.pos (by decide)
     clear ho
     obtain ⟨C, hC⟩ : ∃ e : Ent, e = ⟨bc, 0, .vec 3 1 cc, nC (tab 320 (thCB a))⟩ := ⟨_, rfl⟩
     have hC' : (⟨bc, 0, .vec 3 1 cc, nC (tab (64 * 5) (thCB a))⟩ : Ent) = C := hC.symm
     rw [hC'] at hf fb ⊢
     have Ck : C.kind = .vec 3 1 cc := by rw [hC]
     have Co : C.off = 0 := by rw [hC]
     have Cl : C.cells.length = 320 := by rw [hC]; exact tC_len _ _
     have Ca : ∀ {p : Nat}, p < 320 → List.take 1 (List.drop p C.cells) = [.int .i64 (thCB a p : Nat)] := fun h => by rw [hC]; exact tC_at _ h
     have fC0 : findE (C :: [E]) bc = some C := by rw [hC]; simp [findE]
     have fE0 : findE (C :: [E]) b = some E := fb
     have mCE : marksOf (C :: [E]) = [] := by rw [hC, hE]; rfl
     obtain ⟨W, hW⟩ : ∃ W, W = C :: [E] := ⟨_, rfl⟩
     have hW' : [C] ++ [E] = W := hW.symm
     rw [← hW] at fC0 fE0 mCE
     rw [hW']
     simp only [push_cast, seval, reduceCtorEq]
     refine ⟨by unfold two47; decide, fun bq hbq => ?_⟩
     have d1 := (fresh_findS hbq fC0).2
     have d2 := (fresh_findS hbq fE0).2
     have tl : ∀ g : Nat → Nat, (nC (tab 1600 g)).length = 1600 := fun g => tC_len 1600 g
     simp only [push_cast, seval, reduceCtorEq, tC_zero]
     refine loopO gM0_ok (pl := Tryz.pl140) Tryz.mix (X := Nat × (Nat → Nat))
      (fun s => ([(0, .slice (some ⟨b, 0, none⟩) 1600 c), (3, .slice (some ⟨bc, 0, none⟩) (64 * 5) cc), (8, .slice (some ⟨bq, 0, none⟩) 1600 1600), (9, .int .i64 s.1)], ⟨bq, 0, .vec 3 1 1600, nC (tab 1600 s.2)⟩ :: W))
      (fun s => s.1 ≤ 5 ∧ ∀ q < 1600, q / 64 % 5 < s.1 → s.2 q = thB a q) (fun s => 5 - s.1) (0, fun _ => 0) ?_ ?_ (by kernel_rfl) ?_
     · exact ⟨by decide, fun q _ h => absurd h (Nat.not_lt_zero _)⟩
     · simp only [push_cast, seval, reduceCtorEq]
       try exact subH_self _
     · rintro ⟨x, g⟩ ⟨hx, hg⟩
       dsimp only at hx hg ⊢
       by_cases hc : x < 5
       · have x1 : (x : Int) < 5 := by omega
         simp only [push_cast, seval, reduceCtorEq, x1]
         refine loopO gM0_ok (pl := Tryz.pl140) Tryz.mix (X := Nat × (Nat → Nat))
          (fun s => ([(0, .slice (some ⟨b, 0, none⟩) 1600 c), (3, .slice (some ⟨bc, 0, none⟩) (64 * 5) cc), (8, .slice (some ⟨bq, 0, none⟩) 1600 1600), (9, .int .i64 x), (10, .int .i64 s.1)], ⟨bq, 0, .vec 3 1 1600, nC (tab 1600 s.2)⟩ :: W))
          (fun s => s.1 ≤ 64 ∧ ∀ q < 1600, (q / 64 % 5 < x ∨ (q / 64 % 5 = x ∧ q % 64 < s.1)) → s.2 q = thB a q) (fun s => 64 - s.1) (0, g) ?_ ?_ (by kernel_rfl) ?_
         · exact ⟨Nat.zero_le _, fun q hq h => hg q hq (by omega)⟩
         · simp only [push_cast, seval, reduceCtorEq]
           try exact subH_self _
         · rintro ⟨z, g⟩ ⟨hz, hg⟩
           dsimp only at hz hg ⊢
           by_cases hc2 : z < 64
           · have z1 : (z : Int) < 64 := by omega
             obtain ⟨u, hu⟩ : ∃ u, u = 64 * ((x + 4) % 5) + z := ⟨_, rfl⟩
             obtain ⟨v, hv⟩ : ∃ v, v = 64 * ((x + 1) % 5) + (z + 63) % 64 := ⟨_, rfl⟩
             have eu1 : ((x : Int) + 4).tmod 5 = ((x : Int) + 4) % 5 := Int.tmod_eq_emod_of_nonneg (by omega)
             have ev1 : ((x : Int) + 1).tmod 5 = ((x : Int) + 1) % 5 := Int.tmod_eq_emod_of_nonneg (by omega)
             have ev2 : ((z : Int) + 63).tmod 64 = ((z : Int) + 63) % 64 := Int.tmod_eq_emod_of_nonneg (by omega)
             have eu : IntKind.i64.wrap (64 * (((x : Int) + 4) % 5) + (z : Int)) = (u : Int) := by
              rw [show 64 * (((x : Int) + 4) % 5) + (z : Int) = (u : Int) by omega]; exact IntWalk.i64_in _ (by omega)
             have ev : IntKind.i64.wrap (64 * (((x : Int) + 1) % 5) + ((z : Int) + 63) % 64) = (v : Int) := by
              rw [show 64 * (((x : Int) + 1) % 5) + ((z : Int) + 63) % 64 = (v : Int) by omega]; exact IntWalk.i64_in _ (by omega)
             have u1 : (u : Int) < 320 := by omega
             have u2 : u + 1 ≤ 320 := by omega
             have v1 : (v : Int) < 320 := by omega
             have v2 : v + 1 ≤ 320 := by omega
             have a1 := Ca (p := u) (by omega)
             have a2 := Ca (p := v) (by omega)
             have hth : ∀ {y p : Nat}, p = 64 * (5 * y + x) + z → thB a p = (a p + (thCB a u + thCB a v)) % 2 := fun h => by rw [thB_at a hc hc2 h, hu, hv]
             have l1 := thCB_lt a u
             have l2 := thCB_lt a v
             obtain ⟨m, hm⟩ : ∃ m, m = thCB a u := ⟨_, rfl⟩
             obtain ⟨n, hn⟩ : ∃ n, n = thCB a v := ⟨_, rfl⟩
             rw [← hm] at a1 l1 hth
             rw [← hn] at a2 l2 hth
             obtain ⟨d, hd⟩ : ∃ d, d = m + n := ⟨_, rfl⟩
             rw [← hd] at hth
             have wd : IntKind.i64.wrap ((m : Int) + (n : Int)) = (d : Int) := by
              rw [show (m : Int) + (n : Int) = (d : Int) by omega]; exact IntWalk.i64_in _ (by omega)
             simp only [push_cast, seval, reduceCtorEq, x1, z1, wrap_i64' (show -9223372036854775808 ≤ (x : Int) + 4 ∧ (x : Int) + 4 ≤ 9223372036854775807 by omega), wrap_i64' (show -9223372036854775808 ≤ (x : Int) + 1 ∧ (x : Int) + 1 ≤ 9223372036854775807 by omega), wrap_i64' (show -9223372036854775808 ≤ (z : Int) + 63 ∧ (z : Int) + 63 ≤ 9223372036854775807 by omega), eu1, ev1, ev2, wrap_i64' (show -9223372036854775808 ≤ ((x : Int) + 4) % 5 ∧ ((x : Int) + 4) % 5 ≤ 9223372036854775807 by omega), wrap_i64' (show -9223372036854775808 ≤ ((x : Int) + 1) % 5 ∧ ((x : Int) + 1) % 5 ≤ 9223372036854775807 by omega), wrap_i64' (show -9223372036854775808 ≤ ((z : Int) + 63) % 64 ∧ ((z : Int) + 63) % 64 ≤ 9223372036854775807 by omega), wrap_i64' (show -9223372036854775808 ≤ 64 * (((x : Int) + 4) % 5) ∧ 64 * (((x : Int) + 4) % 5) ≤ 9223372036854775807 by omega), wrap_i64' (show -9223372036854775808 ≤ 64 * (((x : Int) + 1) % 5) ∧ 64 * (((x : Int) + 1) % 5) ≤ 9223372036854775807 by omega), eu, ev, u1, u2, v1, v2, a1, a2, d1, d2, fC0, fE0, Ck, Co, Cl, wd]
             refine loopO gM0_ok (pl := Tryz.pl140) Tryz.mix (X := Nat × (Nat → Nat))
              (fun s => ([(0, .slice (some ⟨b, 0, none⟩) 1600 c), (3, .slice (some ⟨bc, 0, none⟩) (64 * 5) cc), (8, .slice (some ⟨bq, 0, none⟩) 1600 1600), (9, .int .i64 x), (10, .int .i64 z), (11, .int .i64 d), (12, .int .i64 s.1)], ⟨bq, 0, .vec 3 1 1600, nC (tab 1600 s.2)⟩ :: W))
              (fun s => s.1 ≤ 5 ∧ ∀ q < 1600, (q / 64 % 5 < x ∨ (q / 64 % 5 = x ∧ (q % 64 < z ∨ (q % 64 = z ∧ q / 320 < s.1)))) → s.2 q = thB a q) (fun s => 5 - s.1) (0, g) ?_ ?_ (by kernel_rfl) ?_
             · exact ⟨Nat.zero_le _, fun q hq h => hg q hq (by omega)⟩
             · simp only [push_cast, seval, reduceCtorEq]
               try exact subH_self _
             · rintro ⟨y, g⟩ ⟨hy, hg⟩
               dsimp only at hy hg ⊢
               by_cases hc3 : y < 5
               · have y1 : (y : Int) < 5 := by omega
                 obtain ⟨p, hp⟩ : ∃ p, p = 64 * (5 * y + x) + z := ⟨_, rfl⟩
                 obtain ⟨e1, e2⟩ := at4_nat (x := x) (y := y) (z := z) (p := p) hc hc3 hc2 hp
                 have p1 : (p : Int) < 1600 := by omega
                 have p2 : p + 1 ≤ 1600 := by omega
                 have a3 := Ea (p := p) (by omega)
                 have h2 := ha p
                 have hr := hth hp
                 obtain ⟨w, hw⟩ : ∃ w, w = a p := ⟨_, rfl⟩
                 rw [← hw] at a3 h2 hr
                 have t1 : ((w : Int) + (d : Int)).tmod 2 = (thB a p : Nat) := by rw [hr]; rfl
                 have hlt : thB a p < 2 := by rw [hr]; exact Nat.mod_lt _ (by decide)
                 have hsc := fun (r : Nat) (h : r = thB a p) => scan_xzy hc hc2 hc3 hp h hg
                 obtain ⟨r, hr0⟩ : ∃ r, r = thB a p := ⟨_, rfl⟩
                 rw [← hr0] at t1 hlt
                 have a4 := tC_set (n := 1600) g (p := p) r (by omega)
                 simp only [push_cast, seval, reduceCtorEq, x1, y1, z1, e1, e2, p1, p2, d1, d2, fC0, fE0, Ek, Eo, El, a3, wrap_i64' (show -9223372036854775808 ≤ (w : Int) + (d : Int) ∧ (w : Int) + (d : Int) ≤ 9223372036854775807 by omega), t1, wrap_i64' (show -9223372036854775808 ≤ (r : Int) ∧ (r : Int) ≤ 9223372036854775807 by omega), tl, a4, wrap_i64' (show -9223372036854775808 ≤ (y : Int) + 1 ∧ (y : Int) + 1 ≤ 9223372036854775807 by omega)]
                 exact ⟨(y + 1, _), ⟨hc3, hsc r hr0⟩, by dsimp only; omega, rfl, rfl⟩
               · obtain rfl : y = 5 := by omega
                 simp only [push_cast, seval, reduceCtorEq, x1, z1, wrap_i64' (show -9223372036854775808 ≤ (z : Int) + 1 ∧ (z : Int) + 1 ≤ 9223372036854775807 by omega)]
                 exact ⟨(z + 1, g), ⟨hc2, fun q hq h => hg q hq (by omega)⟩, by dsimp only; omega, rfl, rfl⟩
           · obtain rfl : z = 64 := by omega
             simp only [push_cast, seval, reduceCtorEq, x1, wrap_i64' (show -9223372036854775808 ≤ (x : Int) + 1 ∧ (x : Int) + 1 ≤ 9223372036854775807 by omega)]
             exact ⟨(x + 1, g), ⟨hc, fun q hq h => hg q hq (by omega)⟩, by dsimp only; omega, rfl, rfl⟩
       · obtain rfl : x = 5 := by omega
         have hfin : tab 1600 g = tab 1600 (thB a) := tab_congr fun q hq => hg q hq (by omega)
         simp only [push_cast, seval, reduceCtorEq]
         rw [hfin]
         refine ⟨[⟨bq, 0, .vec 3 1 1600, nC (tab 1600 (thB a))⟩], ?_, .inr ⟨bq, 1600, by decide, rfl, Nat.le_refl _, by rw [tC_len], rfl⟩⟩
         exact List.Sublist.cons_cons _ (List.nil_sublist _)
end Go.Proofs.YtpcjmmdgopihcaaGreatDoor
namespace Go.Ev
theorem scan_xyz {g f : Nat → Nat} {x y z p r : Nat} (hx : x < 5) (hy : y < 5) (hz : z < 64) (hp : p = 64 * (5 * y + x) + z) (hr : r = f p)
  (h : ∀ q < 1600, (q / 64 % 5 < x ∨ (q / 64 % 5 = x ∧ (q / 320 < y ∨ (q / 320 = y ∧ q % 64 < z)))) → g q = f q) :
  ∀ q < 1600, (q / 64 % 5 < x ∨ (q / 64 % 5 = x ∧ (q / 320 < y ∨ (q / 320 = y ∧ q % 64 < z + 1)))) → (if q = p then r else g q) = f q := fun q hq hl => by
 by_cases hqp : q = p
 · rw [if_pos hqp, hqp, hr]
 · rw [if_neg hqp]
   exact h q hq (by omega)
theorem piB_at (a : Nat → Nat) {x y z p : Nat} (hx : x < 5) (hz : z < 64) (hp : p = 64 * (5 * y + x) + z) : piB a p = a (64 * (5 * x + (x + 3 * y) % 5) + z) := by
 unfold piB
 rw [show p / 64 % 5 = x by omega, show p % 64 = z by omega, show p / 320 = y by omega]
theorem chB_at (a : Nat → Nat) {x y z p : Nat} (hx : x < 5) (hz : z < 64) (hp : p = 64 * (5 * y + x) + z) : chB a p = (a p + (a (64 * (5 * y + (x + 1) % 5) + z) + 1) % 2 * a (64 * (5 * y + (x + 2) % 5) + z)) % 2 := by
 unfold chB
 rw [show p % 64 = z by omega, show p / 320 = y by omega, show (p / 64 + 1) % 5 = (x + 1) % 5 by omega, show (p / 64 + 2) % 5 = (x + 2) % 5 by omega]
def rhS (a : Nat → Nat) (t p : Nat) : Nat := a (64 * (p / 64) + (p % 64 + (64 - (rhT t).getD (p / 64) 0)) % 64)
theorem rhT_len : ∀ t, (rhT t).length = 25
 | 0 => rfl
 | t + 1 => by
   show ((rhT t).set _ _).length = 25
   rw [List.length_set]; exact rhT_len t
theorem rhS_0 (a : Nat → Nat) {p : Nat} (h : p < 1600) : rhS a 0 p = a p := by
 unfold rhS
 have : (rhT 0).getD (p / 64) 0 = 0 := by
  show (List.replicate 25 0).getD (p / 64) 0 = 0
  rw [List.getD_eq_getElem?_getD, List.getElem?_replicate]
  split <;> rfl
 rw [this, show 64 * (p / 64) + (p % 64 + (64 - 0)) % 64 = p by omega]
theorem rhS_s (a : Nat → Nat) {t p L r : Nat} (hL : L = 5 * (xyT t).2 + (xyT t).1) (hr : r = (t + 1) * (t + 2) / 2 % 64) (hL25 : L < 25) : rhS a (t + 1) p = if p / 64 = L then a (64 * L + (p % 64 + (64 - r)) % 64) else rhS a t p := by
 unfold rhS
 have h : rhT (t + 1) = (rhT t).set L r := by rw [hL, hr]; rfl
 rw [h, List.getD_eq_getElem?_getD, List.getElem?_set]
 by_cases hp : p / 64 = L
 · rw [if_pos hp.symm, if_pos hp, if_pos (by rw [rhT_len]; exact hL25), hp]; rfl
 · rw [if_neg (fun h => hp h.symm), if_neg hp, ← List.getD_eq_getElem?_getD]
end Go.Ev
namespace Go.Proofs.YtpcjmmdgopihcaaGreatDoor
open Go Go.Ev Go.Proofs
theorem drho_ok (a : Nat → Nat) (b c : Nat) : CallsV Tryz.prog 139 [.slice (some ⟨b, 0, none⟩) 1600 c] [⟨b, 0, .ro, nC (tab 1600 a)⟩] (OutC 3 1 (nC (tab 1600 (rhB a))) 1600) := by
 obtain ⟨E, hE⟩ : ∃ e : Ent, e = ⟨b, 0, .ro, nC (tab 1600 a)⟩ := ⟨_, rfl⟩
 have fb0 : findE [E] b = some E := by rw [hE]; simp [findE]
 have Ek : E.kind = .ro := by rw [hE]
 have Eo : E.off = 0 := by rw [hE]
 have El : E.cells.length = 1600 := by rw [hE]; exact tC_len _ _
 have Et : List.take 1600 E.cells = nC (tab 1600 (rhS a 0)) := by
  rw [hE]
  show List.take 1600 (nC (tab 1600 a)) = _
  rw [tC_take, tab_congr fun p hp => (rhS_0 a hp).symm]
 have Ea : ∀ {p : Nat}, p < 1600 → List.take 1 (List.drop p E.cells) = [.int .i64 (a p : Nat)] := fun h => by rw [hE]; exact tC_at a h
 have Em : marksOf [E] = [] := by rw [hE]; rfl
 rw [← hE]
 obtain ⟨W, hW⟩ : ∃ W, W = [E] := ⟨_, rfl⟩
 rw [← hW] at fb0 Em ⊢
 have tl : ∀ g : Nat → Nat, (nC (tab 1600 g)).length = 1600 := fun g => tC_len 1600 g
 have t1 : ∀ g : Nat → Nat, (nC (tab 1600 g)).all oneC = true := fun g => nC_one _
 refine callsO gM0_ok Tryz.mix Tryz.pl139 Tryz.func139 rfl Tryz.ntmps139 Tryz.results139 rfl (by first | rfl | assumption) (Nat.le_of_ble_eq_true rfl) (by kernel_rfl) ?_
 simp only [push_cast, seval, reduceCtorEq, fb0, Eo, El, Et, t1]
 refine ⟨by unfold two47; decide, fun bq cq hbq hcq => ?_⟩
 have d2 := (fresh_findS hbq fb0).2
 have c1 : ((1600 : Nat) : Int) ≤ cq := by omega
 try simp only [push_cast, seval, reduceCtorEq]
 refine loopO gM0_ok (pl := Tryz.pl139) Tryz.mix (X := Nat × (Nat → Nat))
  (fun s => ([(0, .slice (some ⟨b, 0, none⟩) 1600 c), (3, .slice (some ⟨bq, 0, none⟩) 1600 cq), (4, .int .i64 (xyT s.1).1), (5, .int .i64 (xyT s.1).2), (6, .int .i64 s.1)], ⟨bq, 0, .vec 3 1 cq, nC (tab 1600 s.2)⟩ :: W))
  (fun s => s.1 ≤ 24 ∧ ∀ q < 1600, s.2 q = rhS a s.1 q) (fun s => 24 - s.1) (0, rhS a 0) ?_ ?_ (by kernel_rfl) ?_
 · exact ⟨Nat.zero_le _, fun q _ => rfl⟩
 · simp only [push_cast, seval, reduceCtorEq]
   exact ⟨rfl, rfl⟩
 · rintro ⟨t, g⟩ ⟨ht, hg⟩
   dsimp only at ht hg ⊢
   by_cases hc : t < 24
   · have t0 : (t : Int) < 24 := by omega
     obtain ⟨hx, hy⟩ := xyT_lt t
     have hxy : xyT (t + 1) = ((xyT t).2, (2 * (xyT t).1 + 3 * (xyT t).2) % 5) := rfl
     obtain ⟨L, hL⟩ : ∃ L, L = 5 * (xyT t).2 + (xyT t).1 := ⟨_, rfl⟩
     have hrs := fun (p r : Nat) (h : r = (t + 1) * (t + 2) / 2 % 64) => rhS_s a (p := p) hL h (by omega)
     obtain ⟨x, hx0⟩ : ∃ x, x = (xyT t).1 := ⟨_, rfl⟩
     obtain ⟨y, hy0⟩ : ∃ y, y = (xyT t).2 := ⟨_, rfl⟩
     rw [← hx0] at hx hxy hL ⊢
     rw [← hy0] at hy hxy hL ⊢
     obtain ⟨P, hP⟩ : ∃ P, P = (t + 1) * (t + 2) := ⟨_, rfl⟩
     have hPl : P ≤ 25 * 26 := by rw [hP]; exact Nat.mul_le_mul (by omega) (by omega)
     have eP : IntKind.i64.wrap (((t : Int) + 1) * ((t : Int) + 2)) = (P : Int) := by
      rw [show ((t : Int) + 1) * ((t : Int) + 2) = (P : Int) by rw [hP, Int.natCast_mul]; rfl]; exact IntWalk.i64_in _ (by omega)
     rw [← hP] at hrs
     obtain ⟨r, hr⟩ : ∃ r, r = P / 2 % 64 := ⟨_, rfl⟩
     have er1 : (P : Int).tdiv 2 = (P : Int) / 2 := Int.tdiv_eq_ediv_of_nonneg (by omega)
     have er2 : ((P : Int) / 2).tmod 64 = (r : Int) := by rw [Int.tmod_eq_emod_of_nonneg (by omega)]; omega
     replace hrs := fun p => hrs p r hr
     obtain ⟨n, hn⟩ : ∃ n, n = (2 * x + 3 * y) % 5 := ⟨_, rfl⟩
     have en : (2 * (x : Int) + 3 * (y : Int)).tmod 5 = (n : Int) := by rw [Int.tmod_eq_emod_of_nonneg (by omega)]; omega
     rw [← hn] at hxy
     simp only [push_cast, seval, reduceCtorEq, t0, wrap_i64' (show -9223372036854775808 ≤ (t : Int) + 1 ∧ (t : Int) + 1 ≤ 9223372036854775807 by omega), wrap_i64' (show -9223372036854775808 ≤ (t : Int) + 2 ∧ (t : Int) + 2 ≤ 9223372036854775807 by omega), eP, er1, wrap_i64' (show -9223372036854775808 ≤ (P : Int) / 2 ∧ (P : Int) / 2 ≤ 9223372036854775807 by omega), er2, wrap_i64' (show -9223372036854775808 ≤ (r : Int) ∧ (r : Int) ≤ 9223372036854775807 by omega)]
     refine loopO gM0_ok (pl := Tryz.pl139) Tryz.mix (X := Nat × (Nat → Nat))
      (fun s => ([(0, .slice (some ⟨b, 0, none⟩) 1600 c), (3, .slice (some ⟨bq, 0, none⟩) 1600 cq), (4, .int .i64 x), (5, .int .i64 y), (6, .int .i64 t), (7, .int .i64 r), (8, .int .i64 s.1)], ⟨bq, 0, .vec 3 1 cq, nC (tab 1600 s.2)⟩ :: W))
      (fun s => s.1 ≤ 64 ∧ ∀ q < 1600, s.2 q = if q / 64 = L ∧ q % 64 < s.1 then a (64 * L + (q % 64 + (64 - r)) % 64) else rhS a t q) (fun s => 64 - s.1) (0, g) ?_ ?_ (by kernel_rfl) ?_
     · exact ⟨Nat.zero_le _, fun q hq => by rw [if_neg (by omega)]; exact hg q hq⟩
     · simp only [push_cast, seval, reduceCtorEq]
       try exact subH_self _
     · rintro ⟨z, g⟩ ⟨hz, hg⟩
       dsimp only at hz hg ⊢
       by_cases hc2 : z < 64
       · have z1 : (z : Int) < 64 := by omega
         obtain ⟨p, hp⟩ : ∃ p, p = 64 * (5 * y + x) + z := ⟨_, rfl⟩
         obtain ⟨e1, e2⟩ := at4_nat (x := x) (y := y) (z := z) (p := p) hx hy hc2 hp
         obtain ⟨u, hu⟩ : ∃ u, u = 64 * L + (z + (64 - r)) % 64 := ⟨_, rfl⟩
         have hr64 : r < 64 := by omega
         obtain ⟨e3, e4⟩ := at4_int (x := x) (y := y) (z := (z : Int) - (r : Int)) (p := u) (by omega) (by omega)
         have p1 : (p : Int) < 1600 := by omega
         have p2 : p + 1 ≤ 1600 := by omega
         have u1 : (u : Int) < 1600 := by omega
         have u2 : u + 1 ≤ 1600 := by omega
         have a3 := Ea (p := u) (by omega)
         have a4 := tC_set (n := 1600) g (p := p) (a u) (by omega)
         have hst : ∀ q < 1600, (if q = p then a u else g q) = if q / 64 = L ∧ q % 64 < z + 1 then a (64 * L + (q % 64 + (64 - r)) % 64) else rhS a t q := fun q hq => by
          by_cases hqp : q = p
          · rw [if_pos hqp, if_pos (by omega), hu, show q % 64 = z by omega]
          · rw [if_neg hqp, hg q hq]
            by_cases h1 : q / 64 = L ∧ q % 64 < z
            · rw [if_pos h1, if_pos ⟨h1.1, by omega⟩]
            · rw [if_neg h1, if_neg (by omega)]
         obtain ⟨m, hm⟩ : ∃ m, m = a u := ⟨_, rfl⟩
         rw [← hm] at a3 a4 hst
         simp only [push_cast, seval, reduceCtorEq, t0, z1, e1, e2, e3, e4, wrap_i64' (show -9223372036854775808 ≤ (z : Int) - (r : Int) ∧ (z : Int) - (r : Int) ≤ 9223372036854775807 by omega), p1, p2, u1, u2, d2, fb0, Ek, Eo, El, a3, tl, a4, wrap_i64' (show -9223372036854775808 ≤ (z : Int) + 1 ∧ (z : Int) + 1 ≤ 9223372036854775807 by omega)]
         exact ⟨(z + 1, _), ⟨hc2, hst⟩, by dsimp only; omega, rfl, rfl⟩
       · obtain rfl : z = 64 := by omega
         simp only [push_cast, seval, reduceCtorEq, t0, wrap_i64' (show -9223372036854775808 ≤ 2 * (x : Int) ∧ 2 * (x : Int) ≤ 9223372036854775807 by omega), wrap_i64' (show -9223372036854775808 ≤ 3 * (y : Int) ∧ 3 * (y : Int) ≤ 9223372036854775807 by omega), wrap_i64' (show -9223372036854775808 ≤ 2 * (x : Int) + 3 * (y : Int) ∧ 2 * (x : Int) + 3 * (y : Int) ≤ 9223372036854775807 by omega), en, wrap_i64' (show -9223372036854775808 ≤ (n : Int) ∧ (n : Int) ≤ 9223372036854775807 by omega), wrap_i64' (show -9223372036854775808 ≤ (t : Int) + 1 ∧ (t : Int) + 1 ≤ 9223372036854775807 by omega)]
         refine ⟨(t + 1, g), ⟨hc, fun q hq => ?_⟩, by dsimp only; omega, ?_, rfl⟩
         · dsimp only
           rw [hg q hq, hrs]
           by_cases h1 : q / 64 = L
           · rw [if_pos h1, if_pos ⟨h1, Nat.mod_lt _ (by decide)⟩]
           · rw [if_neg h1, if_neg (fun h => h1 h.1)]
         · rw [hxy]
           exact ⟨rfl, rfl, rfl⟩
   · obtain rfl : t = 24 := by omega
     have hfin : tab 1600 g = tab 1600 (rhB a) := tab_congr fun q hq => hg q hq
     simp only [push_cast, seval, reduceCtorEq]
     rw [hfin]
     refine ⟨[⟨bq, 0, .vec 3 1 cq, nC (tab 1600 (rhB a))⟩], ?_, .inr ⟨bq, cq, by decide, rfl, hcq, by rw [tC_len], rfl⟩⟩
     exact List.Sublist.cons_cons _ (List.nil_sublist _)
theorem dpi_ok (a : Nat → Nat) (b c : Nat) : CallsV Tryz.prog 138 [.slice (some ⟨b, 0, none⟩) 1600 c] [⟨b, 0, .ro, nC (tab 1600 a)⟩] (OutC 3 1 (nC (tab 1600 (piB a))) 1600) := by
 obtain ⟨E, hE⟩ : ∃ e : Ent, e = ⟨b, 0, .ro, nC (tab 1600 a)⟩ := ⟨_, rfl⟩
 have fb0 : findE [E] b = some E := by rw [hE]; simp [findE]
 have Ek : E.kind = .ro := by rw [hE]
 have Eo : E.off = 0 := by rw [hE]
 have El : E.cells.length = 1600 := by rw [hE]; exact tC_len _ _
 have Ea : ∀ {p : Nat}, p < 1600 → List.take 1 (List.drop p E.cells) = [.int .i64 (a p : Nat)] := fun h => by rw [hE]; exact tC_at a h
 have Em : marksOf [E] = [] := by rw [hE]; rfl
 rw [← hE]
 obtain ⟨W, hW⟩ : ∃ W, W = [E] := ⟨_, rfl⟩
 rw [← hW] at fb0 Em ⊢
 have tl : ∀ g : Nat → Nat, (nC (tab 1600 g)).length = 1600 := fun g => tC_len 1600 g
 refine callsO gM0_ok Tryz.mix Tryz.pl138 Tryz.func138 rfl Tryz.ntmps138 Tryz.results138 rfl (by first | rfl | assumption) (Nat.le_of_ble_eq_true rfl) (by kernel_rfl) ?_
 simp only [push_cast, seval, reduceCtorEq]
 refine ⟨by unfold two47; decide, fun bq hbq => ?_⟩
 have d2 := (fresh_findS hbq fb0).2
 simp only [push_cast, seval, reduceCtorEq, tC_zero]
 refine loopO gM0_ok (pl := Tryz.pl138) Tryz.mix (X := Nat × (Nat → Nat))
  (fun s => ([(0, .slice (some ⟨b, 0, none⟩) 1600 c), (3, .slice (some ⟨bq, 0, none⟩) 1600 1600), (4, .int .i64 s.1)], ⟨bq, 0, .vec 3 1 1600, nC (tab 1600 s.2)⟩ :: W))
  (fun s => s.1 ≤ 5 ∧ ∀ q < 1600, q / 64 % 5 < s.1 → s.2 q = piB a q) (fun s => 5 - s.1) (0, fun _ => 0) ?_ ?_ (by kernel_rfl) ?_
 · exact ⟨by decide, fun q _ h => absurd h (Nat.not_lt_zero _)⟩
 · simp only [push_cast, seval, reduceCtorEq]
   try exact subH_self _
 · rintro ⟨x, g⟩ ⟨hx, hg⟩
   dsimp only at hx hg ⊢
   by_cases hc : x < 5
   · have x1 : (x : Int) < 5 := by omega
     simp only [push_cast, seval, reduceCtorEq, x1]
     refine loopO gM0_ok (pl := Tryz.pl138) Tryz.mix (X := Nat × (Nat → Nat))
      (fun s => ([(0, .slice (some ⟨b, 0, none⟩) 1600 c), (3, .slice (some ⟨bq, 0, none⟩) 1600 1600), (4, .int .i64 x), (5, .int .i64 s.1)], ⟨bq, 0, .vec 3 1 1600, nC (tab 1600 s.2)⟩ :: W))
      (fun s => s.1 ≤ 5 ∧ ∀ q < 1600, (q / 64 % 5 < x ∨ (q / 64 % 5 = x ∧ q / 320 < s.1)) → s.2 q = piB a q) (fun s => 5 - s.1) (0, g) ?_ ?_ (by kernel_rfl) ?_
     · exact ⟨Nat.zero_le _, fun q hq h => hg q hq (by omega)⟩
     · simp only [push_cast, seval, reduceCtorEq]
       try exact subH_self _
     · rintro ⟨y, g⟩ ⟨hy, hg⟩
       dsimp only at hy hg ⊢
       by_cases hc2 : y < 5
       · have y1 : (y : Int) < 5 := by omega
         simp only [push_cast, seval, reduceCtorEq, x1, y1]
         refine loopO gM0_ok (pl := Tryz.pl138) Tryz.mix (X := Nat × (Nat → Nat))
          (fun s => ([(0, .slice (some ⟨b, 0, none⟩) 1600 c), (3, .slice (some ⟨bq, 0, none⟩) 1600 1600), (4, .int .i64 x), (5, .int .i64 y), (6, .int .i64 s.1)], ⟨bq, 0, .vec 3 1 1600, nC (tab 1600 s.2)⟩ :: W))
          (fun s => s.1 ≤ 64 ∧ ∀ q < 1600, (q / 64 % 5 < x ∨ (q / 64 % 5 = x ∧ (q / 320 < y ∨ (q / 320 = y ∧ q % 64 < s.1)))) → s.2 q = piB a q) (fun s => 64 - s.1) (0, g) ?_ ?_ (by kernel_rfl) ?_
         · exact ⟨Nat.zero_le _, fun q hq h => hg q hq (by omega)⟩
         · simp only [push_cast, seval, reduceCtorEq]
           try exact subH_self _
         · rintro ⟨z, g⟩ ⟨hz, hg⟩
           dsimp only at hz hg ⊢
           by_cases hc3 : z < 64
           · have z1 : (z : Int) < 64 := by omega
             obtain ⟨p, hp⟩ : ∃ p, p = 64 * (5 * y + x) + z := ⟨_, rfl⟩
             obtain ⟨e1, e2⟩ := at4_nat (x := x) (y := y) (z := z) (p := p) hc hc2 hc3 hp
             have p1 : (p : Int) < 1600 := by omega
             have p2 : p + 1 ≤ 1600 := by omega
             have hsc := fun (r : Nat) (h : r = piB a p) => scan_xyz hc hc2 hc3 hp h hg
             obtain ⟨v, hv⟩ : ∃ v, v = (x + 3 * y) % 5 := ⟨_, rfl⟩
             have ev : ((x : Int) + 3 * (y : Int)).tmod 5 = (v : Int) := by rw [Int.tmod_eq_emod_of_nonneg (by omega)]; omega
             obtain ⟨u, hu⟩ : ∃ u, u = 64 * (5 * x + v) + z := ⟨_, rfl⟩
             have v5 : v < 5 := by omega
             obtain ⟨e3, e4⟩ := at4_nat (x := v) (y := x) (z := z) (p := u) v5 hc hc3 hu
             have hpi : a u = piB a p := by rw [piB_at a hc hc3 hp, hu, hv]
             have u1 : (u : Int) < 1600 := by omega
             have u2 : u + 1 ≤ 1600 := by omega
             have a3 := Ea (p := u) (by omega)
             have a4 := tC_set (n := 1600) g (p := p) (a u) (by omega)
             obtain ⟨m, hm⟩ : ∃ m, m = a u := ⟨_, rfl⟩
             rw [← hm] at a3 a4 hpi
             simp only [push_cast, seval, reduceCtorEq, x1, y1, z1, wrap_i64' (show -9223372036854775808 ≤ 3 * (y : Int) ∧ 3 * (y : Int) ≤ 9223372036854775807 by omega), wrap_i64' (show -9223372036854775808 ≤ (x : Int) + 3 * (y : Int) ∧ (x : Int) + 3 * (y : Int) ≤ 9223372036854775807 by omega), ev, wrap_i64' (show -9223372036854775808 ≤ (v : Int) ∧ (v : Int) ≤ 9223372036854775807 by omega), e1, e2, e3, e4, p1, p2, u1, u2, d2, fb0, Ek, Eo, El, a3, tl, a4, wrap_i64' (show -9223372036854775808 ≤ (z : Int) + 1 ∧ (z : Int) + 1 ≤ 9223372036854775807 by omega)]
             exact ⟨(z + 1, _), ⟨hc3, hsc m hpi⟩, by dsimp only; omega, rfl, rfl⟩
           · obtain rfl : z = 64 := by omega
             simp only [push_cast, seval, reduceCtorEq, x1, y1, wrap_i64' (show -9223372036854775808 ≤ (y : Int) + 1 ∧ (y : Int) + 1 ≤ 9223372036854775807 by omega)]
             exact ⟨(y + 1, g), ⟨hc2, fun q hq h => hg q hq (by omega)⟩, by dsimp only; omega, rfl, rfl⟩
       · obtain rfl : y = 5 := by omega
         simp only [push_cast, seval, reduceCtorEq, x1, wrap_i64' (show -9223372036854775808 ≤ (x : Int) + 1 ∧ (x : Int) + 1 ≤ 9223372036854775807 by omega)]
         exact ⟨(x + 1, g), ⟨hc, fun q hq h => hg q hq (by omega)⟩, by dsimp only; omega, rfl, rfl⟩
   · obtain rfl : x = 5 := by omega
     have hfin : tab 1600 g = tab 1600 (piB a) := tab_congr fun q hq => hg q hq (by omega)
     simp only [push_cast, seval, reduceCtorEq]
     rw [hfin]
     refine ⟨[⟨bq, 0, .vec 3 1 1600, nC (tab 1600 (piB a))⟩], ?_, .inr ⟨bq, 1600, by decide, rfl, Nat.le_refl _, by rw [tC_len], rfl⟩⟩
     exact List.Sublist.cons_cons _ (List.nil_sublist _)
theorem dchi_ok {a : Nat → Nat} (ha : ∀ p, a p < 2) (b c : Nat) : CallsV Tryz.prog 137 [.slice (some ⟨b, 0, none⟩) 1600 c] [⟨b, 0, .ro, nC (tab 1600 a)⟩] (OutC 3 1 (nC (tab 1600 (chB a))) 1600) := by
 obtain ⟨E, hE⟩ : ∃ e : Ent, e = ⟨b, 0, .ro, nC (tab 1600 a)⟩ := ⟨_, rfl⟩
 have fb0 : findE [E] b = some E := by rw [hE]; simp [findE]
 have Ek : E.kind = .ro := by rw [hE]
 have Eo : E.off = 0 := by rw [hE]
 have El : E.cells.length = 1600 := by rw [hE]; exact tC_len _ _
 have Ea : ∀ {p : Nat}, p < 1600 → List.take 1 (List.drop p E.cells) = [.int .i64 (a p : Nat)] := fun h => by rw [hE]; exact tC_at a h
 have Em : marksOf [E] = [] := by rw [hE]; rfl
 rw [← hE]
 obtain ⟨W, hW⟩ : ∃ W, W = [E] := ⟨_, rfl⟩
 rw [← hW] at fb0 Em ⊢
 have tl : ∀ g : Nat → Nat, (nC (tab 1600 g)).length = 1600 := fun g => tC_len 1600 g
 refine callsO gM0_ok Tryz.mix Tryz.pl137 Tryz.func137 rfl Tryz.ntmps137 Tryz.results137 rfl (by first | rfl | assumption) (Nat.le_of_ble_eq_true rfl) (by kernel_rfl) ?_
 simp only [push_cast, seval, reduceCtorEq]
 refine ⟨by unfold two47; decide, fun bq hbq => ?_⟩
 have d2 := (fresh_findS hbq fb0).2
 simp only [push_cast, seval, reduceCtorEq, tC_zero]
 refine loopO gM0_ok (pl := Tryz.pl137) Tryz.mix (X := Nat × (Nat → Nat))
  (fun s => ([(0, .slice (some ⟨b, 0, none⟩) 1600 c), (3, .slice (some ⟨bq, 0, none⟩) 1600 1600), (4, .int .i64 s.1)], ⟨bq, 0, .vec 3 1 1600, nC (tab 1600 s.2)⟩ :: W))
  (fun s => s.1 ≤ 5 ∧ ∀ q < 1600, q / 64 % 5 < s.1 → s.2 q = chB a q) (fun s => 5 - s.1) (0, fun _ => 0) ?_ ?_ (by kernel_rfl) ?_
 · exact ⟨by decide, fun q _ h => absurd h (Nat.not_lt_zero _)⟩
 · simp only [push_cast, seval, reduceCtorEq]
   try exact subH_self _
 · rintro ⟨x, g⟩ ⟨hx, hg⟩
   dsimp only at hx hg ⊢
   by_cases hc : x < 5
   · have x1 : (x : Int) < 5 := by omega
     simp only [push_cast, seval, reduceCtorEq, x1]
     refine loopO gM0_ok (pl := Tryz.pl137) Tryz.mix (X := Nat × (Nat → Nat))
      (fun s => ([(0, .slice (some ⟨b, 0, none⟩) 1600 c), (3, .slice (some ⟨bq, 0, none⟩) 1600 1600), (4, .int .i64 x), (5, .int .i64 s.1)], ⟨bq, 0, .vec 3 1 1600, nC (tab 1600 s.2)⟩ :: W))
      (fun s => s.1 ≤ 5 ∧ ∀ q < 1600, (q / 64 % 5 < x ∨ (q / 64 % 5 = x ∧ q / 320 < s.1)) → s.2 q = chB a q) (fun s => 5 - s.1) (0, g) ?_ ?_ (by kernel_rfl) ?_
     · exact ⟨Nat.zero_le _, fun q hq h => hg q hq (by omega)⟩
     · simp only [push_cast, seval, reduceCtorEq]
       try exact subH_self _
     · rintro ⟨y, g⟩ ⟨hy, hg⟩
       dsimp only at hy hg ⊢
       by_cases hc2 : y < 5
       · have y1 : (y : Int) < 5 := by omega
         simp only [push_cast, seval, reduceCtorEq, x1, y1]
         refine loopO gM0_ok (pl := Tryz.pl137) Tryz.mix (X := Nat × (Nat → Nat))
          (fun s => ([(0, .slice (some ⟨b, 0, none⟩) 1600 c), (3, .slice (some ⟨bq, 0, none⟩) 1600 1600), (4, .int .i64 x), (5, .int .i64 y), (6, .int .i64 s.1)], ⟨bq, 0, .vec 3 1 1600, nC (tab 1600 s.2)⟩ :: W))
          (fun s => s.1 ≤ 64 ∧ ∀ q < 1600, (q / 64 % 5 < x ∨ (q / 64 % 5 = x ∧ (q / 320 < y ∨ (q / 320 = y ∧ q % 64 < s.1)))) → s.2 q = chB a q) (fun s => 64 - s.1) (0, g) ?_ ?_ (by kernel_rfl) ?_
         · exact ⟨Nat.zero_le _, fun q hq h => hg q hq (by omega)⟩
         · simp only [push_cast, seval, reduceCtorEq]
           try exact subH_self _
         · rintro ⟨z, g⟩ ⟨hz, hg⟩
           dsimp only at hz hg ⊢
           by_cases hc3 : z < 64
           · have z1 : (z : Int) < 64 := by omega
             obtain ⟨p, hp⟩ : ∃ p, p = 64 * (5 * y + x) + z := ⟨_, rfl⟩
             obtain ⟨e1, e2⟩ := at4_nat (x := x) (y := y) (z := z) (p := p) hc hc2 hc3 hp
             have p1 : (p : Int) < 1600 := by omega
             have p2 : p + 1 ≤ 1600 := by omega
             have hsc := fun (r : Nat) (h : r = chB a p) => scan_xyz hc hc2 hc3 hp h hg
             obtain ⟨u, hu⟩ : ∃ u, u = 64 * (5 * y + (x + 1) % 5) + z := ⟨_, rfl⟩
             obtain ⟨v, hv⟩ : ∃ v, v = 64 * (5 * y + (x + 2) % 5) + z := ⟨_, rfl⟩
             obtain ⟨e3, e4⟩ := at4_int (x := (x : Int) + 1) (y := y) (z := z) (p := u) (by omega) (by omega)
             obtain ⟨e5, e6⟩ := at4_int (x := (x : Int) + 2) (y := y) (z := z) (p := v) (by omega) (by omega)
             have hch : chB a p = (a p + (a u + 1) % 2 * a v) % 2 := by rw [chB_at a hc hc3 hp, hu, hv]
             have u1 : (u : Int) < 1600 := by omega
             have u2 : u + 1 ≤ 1600 := by omega
             have v1 : (v : Int) < 1600 := by omega
             have v2 : v + 1 ≤ 1600 := by omega
             have a1 := Ea (p := p) (by omega)
             have a2 := Ea (p := u) (by omega)
             have a3 := Ea (p := v) (by omega)
             have l1 := ha p
             have l2 := ha u
             have l3 := ha v
             obtain ⟨m1, hm1⟩ : ∃ m, m = a p := ⟨_, rfl⟩
             obtain ⟨m2, hm2⟩ : ∃ m, m = a u := ⟨_, rfl⟩
             obtain ⟨m3, hm3⟩ : ∃ m, m = a v := ⟨_, rfl⟩
             rw [← hm1] at a1 l1 hch
             rw [← hm2] at a2 l2 hch
             rw [← hm3] at a3 l3 hch
             obtain ⟨w, hw⟩ : ∃ w, w = (m2 + 1) % 2 := ⟨_, rfl⟩
             have ew : ((m2 : Int) + 1).tmod 2 = (w : Int) := by rw [Int.tmod_eq_emod_of_nonneg (by omega)]; omega
             rw [← hw] at hch
             have hw3 : w * m3 ≤ 1 := Nat.le_trans (Nat.mul_le_mul (show w ≤ 1 by omega) (show m3 ≤ 1 by omega)) (Nat.le_refl _)
             obtain ⟨k, hk⟩ : ∃ k, k = w * m3 := ⟨_, rfl⟩
             have ek : (w : Int) * (m3 : Int) = (k : Int) := by rw [hk, Int.natCast_mul]
             rw [← hk] at hch hw3
             have er : ((m1 : Int) + (k : Int)).tmod 2 = (chB a p : Nat) := by rw [hch, Int.tmod_eq_emod_of_nonneg (by omega)]; omega
             have hlt : chB a p < 2 := by rw [hch]; exact Nat.mod_lt _ (by decide)
             obtain ⟨r, hr0⟩ : ∃ r, r = chB a p := ⟨_, rfl⟩
             rw [← hr0] at er hlt
             have a4 := tC_set (n := 1600) g (p := p) r (by omega)
             simp only [push_cast, seval, reduceCtorEq, x1, y1, z1, wrap_i64' (show -9223372036854775808 ≤ (x : Int) + 1 ∧ (x : Int) + 1 ≤ 9223372036854775807 by omega), wrap_i64' (show -9223372036854775808 ≤ (x : Int) + 2 ∧ (x : Int) + 2 ≤ 9223372036854775807 by omega), wrap_i64' (show -9223372036854775808 ≤ (m2 : Int) + 1 ∧ (m2 : Int) + 1 ≤ 9223372036854775807 by omega), ew, wrap_i64' (show -9223372036854775808 ≤ (w : Int) ∧ (w : Int) ≤ 9223372036854775807 by omega), ek, wrap_i64' (show -9223372036854775808 ≤ (k : Int) ∧ (k : Int) ≤ 9223372036854775807 by omega), wrap_i64' (show -9223372036854775808 ≤ (m1 : Int) + (k : Int) ∧ (m1 : Int) + (k : Int) ≤ 9223372036854775807 by omega), er, wrap_i64' (show -9223372036854775808 ≤ (r : Int) ∧ (r : Int) ≤ 9223372036854775807 by omega), e1, e2, e3, e4, e5, e6, p1, p2, u1, u2, v1, v2, d2, fb0, Ek, Eo, El, a1, a2, a3, tl, a4, wrap_i64' (show -9223372036854775808 ≤ (z : Int) + 1 ∧ (z : Int) + 1 ≤ 9223372036854775807 by omega)]
             exact ⟨(z + 1, _), ⟨hc3, hsc r hr0⟩, by dsimp only; omega, rfl, rfl⟩
           · obtain rfl : z = 64 := by omega
             simp only [push_cast, seval, reduceCtorEq, x1, y1, wrap_i64' (show -9223372036854775808 ≤ (y : Int) + 1 ∧ (y : Int) + 1 ≤ 9223372036854775807 by omega)]
             exact ⟨(y + 1, g), ⟨hc2, fun q hq h => hg q hq (by omega)⟩, by dsimp only; omega, rfl, rfl⟩
       · obtain rfl : y = 5 := by omega
         simp only [push_cast, seval, reduceCtorEq, x1, wrap_i64' (show -9223372036854775808 ≤ (x : Int) + 1 ∧ (x : Int) + 1 ≤ 9223372036854775807 by omega)]
         exact ⟨(x + 1, g), ⟨hc, fun q hq h => hg q hq (by omega)⟩, by dsimp only; omega, rfl, rfl⟩
   · obtain rfl : x = 5 := by omega
     have hfin : tab 1600 g = tab 1600 (chB a) := tab_congr fun q hq => hg q hq (by omega)
     simp only [push_cast, seval, reduceCtorEq]
     rw [hfin]
     refine ⟨[⟨bq, 0, .vec 3 1 1600, nC (tab 1600 (chB a))⟩], ?_, .inr ⟨bq, 1600, by decide, rfl, Nat.le_refl _, by rw [tC_len], rfl⟩⟩
     exact List.Sublist.cons_cons _ (List.nil_sublist _)
end Go.Proofs.YtpcjmmdgopihcaaGreatDoor
