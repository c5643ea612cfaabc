/- Texts of this claim, merged by program: Ia Ib Ic Id Rp. -/
import Derived.Test.YtpcjmmdgopihcaaGreatDoorZgAl
import Derived.Test.YtpcjmmdgopihcaaGreatDoorZgAe
import Derived.Test.YtpcjmmdgopihcaaGreatDoorZgAg
import Derived.Test.YtpcjmmdgopihcaaGreatDoorZgAf
import Derived.Laws.Bits64b
import Derived.Test.YtpcjmmdgopihcaaGreatDoorZgAm
import Derived.Test.YtpcjmmdgopihcaaGreatDoorRows
import Derived.MakeChecks
set_option linter.unusedSimpArgs false
set_option linter.unusedVariables false
set_option maxRecDepth 100000
set_option maxHeartbeats 4000000
namespace Go.Ev
noncomputable def rot : Nat → Nat → Nat := hid fun x k => ((x * 2 ^ k) % 18446744073709551616) ||| (x / 2 ^ (64 - k))
theorem rot_eq (x k : Nat) : rot x k = ((x * 2 ^ k) % 18446744073709551616) ||| (x / 2 ^ (64 - k)) := by unfold rot; rw [hid_eq]
noncomputable def xorN : Nat → Nat → Nat := hid fun x y => x ^^^ y
theorem xorN_eq (x y : Nat) : xorN x y = x ^^^ y := by unfold xorN; rw [hid_eq]
noncomputable def anN : Nat → Nat → Nat := hid fun x y => x &&& (18446744073709551615 - y)
theorem anN_eq (x y : Nat) : anN x y = x &&& (18446744073709551615 - y) := by unfold anN; rw [hid_eq]
theorem rot_lt {x k : Nat} (hx : x < 18446744073709551616) (hk : k < 64) : rot x k < 18446744073709551616 := by
 rw [rot_eq]
 have h1 : x / 2 ^ (64 - k) < 2 ^ 64 := Nat.lt_of_le_of_lt (Nat.div_le_self _ _) hx
 exact Nat.or_lt_two_pow (n := 64) (Nat.mod_lt _ (by decide)) h1
theorem xorN_lt {x y : Nat} (hx : x < 18446744073709551616) (hy : y < 18446744073709551616) : xorN x y < 18446744073709551616 := by
 rw [xorN_eq]; exact Nat.xor_lt_two_pow (n := 64) hx hy
theorem anN_lt {x y : Nat} (hx : x < 18446744073709551616) : anN x y < 18446744073709551616 := by
 rw [anN_eq]; exact Nat.lt_of_le_of_lt Nat.and_le_left hx
theorem xor_u64 {x y : Nat} (hx : x < 18446744073709551616) (hy : y < 18446744073709551616) : bitsI .xor .u64 (x : Int) (y : Int) = ((xorN x y : Nat) : Int) := by
 rw [xorN_eq]; exact bits_xor_u64_nat x y hx hy
theorem an_u64 {x y : Nat} (hx : x < 18446744073709551616) (hy : y < 18446744073709551616) : bitsI .andNot .u64 (x : Int) (y : Int) = ((anN x y : Nat) : Int) := by
 have hl := anN_lt (y := y) hx
 rw [anN_eq] at hl ⊢
 have h1 : (BitVec.ofInt 64 (x : Int)).toNat = x := by
  rw [BitVec.ofInt_natCast, BitVec.toNat_ofNat]; exact Nat.mod_eq_of_lt (by omega)
 have h2 : (BitVec.ofInt 64 (y : Int)).toNat = y := by
  rw [BitVec.ofInt_natCast, BitVec.toNat_ofNat]; exact Nat.mod_eq_of_lt (by omega)
 show IntKind.u64.wrap ((BitVec.ofInt 64 (x : Int) &&& ~~~ BitVec.ofInt 64 (y : Int)).toNat : Int) = _
 rw [BitVec.toNat_and, BitVec.toNat_not, h1, h2, IntKind.wrap_u64, show 2 ^ 64 - 1 - y = 18446744073709551615 - y from rfl]
 omega
theorem rot_u64 {x k : Nat} (hx : x < 18446744073709551616) (hk : k < 64) : bitsI .or .u64 (shlI .u64 (x : Int) (k : Int)) (shrI .u64 (x : Int) (64 - (k : Int))) = ((rot x k : Nat) : Int) := by
 have e1 : shlI .u64 (x : Int) (k : Int) = ((x * 2 ^ k % 18446744073709551616 : Nat) : Int) := by
  unfold shlI
  rw [IntKind.wrap_u64, show min (k : Int).toNat IntKind.u64.bits = k by show min k 64 = k; omega]
  rw [Int.natCast_emod, Int.natCast_mul, Int.natCast_pow]
  rfl
 have e2 : shrI .u64 (x : Int) (64 - (k : Int)) = ((x / 2 ^ (64 - k) : Nat) : Int) := by
  unfold shrI
  rw [show (64 - (k : Int)).toNat = 64 - k by omega, show min (64 - k) IntKind.u64.bits = 64 - k by show min (64 - k) 64 = 64 - k; omega]
  rw [Int.fdiv_eq_ediv_of_nonneg _ (by exact Int.le_of_lt (Int.pow_pos (by decide))), Int.natCast_ediv, Int.natCast_pow]
  rfl
 rw [e1, e2, rot_eq]
 exact bits_or_u64_nat _ _ (Nat.mod_lt _ (by decide)) (Nat.lt_of_le_of_lt (Nat.div_le_self _ _) hx)
def ln (a : List Nat) (i : Nat) : Nat := a.getD i 0
def lnC (a : List Nat) : List Value := a.map fun n => .int .u64 (n : Nat)
structure Ln (n : Nat) (a : List Nat) : Prop where
 len : a.length = n
 lt : ∀ x ∈ a, x < 18446744073709551616
theorem Ln.at {n : Nat} {a : List Nat} (h : Ln n a) (i : Nat) : ln a i < 18446744073709551616 := by
 unfold ln
 rw [List.getD_eq_getElem?_getD]
 cases e : a[i]? with
 | none => decide
 | some x => exact h.lt x (List.mem_of_getElem? e)
theorem Ln.set {n : Nat} {a : List Nat} (h : Ln n a) (i : Nat) {x : Nat} (hx : x < 18446744073709551616) : Ln n (a.set i x) :=
 ⟨by rw [List.length_set]; exact h.len, fun y hy => by
  rcases List.mem_or_eq_of_mem_set hy with hy | rfl
  · exact h.lt y hy
  · exact hx⟩
theorem Ln.zero (n : Nat) : Ln n (List.replicate n 0) := ⟨List.length_replicate .., fun x hx => by rw [List.eq_of_mem_replicate hx]; decide⟩
theorem lnC_len (a : List Nat) : (lnC a).length = a.length := List.length_map ..
theorem lnC_at {a : List Nat} {i : Nat} (h : i < a.length) : List.take 1 (List.drop i (lnC a)) = [.int .u64 (ln a i : Nat)] := by
 unfold lnC ln
 rw [← List.map_drop, ← List.map_take, List.drop_eq_getElem_cons h, List.take_succ_cons, List.take_zero, List.map_cons, List.map_nil, List.getD_eq_getElem?_getD, List.getElem?_eq_getElem h, Option.getD_some]
theorem lnC_set {a : List Nat} {i x : Nat} (h : i < a.length) : List.take i (lnC a) ++ .int .u64 (x : Nat) :: List.drop (i + 1) (lnC a) = lnC (a.set i x) := by
 unfold lnC
 rw [List.set_eq_take_append_cons_drop, if_pos h, List.map_append, List.map_cons, List.map_take, List.map_drop]
theorem lnC_one (a : List Nat) : (lnC a).all oneC = true := by
 rw [List.all_eq_true]
 intro v hv
 obtain ⟨n, -, rfl⟩ := List.mem_map.1 hv
 rfl
theorem lnC_take {n : Nat} {a : List Nat} (h : Ln n a) : List.take n (lnC a) = lnC a := List.take_of_length_le (by rw [lnC_len, h.len]; exact Nat.le_refl _)
theorem lnC_drop {n : Nat} {a : List Nat} (h : Ln n a) : List.drop n (lnC a) = [] := List.drop_of_length_le (by rw [lnC_len, h.len]; exact Nat.le_refl _)
theorem Ln.cl {n : Nat} {a : List Nat} (h : Ln n a) : (lnC a).length = n := by rw [lnC_len]; exact h.len
noncomputable def thC (a : List Nat) : Nat → List Nat
 | 0 => List.replicate 5 0
 | k + 1 => (thC a k).set (k % 5) (xorN (ln (thC a k) (k % 5)) (ln a k))
noncomputable def thA (a c : List Nat) : Nat → List Nat
 | 0 => a
 | k + 1 => (thA a c k).set k (xorN (ln (thA a c k) k) (xorN (ln c ((k % 5 + 4) % 5)) (rot (ln c ((k % 5 + 1) % 5)) 1)))
noncomputable def thetaK : List Nat → List Nat := hid fun a => thA a (thC a 25) 25
theorem thetaK_eq (a : List Nat) : thetaK a = thA a (thC a 25) 25 := by unfold thetaK; rw [hid_eq]
theorem thC_ln {a : List Nat} (h : Ln 25 a) : ∀ k, Ln 5 (thC a k)
 | 0 => Ln.zero 5
 | k + 1 => (thC_ln h k).set _ (xorN_lt ((thC_ln h k).at _) (h.at _))
theorem thA_ln {a c : List Nat} (h : Ln 25 a) (hc : Ln 5 c) : ∀ k, Ln 25 (thA a c k)
 | 0 => h
 | k + 1 => (thA_ln h hc k).set _ (xorN_lt ((thA_ln h hc k).at _) (xorN_lt (hc.at _) (rot_lt (hc.at _) (by decide))))
theorem thetaK_ln {a : List Nat} (h : Ln 25 a) : Ln 25 (thetaK a) := by rw [thetaK_eq]; exact thA_ln h (thC_ln h 25) 25
noncomputable def tnS (a : List Nat) : Nat → Nat × Nat × List Nat
 | 0 => (1, 0, (List.replicate 25 0).set 0 (ln a 0))
 | t + 1 => ((tnS a t).2.1, (2 * (tnS a t).1 + 3 * (tnS a t).2.1) % 5, (tnS a t).2.2.set (5 * ((2 * (tnS a t).1 + 3 * (tnS a t).2.1) % 5) + (tnS a t).2.1) (rot (ln a (5 * (tnS a t).2.1 + (tnS a t).1)) ((t + 1) * (t + 2) / 2 % 64)))
theorem tnS_ok {a : List Nat} (h : Ln 25 a) : ∀ t, (tnS a t).1 < 5 ∧ (tnS a t).2.1 < 5 ∧ Ln 25 (tnS a t).2.2
 | 0 => ⟨by show 1 < 5; decide, by show 0 < 5; decide, (Ln.zero 25).set 0 (h.at 0)⟩
 | t + 1 => by
   obtain ⟨h1, h2, h3⟩ := tnS_ok h t
   exact ⟨h2, Nat.mod_lt _ (by decide), h3.set _ (rot_lt (h.at _) (Nat.mod_lt _ (by decide)))⟩
noncomputable def turnK : List Nat → List Nat := hid fun a => (tnS a 24).2.2
theorem turnK_eq (a : List Nat) : turnK a = (tnS a 24).2.2 := by unfold turnK; rw [hid_eq]
theorem turnK_ln {a : List Nat} (h : Ln 25 a) : Ln 25 (turnK a) := by rw [turnK_eq]; exact (tnS_ok h 24).2.2
noncomputable def chS (a : List Nat) : Nat → List Nat
 | 0 => List.replicate 25 0
 | k + 1 => (chS a k).set k (xorN (ln a k) (anN (ln a (5 * (k / 5) + (k % 5 + 2) % 5)) (ln a (5 * (k / 5) + (k % 5 + 1) % 5))))
theorem chS_ln {a : List Nat} (h : Ln 25 a) : ∀ k, Ln 25 (chS a k)
 | 0 => Ln.zero 25
 | k + 1 => (chS_ln h k).set _ (xorN_lt (h.at _) (anN_lt (h.at _)))
noncomputable def chiK : List Nat → List Nat := hid fun a => chS a 25
theorem chiK_eq (a : List Nat) : chiK a = chS a 25 := by unfold chiK; rw [hid_eq]
theorem chiK_ln {a : List Nat} (h : Ln 25 a) : Ln 25 (chiK a) := by rw [chiK_eq]; exact chS_ln h 25
def consK : List Nat := [1, 32898, 9223372036854808714, 9223372039002292224, 32907, 2147483649, 9223372039002292353, 9223372036854808585, 138, 136, 2147516425, 2147483658, 2147516555, 9223372036854775947, 9223372036854808713, 9223372036854808579, 9223372036854808578, 9223372036854775936, 32778, 9223372039002259466, 9223372039002292353, 9223372036854808704, 2147483649, 9223372039002292232]
noncomputable def pmS (a : List Nat) : Nat → List Nat
 | 0 => a
 | k + 1 => (chiK (turnK (thetaK (pmS a k)))).set 0 (xorN (ln (chiK (turnK (thetaK (pmS a k)))) 0) (ln consK k))
theorem consK_at (k : Nat) : ln consK k < 18446744073709551616 := by
 have h : ∀ x ∈ consK, x < 18446744073709551616 := by decide
 exact Ln.at (n := 24) ⟨rfl, h⟩ k
theorem pmS_ln {a : List Nat} (h : Ln 25 a) : ∀ k, Ln 25 (pmS a k)
 | 0 => h
 | k + 1 => (chiK_ln (turnK_ln (thetaK_ln (pmS_ln h k)))).set 0 (xorN_lt ((chiK_ln (turnK_ln (thetaK_ln (pmS_ln h k)))).at 0) (consK_at k))
noncomputable def permK : List Nat → List Nat := hid fun a => pmS a 24
theorem permK_eq (a : List Nat) : permK a = pmS a 24 := by unfold permK; rw [hid_eq]
theorem permK_ln {a : List Nat} (h : Ln 25 a) : Ln 25 (permK a) := by rw [permK_eq]; exact pmS_ln h 24
noncomputable def u64B : Int → Bool := hid fun x => decide (0 ≤ x ∧ x < 18446744073709551616)
theorem u64B_iff {x : Int} : u64B x = true ↔ 0 ≤ x ∧ x < 18446744073709551616 := by unfold u64B; rw [hid_eq, decide_eq_true_eq]
theorem u64_nat {x : Nat} (h : x < 18446744073709551616) : u64B (x : Int) = true := u64B_iff.2 ⟨by omega, by omega⟩
noncomputable def laneG : List Value → Option Value
 | [.int .i64 x, .int .i64 y] => if 0 ≤ x ∧ x < 1000 ∧ 0 ≤ y ∧ y < 1000 then some (.int .i64 (5 * (y % 5) + x % 5)) else none
 | _ => none
noncomputable def rotG : List Value → Option Value
 | [.int .u64 x, .int .i64 k] => if u64B x = true ∧ 0 ≤ k ∧ k < 10000 then some (.int .u64 (rot x.toNat (k.toNat % 64) : Nat)) else none
 | _ => none
attribute [push_cast] laneG rotG
end Go.Ev
namespace Go.Proofs.YtpcjmmdgopihcaaGreatDoor
open Go Go.Ev Go.Proofs
theorem lane_ok (x y : Int) (h : 0 ≤ x ∧ x < 1000 ∧ 0 ≤ y ∧ y < 1000) : CallsV Tryz.prog 132 [.int .i64 x, .int .i64 y] [] (Ret0 (.int .i64 (5 * (y % 5) + x % 5))) := by
 obtain ⟨h1, h2, h3, h4⟩ := h
 have e1 : x.tmod 5 = x % 5 := Int.tmod_eq_emod_of_nonneg h1
 have e2 : y.tmod 5 = y % 5 := Int.tmod_eq_emod_of_nonneg h3
 refine callsO (noG_ok _) Tryz.mix Tryz.pl132 Tryz.func132 rfl Tryz.ntmps132 Tryz.results132 rfl (by first | rfl | assumption) (Nat.le_of_ble_eq_true rfl) (by kernel_rfl) ?_
 simp only [push_cast, seval, reduceCtorEq, e1, e2, wrap_i64' (show -9223372036854775808 ≤ 5 * (y % 5) ∧ 5 * (y % 5) ≤ 9223372036854775807 by omega), wrap_i64' (show -9223372036854775808 ≤ 5 * (y % 5) + x % 5 ∧ 5 * (y % 5) + x % 5 ≤ 9223372036854775807 by omega)]
theorem laneG_ok (args : List Value) (v : Value) (h : laneG args = some v) : CallsV Tryz.prog 132 args [] (Ret0 v) := by
 unfold laneG at h
 split at h
 · split at h
   · rename_i x y hh; cases h; exact lane_ok x y hh
   · cases h
 · cases h
theorem and63 {k : Nat} (hk : k < 10000) : bitsI .and .u64 (k : Int) 63 = ((k % 64 : Nat) : Int) := by
 have h := bits_and_u64_nat k 63 (by omega) (by decide)
 rw [show k &&& 63 = k % 64 from Nat.and_two_pow_sub_one_eq_mod k 6] at h
 exact h
theorem rotl_ok (x k : Nat) (hx : x < 18446744073709551616) (hk : k < 10000) : CallsV Tryz.prog 133 [.int .u64 x, .int .i64 k] [] (Ret0 (.int .u64 (rot x (k % 64) : Nat))) := by
 have hk2 : k % 64 < 64 := Nat.mod_lt _ (by decide)
 have h63 := and63 hk
 obtain ⟨s, hs⟩ : ∃ s, s = k % 64 := ⟨_, rfl⟩
 rw [← hs] at hk2 h63 ⊢
 have hr := rot_u64 hx hk2
 have w1 : IntKind.u64.wrap (k : Int) = (k : Int) := by rw [IntKind.wrap_u64]; omega
 have w2 : IntKind.u64.wrap (64 - (s : Int)) = 64 - (s : Int) := by rw [IntKind.wrap_u64]; omega
 have w3 : ¬ (64 - (s : Int) < 0) := by omega
 have w4 : ¬ ((s : Int) < 0) := by omega
 refine callsO (noG_ok _) Tryz.mix Tryz.pl133 Tryz.func133 rfl Tryz.ntmps133 Tryz.results133 rfl (by first | rfl | assumption) (Nat.le_of_ble_eq_true rfl) (by kernel_rfl) ?_
 simp only [push_cast, seval, reduceCtorEq, w1, h63, w2, w3, w4, hr]
theorem rotG_ok (args : List Value) (v : Value) (h : rotG args = some v) : CallsV Tryz.prog 133 args [] (Ret0 v) := by
 unfold rotG at h
 split at h
 · split at h
   · rename_i x k hh
     cases h
     obtain ⟨g0, g3, g4⟩ := hh
     obtain ⟨g1, g2⟩ := u64B_iff.1 g0
     obtain ⟨n, rfl⟩ : ∃ n : Nat, x = n := ⟨x.toNat, by omega⟩
     obtain ⟨m, rfl⟩ : ∃ m : Nat, k = m := ⟨k.toNat, by omega⟩
     exact rotl_ok n m (by omega) (by omega)
   · cases h
 · cases h
noncomputable def gI0 : Gam := (addG 133 rotG (addG 132 laneG noG))
attribute [push_cast] gI0
theorem gI0_ok : GamOk Tryz.prog gI0 := (addG_ok rotG_ok (addG_ok laneG_ok (noG_ok _)))
end Go.Proofs.YtpcjmmdgopihcaaGreatDoor
namespace Go.Proofs.YtpcjmmdgopihcaaGreatDoor
open Go Go.Ev Go.Proofs
def plcV : List (List Value) := (List.range 25).map fun i => [.int .i64 (i % 5 : Nat), .int .i64 (i / 5 : Nat)]
theorem places1_ok : IterV Tryz.prog 149 [] [] plcV := by
 refine ⟨enterO Tryz.func149 rfl rfl, fun X Ho I St l x0 hro hmk h0 hy => ?_⟩
 have hm0 := hmk x0
 have yl : ∀ (j : Nat) (z : X) (a b : Value) (K' : Value → Hp → Prop), j < 25 → a = .int .i64 (j % 5 : Nat) → b = .int .i64 (j / 5 : Nat) → I j z → (∀ x', I (j + 1) x' → K' (.bool true) (Ho x')) → (∀ x', St x' → K' (.bool false) (Ho x')) → YieldV Tryz.prog l [a, b] (Ho z) K' := fun j z a b K' hj ha hb hi ht hf => by
  subst ha hb
  refine (hy j z [.int .i64 (j % 5 : Nat), .int .i64 (j / 5 : Nat)] (by unfold plcV; rw [List.getElem?_map, List.getElem?_range hj]; rfl) hi).frame (A := []) ?_ ?_
  · rintro v H' (⟨rfl, x', _, rfl⟩ | ⟨rfl, x', _, rfl⟩) <;> exact hro z x'
  · rintro v H' (⟨rfl, x', h, rfl⟩ | ⟨rfl, x', h, rfl⟩)
    · exact ht x' h
    · exact hf x' h
 have yf : ∀ (x' : X), (I plcV.length x' ∨ St x') → ∃ H'_1, List.Sublist H'_1 (dropM (Ho x')) ∧ ∃ z, (I plcV.length z ∨ St z) ∧ H'_1 = Ho z := fun x' hst => by
  refine ⟨Ho x', ?_, x', hst, rfl⟩
  rw [dropM_eq (hmk x')]
  exact List.Sublist.refl _
 have hvl : plcV.length = 25 := by unfold plcV; simp
 obtain ⟨vs, hvs⟩ : ∃ vs, vs = plcV := ⟨_, rfl⟩
 rw [← hvs] at yf hvl ⊢
 refine callsO gI0_ok Tryz.mix Tryz.pl149 Tryz.func149 rfl Tryz.ntmps149 Tryz.results149 rfl (by first | rfl | assumption) (Nat.le_of_ble_eq_true rfl) (by kernel_rfl) ?_
 simp only [push_cast, seval, reduceCtorEq]
 refine loopO gI0_ok (pl := Tryz.pl149) Tryz.mix (X := Nat × X)
  (fun s => ([(0, .func (.yield l) #[] #[]), (3, .int .i64 s.1)], Ho s.2))
  (fun s => s.1 ≤ 25 ∧ I s.1 s.2) (fun s => 25 - s.1) (0, x0) ?_ ?_ (by kernel_rfl) ?_
 · exact ⟨Nat.zero_le _, h0⟩
 · simp only [push_cast, seval, reduceCtorEq, hm0, subH_self]
 · rintro ⟨k, z⟩ ⟨hk, hi⟩
   dsimp only at hk hi ⊢
   by_cases hc : k < 25
   · have k1 : (k : Int) < 25 := by omega
     have e1 : (k : Int).tmod 5 = (k : Int) % 5 := Int.tmod_eq_emod_of_nonneg (by omega)
     have e2 : (k : Int).tdiv 5 = (k : Int) / 5 := Int.tdiv_eq_ediv_of_nonneg (by omega)
     simp only [push_cast, seval, reduceCtorEq, k1, hc, e1, e2, wrap_i64' (show -9223372036854775808 ≤ (k : Int) / 5 ∧ (k : Int) / 5 ≤ 9223372036854775807 by omega)]
     refine yl k z _ _ _ hc (by simp) (by simp) hi (fun x' hx' => ?_) (fun x' hx' => ?_)
     · simp only [push_cast, seval, reduceCtorEq, wrap_i64' (show -9223372036854775808 ≤ (k : Int) + 1 ∧ (k : Int) + 1 ≤ 9223372036854775807 by omega)]
       exact ⟨(k + 1, x'), ⟨by dsimp only; omega, hx'⟩, by dsimp only; omega, rfl, subH_self _, by simp only [hmk]⟩
     · simp only [push_cast, seval, reduceCtorEq]
       exact yf x' (.inr hx')
   · obtain rfl : k = 25 := by omega
     have k1 : ¬ ((25 : Nat) : Int) < 25 := by omega
     simp only [push_cast, seval, reduceCtorEq, k1, hc]
     exact yf z (.inl (by rw [hvl]; exact hi))
theorem places_ok : CallsV Tryz.prog 131 [] [] (fun v N => v = .func (.func 149) #[] #[] ∧ N = []) := by
 refine callsO gI0_ok Tryz.mix Tryz.pl131 Tryz.func131 rfl Tryz.ntmps131 Tryz.results131 rfl (by first | rfl | assumption) (Nat.le_of_ble_eq_true rfl) (by kernel_rfl) ?_
 simp only [push_cast, seval, reduceCtorEq]
 exact ⟨[], List.Sublist.refl _, rfl⟩
theorem plcV_at {k : Nat} {args : List Value} (h : plcV[k]? = some args) : k < 25 ∧ args = [.int .i64 (k % 5 : Nat), .int .i64 (k / 5 : Nat)] := by
 unfold plcV at h
 rw [List.getElem?_map] at h
 obtain ⟨j, hj, rfl⟩ := Option.map_eq_some_iff.1 h
 obtain ⟨h1, h2⟩ := List.getElem?_eq_some_iff.1 hj
 rw [List.getElem_range] at h2
 subst h2
 rw [List.length_range] at h1
 exact ⟨h1, rfl⟩
theorem plcV_two : ∀ args ∈ plcV, args.length = 2 := fun args h => by
 obtain ⟨j, -, rfl⟩ := List.mem_map.1 h
 rfl
theorem plcV_len : plcV.length = 25 := by unfold plcV; simp
end Go.Proofs.YtpcjmmdgopihcaaGreatDoor
namespace Go.Proofs.YtpcjmmdgopihcaaGreatDoor
open Go Go.Ev Go.Proofs
theorem theta_ok {a : List Nat} (h : Ln 25 a) : CallsV Tryz.prog 109 [.agg (lnC a).toArray] [] (Ret0 (.agg (lnC (thetaK a)).toArray)) := by
 rw [thetaK_eq]
 refine callsO gI0_ok Tryz.mix Tryz.pl109 Tryz.func109 rfl Tryz.ntmps109 Tryz.results109 rfl (by first | rfl | assumption) (Nat.le_of_ble_eq_true rfl) (by kernel_rfl) ?_
 simp only [push_cast, Nat.reduceAdd, Nat.reduceSub, Nat.reduceMul, Nat.reduceLT, Nat.reduceLeDiff, Nat.reduceEqDiff, Nat.reduceMod, Nat.reduceDiv, Int.reduceAdd, Int.reduceSub, Int.reduceMul, Int.reduceLT, Int.reduceLE, Int.reduceEq, Int.reduceNeg, Int.reduceToNat, reduceIte, reduceCtorEq, Int.reduceBEq, Int.reduceBNe]
 intro b1 b2 hb2 b3 hb3
 try simp only [push_cast, Nat.reduceAdd, Nat.reduceSub, Nat.reduceMul, Nat.reduceLT, Nat.reduceLeDiff, Nat.reduceEqDiff, Nat.reduceMod, Nat.reduceDiv, Int.reduceAdd, Int.reduceSub, Int.reduceMul, Int.reduceLT, Int.reduceLE, Int.reduceEq, Int.reduceNeg, Int.reduceToNat, reduceIte, reduceCtorEq, Int.reduceBEq, Int.reduceBNe, hb2, hb3]
 refine (places_ok).use trivial ?_
 rintro _ _ ⟨rfl, rfl⟩
 refine ⟨trivial, rfl, fun hfn => ?_⟩
 simp only [push_cast, Nat.reduceAdd, Nat.reduceSub, Nat.reduceMul, Nat.reduceLT, Nat.reduceLeDiff, Nat.reduceEqDiff, Nat.reduceMod, Nat.reduceDiv, Int.reduceAdd, Int.reduceSub, Int.reduceMul, Int.reduceLT, Int.reduceLE, Int.reduceEq, Int.reduceNeg, Int.reduceToNat, reduceIte, reduceCtorEq, Int.reduceBEq, Int.reduceBNe] at hfn
 try simp only [push_cast, Nat.reduceAdd, Nat.reduceSub, Nat.reduceMul, Nat.reduceLT, Nat.reduceLeDiff, Nat.reduceEqDiff, Nat.reduceMod, Nat.reduceDiv, Int.reduceAdd, Int.reduceSub, Int.reduceMul, Int.reduceLT, Int.reduceLE, Int.reduceEq, Int.reduceNeg, Int.reduceToNat, reduceIte, reduceCtorEq, Int.reduceBEq, Int.reduceBNe, hb2, hb3]
 refine rangeO gI0_ok (pl := Tryz.pl109) Tryz.mix (Hc := []) (Hm := []) places1_ok rfl
  (X := List Nat) (fun c => [⟨b3, 0, .cel 172, lnC c⟩, ⟨b2, 0, .cel 114, lnC (List.replicate 25 0)⟩, ⟨b1, 0, .cel 114, lnC a⟩])
  (fun k c => c = thC a k) (fun _ _ => False) (List.replicate 5 0)
  rfl ?_ rfl rfl (by simp) (fun s => rfl) (fun s u e he => .inl ?_) plcV_two (by kernel_rfl) (by kernel_rfl) (fun _ _ h => h.elim) ?_ ?_ (fun _ _ _ _ h => h.elim)
 · simp only [push_cast, Nat.reduceAdd, Nat.reduceSub, Nat.reduceMul, Nat.reduceLT, Nat.reduceLeDiff, Nat.reduceEqDiff, Nat.reduceMod, Nat.reduceDiv, Int.reduceAdd, Int.reduceSub, Int.reduceMul, Int.reduceLT, Int.reduceLE, Int.reduceEq, Int.reduceNeg, Int.reduceToNat, reduceIte, reduceCtorEq, Int.reduceBEq, Int.reduceBNe, hb2, hb3]
   exact ⟨rfl, rfl⟩
 · simp at he; rcases he with rfl | rfl | rfl <;> trivial
 · rintro lo k c args hk hc
   obtain ⟨hk1, rfl⟩ := plcV_at hk
   have hcl : Ln 5 c := hc ▸ thC_ln h k
   have hcs : c.set (k % 5) (xorN (ln c (k % 5)) (ln a k)) = thC a (k + 1) := by rw [hc]; rfl
   obtain ⟨x, hx⟩ : ∃ x, x = k % 5 := ⟨_, rfl⟩
   obtain ⟨y, hy⟩ : ∃ y, y = k / 5 := ⟨_, rfl⟩
   rw [← hx] at hcs ⊢
   rw [← hy]
   have x5 : x < 5 := by omega
   have y5 : y < 5 := by omega
   have x1 : (0 : Int) ≤ x := by omega
   have x2 : (x : Int) < 5 := by omega
   have e : 5 * ((y : Int) % 5) + (x : Int) % 5 = (k : Int) := by omega
   have a1 := lnC_at (a := c) (i := x) (by rw [hcl.len]; exact x5)
   have a2 := lnC_at (a := a) (i := k) (by rw [h.len]; exact hk1)
   have a3 := xor_u64 (hcl.at x) (h.at k)
   have a4 := lnC_set (a := c) (i := x) (x := xorN (ln c x) (ln a k)) (by rw [hcl.len]; exact x5)
   have l1 : (lnC c).length = 5 := by rw [lnC_len]; exact hcl.len
   have l2 : (lnC a).length = 25 := by rw [lnC_len]; exact h.len
   have x3 : (x : Int) < 1000 := by omega
   have y1 : (0 : Int) ≤ y := by omega
   have y3 : (y : Int) < 1000 := by omega
   have k1 : (0 : Int) ≤ k := by omega
   have k2 : (k : Int) < 25 := by omega
   have k3 : k + 1 ≤ 25 := by omega
   have x4 : x + 1 ≤ 5 := by omega
   simp only [push_cast, Nat.reduceAdd, Nat.reduceSub, Nat.reduceMul, Nat.reduceLT, Nat.reduceLeDiff, Nat.reduceEqDiff, Nat.reduceMod, Nat.reduceDiv, Int.reduceAdd, Int.reduceSub, Int.reduceMul, Int.reduceLT, Int.reduceLE, Int.reduceEq, Int.reduceNeg, Int.reduceToNat, reduceIte, reduceCtorEq, Int.reduceBEq, Int.reduceBNe, hb2, hb3, x1, x2, x3, x4, x5, y1, y3, k1, k2, k3, l1, l2, e, a1, a2, a3, a4]
   exact ⟨_, hcs, rfl⟩
 · intro D c hD hc
   simp only [push_cast, Nat.reduceAdd, Nat.reduceSub, Nat.reduceMul, Nat.reduceLT, Nat.reduceLeDiff, Nat.reduceEqDiff, Nat.reduceMod, Nat.reduceDiv, Int.reduceAdd, Int.reduceSub, Int.reduceMul, Int.reduceLT, Int.reduceLE, Int.reduceEq, Int.reduceNeg, Int.reduceToNat, reduceIte, reduceCtorEq, Int.reduceBEq, Int.reduceBNe] at hD
   have hc : c = thC a 25 := by rw [← plcV_len]; exact hc
   have hcl : Ln 5 c := hc ▸ thC_ln h _
   rw [← hc]
   simp only [push_cast, Nat.reduceAdd, Nat.reduceSub, Nat.reduceMul, Nat.reduceLT, Nat.reduceLeDiff, Nat.reduceEqDiff, Nat.reduceMod, Nat.reduceDiv, Int.reduceAdd, Int.reduceSub, Int.reduceMul, Int.reduceLT, Int.reduceLE, Int.reduceEq, Int.reduceNeg, Int.reduceToNat, reduceIte, reduceCtorEq, Int.reduceBEq, Int.reduceBNe, hb2, hb3, hD]
   refine (places_ok).use trivial ?_
   rintro _ _ ⟨rfl, rfl⟩
   refine ⟨trivial, rfl, fun hfn => ?_⟩
   simp only [push_cast, Nat.reduceAdd, Nat.reduceSub, Nat.reduceMul, Nat.reduceLT, Nat.reduceLeDiff, Nat.reduceEqDiff, Nat.reduceMod, Nat.reduceDiv, Int.reduceAdd, Int.reduceSub, Int.reduceMul, Int.reduceLT, Int.reduceLE, Int.reduceEq, Int.reduceNeg, Int.reduceToNat, reduceIte, reduceCtorEq, Int.reduceBEq, Int.reduceBNe] at hfn
   try simp only [push_cast, Nat.reduceAdd, Nat.reduceSub, Nat.reduceMul, Nat.reduceLT, Nat.reduceLeDiff, Nat.reduceEqDiff, Nat.reduceMod, Nat.reduceDiv, Int.reduceAdd, Int.reduceSub, Int.reduceMul, Int.reduceLT, Int.reduceLE, Int.reduceEq, Int.reduceNeg, Int.reduceToNat, reduceIte, reduceCtorEq, Int.reduceBEq, Int.reduceBNe, hb2, hb3, hD]
   refine rangeO gI0_ok (pl := Tryz.pl109) Tryz.mix (Hc := []) (Hm := [⟨D, 0, .obj (.deferred (some [])), []⟩]) places1_ok rfl
    (X := List Nat) (fun z => [⟨b3, 0, .cel 172, lnC c⟩, ⟨b2, 0, .cel 114, lnC (List.replicate 25 0)⟩, ⟨b1, 0, .cel 114, lnC z⟩])
    (fun k z => z = thA a c k) (fun _ _ => False) a
    rfl ?_ rfl rfl (by simp [Ent.wr]) (fun s => rfl) (fun s u e he => .inl ?_) plcV_two (by kernel_rfl) (by kernel_rfl) (fun _ _ h => h.elim) ?_ ?_ (fun _ _ _ _ h => h.elim)
   · simp only [push_cast, Nat.reduceAdd, Nat.reduceSub, Nat.reduceMul, Nat.reduceLT, Nat.reduceLeDiff, Nat.reduceEqDiff, Nat.reduceMod, Nat.reduceDiv, Int.reduceAdd, Int.reduceSub, Int.reduceMul, Int.reduceLT, Int.reduceLE, Int.reduceEq, Int.reduceNeg, Int.reduceToNat, reduceIte, reduceCtorEq, Int.reduceBEq, Int.reduceBNe, hb2, hb3, hD]
     try exact subH_self _
   · simp at he; rcases he with rfl | rfl | rfl <;> trivial
   · rintro lo k z args hk hz
     obtain ⟨hk1, rfl⟩ := plcV_at hk
     have hzl : Ln 25 z := hz ▸ thA_ln h hcl k
     have hzs : (z.set k (xorN (ln z k) (xorN (ln c ((k % 5 + 4) % 5)) (rot (ln c ((k % 5 + 1) % 5)) 1)))) = thA a c (k + 1) := by rw [hz]; rfl
     obtain ⟨x, hx⟩ : ∃ x, x = k % 5 := ⟨_, rfl⟩
     obtain ⟨y, hy⟩ : ∃ y, y = k / 5 := ⟨_, rfl⟩
     rw [← hx] at hzs ⊢
     rw [← hy]
     have e : 5 * ((y : Int) % 5) + (x : Int) % 5 = (k : Int) := by omega
     obtain ⟨u, hu⟩ : ∃ u, u = (x + 4) % 5 := ⟨_, rfl⟩
     obtain ⟨v, hv⟩ : ∃ v, v = (x + 1) % 5 := ⟨_, rfl⟩
     rw [← hu, ← hv] at hzs
     have eu : ((x : Int) + 5 - 1).tmod 5 = (u : Int) := by rw [Int.tmod_eq_emod_of_nonneg (by omega)]; omega
     have ev : ((x : Int) + 1).tmod 5 = (v : Int) := by rw [Int.tmod_eq_emod_of_nonneg (by omega)]; omega
     have x5 : x < 5 := by omega
     have u5 : u < 5 := by omega
     have v5 : v < 5 := by omega
     have x1 : (0 : Int) ≤ x := by omega
     have x3 : (x : Int) < 1000 := by omega
     have y1 : (0 : Int) ≤ y := by omega
     have y3 : (y : Int) < 1000 := by omega
     have k1 : (0 : Int) ≤ k := by omega
     have k2 : (k : Int) < 25 := by omega
     have k3 : k + 1 ≤ 25 := by omega
     have u1 : (0 : Int) ≤ u := by omega
     have u2 : (u : Int) < 5 := by omega
     have u4 : u + 1 ≤ 5 := by omega
     have v1 : (0 : Int) ≤ v := by omega
     have v2 : (v : Int) < 5 := by omega
     have v4 : v + 1 ≤ 5 := by omega
     have l1 : (lnC c).length = 5 := by rw [lnC_len]; exact hcl.len
     have l2 : (lnC z).length = 25 := by rw [lnC_len]; exact hzl.len
     have a1 := lnC_at (a := c) (i := u) (by rw [hcl.len]; exact u5)
     have a2 := lnC_at (a := c) (i := v) (by rw [hcl.len]; exact v5)
     have a3 := lnC_at (a := z) (i := k) (by rw [hzl.len]; exact hk1)
     have r1 := u64_nat (hcl.at v)
     have a4 := xor_u64 (hcl.at u) (rot_lt (hcl.at v) (show 1 < 64 by decide))
     have a5 := xor_u64 (hzl.at k) (xorN_lt (hcl.at u) (rot_lt (hcl.at v) (show 1 < 64 by decide)))
     have a6 := lnC_set (a := z) (i := k) (x := xorN (ln z k) (xorN (ln c u) (rot (ln c v) 1))) (by rw [hzl.len]; exact hk1)
     simp only [push_cast, Nat.reduceAdd, Nat.reduceSub, Nat.reduceMul, Nat.reduceLT, Nat.reduceLeDiff, Nat.reduceEqDiff, Nat.reduceMod, Nat.reduceDiv, Int.reduceAdd, Int.reduceSub, Int.reduceMul, Int.reduceLT, Int.reduceLE, Int.reduceEq, Int.reduceNeg, Int.reduceToNat, reduceIte, reduceCtorEq, Int.reduceBEq, Int.reduceBNe, hb2, hb3, x1, x3, y1, y3, k1, k2, k3, u1, u2, u4, v1, v2, v4, l1, l2, e, eu, ev, wrap_i64' (show -9223372036854775808 ≤ (x : Int) + 5 ∧ (x : Int) + 5 ≤ 9223372036854775807 by omega), wrap_i64' (show -9223372036854775808 ≤ (x : Int) + 5 - 1 ∧ (x : Int) + 5 - 1 ≤ 9223372036854775807 by omega), wrap_i64' (show -9223372036854775808 ≤ (x : Int) + 1 ∧ (x : Int) + 1 ≤ 9223372036854775807 by omega), a1, a2, a3, r1, Int.toNat_natCast, a4, a5, a6, hzs]
     exact ⟨_, rfl, rfl⟩
   · intro D2 z hD2 hz
     simp only [push_cast, Nat.reduceAdd, Nat.reduceSub, Nat.reduceMul, Nat.reduceLT, Nat.reduceLeDiff, Nat.reduceEqDiff, Nat.reduceMod, Nat.reduceDiv, Int.reduceAdd, Int.reduceSub, Int.reduceMul, Int.reduceLT, Int.reduceLE, Int.reduceEq, Int.reduceNeg, Int.reduceToNat, reduceIte, reduceCtorEq, Int.reduceBEq, Int.reduceBNe] at hD2
     have hz : z = thA a c 25 := by rw [← plcV_len]; exact hz
     have hzl : Ln 25 z := hz ▸ thA_ln h hcl _
     rw [← hz]
     simp only [push_cast, Nat.reduceAdd, Nat.reduceSub, Nat.reduceMul, Nat.reduceLT, Nat.reduceLeDiff, Nat.reduceEqDiff, Nat.reduceMod, Nat.reduceDiv, Int.reduceAdd, Int.reduceSub, Int.reduceMul, Int.reduceLT, Int.reduceLE, Int.reduceEq, Int.reduceNeg, Int.reduceToNat, reduceIte, reduceCtorEq, Int.reduceBEq, Int.reduceBNe, hb2, hb3, hD, hD2, hzl.cl, lnC_take hzl, lnC_one, (Ln.zero 25).cl, lnC_drop (Ln.zero 25), List.append_nil]
theorem turn_ok {a : List Nat} (h : Ln 25 a) : CallsV Tryz.prog 108 [.agg (lnC a).toArray] [] (Ret0 (.agg (lnC (turnK a)).toArray)) := by
 rw [turnK_eq]
 have a0 := lnC_at (a := a) (i := 0) (by rw [h.len]; decide)
 rw [List.drop_zero] at a0
 have z0 := lnC_set (a := List.replicate 25 0) (i := 0) (x := ln a 0) (by decide)
 have z1 : ([.int .u64 0, .int .u64 0, .int .u64 0, .int .u64 0, .int .u64 0, .int .u64 0, .int .u64 0, .int .u64 0, .int .u64 0, .int .u64 0, .int .u64 0, .int .u64 0, .int .u64 0, .int .u64 0, .int .u64 0, .int .u64 0, .int .u64 0, .int .u64 0, .int .u64 0, .int .u64 0, .int .u64 0, .int .u64 0, .int .u64 0, .int .u64 0, .int .u64 0] : List Value) = lnC (List.replicate 25 0) := rfl
 have l2 := h.cl
 refine callsO gI0_ok Tryz.mix Tryz.pl108 Tryz.func108 rfl Tryz.ntmps108 Tryz.results108 rfl (by first | rfl | assumption) (Nat.le_of_ble_eq_true rfl) (by kernel_rfl) ?_
 simp only [push_cast, Nat.reduceAdd, Nat.reduceSub, Nat.reduceMul, Nat.reduceLT, Nat.reduceLeDiff, Nat.reduceEqDiff, Nat.reduceMod, Nat.reduceDiv, Int.reduceAdd, Int.reduceSub, Int.reduceMul, Int.reduceLT, Int.reduceLE, Int.reduceEq, Int.reduceNeg, Int.reduceToNat, reduceIte, reduceCtorEq, Int.reduceBEq, Int.reduceBNe]
 intro b1 b2 hb2
 try simp only [push_cast, Nat.reduceAdd, Nat.reduceSub, Nat.reduceMul, Nat.reduceLT, Nat.reduceLeDiff, Nat.reduceEqDiff, Nat.reduceMod, Nat.reduceDiv, Int.reduceAdd, Int.reduceSub, Int.reduceMul, Int.reduceLT, Int.reduceLE, Int.reduceEq, Int.reduceNeg, Int.reduceToNat, reduceIte, reduceCtorEq, Int.reduceBEq, Int.reduceBNe, hb2, l2, a0]
 refine loopO gI0_ok (pl := Tryz.pl108) Tryz.mix (X := Nat)
  (fun t => ([(1, .pointer (some ⟨b1, 0, none⟩)), (2, .pointer (some ⟨b2, 0, none⟩)), (3, .int .i64 (tnS a t).1), (4, .int .i64 (tnS a t).2.1), (10, .int .i64 t)], [⟨b2, 0, .cel 114, lnC (tnS a t).2.2⟩, ⟨b1, 0, .cel 114, lnC a⟩]))
  (fun t => t ≤ 24) (fun t => 24 - t) 0 ?_ ?_ (by kernel_rfl) ?_
 · exact Nat.zero_le _
 · simp only [push_cast, Nat.reduceAdd, Nat.reduceSub, Nat.reduceMul, Nat.reduceLT, Nat.reduceLeDiff, Nat.reduceEqDiff, Nat.reduceMod, Nat.reduceDiv, Int.reduceAdd, Int.reduceSub, Int.reduceMul, Int.reduceLT, Int.reduceLE, Int.reduceEq, Int.reduceNeg, Int.reduceToNat, reduceIte, reduceCtorEq, Int.reduceBEq, Int.reduceBNe, hb2]
   exact ⟨⟨rfl, rfl⟩, rfl⟩
 · intro t ht
   obtain ⟨x5, y5, hol⟩ := tnS_ok h t
   by_cases hc : t < 24
   · have hst : tnS a (t + 1) = ((tnS a t).2.1, (2 * (tnS a t).1 + 3 * (tnS a t).2.1) % 5, (tnS a t).2.2.set (5 * ((2 * (tnS a t).1 + 3 * (tnS a t).2.1) % 5) + (tnS a t).2.1) (rot (ln a (5 * (tnS a t).2.1 + (tnS a t).1)) ((t + 1) * (t + 2) / 2 % 64))) := rfl
     obtain ⟨x, hx⟩ : ∃ x, x = (tnS a t).1 := ⟨_, rfl⟩
     obtain ⟨y, hy⟩ : ∃ y, y = (tnS a t).2.1 := ⟨_, rfl⟩
     obtain ⟨o, ho⟩ : ∃ o, o = (tnS a t).2.2 := ⟨_, rfl⟩
     rw [← hx, ← hy, ← ho] at hst ⊢
     rw [← hx] at x5
     rw [← hy] at y5
     rw [← ho] at hol
     obtain ⟨nx, hnx⟩ : ∃ nx, nx = (2 * x + 3 * y) % 5 := ⟨_, rfl⟩
     obtain ⟨d, hd⟩ : ∃ d, d = 5 * nx + y := ⟨_, rfl⟩
     obtain ⟨s, hs⟩ : ∃ s, s = 5 * y + x := ⟨_, rfl⟩
     obtain ⟨q, hq⟩ : ∃ q, q = (t + 1) * (t + 2) := ⟨_, rfl⟩
     rw [← hnx, ← hd, ← hs, ← hq] at hst
     have n5 : nx < 5 := by omega
     have q1 : q ≤ 24 * 25 := by rw [hq]; exact Nat.mul_le_mul (by omega) (by omega)
     have q2 : ((t : Int) + 1) * ((t : Int) + 2) = (q : Int) := by rw [hq]; push_cast; rfl
     have q3 : (q : Int).tdiv 2 = ((q / 2 : Nat) : Int) := by rw [Int.tdiv_eq_ediv_of_nonneg (by omega)]; omega
     obtain ⟨g, hg⟩ : ∃ g, g = q / 2 := ⟨_, rfl⟩
     rw [← hg] at hst q3
     have g1 : (0 : Int) ≤ g := by omega
     have g2 : (g : Int) < 10000 := by omega
     have en : (2 * (x : Int) + 3 * (y : Int)).tmod 5 = (nx : Int) := by rw [Int.tmod_eq_emod_of_nonneg (by omega), hnx]; omega
     have e1 : 5 * ((nx : Int) % 5) + (y : Int) % 5 = (d : Int) := by rw [Int.emod_eq_of_lt (by omega) (by omega), Int.emod_eq_of_lt (by omega) (by omega), hd, Int.natCast_add, Int.natCast_mul]; rfl
     have e2 : 5 * ((y : Int) % 5) + (x : Int) % 5 = (s : Int) := by omega
     have x1 : (0 : Int) ≤ x := by omega
     have x3 : (x : Int) < 1000 := by omega
     have y1 : (0 : Int) ≤ y := by omega
     have y3 : (y : Int) < 1000 := by omega
     have n1 : (0 : Int) ≤ nx := by omega
     have n3 : (nx : Int) < 1000 := by omega
     have d1 : (0 : Int) ≤ d := by omega
     have d2 : (d : Int) < 25 := by omega
     have d3 : d + 1 ≤ 25 := by omega
     have s1 : (0 : Int) ≤ s := by omega
     have s2 : (s : Int) < 25 := by omega
     have s3 : s + 1 ≤ 25 := by omega
     have t1 : (t : Int) < 24 := by omega
     have l3 := hol.cl
     have a1 := lnC_at (a := a) (i := s) (by rw [h.len]; omega)
     have r1 := u64_nat (h.at s)
     have a2 := lnC_set (a := o) (i := d) (x := rot (ln a s) (g % 64)) (by rw [hol.len]; omega)
     simp only [push_cast, Nat.reduceAdd, Nat.reduceSub, Nat.reduceMul, Nat.reduceLT, Nat.reduceLeDiff, Nat.reduceEqDiff, Nat.reduceMod, Nat.reduceDiv, Int.reduceAdd, Int.reduceSub, Int.reduceMul, Int.reduceLT, Int.reduceLE, Int.reduceEq, Int.reduceNeg, Int.reduceToNat, reduceIte, reduceCtorEq, Int.reduceBEq, Int.reduceBNe, hb2, hc, t1, wrap_i64' (show -9223372036854775808 ≤ 2 * (x : Int) ∧ 2 * (x : Int) ≤ 9223372036854775807 by omega), wrap_i64' (show -9223372036854775808 ≤ 3 * (y : Int) ∧ 3 * (y : Int) ≤ 9223372036854775807 by omega), wrap_i64' (show -9223372036854775808 ≤ 2 * (x : Int) + 3 * (y : Int) ∧ 2 * (x : Int) + 3 * (y : Int) ≤ 9223372036854775807 by omega), en, e1, e2, x1, x3, y1, y3, n1, n3, d1, d2, d3, s1, s2, s3, wrap_i64' (show -9223372036854775808 ≤ (t : Int) + 1 ∧ (t : Int) + 1 ≤ 9223372036854775807 by omega), wrap_i64' (show -9223372036854775808 ≤ (t : Int) + 2 ∧ (t : Int) + 2 ≤ 9223372036854775807 by omega), q2, wrap_i64' (show -9223372036854775808 ≤ (q : Int) ∧ (q : Int) ≤ 9223372036854775807 by omega), q3, wrap_i64' (show -9223372036854775808 ≤ (g : Int) ∧ (g : Int) ≤ 9223372036854775807 by omega), g1, g2, l2, l3, a1, r1, Int.toNat_natCast, a2]
     exact ⟨t + 1, hc, by omega, by rw [hst]; exact ⟨rfl, rfl, rfl⟩, by rw [hst]⟩
   · obtain rfl : t = 24 := by omega
     have t1 : ¬ ((24 : Nat) : Int) < 24 := by omega
     simp only [push_cast, Nat.reduceAdd, Nat.reduceSub, Nat.reduceMul, Nat.reduceLT, Nat.reduceLeDiff, Nat.reduceEqDiff, Nat.reduceMod, Nat.reduceDiv, Int.reduceAdd, Int.reduceSub, Int.reduceMul, Int.reduceLT, Int.reduceLE, Int.reduceEq, Int.reduceNeg, Int.reduceToNat, reduceIte, reduceCtorEq, Int.reduceBEq, Int.reduceBNe, hb2, hc, t1, hol.cl, lnC_take hol, lnC_one, lnC_drop hol, List.append_nil]
theorem chi_ok {a : List Nat} (h : Ln 25 a) : CallsV Tryz.prog 107 [.agg (lnC a).toArray] [] (Ret0 (.agg (lnC (chiK a)).toArray)) := by
 rw [chiK_eq]
 have l2 := h.cl
 refine callsO gI0_ok Tryz.mix Tryz.pl107 Tryz.func107 rfl Tryz.ntmps107 Tryz.results107 rfl (by first | rfl | assumption) (Nat.le_of_ble_eq_true rfl) (by kernel_rfl) ?_
 simp only [push_cast, Nat.reduceAdd, Nat.reduceSub, Nat.reduceMul, Nat.reduceLT, Nat.reduceLeDiff, Nat.reduceEqDiff, Nat.reduceMod, Nat.reduceDiv, Int.reduceAdd, Int.reduceSub, Int.reduceMul, Int.reduceLT, Int.reduceLE, Int.reduceEq, Int.reduceNeg, Int.reduceToNat, reduceIte, reduceCtorEq, Int.reduceBEq, Int.reduceBNe]
 intro b1 b2 hb2
 try simp only [push_cast, Nat.reduceAdd, Nat.reduceSub, Nat.reduceMul, Nat.reduceLT, Nat.reduceLeDiff, Nat.reduceEqDiff, Nat.reduceMod, Nat.reduceDiv, Int.reduceAdd, Int.reduceSub, Int.reduceMul, Int.reduceLT, Int.reduceLE, Int.reduceEq, Int.reduceNeg, Int.reduceToNat, reduceIte, reduceCtorEq, Int.reduceBEq, Int.reduceBNe, hb2]
 refine (places_ok).use trivial ?_
 rintro _ _ ⟨rfl, rfl⟩
 refine ⟨trivial, rfl, fun hfn => ?_⟩
 simp only [push_cast, Nat.reduceAdd, Nat.reduceSub, Nat.reduceMul, Nat.reduceLT, Nat.reduceLeDiff, Nat.reduceEqDiff, Nat.reduceMod, Nat.reduceDiv, Int.reduceAdd, Int.reduceSub, Int.reduceMul, Int.reduceLT, Int.reduceLE, Int.reduceEq, Int.reduceNeg, Int.reduceToNat, reduceIte, reduceCtorEq, Int.reduceBEq, Int.reduceBNe] at hfn
 try simp only [push_cast, Nat.reduceAdd, Nat.reduceSub, Nat.reduceMul, Nat.reduceLT, Nat.reduceLeDiff, Nat.reduceEqDiff, Nat.reduceMod, Nat.reduceDiv, Int.reduceAdd, Int.reduceSub, Int.reduceMul, Int.reduceLT, Int.reduceLE, Int.reduceEq, Int.reduceNeg, Int.reduceToNat, reduceIte, reduceCtorEq, Int.reduceBEq, Int.reduceBNe, hb2]
 refine rangeO gI0_ok (pl := Tryz.pl107) Tryz.mix (Hc := []) (Hm := []) places1_ok rfl
  (X := List Nat) (fun c => [⟨b2, 0, .cel 114, lnC c⟩, ⟨b1, 0, .cel 114, lnC a⟩])
  (fun k c => c = chS a k) (fun _ _ => False) (List.replicate 25 0)
  rfl ?_ rfl rfl (by simp) (fun s => rfl) (fun s u e he => .inl ?_) plcV_two (by kernel_rfl) (by kernel_rfl) (fun _ _ h => h.elim) ?_ ?_ (fun _ _ _ _ h => h.elim)
 · simp only [push_cast, Nat.reduceAdd, Nat.reduceSub, Nat.reduceMul, Nat.reduceLT, Nat.reduceLeDiff, Nat.reduceEqDiff, Nat.reduceMod, Nat.reduceDiv, Int.reduceAdd, Int.reduceSub, Int.reduceMul, Int.reduceLT, Int.reduceLE, Int.reduceEq, Int.reduceNeg, Int.reduceToNat, reduceIte, reduceCtorEq, Int.reduceBEq, Int.reduceBNe, hb2]
   try exact rfl
 · simp at he; rcases he with rfl | rfl <;> trivial
 · rintro lo k c args hk hc
   obtain ⟨hk1, rfl⟩ := plcV_at hk
   have hcl : Ln 25 c := hc ▸ chS_ln h k
   have hcs : c.set k (xorN (ln a k) (anN (ln a (5 * (k / 5) + (k % 5 + 2) % 5)) (ln a (5 * (k / 5) + (k % 5 + 1) % 5)))) = chS a (k + 1) := by rw [hc]; rfl
   obtain ⟨x, hx⟩ : ∃ x, x = k % 5 := ⟨_, rfl⟩
   obtain ⟨y, hy⟩ : ∃ y, y = k / 5 := ⟨_, rfl⟩
   rw [← hx, ← hy] at hcs ⊢
   obtain ⟨u, hu⟩ : ∃ u, u = 5 * y + (x + 2) % 5 := ⟨_, rfl⟩
   obtain ⟨v, hv⟩ : ∃ v, v = 5 * y + (x + 1) % 5 := ⟨_, rfl⟩
   rw [← hu, ← hv] at hcs
   have x5 : x < 5 := by omega
   have y5 : y < 5 := by omega
   have e : 5 * ((y : Int) % 5) + (x : Int) % 5 = (k : Int) := by omega
   have eu : 5 * ((y : Int) % 5) + ((x : Int) + 2) % 5 = (u : Int) := by omega
   have ev : 5 * ((y : Int) % 5) + ((x : Int) + 1) % 5 = (v : Int) := by omega
   have x1 : (0 : Int) ≤ x := by omega
   have x3 : (x : Int) < 1000 := by omega
   have x6 : (0 : Int) ≤ (x : Int) + 2 := by omega
   have x7 : (x : Int) + 2 < 1000 := by omega
   have x8 : (0 : Int) ≤ (x : Int) + 1 := by omega
   have x9 : (x : Int) + 1 < 1000 := by omega
   have y1 : (0 : Int) ≤ y := by omega
   have y3 : (y : Int) < 1000 := by omega
   have k1 : (0 : Int) ≤ k := by omega
   have k2 : (k : Int) < 25 := by omega
   have k3 : k + 1 ≤ 25 := by omega
   have u1 : (0 : Int) ≤ u := by omega
   have u2 : (u : Int) < 25 := by omega
   have u3 : u + 1 ≤ 25 := by omega
   have v1 : (0 : Int) ≤ v := by omega
   have v2 : (v : Int) < 25 := by omega
   have v3 : v + 1 ≤ 25 := by omega
   have l3 := hcl.cl
   have a1 := lnC_at (a := a) (i := k) (by rw [h.len]; exact hk1)
   have a2 := lnC_at (a := a) (i := u) (by rw [h.len]; omega)
   have a3 := lnC_at (a := a) (i := v) (by rw [h.len]; omega)
   have a4 := an_u64 (h.at u) (h.at v)
   have a5 := xor_u64 (h.at k) (anN_lt (y := ln a v) (h.at u))
   have a6 := lnC_set (a := c) (i := k) (x := xorN (ln a k) (anN (ln a u) (ln a v))) (by rw [hcl.len]; exact hk1)
   simp only [push_cast, Nat.reduceAdd, Nat.reduceSub, Nat.reduceMul, Nat.reduceLT, Nat.reduceLeDiff, Nat.reduceEqDiff, Nat.reduceMod, Nat.reduceDiv, Int.reduceAdd, Int.reduceSub, Int.reduceMul, Int.reduceLT, Int.reduceLE, Int.reduceEq, Int.reduceNeg, Int.reduceToNat, reduceIte, reduceCtorEq, Int.reduceBEq, Int.reduceBNe, hb2, x1, x3, x6, x7, x8, x9, y1, y3, k1, k2, k3, u1, u2, u3, v1, v2, v3, l2, l3, wrap_i64' (show -9223372036854775808 ≤ (x : Int) + 2 ∧ (x : Int) + 2 ≤ 9223372036854775807 by omega), wrap_i64' (show -9223372036854775808 ≤ (x : Int) + 1 ∧ (x : Int) + 1 ≤ 9223372036854775807 by omega), e, eu, ev, a1, a2, a3, a4, a5, a6, hcs]
   exact ⟨_, rfl, rfl⟩
 · intro D c hD hc
   simp only [push_cast, Nat.reduceAdd, Nat.reduceSub, Nat.reduceMul, Nat.reduceLT, Nat.reduceLeDiff, Nat.reduceEqDiff, Nat.reduceMod, Nat.reduceDiv, Int.reduceAdd, Int.reduceSub, Int.reduceMul, Int.reduceLT, Int.reduceLE, Int.reduceEq, Int.reduceNeg, Int.reduceToNat, reduceIte, reduceCtorEq, Int.reduceBEq, Int.reduceBNe] at hD
   have hc : c = chS a 25 := by rw [← plcV_len]; exact hc
   have hcl : Ln 25 c := hc ▸ chS_ln h _
   rw [← hc]
   simp only [push_cast, Nat.reduceAdd, Nat.reduceSub, Nat.reduceMul, Nat.reduceLT, Nat.reduceLeDiff, Nat.reduceEqDiff, Nat.reduceMod, Nat.reduceDiv, Int.reduceAdd, Int.reduceSub, Int.reduceMul, Int.reduceLT, Int.reduceLE, Int.reduceEq, Int.reduceNeg, Int.reduceToNat, reduceIte, reduceCtorEq, Int.reduceBEq, Int.reduceBNe, hb2, hD, hcl.cl, lnC_take hcl, lnC_one, lnC_drop hcl, List.append_nil]
end Go.Proofs.YtpcjmmdgopihcaaGreatDoor
namespace Go.Ev
theorem lnC_get {a : List Nat} {i : Nat} (h : i < a.length) : (lnC a)[i]? = some (.int .u64 (ln a i : Nat)) := by
 unfold lnC ln
 rw [List.getElem?_map, List.getD_eq_getElem?_getD, List.getElem?_eq_getElem h]; rfl
def KonR (M : Hp) : Prop := cellsAt M 0 0 24 = some (lnC consK)
theorem KonR.congr {A B : Hp} (h : cellsAt A = cellsAt B) (hk : KonR A) : KonR B := by unfold KonR at hk ⊢; rw [← h]; exact hk
theorem KonR.open {M : Hp} (h : KonR M) : ∃ kd cs, findE M 0 = some ⟨0, 0, kd, cs⟩ ∧ 24 ≤ cs.length ∧ List.take 24 cs = lnC consK := by
 unfold KonR cellsAt at h
 cases he : findE M 0 with
 | none => rw [he] at h; cases h
 | some e =>
   rw [he] at h
   have hb := (findE_mem he).2
   obtain ⟨b, f, kd, cs⟩ := e
   dsimp only at hb h
   subst hb
   by_cases hf : f ≤ 0
   · obtain rfl := Nat.le_zero.1 hf
     rw [if_pos hf] at h
     unfold subL at h
     split at h
     · rename_i h2
       refine ⟨kd, cs, rfl, by omega, ?_⟩
       have := Option.some.inj h
       rw [Nat.sub_self, List.drop_zero] at this
       exact this
     · cases h
   · rw [if_neg hf] at h; cases h
end Go.Ev
namespace Go.Proofs.YtpcjmmdgopihcaaGreatDoor
open Go Go.Ev Go.Proofs
theorem perm_ok {M : Hp} {a : List Nat} (h : Ln 25 a) (hk : KonR M) (hm : marksOf M = []) : CallsV Tryz.prog 83 [.agg (lnC a).toArray] M (Ret0 (.agg (lnC (permK a)).toArray)) := by
 obtain ⟨kd, cs, he, hcl, hct⟩ := hk.open
 rw [permK_eq]
 have l2 := h.cl
 refine callsO gI0_ok Tryz.mix Tryz.pl83 Tryz.func83 rfl Tryz.ntmps83 Tryz.results83 rfl (by first | rfl | assumption) (Nat.le_of_ble_eq_true rfl) (by kernel_rfl) ?_
 simp only [push_cast, Nat.reduceAdd, Nat.reduceSub, Nat.reduceMul, Nat.reduceLT, Nat.reduceLeDiff, Nat.reduceEqDiff, Nat.reduceMod, Nat.reduceDiv, Int.reduceAdd, Int.reduceSub, Int.reduceMul, Int.reduceLT, Int.reduceLE, Int.reduceEq, Int.reduceNeg, Int.reduceToNat, reduceIte, reduceCtorEq, Int.reduceBEq, Int.reduceBNe]
 intro b1 hb1 b2 hb2
 have d1 := (fresh_findS hb1 he).2
 have d2 := (fresh_findS hb2.2.2 he).2
 try simp only [push_cast, Nat.reduceAdd, Nat.reduceSub, Nat.reduceMul, Nat.reduceLT, Nat.reduceLeDiff, Nat.reduceEqDiff, Nat.reduceMod, Nat.reduceDiv, Int.reduceAdd, Int.reduceSub, Int.reduceMul, Int.reduceLT, Int.reduceLE, Int.reduceEq, Int.reduceNeg, Int.reduceToNat, reduceIte, reduceCtorEq, Int.reduceBEq, Int.reduceBNe, hb1, hb2, he, d1, d2, hcl, hct]
 refine loopO gI0_ok (pl := Tryz.pl83) Tryz.mix (X := Nat)
  (fun k => ([(1, .pointer (some ⟨b1, 0, none⟩)), (2, .pointer (some ⟨b2, 0, none⟩)), (5, .agg (lnC consK).toArray), (6, .int .i64 k)], ⟨b2, 0, .cel 114, lnC (List.replicate 25 0)⟩ :: ⟨b1, 0, .cel 114, lnC (pmS a k)⟩ :: M))
  (fun k => k ≤ 24) (fun k => 24 - k) 0 ?_ ?_ (by kernel_rfl) ?_
 · exact Nat.zero_le _
 · simp only [push_cast, Nat.reduceAdd, Nat.reduceSub, Nat.reduceMul, Nat.reduceLT, Nat.reduceLeDiff, Nat.reduceEqDiff, Nat.reduceMod, Nat.reduceDiv, Int.reduceAdd, Int.reduceSub, Int.reduceMul, Int.reduceLT, Int.reduceLE, Int.reduceEq, Int.reduceNeg, Int.reduceToNat, reduceIte, reduceCtorEq, Int.reduceBEq, Int.reduceBNe, hb2]
   exact ⟨rfl, rfl⟩
 · intro k hk2
   have hA := pmS_ln h k
   by_cases hc : k < 24
   · have hst : pmS a (k + 1) = (chiK (turnK (thetaK (pmS a k)))).set 0 (xorN (ln (chiK (turnK (thetaK (pmS a k)))) 0) (ln consK k)) := rfl
     have k1 : (k : Int) < 24 := by omega
     have k0 : (0 : Int) ≤ k := by omega
     have k3 : k + 1 ≤ 24 := by omega
     have c0 := lnC_get (a := consK) (i := k) hc
     have cl := lnC_len consK
     have c1 := consK_at k
     obtain ⟨cs0, hcs0⟩ : ∃ x, x = lnC consK := ⟨_, rfl⟩
     obtain ⟨ck, hck⟩ : ∃ x, x = ln consK k := ⟨_, rfl⟩
     rw [← hcs0, ← hck] at c0
     rw [← hcs0] at cl ⊢
     rw [← hck] at c1 hst
     have cl2 : cs0.length = 24 := cl.trans rfl
     obtain ⟨A, hAe⟩ : ∃ A, A = pmS a k := ⟨_, rfl⟩
     rw [← hAe] at hA hst ⊢
     have hB := thetaK_ln hA
     have hC := turnK_ln hB
     have hD := chiK_ln hC
     simp only [push_cast, Nat.reduceAdd, Nat.reduceSub, Nat.reduceMul, Nat.reduceLT, Nat.reduceLeDiff, Nat.reduceEqDiff, Nat.reduceMod, Nat.reduceDiv, Int.reduceAdd, Int.reduceSub, Int.reduceMul, Int.reduceLT, Int.reduceLE, Int.reduceEq, Int.reduceNeg, Int.reduceToNat, reduceIte, reduceCtorEq, Int.reduceBEq, Int.reduceBNe, hb1, hb2, hc, k0, k1, k3, c0, cl2, hA.cl, lnC_take hA]
     refine (theta_ok hA).pure trivial ?_
     simp only [push_cast, Nat.reduceAdd, Nat.reduceSub, Nat.reduceMul, Nat.reduceLT, Nat.reduceLeDiff, Nat.reduceEqDiff, Nat.reduceMod, Nat.reduceDiv, Int.reduceAdd, Int.reduceSub, Int.reduceMul, Int.reduceLT, Int.reduceLE, Int.reduceEq, Int.reduceNeg, Int.reduceToNat, reduceIte, reduceCtorEq, Int.reduceBEq, Int.reduceBNe, hb1, hb2]
     refine (turn_ok hB).pure trivial ?_
     simp only [push_cast, Nat.reduceAdd, Nat.reduceSub, Nat.reduceMul, Nat.reduceLT, Nat.reduceLeDiff, Nat.reduceEqDiff, Nat.reduceMod, Nat.reduceDiv, Int.reduceAdd, Int.reduceSub, Int.reduceMul, Int.reduceLT, Int.reduceLE, Int.reduceEq, Int.reduceNeg, Int.reduceToNat, reduceIte, reduceCtorEq, Int.reduceBEq, Int.reduceBNe, hb1, hb2]
     refine (chi_ok hC).pure trivial ?_
     have d0 := lnC_at (a := chiK (turnK (thetaK A))) (i := 0) (by rw [hD.len]; decide)
     have d9 := lnC_set (a := chiK (turnK (thetaK A))) (i := 0) (x := xorN (ln (chiK (turnK (thetaK A))) 0) ck) (by rw [hD.len]; decide)
     rw [List.drop_zero] at d0
     rw [List.take_zero, List.nil_append] at d9
     have d3 := xor_u64 (hD.at 0) c1
     simp only [push_cast, Nat.reduceAdd, Nat.reduceSub, Nat.reduceMul, Nat.reduceLT, Nat.reduceLeDiff, Nat.reduceEqDiff, Nat.reduceMod, Nat.reduceDiv, Int.reduceAdd, Int.reduceSub, Int.reduceMul, Int.reduceLT, Int.reduceLE, Int.reduceEq, Int.reduceNeg, Int.reduceToNat, reduceIte, reduceCtorEq, Int.reduceBEq, Int.reduceBNe, hb1, hb2, hA.cl, hD.cl, lnC_one, lnC_drop hA, List.append_nil, d0, d3, wrap_i64' (show -9223372036854775808 ≤ (k : Int) + 1 ∧ (k : Int) + 1 ≤ 9223372036854775807 by omega)]
     exact ⟨k + 1, hc, by omega, rfl, by rw [hst, ← d9]⟩
   · obtain rfl : k = 24 := by omega
     have t1 : ¬ ((24 : Nat) : Int) < 24 := by omega
     simp only [push_cast, Nat.reduceAdd, Nat.reduceSub, Nat.reduceMul, Nat.reduceLT, Nat.reduceLeDiff, Nat.reduceEqDiff, Nat.reduceMod, Nat.reduceDiv, Int.reduceAdd, Int.reduceSub, Int.reduceMul, Int.reduceLT, Int.reduceLE, Int.reduceEq, Int.reduceNeg, Int.reduceToNat, reduceIte, reduceCtorEq, Int.reduceBEq, Int.reduceBNe, hb1, hb2, hc, t1, hA.cl, lnC_take hA, lnC_one, (Ln.zero 25).cl, lnC_drop (Ln.zero 25), List.append_nil]
end Go.Proofs.YtpcjmmdgopihcaaGreatDoor
namespace Go.Ev
theorem trod_int_inv {H : Type} {enc : TypeId × Value → H} {P : Program} {w : World} {base : Nat} {sp : Nat → Bool} {held : Bool} {fuel : Nat} {e : TypeId} {k : IntKind} {cs : List Value} {n : Int} {p : List MemPlace}
  (he : P.underlying e = some (.int k)) (h : DataW.trod enc P w base sp held fuel e cs = some (.lit (.int k n), p)) : cs = [.int k n] := by
 cases fuel with
 | zero => simp [DataW.trod] at h
 | succ f =>
   unfold DataW.trod at h
   rw [he] at h
   split at h <;> first | cases h | skip
   all_goals try (rename_i heq; cases heq)
   all_goals try (split at h <;> first | cases h | skip)
   all_goals first | (rename_i hh; obtain ⟨rfl, _⟩ := hh; rfl) | skip
theorem trod_ints_inv {H : Type} {enc : TypeId × Value → H} {P : Program} {w : World} {base : Nat} {sp : Nat → Bool} {held : Bool} {fuel : Nat} {t e : TypeId} {N : Nat} {k : IntKind} {cs : List Value} {ns : List Int} {p : List MemPlace}
  (ht : P.underlying t = some (.array N e)) (he : P.underlying e = some (.int k)) (hc : P.cellsOf e = 1) (hn : P.cellsOf t = N)
  (h : DataW.trod enc P w base sp held fuel t cs = some (.agg (ns.map fun n => .lit (.int k n)), p)) : cs = ns.map fun n => .int k n := by
 cases fuel with
 | zero => simp [DataW.trod] at h
 | succ f =>
   unfold DataW.trod at h
   rw [ht] at h
   dsimp only at h
   split at h
   case isFalse => cases h
   rename_i hl
   obtain ⟨xs, hxs, hx⟩ := Option.map_eq_some_iff.1 h
   injection hx with hx1 hx2
   injection hx1 with hx1
   have hlen := mapM_some_length hxs
   rw [List.length_range] at hlen
   have hl2 : ns.length = N := by
    have h9 := congrArg List.length hx1
    rw [List.length_map, List.length_map] at h9
    omega
   refine List.ext_getElem (by rw [List.length_map, hl2, hl, hn]) fun i h1 h2 => ?_
   have hiN : i < N := by rw [hl, hn] at h1; exact h1
   have hg := mapM_some_get hxs i i (by simp [hiN])
   have hxi : xs[i]? = some xs[i] := List.getElem?_eq_getElem (by omega)
   rw [hxi, hc, Nat.mul_one] at hg
   have hfst : (xs[i]'(by omega)).1 = .lit (.int k (ns[i]'(by omega))) := by
    have := congrArg (fun l => l[i]?) hx1
    simp only [List.getElem?_map, hxi, List.getElem?_eq_getElem (show i < ns.length by omega), Option.map_some, Option.some.injEq] at this
    exact this
   obtain ⟨q, hq⟩ : ∃ q, xs[i]'(by omega) = (.lit (.int k (ns[i]'(by omega))), q) := ⟨_, Prod.ext hfst rfl⟩
   rw [hq] at hg
   have h3 := trod_int_inv he hg
   have h4 : List.take 1 (List.drop i cs) = [cs[i]] := by
    rw [List.drop_eq_getElem_cons h1]; rfl
   rw [h4] at h3
   injection h3 with h3
   rw [h3, List.getElem_map]
theorem laidVars_mem {P : Program} {w : World} : ∀ {l : List (String × DataW Unit)} {ps : List MemPlace}, DataW.LaidVars P w l ps → ∀ x ∈ l, ∃ g t cs fuel p, P.globalNamed x.1 = some g ∧ (P.globals[g]?).map (·.type) = some t ∧ w.var? P x.1 = some cs ∧ DataW.trod (fun _ => ()) P w 0 (fun _ => true) false fuel t cs.toList = some (x.2, p)
 | [], _, _, x, hx => by cases hx
 | (n, d) :: r, ps, h, x, hx => by
   obtain ⟨g, t, cs, fuel, p, q, h1, h2, h3, h4, h5, -⟩ := h
   rcases List.mem_cons.1 hx with rfl | hx
   · exact ⟨g, t, cs, fuel, p, h1, h2, h3, h4⟩
   · exact laidVars_mem h5 x hx
end Go.Ev
namespace Go.Ev
open Go.ChangeShapes Go.WideShapes Go.ChangeAt Go.RowKit
section
variable {H : Type} {enc : TypeId × Value → H} {P : Program} {w : World} {base : Nat} {spare : Nat → Bool} {held : Bool} {T : TypeId → Prop}
theorem slice_of_cells (K : Kids P T) {d fuel : Nat} {t e : TypeId} {ks : List FK} {cs : List Value} {x : DataW H × List MemPlace} (ht : P.underlying t = some (.slice e)) (hT : T t) (hks : flatT P d e = some ks) (hpos : 0 < P.cellsOf e)
  (hf : DataW.trod enc P w base spare held fuel t cs = some x) : ∃ (p : Option Addr) (len cap : Nat) (f : Nat → List Value), cs = [.slice p len cap] ∧ len ≤ cap ∧ cap ≤ maxLen ∧ (∀ i, i < len → All2 FK.ok ks (f i)) ∧
   (len = 0 ∨ ∃ b o, p = some ⟨b, o, none⟩ ∧ cellsAt (roW w) b o (len * P.cellsOf e) = some ((List.range len).flatMap f)) := by
 obtain ⟨dd, ps⟩ := x
 rcases Deep.open_slice ht hf with ⟨h1, _⟩ | ⟨a', len, cap, m, n, D, Pl, h1, hb, hl, hm, hmm, _, hx⟩
 · exact ⟨none, 0, 0, fun _ => [], h1, Nat.le_refl _, Nat.zero_le _, fun i hi => absurd hi (Nat.not_lt_zero _), .inl rfl⟩
 · have hlm : len ≤ m := by rw [hmm]; split <;> omega
   obtain ⟨f, hf⟩ := Deep.choose_lt (α := List Value) (n := len) (p := fun i cs' => w.cells? base (a'.add (i * P.cellsOf e)) (P.cellsOf e) = some cs' ∧ All2 FK.ok ks cs') fun i hi => by
    obtain ⟨cs', h2, h3⟩ := hx i (by omega)
    exact ⟨cs', h2, flat_of_trod K d (K.slice hT ht) hks h3⟩
   refine ⟨some a', len, cap, f, h1, hl, hm, fun i hi => (hf i hi).2, ?_⟩
   rcases Nat.eq_zero_or_pos len with h0 | h0
   · exact .inl h0
   · obtain ⟨h4, h5⟩ := roW_row f hpos (fun i hi => (hf i hi).1) h0
     refine .inr ⟨a'.block, a'.off, ?_, h5⟩
     rw [← h4]
theorem liR_of_cells (K : Kids P T) {α : Type} {c : α → List Value} {s d fuel : Nat} {t e : TypeId} {ks : List FK} {cs : List Value} {x : DataW H × List MemPlace} (Q : α → Prop) (hc : ∀ cs, All2 FK.ok ks cs → ∃ y, cs = c y ∧ Q y) (ht : P.underlying t = some (.slice e)) (hT : T t) (hks : flatT P d e = some ks) (hpos : 0 < s) (hs : P.cellsOf e = s)
  (hf : DataW.trod enc P w base spare held fuel t cs = some x) : ∃ l p cap, cs = [.slice p l.length cap] ∧ LiR c s (roW w) l (.slice p l.length cap) ∧ l.length ≤ cap ∧ cap ≤ maxLen ∧ ∀ y ∈ l, Q y := by
 obtain ⟨p, len, cap, f, rfl, hl, hm, hf, hcc⟩ := slice_of_cells K ht hT hks (by omega) hf
 by_cases h0 : len = 0
 · subst h0
   exact ⟨[], p, cap, rfl, ⟨p, cap, rfl, .inl rfl⟩, hl, hm, fun y hy => by cases hy⟩
 obtain ⟨y0, _, _⟩ := hc _ (hf 0 (Nat.pos_of_ne_zero h0))
 haveI : Inhabited α := ⟨y0⟩
 obtain ⟨g, hg⟩ := Deep.choose_lt (α := α) (n := len) (p := fun i y => f i = c y ∧ Q y) fun i hi => hc _ (hf i hi)
 refine ⟨(List.range len).map g, p, cap, by simp, ⟨p, cap, by simp, ?_⟩, by simpa using hl, hm, fun y hy => ?_⟩
 · rcases hcc with rfl | ⟨b, o, rfl, hcc⟩
   · exact .inl rfl
   · refine .inr ⟨b, o, rfl, ?_⟩
     rw [hs] at hcc
     simp only [List.length_map, List.length_range]
     rw [hcc, List.flatMap_map, List.flatMap_def, List.flatMap_def]
     congr 2
     exact List.map_congr_left fun i hi => (hg i (List.mem_range.1 hi)).1
 · obtain ⟨i, hi, rfl⟩ := List.mem_map.1 hy
   exact (hg i (List.mem_range.1 hi)).2
theorem All2.split {α β : Type} {r : α → β → Prop} : ∀ {l l' : List α} {m : List β}, All2 r (l ++ l') m → ∃ m1 m2, m = m1 ++ m2 ∧ All2 r l m1 ∧ All2 r l' m2
 | [], _, m, h => ⟨[], m, rfl, .nil, h⟩
 | x :: l, l', _, h => by
   cases h with
   | cons a h =>
     obtain ⟨m1, m2, rfl, h1, h2⟩ := All2.split h
     exact ⟨_, m2, rfl, .cons a h1, h2⟩
theorem u8_wf {n : Int} (h : (Lit.int .u8 n).wf = true) : ∃ m : UInt8, n = m.toNat := by
 simp [Lit.wf, IntKind.min, IntKind.max, IntKind.signed, IntKind.bits] at h
 refine ⟨UInt8.ofNat n.toNat, ?_⟩
 rw [UInt8.toNat_ofNat']
 omega
theorem bytes_cells : ∀ {n : Nat} {cs : List Value}, All2 FK.ok (List.replicate n (.int .u8)) cs → ∃ l : List UInt8, l.length = n ∧ cs = byteV l
 | 0, _, h => by cases h; exact ⟨[], rfl, rfl⟩
 | n + 1, _, h => by
   rw [List.replicate_succ] at h
   cases h with
   | cons a h =>
     obtain ⟨x, rfl, wx⟩ := a
     obtain ⟨y, rfl⟩ := u8_wf wx
     obtain ⟨l, rfl, rfl⟩ := bytes_cells h
     exact ⟨y :: l, rfl, rfl⟩
end
end Go.Ev
namespace Go.Proofs.YtpcjmmdgopihcaaGreatDoor
open Go Go.Ev Go.Proofs Go.ChangeShapes Go.WideShapes Go.ChangeAt Go.RowKit
theorem r4_cells {cs : List Value} (h : All2 FK.ok [.int .i64, .int .i64, .int .i64, .int .i64] cs) : ∃ x : R4, cs = x.cells ∧ x.In := by
 cases h with
 | cons a0 h =>
   cases h with
   | cons a1 h =>
     cases h with
     | cons a2 h =>
       cases h with
       | cons a3 h =>
         cases h
         obtain ⟨x0, rfl, w0⟩ := a0
         obtain ⟨x1, rfl, w1⟩ := a1
         obtain ⟨x2, rfl, w2⟩ := a2
         obtain ⟨x3, rfl, w3⟩ := a3
         exact ⟨⟨x0, x1, x2, x3⟩, rfl, i64_wf w0, i64_wf w1, i64_wf w2, i64_wf w3⟩
theorem raw4_of {H : Type} {enc : TypeId × Value → H} {W0 : World} {r : Reach} {b0 base : Nat} {spare : Nat → Bool} {held : Bool} {v : Value} {dd : DataW H} {ps : List MemPlace} (hval : Value.okWide Tryz.prog W0 r b0 23 v)
  (h : DataW.Trod enc Tryz.prog W0 base spare held 23 v dd ps) : ∃ l, LiR R4.cells 4 (roW W0) l v ∧ ∀ x ∈ l, x.In := by
 have hu : Tryz.prog.underlying 23 = some (.slice 34) := by kernel_rfl
 obtain ⟨a, len, cap, rfl⟩ := okWide_slice hu hval
 obtain ⟨fuel, hf⟩ := h
 obtain ⟨l, p, k, g, r0, _, _, q⟩ := liR_of_cells kids (c := R4.cells) (s := 4) (d := 8) (e := 34) (ks := [.int .i64, .int .i64, .int .i64, .int .i64]) _ (fun _ => r4_cells) hu (by show _ < _; decide +kernel) (by kernel_rfl) (by decide) (by decide +kernel) hf
 simp only [Value.cells, List.cons.injEq, Value.slice.injEq, and_true] at g
 obtain ⟨rfl, rfl, rfl⟩ := g
 exact ⟨l, r0, q⟩
theorem int4_of {H : Type} {enc : TypeId × Value → H} {W0 : World} {r : Reach} {b0 base : Nat} {spare : Nat → Bool} {held : Bool} {v : Value} {dd : DataW H} {ps : List MemPlace} (hval : Value.okWide Tryz.prog W0 r b0 34 v)
  (h : DataW.Trod enc Tryz.prog W0 base spare held 34 v dd ps) : ∃ w : R4, v = w.v ∧ w.In := by
 obtain ⟨w, hw, hi⟩ := r4_cells (flat_of_Trod kids (d := 8) (ks := [.int .i64, .int .i64, .int .i64, .int .i64]) (by show _ < _; decide +kernel) (by kernel_rfl) h)
 obtain ⟨e, hu⟩ : ∃ e, Tryz.prog.underlying 34 = some (.array 4 e) := ⟨3, by kernel_rfl⟩
 simp only [Value.okWide, hu] at hval
 obtain ⟨cs, rfl, h2, _⟩ := hval
 refine ⟨w, ?_, hi⟩
 show Value.agg cs = .agg w.cells.toArray
 rw [← hw]
 rfl
theorem konR_of {W : World} {laid : List (String × DataW Unit)} (h : laidMetH Tryz.prog laid W) (hp : (laid.all fun x => x.2.handleName?.isNone) = true) (hm : ("railhead/keccak.constants", Rows.laid_railhead_keccak_constants) ∈ laid) : KonR (roW W) := by
 rw [MakeChecks.laidMetH_plain _ _ _ hp] at h
 obtain ⟨ps, h1, -, -⟩ := h
 obtain ⟨g, t, cs, fuel, p, hg, ht, hv, hd⟩ := laidVars_mem h1 _ hm
 have hg0 : Tryz.prog.globalNamed "railhead/keccak.constants" = some 0 := by kernel_rfl
 dsimp only at hg hv hd
 rw [hg0] at hg
 cases hg
 have ht0 : ((Tryz.prog.globals[0]?).map (·.type)) = some 135 := by kernel_rfl
 rw [ht0] at ht
 cases ht
 have hd2 : DataW.trod (fun _ => ()) Tryz.prog W 0 (fun _ => true) false fuel 135 cs.toList = some (.agg ((consK.map (fun n : Nat => (n : Int))).map fun n => .lit (.int .u64 n)), p) := hd
 have hcs := trod_ints_inv (e := 26) (N := 24) (by kernel_rfl) (by kernel_rfl) (by kernel_rfl) (by kernel_rfl) hd2
 unfold World.var? at hv
 rw [hg0] at hv
 simp only [Option.bind_some] at hv
 unfold KonR cellsAt
 cases hh : W.heap[0]? with
 | none => rw [hh] at hv; cases hv
 | some o =>
   have hlt : 0 < W.heap.size := (Array.getElem?_eq_some_iff.1 hh).1
   rw [hh] at hv
   cases o <;> first | cases hv | skip
   rw [roW_find hlt]
   unfold blkE
   rw [hh]
   dsimp only
   rw [hcs, if_pos (Nat.le_refl _)]
   simp only [Nat.sub_self]
   rfl
end Go.Proofs.YtpcjmmdgopihcaaGreatDoor
