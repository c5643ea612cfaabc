/- Wi: the document's words: Add, Sub. -/
import Derived.Test.YtndioekjgmbomaaDoorWh
set_option linter.unusedSimpArgs false
set_option linter.unusedVariables false
namespace Go.Ev
/-- 32 numbers, told by a function -/
noncomputable def mapL : (Nat → Int) → List Int := hid fun f => (List.range 32).map f
theorem mapL_eq (f : Nat → Int) : mapL f = (List.range 32).map f := by unfold mapL; rw [hid_eq]
theorem mapL_len (f : Nat → Int) : (mapL f).length = 32 := by rw [mapL_eq, List.length_map, List.length_range]
theorem mapL_zlen (f : Nat → Int) : (zs (mapL f)).length = 32 := by rw [zs_len, mapL_len]
theorem mapL_getD (f : Nat → Int) {i : Nat} (h : i < 32) : (mapL f).getD i 0 = f i := by
  rw [mapL_eq, List.getD_eq_getElem?_getD, List.getElem?_map, List.getElem?_range h]; rfl
theorem mapL_at (f : Nat → Int) {i : Nat} (h : i < 32) : List.take 1 (List.drop i (zs (mapL f))) = [.int .i64 (f i)] := by
  rw [zs_at _ (by rw [mapL_len]; exact h), mapL_getD f h]
theorem digs_map (n : Nat) : digs n 32 = mapL fun j => ((digN n j : Nat) : Int) := by rw [mapL_eq]; rfl
theorem mapL_bnd {f : Nat → Int} {B : Int} (hB : 0 ≤ B) (h : ∀ j, j < 32 → -B ≤ f j ∧ f j ≤ B) (i : Nat) : -B ≤ (mapL f).getD i 0 ∧ (mapL f).getD i 0 ≤ B := by
  rcases Nat.lt_or_ge i 32 with hi | hi
  · rw [mapL_getD f hi]; exact h i hi
  · rw [List.getD_eq_getElem?_getD, List.getElem?_eq_none (by rw [mapL_len]; exact hi)]
    exact ⟨by show -B ≤ 0; omega, hB⟩
theorem mapL_take (f : Nat → Int) : List.take 32 (zs (mapL f)) = zs (mapL f) := List.take_of_length_le (by rw [mapL_zlen]; exact Nat.le_refl _)
theorem zdigs_len (n : Nat) : (zs (digs n 32)).length = 32 := by rw [zs_len, digs_len]
theorem zdigs_take (n : Nat) : List.take 32 (zs (digs n 32)) = zs (digs n 32) := List.take_of_length_le (by rw [zdigs_len]; exact Nat.le_refl _)
def updF (f : Nat → Int) (i : Nat) (v : Int) : Nat → Int := fun j => if j = i then v else f j
theorem mapL_set (f : Nat → Int) {i : Nat} (h : i < 32) (v : Int) : List.take i (zs (mapL f)) ++ .int .i64 v :: List.drop (i + 1) (zs (mapL f)) = zs (mapL (updF f i v)) := by
  have hl := mapL_zlen f
  refine List.ext_getElem? fun j => ?_
  have hz : ∀ g : Nat → Int, (zs (mapL g))[j]? = if j < 32 then some (.int .i64 (g j)) else none := by
    intro g
    unfold zs
    rw [mapL_eq, List.getElem?_map, List.getElem?_map]
    split
    · rename_i h1; rw [List.getElem?_range h1]; rfl
    · rename_i h1; rw [List.getElem?_eq_none (by simpa using h1)]; rfl
  rw [hz]
  have ht : (List.take i (zs (mapL f))).length = i := by rw [List.length_take, hl]; omega
  rcases Nat.lt_trichotomy j i with h1 | rfl | h1
  · rw [List.getElem?_append_left (by omega), List.getElem?_take_of_lt h1, hz, if_pos (by omega), if_pos (by omega)]
    unfold updF; rw [if_neg (by omega : ¬ j = i)]
  · rw [List.getElem?_append_right (by omega), ht, Nat.sub_self, List.getElem?_cons_zero, if_pos h]
    unfold updF; rw [if_pos rfl]
  · rw [List.getElem?_append_right (by omega), ht, show j - i = (j - i - 1) + 1 by omega, List.getElem?_cons_succ, List.getElem?_drop, show i + 1 + (j - i - 1) = j by omega, hz]
    unfold updF; rw [if_neg (by omega : ¬ j = i)]
/-- what they come to -/
def sumF (f : Nat → Int) : Nat → Int
  | 0 => 0
  | i + 1 => sumF f i + f i * 256 ^ i
theorem sumI_map (f : Nat → Int) : ∀ {k : Nat}, k ≤ 32 → sumI (mapL f) k = sumF f k
  | 0, _ => rfl
  | k + 1, h => by
    show sumI (mapL f) k + (mapL f).getD k 0 * 256 ^ k = sumF f k + f k * 256 ^ k
    rw [sumI_map f (by omega), mapL_getD f (by omega)]
theorem sumF_add {f g h : Nat → Int} (e : ∀ j, h j = f j + g j) : ∀ k, sumF h k = sumF f k + sumF g k
  | 0 => rfl
  | k + 1 => by
    show sumF h k + h k * 256 ^ k = (sumF f k + f k * 256 ^ k) + (sumF g k + g k * 256 ^ k)
    rw [sumF_add e k, e k, Int.add_mul]; omega
theorem sumF_sub {f g h : Nat → Int} (e : ∀ j, h j = f j - g j) : ∀ k, sumF h k = sumF f k - sumF g k
  | 0 => rfl
  | k + 1 => by
    show sumF h k + h k * 256 ^ k = (sumF f k + f k * 256 ^ k) - (sumF g k + g k * 256 ^ k)
    rw [sumF_sub e k, e k, Int.sub_mul]; omega
theorem sumF_congr {f g : Nat → Int} : ∀ {k : Nat}, (∀ j, j < k → f j = g j) → sumF f k = sumF g k
  | 0, _ => rfl
  | k + 1, e => by
    show sumF f k + f k * 256 ^ k = sumF g k + g k * 256 ^ k
    rw [sumF_congr (fun j hj => e j (by omega)), e k (by omega)]
theorem sumF_digs (n : Nat) : ∀ k, sumF (fun j => ((digN n j : Nat) : Int)) k = ((n % 256 ^ k : Nat) : Int)
  | 0 => by rw [Nat.pow_zero, Nat.mod_one]; rfl
  | k + 1 => by
    show sumF _ k + ((digN n k : Nat) : Int) * 256 ^ k = _
    rw [sumF_digs n k, Nat.pow_succ, Nat.mod_mul, digN_eq, Int.natCast_add, Int.natCast_mul, Int.natCast_pow, Int.mul_comm]; rfl
theorem sumF_word (w : W) : sumF (fun j => ((digN w.num j : Nat) : Int)) 32 = (w.num : Int) := by
  rw [sumF_digs, Nat.mod_eq_of_lt (Nat.lt_of_lt_of_le w.num_lt (by decide))]
theorem of_word (n : Nat) : W.of (word (n : Int)) = W.of n := W.of_eq (by rw [word_eq]; omega)
theorem of_word_sub (x y : W) : W.of (word ((x.num : Int) - (y.num : Int))) = W.of (x.num + 115792089237316195423570985008687907853269984665640564039457584007913129639936 - y.num) := by
  have := x.num_lt; have := y.num_lt
  refine W.of_eq ?_
  rw [word_eq]
  omega
end Go.Ev
namespace Go.Proofs.YtndioekjgmbomaaDoor
open Go Go.Ev Go.Proofs
set_option maxRecDepth 100000
set_option maxHeartbeats 4000000
theorem fromCarried (m b c : Nat) : CallsV Tryd.prog 35 [.slice (some ⟨b, 0, none⟩) 32 c] [⟨b, 0, .ro, zs (digs m 32)⟩] (Ret0 (W.of m).v) := fromDigits_ok m 32 b c (by decide) (.inl (Nat.le_refl _))
noncomputable def mixA (x y : W) (i : Nat) : Nat → Int := fun j => if j < i then ((digN x.num j : Nat) : Int) + ((digN y.num j : Nat) : Int) else ((digN x.num j : Nat) : Int)
theorem mixA_zero (x y : W) : digs x.num 32 = mapL (mixA x y 0) := by rw [digs_map]; rfl
theorem mixA_succ (x y : W) (i : Nat) : updF (mixA x y i) i (((digN x.num i : Nat) : Int) + ((digN y.num i : Nat) : Int)) = mixA x y (i + 1) := by
  funext j
  unfold updF mixA
  by_cases h : j = i
  · subst h; rw [if_pos rfl, if_pos (by omega)]
  · rw [if_neg h]
    by_cases h2 : j < i
    · rw [if_pos h2, if_pos (by omega)]
    · rw [if_neg h2, if_neg (by omega)]
theorem mixA_at (x y : W) (i : Nat) : mixA x y i i = ((digN x.num i : Nat) : Int) := by unfold mixA; rw [if_neg (Nat.lt_irrefl _)]
theorem mixA_sum (x y : W) : W.of (word (sumI (mapL (mixA x y 32)) 32)) = W.of (x.num + y.num) := by
  rw [sumI_map _ (Nat.le_refl _)]
  have : sumF (mixA x y 32) 32 = ((x.num + y.num : Nat) : Int) := by
    rw [Int.natCast_add, ← sumF_word x, ← sumF_word y, ← sumF_add (h := fun j => ((digN x.num j : Nat) : Int) + ((digN y.num j : Nat) : Int)) (fun j => rfl)]
    refine sumF_congr fun j hj => ?_
    unfold mixA; rw [if_pos hj]
  rw [this, of_word]
theorem refAdd (x y : W) : CallsV Tryd.prog 14 [x.v, y.v] [] (Ret0 (W.of (x.num + y.num)).v) := by
  obtain ⟨R, hR⟩ : ∃ R, R = W.of (x.num + y.num) := ⟨_, rfl⟩
  rw [← hR]
  refine callsO (noG_ok _) Tryd.mix Tryd.pl14 Tryd.func14 rfl Tryd.ntmps14 Tryd.results14 rfl (by first | rfl | assumption) (Nat.le_of_ble_eq_true rfl) (by kernel_rfl) ?_
  simp only [push_cast, Nat.reduceAdd, Nat.reduceSub, Nat.reduceMul, Nat.reduceLT, Nat.reduceLeDiff, Nat.reduceEqDiff, Nat.reduceMod, Nat.reduceDiv, Int.reduceAdd, Int.reduceSub, Int.reduceMul, Int.reduceLT, Int.reduceLE, Int.reduceEq, Int.reduceNeg, Int.reduceToNat, reduceIte, reduceCtorEq]
  intro b2 b3 hb3 b4 hb4
  simp only [push_cast, Nat.reduceAdd, Nat.reduceSub, Nat.reduceMul, Nat.reduceLT, Nat.reduceLeDiff, Nat.reduceEqDiff, Nat.reduceMod, Nat.reduceDiv, Int.reduceAdd, Int.reduceSub, Int.reduceMul, Int.reduceLT, Int.reduceLE, Int.reduceEq, Int.reduceNeg, Int.reduceToNat, reduceIte, reduceCtorEq, hb3, hb4]
  refine (digits_ok x).use trivial fun v1 N1 ho1 => ⟨ho1.wr.1, ho1.wr.2, fun hf1 => ?_⟩
  obtain ⟨bx, cx, rfl, hcx, -, rfl⟩ := ho1.pos (by decide)
  simp only [push_cast, Nat.reduceAdd, Nat.reduceSub, Nat.reduceMul, Nat.reduceLT, Nat.reduceLeDiff, Nat.reduceEqDiff, Nat.reduceMod, Nat.reduceDiv, Int.reduceAdd, Int.reduceSub, Int.reduceMul, Int.reduceLT, Int.reduceLE, Int.reduceEq, Int.reduceNeg, Int.reduceToNat, reduceIte, reduceCtorEq] at hf1
  simp only [push_cast, Nat.reduceAdd, Nat.reduceSub, Nat.reduceMul, Nat.reduceLT, Nat.reduceLeDiff, Nat.reduceEqDiff, Nat.reduceMod, Nat.reduceDiv, Int.reduceAdd, Int.reduceSub, Int.reduceMul, Int.reduceLT, Int.reduceLE, Int.reduceEq, Int.reduceNeg, Int.reduceToNat, reduceIte, reduceCtorEq, hb3, hb4, hf1]
  refine (digits_ok y).use trivial fun v2 N2 ho2 => ⟨ho2.wr.1, ho2.wr.2, fun hf2 => ?_⟩
  obtain ⟨by', cy, rfl, hcy, -, rfl⟩ := ho2.pos (by decide)
  simp only [push_cast, Nat.reduceAdd, Nat.reduceSub, Nat.reduceMul, Nat.reduceLT, Nat.reduceLeDiff, Nat.reduceEqDiff, Nat.reduceMod, Nat.reduceDiv, Int.reduceAdd, Int.reduceSub, Int.reduceMul, Int.reduceLT, Int.reduceLE, Int.reduceEq, Int.reduceNeg, Int.reduceToNat, reduceIte, reduceCtorEq] at hf2
  simp only [push_cast, Nat.reduceAdd, Nat.reduceSub, Nat.reduceMul, Nat.reduceLT, Nat.reduceLeDiff, Nat.reduceEqDiff, Nat.reduceMod, Nat.reduceDiv, Int.reduceAdd, Int.reduceSub, Int.reduceMul, Int.reduceLT, Int.reduceLE, Int.reduceEq, Int.reduceNeg, Int.reduceToNat, reduceIte, reduceCtorEq, hb3, hb4, hf1, hf2]
  rw [mixA_zero x y, digs_map]
  refine loopO (noG_ok _) (pl := Tryd.pl14) Tryd.mix (X := Nat)
    (fun i => ([(4, .pointer (some ⟨b4, 0, none⟩)), (5, .slice (some ⟨bx, 0, none⟩) 32 cx), (6, .slice (some ⟨by', 0, none⟩) 32 cy), (7, .int .i64 i)],
      [⟨by', 0, .vec 3 1 cy, zs (mapL fun j => ((digN y.num j : Nat) : Int))⟩, ⟨bx, 0, .vec 3 1 cx, zs (mapL (mixA x y i))⟩, ⟨b4, 0, .cel 24, [.int .u64 0, .int .u64 0, .int .u64 0, .int .u64 0]⟩]))
    (fun i => i ≤ 32) (fun i => 32 - i) 0 ?_ ?_ (by kernel_rfl) ?_
  · decide
  · simp only [push_cast, Nat.reduceAdd, Nat.reduceSub, Nat.reduceMul, Nat.reduceLT, Nat.reduceLeDiff, Nat.reduceEqDiff, Nat.reduceMod, Nat.reduceDiv, Int.reduceAdd, Int.reduceSub, Int.reduceMul, Int.reduceLT, Int.reduceLE, Int.reduceEq, Int.reduceNeg, Int.reduceToNat, reduceIte, reduceCtorEq, hb3, hb4, hf1, hf2]
    done
  · intro i hi
    dsimp only at hi ⊢
    rcases Nat.lt_or_ge i 32 with hlt | hge
    · have i32 : (i : Int) < 32 := by omega
      have i33 : i + 1 ≤ 32 := by omega
      have a1 := mapL_at (mixA x y i) hlt
      rw [mixA_at] at a1
      have a2 := mapL_at (fun j => ((digN y.num j : Nat) : Int)) hlt
      have a3 := mapL_set (mixA x y i) hlt (((digN x.num i : Nat) : Int) + ((digN y.num i : Nat) : Int))
      rw [mixA_succ] at a3
      have d1 := digN_lt x.num i
      have d2 := digN_lt y.num i
      generalize digN x.num i = d at *
      generalize digN y.num i = e at *
      simp only [push_cast, Nat.reduceAdd, Nat.reduceSub, Nat.reduceMul, Nat.reduceLT, Nat.reduceLeDiff, Nat.reduceEqDiff, Nat.reduceMod, Nat.reduceDiv, Int.reduceAdd, Int.reduceSub, Int.reduceMul, Int.reduceLT, Int.reduceLE, Int.reduceEq, Int.reduceNeg, Int.reduceToNat, reduceIte, reduceCtorEq, hb3, hb4, hf1, hf2, mapL_zlen, i32, i33, a1, a2, a3, wrap_i64' (show -9223372036854775808 ≤ (d : Int) + (e : Int) ∧ (d : Int) + (e : Int) ≤ 9223372036854775807 by omega), wrap_i64' (show -9223372036854775808 ≤ (i : Int) + 1 ∧ (i : Int) + 1 ≤ 9223372036854775807 by omega)]
      exact ⟨i + 1, by omega, by omega, rfl, rfl⟩
    · obtain rfl : i = 32 := by omega
      simp only [push_cast, Nat.reduceAdd, Nat.reduceSub, Nat.reduceMul, Nat.reduceLT, Nat.reduceLeDiff, Nat.reduceEqDiff, Nat.reduceMod, Nat.reduceDiv, Int.reduceAdd, Int.reduceSub, Int.reduceMul, Int.reduceLT, Int.reduceLE, Int.reduceEq, Int.reduceNeg, Int.reduceToNat, reduceIte, reduceCtorEq, hb3, hb4, hf1, hf2, mapL_zlen]
      refine (carried_ok (mapL (mixA x y 32)) bx 32 cx (mapL_len _) (Nat.le_refl _) (mapL_bnd (by decide) fun j hj => ?_)).use ?_ fun v3 N3 ho3 => ⟨ho3.wr.1, ho3.wr.2, fun hf3 => ?_⟩
      · have := digN_lt x.num j; have := digN_lt y.num j
        unfold mixA; rw [if_pos hj]; omega
      · simp only [push_cast, Nat.reduceAdd, Nat.reduceSub, Nat.reduceMul, Nat.reduceLT, Nat.reduceLeDiff, Nat.reduceEqDiff, Nat.reduceMod, Nat.reduceDiv, Int.reduceAdd, Int.reduceSub, Int.reduceMul, Int.reduceLT, Int.reduceLE, Int.reduceEq, Int.reduceNeg, Int.reduceToNat, reduceIte, reduceCtorEq, hf1, hf2, mapL_zlen, mapL_take]
      · obtain ⟨bz, cz, rfl, hcz, -, rfl⟩ := ho3.pos (by decide)
        simp only [push_cast, Nat.reduceAdd, Nat.reduceSub, Nat.reduceMul, Nat.reduceLT, Nat.reduceLeDiff, Nat.reduceEqDiff, Nat.reduceMod, Nat.reduceDiv, Int.reduceAdd, Int.reduceSub, Int.reduceMul, Int.reduceLT, Int.reduceLE, Int.reduceEq, Int.reduceNeg, Int.reduceToNat, reduceIte, reduceCtorEq] at hf3
        simp only [push_cast, Nat.reduceAdd, Nat.reduceSub, Nat.reduceMul, Nat.reduceLT, Nat.reduceLeDiff, Nat.reduceEqDiff, Nat.reduceMod, Nat.reduceDiv, Int.reduceAdd, Int.reduceSub, Int.reduceMul, Int.reduceLT, Int.reduceLE, Int.reduceEq, Int.reduceNeg, Int.reduceToNat, reduceIte, reduceCtorEq, hb3, hb4, hf1, hf2, hf3]
        refine (fromCarried (word (sumI (mapL (mixA x y 32)) 32)) bz cz).pure ?_ ?_
        · simp only [push_cast, Nat.reduceAdd, Nat.reduceSub, Nat.reduceMul, Nat.reduceLT, Nat.reduceLeDiff, Nat.reduceEqDiff, Nat.reduceMod, Nat.reduceDiv, Int.reduceAdd, Int.reduceSub, Int.reduceMul, Int.reduceLT, Int.reduceLE, Int.reduceEq, Int.reduceNeg, Int.reduceToNat, reduceIte, reduceCtorEq, zdigs_len, zdigs_take]
        · rw [mixA_sum, ← hR]
          simp only [push_cast, Nat.reduceAdd, Nat.reduceSub, Nat.reduceMul, Nat.reduceLT, Nat.reduceLeDiff, Nat.reduceEqDiff, Nat.reduceMod, Nat.reduceDiv, Int.reduceAdd, Int.reduceSub, Int.reduceMul, Int.reduceLT, Int.reduceLE, Int.reduceEq, Int.reduceNeg, Int.reduceToNat, reduceIte, reduceCtorEq, hb3, hb4, hf1, hf2, hf3]
          done
noncomputable def mixS (x y : W) (i : Nat) : Nat → Int := fun j => if j < i then ((digN x.num j : Nat) : Int) - ((digN y.num j : Nat) : Int) else ((digN x.num j : Nat) : Int)
theorem mixS_zero (x y : W) : digs x.num 32 = mapL (mixS x y 0) := by rw [digs_map]; rfl
theorem mixS_succ (x y : W) (i : Nat) : updF (mixS x y i) i (((digN x.num i : Nat) : Int) - ((digN y.num i : Nat) : Int)) = mixS x y (i + 1) := by
  funext j
  unfold updF mixS
  by_cases h : j = i
  · subst h; rw [if_pos rfl, if_pos (by omega)]
  · rw [if_neg h]
    by_cases h2 : j < i
    · rw [if_pos h2, if_pos (by omega)]
    · rw [if_neg h2, if_neg (by omega)]
theorem mixS_at (x y : W) (i : Nat) : mixS x y i i = ((digN x.num i : Nat) : Int) := by unfold mixS; rw [if_neg (Nat.lt_irrefl _)]
theorem mixS_sum (x y : W) : W.of (word (sumI (mapL (mixS x y 32)) 32)) = W.of (x.num + 115792089237316195423570985008687907853269984665640564039457584007913129639936 - y.num) := by
  rw [sumI_map _ (Nat.le_refl _)]
  have : sumF (mixS x y 32) 32 = ((x.num : Int) - (y.num : Int)) := by
    rw [← sumF_word x, ← sumF_word y, ← sumF_sub (h := fun j => ((digN x.num j : Nat) : Int) - ((digN y.num j : Nat) : Int)) (fun j => rfl)]
    refine sumF_congr fun j hj => ?_
    unfold mixS; rw [if_pos hj]
  rw [this, of_word_sub]
theorem refSub (x y : W) : CallsV Tryd.prog 16 [x.v, y.v] [] (Ret0 (W.of (x.num + 115792089237316195423570985008687907853269984665640564039457584007913129639936 - y.num)).v) := by
  obtain ⟨R, hR⟩ : ∃ R, R = W.of (x.num + 115792089237316195423570985008687907853269984665640564039457584007913129639936 - y.num) := ⟨_, rfl⟩
  rw [← hR]
  refine callsO (noG_ok _) Tryd.mix Tryd.pl16 Tryd.func16 rfl Tryd.ntmps16 Tryd.results16 rfl (by first | rfl | assumption) (Nat.le_of_ble_eq_true rfl) (by kernel_rfl) ?_
  simp only [push_cast, Nat.reduceAdd, Nat.reduceSub, Nat.reduceMul, Nat.reduceLT, Nat.reduceLeDiff, Nat.reduceEqDiff, Nat.reduceMod, Nat.reduceDiv, Int.reduceAdd, Int.reduceSub, Int.reduceMul, Int.reduceLT, Int.reduceLE, Int.reduceEq, Int.reduceNeg, Int.reduceToNat, reduceIte, reduceCtorEq]
  intro b2 b3 hb3 b4 hb4
  simp only [push_cast, Nat.reduceAdd, Nat.reduceSub, Nat.reduceMul, Nat.reduceLT, Nat.reduceLeDiff, Nat.reduceEqDiff, Nat.reduceMod, Nat.reduceDiv, Int.reduceAdd, Int.reduceSub, Int.reduceMul, Int.reduceLT, Int.reduceLE, Int.reduceEq, Int.reduceNeg, Int.reduceToNat, reduceIte, reduceCtorEq, hb3, hb4]
  refine (digits_ok x).use trivial fun v1 N1 ho1 => ⟨ho1.wr.1, ho1.wr.2, fun hf1 => ?_⟩
  obtain ⟨bx, cx, rfl, hcx, -, rfl⟩ := ho1.pos (by decide)
  simp only [push_cast, Nat.reduceAdd, Nat.reduceSub, Nat.reduceMul, Nat.reduceLT, Nat.reduceLeDiff, Nat.reduceEqDiff, Nat.reduceMod, Nat.reduceDiv, Int.reduceAdd, Int.reduceSub, Int.reduceMul, Int.reduceLT, Int.reduceLE, Int.reduceEq, Int.reduceNeg, Int.reduceToNat, reduceIte, reduceCtorEq] at hf1
  simp only [push_cast, Nat.reduceAdd, Nat.reduceSub, Nat.reduceMul, Nat.reduceLT, Nat.reduceLeDiff, Nat.reduceEqDiff, Nat.reduceMod, Nat.reduceDiv, Int.reduceAdd, Int.reduceSub, Int.reduceMul, Int.reduceLT, Int.reduceLE, Int.reduceEq, Int.reduceNeg, Int.reduceToNat, reduceIte, reduceCtorEq, hb3, hb4, hf1]
  refine (digits_ok y).use trivial fun v2 N2 ho2 => ⟨ho2.wr.1, ho2.wr.2, fun hf2 => ?_⟩
  obtain ⟨by', cy, rfl, hcy, -, rfl⟩ := ho2.pos (by decide)
  simp only [push_cast, Nat.reduceAdd, Nat.reduceSub, Nat.reduceMul, Nat.reduceLT, Nat.reduceLeDiff, Nat.reduceEqDiff, Nat.reduceMod, Nat.reduceDiv, Int.reduceAdd, Int.reduceSub, Int.reduceMul, Int.reduceLT, Int.reduceLE, Int.reduceEq, Int.reduceNeg, Int.reduceToNat, reduceIte, reduceCtorEq] at hf2
  simp only [push_cast, Nat.reduceAdd, Nat.reduceSub, Nat.reduceMul, Nat.reduceLT, Nat.reduceLeDiff, Nat.reduceEqDiff, Nat.reduceMod, Nat.reduceDiv, Int.reduceAdd, Int.reduceSub, Int.reduceMul, Int.reduceLT, Int.reduceLE, Int.reduceEq, Int.reduceNeg, Int.reduceToNat, reduceIte, reduceCtorEq, hb3, hb4, hf1, hf2]
  rw [mixS_zero x y, digs_map]
  refine loopO (noG_ok _) (pl := Tryd.pl16) Tryd.mix (X := Nat)
    (fun i => ([(4, .pointer (some ⟨b4, 0, none⟩)), (5, .slice (some ⟨bx, 0, none⟩) 32 cx), (6, .slice (some ⟨by', 0, none⟩) 32 cy), (7, .int .i64 i)],
      [⟨by', 0, .vec 3 1 cy, zs (mapL fun j => ((digN y.num j : Nat) : Int))⟩, ⟨bx, 0, .vec 3 1 cx, zs (mapL (mixS x y i))⟩, ⟨b4, 0, .cel 24, [.int .u64 0, .int .u64 0, .int .u64 0, .int .u64 0]⟩]))
    (fun i => i ≤ 32) (fun i => 32 - i) 0 ?_ ?_ (by kernel_rfl) ?_
  · decide
  · simp only [push_cast, Nat.reduceAdd, Nat.reduceSub, Nat.reduceMul, Nat.reduceLT, Nat.reduceLeDiff, Nat.reduceEqDiff, Nat.reduceMod, Nat.reduceDiv, Int.reduceAdd, Int.reduceSub, Int.reduceMul, Int.reduceLT, Int.reduceLE, Int.reduceEq, Int.reduceNeg, Int.reduceToNat, reduceIte, reduceCtorEq, hb3, hb4, hf1, hf2]
    done
  · intro i hi
    dsimp only at hi ⊢
    rcases Nat.lt_or_ge i 32 with hlt | hge
    · have i32 : (i : Int) < 32 := by omega
      have i33 : i + 1 ≤ 32 := by omega
      have a1 := mapL_at (mixS x y i) hlt
      rw [mixS_at] at a1
      have a2 := mapL_at (fun j => ((digN y.num j : Nat) : Int)) hlt
      have a3 := mapL_set (mixS x y i) hlt (((digN x.num i : Nat) : Int) - ((digN y.num i : Nat) : Int))
      rw [mixS_succ] at a3
      have d1 := digN_lt x.num i
      have d2 := digN_lt y.num i
      generalize digN x.num i = d at *
      generalize digN y.num i = e at *
      simp only [push_cast, Nat.reduceAdd, Nat.reduceSub, Nat.reduceMul, Nat.reduceLT, Nat.reduceLeDiff, Nat.reduceEqDiff, Nat.reduceMod, Nat.reduceDiv, Int.reduceAdd, Int.reduceSub, Int.reduceMul, Int.reduceLT, Int.reduceLE, Int.reduceEq, Int.reduceNeg, Int.reduceToNat, reduceIte, reduceCtorEq, hb3, hb4, hf1, hf2, mapL_zlen, i32, i33, a1, a2, a3, wrap_i64' (show -9223372036854775808 ≤ (d : Int) - (e : Int) ∧ (d : Int) - (e : Int) ≤ 9223372036854775807 by omega), wrap_i64' (show -9223372036854775808 ≤ (i : Int) + 1 ∧ (i : Int) + 1 ≤ 9223372036854775807 by omega)]
      exact ⟨i + 1, by omega, by omega, rfl, rfl⟩
    · obtain rfl : i = 32 := by omega
      simp only [push_cast, Nat.reduceAdd, Nat.reduceSub, Nat.reduceMul, Nat.reduceLT, Nat.reduceLeDiff, Nat.reduceEqDiff, Nat.reduceMod, Nat.reduceDiv, Int.reduceAdd, Int.reduceSub, Int.reduceMul, Int.reduceLT, Int.reduceLE, Int.reduceEq, Int.reduceNeg, Int.reduceToNat, reduceIte, reduceCtorEq, hb3, hb4, hf1, hf2, mapL_zlen]
      refine (carried_ok (mapL (mixS x y 32)) bx 32 cx (mapL_len _) (Nat.le_refl _) (mapL_bnd (by decide) fun j hj => ?_)).use ?_ fun v3 N3 ho3 => ⟨ho3.wr.1, ho3.wr.2, fun hf3 => ?_⟩
      · have := digN_lt x.num j; have := digN_lt y.num j
        unfold mixS; rw [if_pos hj]; omega
      · simp only [push_cast, Nat.reduceAdd, Nat.reduceSub, Nat.reduceMul, Nat.reduceLT, Nat.reduceLeDiff, Nat.reduceEqDiff, Nat.reduceMod, Nat.reduceDiv, Int.reduceAdd, Int.reduceSub, Int.reduceMul, Int.reduceLT, Int.reduceLE, Int.reduceEq, Int.reduceNeg, Int.reduceToNat, reduceIte, reduceCtorEq, hf1, hf2, mapL_zlen, mapL_take]
      · obtain ⟨bz, cz, rfl, hcz, -, rfl⟩ := ho3.pos (by decide)
        simp only [push_cast, Nat.reduceAdd, Nat.reduceSub, Nat.reduceMul, Nat.reduceLT, Nat.reduceLeDiff, Nat.reduceEqDiff, Nat.reduceMod, Nat.reduceDiv, Int.reduceAdd, Int.reduceSub, Int.reduceMul, Int.reduceLT, Int.reduceLE, Int.reduceEq, Int.reduceNeg, Int.reduceToNat, reduceIte, reduceCtorEq] at hf3
        simp only [push_cast, Nat.reduceAdd, Nat.reduceSub, Nat.reduceMul, Nat.reduceLT, Nat.reduceLeDiff, Nat.reduceEqDiff, Nat.reduceMod, Nat.reduceDiv, Int.reduceAdd, Int.reduceSub, Int.reduceMul, Int.reduceLT, Int.reduceLE, Int.reduceEq, Int.reduceNeg, Int.reduceToNat, reduceIte, reduceCtorEq, hb3, hb4, hf1, hf2, hf3]
        refine (fromCarried (word (sumI (mapL (mixS x y 32)) 32)) bz cz).pure ?_ ?_
        · simp only [push_cast, Nat.reduceAdd, Nat.reduceSub, Nat.reduceMul, Nat.reduceLT, Nat.reduceLeDiff, Nat.reduceEqDiff, Nat.reduceMod, Nat.reduceDiv, Int.reduceAdd, Int.reduceSub, Int.reduceMul, Int.reduceLT, Int.reduceLE, Int.reduceEq, Int.reduceNeg, Int.reduceToNat, reduceIte, reduceCtorEq, zdigs_len, zdigs_take]
        · rw [mixS_sum, ← hR]
          simp only [push_cast, Nat.reduceAdd, Nat.reduceSub, Nat.reduceMul, Nat.reduceLT, Nat.reduceLeDiff, Nat.reduceEqDiff, Nat.reduceMod, Nat.reduceDiv, Int.reduceAdd, Int.reduceSub, Int.reduceMul, Int.reduceLT, Int.reduceLE, Int.reduceEq, Int.reduceNeg, Int.reduceToNat, reduceIte, reduceCtorEq, hb3, hb4, hf1, hf2, hf3]
          done
end Go.Proofs.YtndioekjgmbomaaDoor
