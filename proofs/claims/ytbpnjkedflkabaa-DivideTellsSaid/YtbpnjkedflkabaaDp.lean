/- Dp: the document's words, layer 2: Bits. -/
import Derived.Test.YtbpnjkedflkabaaDk
set_option linter.unusedSimpArgs false
set_option linter.unusedVariables false
namespace Go.Ev
/-- N numbers, told by a function -/
noncomputable def mapN : Nat → (Nat → Int) → List Int := hid fun N f => (List.range N).map f
theorem mapN_eq (N : Nat) (f : Nat → Int) : mapN N f = (List.range N).map f := by unfold mapN; rw [hid_eq]
theorem mapN_len (N : Nat) (f : Nat → Int) : (mapN N f).length = N := by rw [mapN_eq, List.length_map, List.length_range]
theorem mapN_zlen (N : Nat) (f : Nat → Int) : (zs (mapN N f)).length = N := by rw [zs_len, mapN_len]
theorem mapN_zero (f : Nat → Int) : mapN 0 f = [] := by rw [mapN_eq]; rfl
theorem mapN_succ (N : Nat) (f : Nat → Int) : mapN (N + 1) f = mapN N f ++ [f N] := by rw [mapN_eq, mapN_eq, List.range_succ, List.map_append]; rfl
theorem mapN_getD (N : Nat) (f : Nat → Int) {i : Nat} (h : i < N) : (mapN N f).getD i 0 = f i := by
  rw [mapN_eq, List.getD_eq_getElem?_getD, List.getElem?_map, List.getElem?_range h]; rfl
theorem mapN_at (N : Nat) (f : Nat → Int) {i : Nat} (h : i < N) : List.take 1 (List.drop i (zs (mapN N f))) = [.int .i64 (f i)] := by
  rw [zs_at _ (by rw [mapN_len]; exact h), mapN_getD N f h]
theorem mapN_take (N : Nat) (f : Nat → Int) : List.take N (zs (mapN N f)) = zs (mapN N f) := List.take_of_length_le (by rw [mapN_zlen]; exact Nat.le_refl _)
theorem mapN_set (N : Nat) (f : Nat → Int) {i : Nat} (h : i < N) (v : Int) : List.take i (zs (mapN N f)) ++ .int .i64 v :: List.drop (i + 1) (zs (mapN N f)) = zs (mapN N (updF f i v)) := by
  have hl := mapN_zlen N f
  refine List.ext_getElem? fun j => ?_
  have hz : ∀ g : Nat → Int, (zs (mapN N g))[j]? = if j < N then some (.int .i64 (g j)) else none := by
    intro g
    unfold zs
    rw [mapN_eq, List.getElem?_map, List.getElem?_map]
    split
    · rename_i h1; rw [List.getElem?_range h1]; rfl
    · rename_i h1; rw [List.getElem?_eq_none (by simpa using h1)]; rfl
  rw [hz]
  have ht : (List.take i (zs (mapN N f))).length = i := by rw [List.length_take, hl]; omega
  rcases Nat.lt_trichotomy j i with h1 | rfl | h1
  · rw [List.getElem?_append_left (by omega), List.getElem?_take_of_lt h1, hz, if_pos (by omega), if_pos (by omega)]
    unfold updF; rw [if_neg (by omega : ¬ j = i)]
  · rw [List.getElem?_append_right (by omega), ht, Nat.sub_self, List.getElem?_cons_zero, if_pos h]
    unfold updF; rw [if_pos rfl]
  · rw [List.getElem?_append_right (by omega), ht, show j - i = (j - i - 1) + 1 by omega, List.getElem?_cons_succ, List.getElem?_drop, show i + 1 + (j - i - 1) = j by omega, hz]
    unfold updF; rw [if_neg (by omega : ¬ j = i)]
theorem mapN_congr (N : Nat) {f g : Nat → Int} (h : ∀ j, j < N → f j = g j) : mapN N f = mapN N g := by
  rw [mapN_eq, mapN_eq]
  exact List.map_congr_left fun j hj => h j (List.mem_range.1 hj)
theorem digs_mapN (n : Nat) : digs n 32 = mapN 32 fun j => ((digN n j : Nat) : Int) := by rw [mapN_eq]; rfl
/-- a number's bits, the lowest one first -/
noncomputable def bitsF (n : Nat) : Nat → Int := fun j => ((bitN n j : Nat) : Int)
noncomputable def half2 : Nat → Nat → Nat := hid fun d k => d / 2 ^ k
theorem half2_eq (d k : Nat) : half2 d k = d / 2 ^ k := by unfold half2; rw [hid_eq]
theorem half2_zero (d : Nat) : half2 d 0 = d := by rw [half2_eq, Nat.pow_zero, Nat.div_one]
theorem half2_succ (d k : Nat) : half2 d (k + 1) = half2 d k / 2 := by rw [half2_eq, half2_eq, Nat.pow_succ, Nat.div_div_eq_div_mul]
theorem half2_le (d k : Nat) : half2 d k ≤ d := by rw [half2_eq]; exact Nat.div_le_self _ _
theorem bit_digit (n : Nat) {q r : Nat} (hr : r < 8) : half2 (digN n q) r % 2 = bitN n (8 * q + r) := by
  rw [half2_eq, digN_eq, bitN_eq, Nat.pow_add, Nat.pow_mul, show (2 : Nat) ^ 8 = 256 from rfl, ← Nat.div_div_eq_div_mul]
  generalize n / 256 ^ q = z
  obtain rfl | rfl | rfl | rfl | rfl | rfl | rfl | rfl : r = 0 ∨ r = 1 ∨ r = 2 ∨ r = 3 ∨ r = 4 ∨ r = 5 ∨ r = 6 ∨ r = 7 := by omega
  all_goals simp only [Nat.reducePow]; omega
end Go.Ev
namespace Go.Proofs.Ytbpnjkedflkabaa
open Go Go.Ev Go.Proofs
set_option maxRecDepth 100000
set_option maxHeartbeats 4000000
theorem bits_ok (w : W) : CallsV Try.prog 41 [w.v] [] (OutC 3 1 (zs (mapN 256 (bitsF w.num))) 256) := by
  refine callsO (noG_ok _) Try.mix Try.pl41 Try.func41 rfl Try.ntmps41 Try.results41 rfl (by first | rfl | assumption) (Nat.le_of_ble_eq_true rfl) (by kernel_rfl) ?_
  simp only [push_cast, Nat.reduceAdd, Nat.reduceSub, Nat.reduceMul, Nat.reduceLT, Nat.reduceLeDiff, Nat.reduceEqDiff, Nat.reduceMod, Nat.reduceDiv, Int.reduceAdd, Int.reduceSub, Int.reduceMul, Int.reduceLT, Int.reduceLE, Int.reduceEq, Int.reduceNeg, Int.reduceToNat, reduceIte, reduceCtorEq]
  intro b1
  refine (digits_ok w).use trivial fun v1 N1 ho1 => ⟨ho1.wr.1, ho1.wr.2, fun hf1 => ?_⟩
  obtain ⟨bx, cx, rfl, hcx, -, rfl⟩ := ho1.pos (by decide)
  simp only [push_cast, Nat.reduceAdd, Nat.reduceSub, Nat.reduceMul, Nat.reduceLT, Nat.reduceLeDiff, Nat.reduceEqDiff, Nat.reduceMod, Nat.reduceDiv, Int.reduceAdd, Int.reduceSub, Int.reduceMul, Int.reduceLT, Int.reduceLE, Int.reduceEq, Int.reduceNeg, Int.reduceToNat, reduceIte, reduceCtorEq] at hf1
  rw [digs_mapN]
  simp only [push_cast, Nat.reduceAdd, Nat.reduceSub, Nat.reduceMul, Nat.reduceLT, Nat.reduceLeDiff, Nat.reduceEqDiff, Nat.reduceMod, Nat.reduceDiv, Int.reduceAdd, Int.reduceSub, Int.reduceMul, Int.reduceLT, Int.reduceLE, Int.reduceEq, Int.reduceNeg, Int.reduceToNat, reduceIte, reduceCtorEq, hf1]
  refine loopO (noG_ok _) (pl := Try.pl41) Try.mix (X := Nat × Value × Hp)
    (fun s => ([(3, .slice (some ⟨bx, 0, none⟩) 32 cx), (4, s.2.1), (5, .int .i64 s.1)], s.2.2 ++ [⟨bx, 0, .vec 3 1 cx, zs (mapN 32 fun j => ((digN w.num j : Nat) : Int))⟩]))
    (fun s => s.1 ≤ 256 ∧ OutC 3 1 (zs (mapN s.1 (bitsF w.num))) s.1 s.2.1 s.2.2 ∧ freshN s.2.2 [⟨bx, 0, .vec 3 1 cx, zs (mapN 32 fun j => ((digN w.num j : Nat) : Int))⟩]) (fun s => 256 - s.1) (0, .slice none 0 0, []) ?_ ?_ (by kernel_rfl) ?_
  · refine ⟨by decide, ?_, trivial⟩
    dsimp only
    rw [mapN_zero]
    exact .nil _ _
  · simp only [push_cast, Nat.reduceAdd, Nat.reduceSub, Nat.reduceMul, Nat.reduceLT, Nat.reduceLeDiff, Nat.reduceEqDiff, Nat.reduceMod, Nat.reduceDiv, Int.reduceAdd, Int.reduceSub, Int.reduceMul, Int.reduceLT, Int.reduceLE, Int.reduceEq, Int.reduceNeg, Int.reduceToNat, reduceIte, reduceCtorEq]
  · rintro ⟨i, vo, No⟩ ⟨hi, ho, hf⟩
    dsimp only at hi ho hf ⊢
    obtain ⟨Eb, hEb⟩ : ∃ e : Ent, e = ⟨bx, 0, .vec 3 1 cx, zs (mapN 32 fun j => ((digN w.num j : Nat) : Int))⟩ := ⟨_, rfl⟩
    rw [← hEb] at hf ⊢
    have f0 : findE [Eb] bx = some Eb := by rw [hEb]; simp only [push_cast, Nat.reduceAdd, Nat.reduceSub, Nat.reduceMul, Nat.reduceLT, Nat.reduceLeDiff, Nat.reduceEqDiff, Nat.reduceMod, Nat.reduceDiv, Int.reduceAdd, Int.reduceSub, Int.reduceMul, Int.reduceLT, Int.reduceLE, Int.reduceEq, Int.reduceNeg, Int.reduceToNat, reduceIte, reduceCtorEq]
    have fb : findE (No ++ [Eb]) bx = some Eb := by rw [findE_freshN hf f0]; exact f0
    rcases Nat.lt_or_ge i 256 with hlt | hge
    · have i32 : (i : Int) < 256 := by omega
      obtain ⟨q, hq⟩ : ∃ q, q = i / 8 := ⟨_, rfl⟩
      obtain ⟨r, hr⟩ : ∃ r, r = i % 8 := ⟨_, rfl⟩
      have eq : (i : Int).tdiv 8 = (q : Int) := by rw [hq]; rfl
      have er : (i : Int).tmod 8 = (r : Int) := by rw [hr]; rfl
      have q32 : (q : Int) < 32 := by omega
      have q33 : q + 1 ≤ 32 := by omega
      have a1 := mapN_at 32 (fun j => ((digN w.num j : Nat) : Int)) (i := q) (by omega)
      have hbit := bit_digit w.num (q := q) (r := r) (by omega)
      have dl := digN_lt w.num q
      rw [show 8 * q + r = i by omega] at hbit
      obtain ⟨d, hd⟩ : ∃ d, d = digN w.num q := ⟨_, rfl⟩
      rw [← hd] at hbit dl
      have a1' : List.take 1 (List.drop q Eb.cells) = [.int .i64 (d : Int)] := by rw [hEb, hd]; exact a1
      have Ek : Eb.kind = .vec 3 1 cx := by rw [hEb]
      have Eo : Eb.off = 0 := by rw [hEb]
      have El : Eb.cells.length = 32 := by rw [hEb]; exact mapN_zlen _ _
      simp only [push_cast, Nat.reduceAdd, Nat.reduceSub, Nat.reduceMul, Nat.reduceLT, Nat.reduceLeDiff, Nat.reduceEqDiff, Nat.reduceMod, Nat.reduceDiv, Int.reduceAdd, Int.reduceSub, Int.reduceMul, Int.reduceLT, Int.reduceLE, Int.reduceEq, Int.reduceNeg, Int.reduceToNat, reduceIte, reduceCtorEq, fb, i32, eq, q32, q33, a1', Ek, Eo, El, wrap_i64' (show -9223372036854775808 ≤ (q : Int) ∧ (q : Int) ≤ 9223372036854775807 by omega)]
      refine loopO (noG_ok _) (pl := Try.pl41) Try.mix (X := Nat)
        (fun k => ([(3, .slice (some ⟨bx, 0, none⟩) 32 cx), (4, vo), (5, .int .i64 i), (6, .int .i64 ((half2 d k : Nat) : Int)), (7, .int .i64 k)], No ++ [Eb]))
        (fun k => k ≤ r) (fun k => r - k) 0 ?_ ?_ (by kernel_rfl) ?_
      · exact Nat.zero_le _
      · rw [half2_zero]
        simp only [push_cast, Nat.reduceAdd, Nat.reduceSub, Nat.reduceMul, Nat.reduceLT, Nat.reduceLeDiff, Nat.reduceEqDiff, Nat.reduceMod, Nat.reduceDiv, Int.reduceAdd, Int.reduceSub, Int.reduceMul, Int.reduceLT, Int.reduceLE, Int.reduceEq, Int.reduceNeg, Int.reduceToNat, reduceIte, reduceCtorEq]
        exact subH_self _
      · intro k hk
        dsimp only at hk ⊢
        have hle := half2_le d k
        rcases Nat.lt_or_ge k r with klt | kge
        · have hs := half2_succ d k
          have e2 : ((half2 d k : Nat) : Int).tdiv 2 = ((half2 d (k + 1) : Nat) : Int) := by rw [hs]; rfl
          have hle2 := half2_le d (k + 1)
          generalize half2 d k = x at *
          simp only [push_cast, Nat.reduceAdd, Nat.reduceSub, Nat.reduceMul, Nat.reduceLT, Nat.reduceLeDiff, Nat.reduceEqDiff, Nat.reduceMod, Nat.reduceDiv, Int.reduceAdd, Int.reduceSub, Int.reduceMul, Int.reduceLT, Int.reduceLE, Int.reduceEq, Int.reduceNeg, Int.reduceToNat, reduceIte, reduceCtorEq, er, klt, e2, wrap_i64' (show -9223372036854775808 ≤ ((half2 d (k + 1) : Nat) : Int) ∧ ((half2 d (k + 1) : Nat) : Int) ≤ 9223372036854775807 by omega), wrap_i64' (show -9223372036854775808 ≤ (k : Int) + 1 ∧ (k : Int) + 1 ≤ 9223372036854775807 by omega)]
          exact ⟨k + 1, klt, by omega, ⟨rfl, rfl⟩, subH_self _⟩
        · obtain rfl : k = r := by omega
          have hl2 := bitN_le w.num i
          have e3 : ((half2 d k : Nat) : Int).tmod 2 = ((bitN w.num i : Nat) : Int) := by rw [← hbit]; rfl
          simp only [push_cast, Nat.reduceAdd, Nat.reduceSub, Nat.reduceMul, Nat.reduceLT, Nat.reduceLeDiff, Nat.reduceEqDiff, Nat.reduceMod, Nat.reduceDiv, Int.reduceAdd, Int.reduceSub, Int.reduceMul, Int.reduceLT, Int.reduceLE, Int.reduceEq, Int.reduceNeg, Int.reduceToNat, reduceIte, reduceCtorEq, er, e3, Nat.lt_irrefl, wrap_i64' (show -9223372036854775808 ≤ ((bitN w.num i : Nat) : Int) ∧ ((bitN w.num i : Nat) : Int) ≤ 9223372036854775807 by omega)]
          intro b10 hb10
          refine append_out1 (e := 3) (sz := 1) (by_ := 8) (n := i) (m := 1) (ys := [.int .i64 ((bitN w.num i : Nat) : Int)]) ho hb10 (by simp only [push_cast, Nat.reduceAdd, Nat.reduceSub, Nat.reduceMul, Nat.reduceLT, Nat.reduceLeDiff, Nat.reduceEqDiff, Nat.reduceMod, Nat.reduceDiv, Int.reduceAdd, Int.reduceSub, Int.reduceMul, Int.reduceLT, Int.reduceLE, Int.reduceEq, Int.reduceNeg, Int.reduceToNat, reduceIte, reduceCtorEq]) (by simp only [push_cast, Nat.reduceAdd, Nat.reduceSub, Nat.reduceMul, Nat.reduceLT, Nat.reduceLeDiff, Nat.reduceEqDiff, Nat.reduceMod, Nat.reduceDiv, Int.reduceAdd, Int.reduceSub, Int.reduceMul, Int.reduceLT, Int.reduceLE, Int.reduceEq, Int.reduceNeg, Int.reduceToNat, reduceIte, reduceCtorEq]) rfl rfl (by unfold two47; omega) fun v' N' ho' hf' => ?_
          simp only [push_cast, Nat.reduceAdd, Nat.reduceSub, Nat.reduceMul, Nat.reduceLT, Nat.reduceLeDiff, Nat.reduceEqDiff, Nat.reduceMod, Nat.reduceDiv, Int.reduceAdd, Int.reduceSub, Int.reduceMul, Int.reduceLT, Int.reduceLE, Int.reduceEq, Int.reduceNeg, Int.reduceToNat, reduceIte, reduceCtorEq, wrap_i64' (show -9223372036854775808 ≤ (i : Int) + 1 ∧ (i : Int) + 1 ≤ 9223372036854775807 by omega)]
          refine ⟨(i + 1, v', N'), ⟨hlt, ?_, freshN_cons hf'⟩, by dsimp only; omega, ⟨rfl, rfl⟩, subH_pre (subH_cons (fresh_app hb10)) _, ?_⟩
          · dsimp only
            rw [mapN_succ, zs_app]
            exact ho'
          · simp only [marks_append, marksOf, ho.wr.2, ho'.wr.2]
    · obtain rfl : i = 256 := by omega
      simp only [push_cast, Nat.reduceAdd, Nat.reduceSub, Nat.reduceMul, Nat.reduceLT, Nat.reduceLeDiff, Nat.reduceEqDiff, Nat.reduceMod, Nat.reduceDiv, Int.reduceAdd, Int.reduceSub, Int.reduceMul, Int.reduceLT, Int.reduceLE, Int.reduceEq, Int.reduceNeg, Int.reduceToNat, reduceIte, reduceCtorEq]
      refine ⟨No, ?_, ho⟩
      have hEm : marksOf [Eb] = [] := by rw [hEb]; rfl
      rw [dropM_eq (by rw [marks_append, ho.wr.2, hEm]; rfl)]
      exact List.sublist_append_left _ _
end Go.Proofs.Ytbpnjkedflkabaa
