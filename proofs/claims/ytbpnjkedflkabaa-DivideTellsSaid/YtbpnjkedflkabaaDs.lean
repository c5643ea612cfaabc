/- Ds: the document's words, layer 2: divided. -/
import Derived.Test.YtbpnjkedflkabaaDr
set_option linter.unusedSimpArgs false
set_option linter.unusedVariables false
namespace Go.Ev
noncomputable def quoF (Q s : Nat) : Nat → Int := fun k => if s ≤ k then ((bitN Q k : Nat) : Int) else 0
theorem quoF_zero (Q : Nat) : quoF Q 0 = bitsF Q := by
  funext k; unfold quoF bitsF; rw [if_pos (Nat.zero_le _)]
theorem quoF_top (Q : Nat) : mapN 256 (quoF Q 256) = mapN 256 fun _ => 0 := mapN_congr 256 fun j hj => by unfold quoF; rw [if_neg (by omega)]
theorem quoF_keep {Q j : Nat} (h : bitN Q j = 0) : quoF Q (j + 1) = quoF Q j := by
  funext k; unfold quoF
  by_cases h1 : j + 1 ≤ k
  · rw [if_pos h1, if_pos (by omega)]
  · rw [if_neg h1]
    by_cases h2 : j ≤ k
    · obtain rfl : j = k := by omega
      rw [if_pos h2, h]; rfl
    · rw [if_neg h2]
theorem quoF_set {Q j : Nat} (h : bitN Q j = 1) : updF (quoF Q (j + 1)) j 1 = quoF Q j := by
  funext k; unfold updF quoF
  by_cases h0 : k = j
  · subst h0
    rw [if_pos rfl, if_pos (Nat.le_refl _), h]; rfl
  · rw [if_neg h0]
    by_cases h1 : j + 1 ≤ k
    · rw [if_pos h1, if_pos (by omega)]
    · rw [if_neg h1, if_neg (by omega)]
theorem repV_rep (x : Value) : ∀ n, repV n [x] = List.replicate n x
  | 0 => rfl
  | n + 1 => by rw [List.replicate_succ, ← repV_rep x n]; rfl
theorem zs_zeroN (N : Nat) : zs (mapN N fun _ => 0) = List.replicate N (.int .i64 0) := by rw [mapN_eq]; unfold zs; simp [List.map_const']
theorem zs_zero : zs (mapN 256 fun _ => 0) = List.replicate 256 (.int .i64 0) := zs_zeroN 256
noncomputable def remN : Nat → Nat → Nat → Nat := hid fun n d s => n / 2 ^ s % d
theorem remN_eq (n d s : Nat) : remN n d s = n / 2 ^ s % d := by unfold remN; rw [hid_eq]
theorem rem_step {n d m : Nat} (hd : 0 < d) : remN n d m = (2 * remN n d (m + 1) + bitN n m) % d ∧ bitN (n / d) m = if d ≤ 2 * remN n d (m + 1) + bitN n m then 1 else 0 := by
  have hq : bitN (n / d) m = n / 2 ^ m / d % 2 := by
    rw [bitN_eq, Nat.div_div_eq_div_mul, Nat.div_div_eq_div_mul, Nat.mul_comm]
  rw [hq, remN_eq, remN_eq]
  have hlt : n / 2 ^ (m + 1) % d < d := Nat.mod_lt _ hd
  have hb := bitN_le n m
  rcases Nat.lt_or_ge (2 * (n / 2 ^ (m + 1) % d) + bitN n m) d with h | h
  · obtain ⟨h1, h2⟩ := dv_lt hd h
    rw [h1, h2, if_neg (by omega), Nat.mod_eq_of_lt h]
    exact ⟨rfl, by omega⟩
  · obtain ⟨h1, h2⟩ := dv_ge hd h
    rw [h1, h2, if_pos h]
    refine ⟨?_, by omega⟩
    rw [Nat.mod_eq_sub_mod h]
    exact (Nat.mod_eq_of_lt (show 2 * (n / 2 ^ (m + 1) % d) + bitN n m - d < d by omega)).symm
end Go.Ev
namespace Go.Proofs.Ytbpnjkedflkabaa
open Go Go.Ev Go.Proofs
set_option maxRecDepth 100000
set_option maxHeartbeats 4000000
theorem divided_ok (a b : W) (hb0 : ¬ b = W.zero) : CallsV Try.prog 31 [a.v, b.v] [] (Ret0 (.tuple #[(divW a b).v, (modW a b).v])) := by
  have hbp := W.pos hb0
  obtain ⟨Q, hQ⟩ : ∃ Q, Q = a.num / b.num := ⟨_, rfl⟩
  have eD : divW a b = W.of Q := by unfold divW; rw [hQ]
  have eM : modW a b = W.of (remN a.num b.num 0) := by unfold modW; rw [if_neg hb0, remN_eq, Nat.pow_zero, Nat.div_one]
  rw [eD, eM]
  have hrl : ∀ s, remN a.num b.num s < b.num := fun s => by rw [remN_eq]; exact Nat.mod_lt _ hbp
  have hst := fun m => rem_step (n := a.num) (d := b.num) (m := m) hbp
  have hbn := b.num_lt
  refine callsO gR_ok Try.mix (fun i => if i = 1 then [(0, 9)] else Try.pl31 i) Try.func31 rfl Try.ntmps31 Try.results31 rfl (by first | rfl | assumption) (Nat.le_of_ble_eq_true rfl) (by kernel_rfl) ?_
  simp only [push_cast, Nat.reduceAdd, Nat.reduceSub, Nat.reduceMul, Nat.reduceLT, Nat.reduceLeDiff, Nat.reduceEqDiff, Nat.reduceMod, Nat.reduceDiv, Int.reduceAdd, Int.reduceSub, Int.reduceMul, Int.reduceLT, Int.reduceLE, Int.reduceEq, Int.reduceNeg, Int.reduceToNat, reduceIte, reduceCtorEq]
  intro b2 b3 hb3 b4 hb4 b5 hb5
  refine regO gR_ok ?_
  simp only [push_cast, Nat.reduceAdd, Nat.reduceSub, Nat.reduceMul, Nat.reduceLT, Nat.reduceLeDiff, Nat.reduceEqDiff, Nat.reduceMod, Nat.reduceDiv, Int.reduceAdd, Int.reduceSub, Int.reduceMul, Int.reduceLT, Int.reduceLE, Int.reduceEq, Int.reduceNeg, Int.reduceToNat, reduceIte, reduceCtorEq, hb3, hb4, hb5]
  refine (bits_ok a).use trivial fun v1 N1 ho1 => ⟨ho1.wr.1, ho1.wr.2, fun hf1 => ?_⟩
  obtain ⟨bx, cx, rfl, hcx, -, rfl⟩ := ho1.pos (by decide)
  simp only [push_cast, Nat.reduceAdd, Nat.reduceSub, Nat.reduceMul, Nat.reduceLT, Nat.reduceLeDiff, Nat.reduceEqDiff, Nat.reduceMod, Nat.reduceDiv, Int.reduceAdd, Int.reduceSub, Int.reduceMul, Int.reduceLT, Int.reduceLE, Int.reduceEq, Int.reduceNeg, Int.reduceToNat, reduceIte, reduceCtorEq] at hf1
  simp only [push_cast, Nat.reduceAdd, Nat.reduceSub, Nat.reduceMul, Nat.reduceLT, Nat.reduceLeDiff, Nat.reduceEqDiff, Nat.reduceMod, Nat.reduceDiv, Int.reduceAdd, Int.reduceSub, Int.reduceMul, Int.reduceLT, Int.reduceLE, Int.reduceEq, Int.reduceNeg, Int.reduceToNat, reduceIte, reduceCtorEq, hb3, hb4, hb5, hf1]
  intro b7 hb7
  refine ⟨by unfold two47; decide, fun bq hbq => ?_⟩
  obtain ⟨Ex, hEx⟩ : ∃ e : Ent, e = ⟨bx, 0, .vec 3 1 cx, zs (mapN 256 (bitsF a.num))⟩ := ⟨_, rfl⟩
  have Exk : Ex.kind = .vec 3 1 cx := by rw [hEx]
  have Exb : Ex.blk = bx := by rw [hEx]
  have Exo : Ex.off = 0 := by rw [hEx]
  have Exl : Ex.cells.length = 256 := by rw [hEx]; exact mapN_zlen _ _
  rw [← hEx]
  refine loopO gR_ok (pl := Try.pl31) Try.mix (X := Nat)
    (fun s => ([(3, .pointer (some ⟨b3, 0, none⟩)), (4, .pointer (some ⟨b4, 0, none⟩)), (5, .pointer (some ⟨b5, 0, none⟩)), (6, .slice (some ⟨bx, 0, none⟩) 256 cx), (7, .pointer (some ⟨b7, 0, none⟩)), (8, .slice (some ⟨bq, 0, none⟩) 256 256), (9, .int .i64 ((s : Int) - 1))],
      [⟨bq, 0, .vec 3 1 256, zs (mapN 256 (quoF Q s))⟩, ⟨b7, 0, .cel 24, (W.of (remN a.num b.num s)).cells⟩, Ex, ⟨b5, 0, .cel 24, W.zero.cells⟩, ⟨b4, 0, .cel 24, W.zero.cells⟩, ⟨b3, 0, .cel 24, b.cells⟩]))
    (fun s => s ≤ 256) (fun s => s) 256 ?_ ?_ (by kernel_rfl) ?_
  · exact Nat.le_refl _
  · have e0 : remN a.num b.num 256 = 0 := by rw [remN_eq, Nat.div_eq_of_lt (Nat.lt_of_lt_of_le a.num_lt (by decide)), Nat.zero_mod]
    rw [quoF_top, zs_zero, e0, W.of_zero]
    simp only [push_cast, Nat.reduceAdd, Nat.reduceSub, Nat.reduceMul, Nat.reduceLT, Nat.reduceLeDiff, Nat.reduceEqDiff, Nat.reduceMod, Nat.reduceDiv, Int.reduceAdd, Int.reduceSub, Int.reduceMul, Int.reduceLT, Int.reduceLE, Int.reduceEq, Int.reduceNeg, Int.reduceToNat, reduceIte, reduceCtorEq, hb3, hb4, hb5, hf1, hb7, hbq, Exb, repV_rep]
    exact ⟨rfl, rfl, rfl⟩
  · intro s hs
    dsimp only at hs ⊢
    rcases Nat.eq_zero_or_pos s with rfl | h0
    · simp only [push_cast, Nat.reduceAdd, Nat.reduceSub, Nat.reduceMul, Nat.reduceLT, Nat.reduceLeDiff, Nat.reduceEqDiff, Nat.reduceMod, Nat.reduceDiv, Int.reduceAdd, Int.reduceSub, Int.reduceMul, Int.reduceLT, Int.reduceLE, Int.reduceEq, Int.reduceNeg, Int.reduceToNat, reduceIte, reduceCtorEq, hb3, hb4, hb5, hf1, hb7, hbq, Exb, Exk, Exo, Exl]
      rw [quoF_zero]
      refine TakeV.mk (Hf := [⟨bq, 0, .ro, zs (mapN 256 (bitsF Q))⟩]) ?_ (fromBits_ok Q bq 256) ?_
      · simp only [push_cast, Nat.reduceAdd, Nat.reduceSub, Nat.reduceMul, Nat.reduceLT, Nat.reduceLeDiff, Nat.reduceEqDiff, Nat.reduceMod, Nat.reduceDiv, Int.reduceAdd, Int.reduceSub, Int.reduceMul, Int.reduceLT, Int.reduceLE, Int.reduceEq, Int.reduceNeg, Int.reduceToNat, reduceIte, reduceCtorEq, hb3, hb4, hb5, hf1, hb7, hbq, Exb, Exk, Exo, Exl, mapN_zlen, mapN_take]
      · simp only [push_cast, Nat.reduceAdd, Nat.reduceSub, Nat.reduceMul, Nat.reduceLT, Nat.reduceLeDiff, Nat.reduceEqDiff, Nat.reduceMod, Nat.reduceDiv, Int.reduceAdd, Int.reduceSub, Int.reduceMul, Int.reduceLT, Int.reduceLE, Int.reduceEq, Int.reduceNeg, Int.reduceToNat, reduceIte, reduceCtorEq, hb3, hb4, hb5, hf1, hb7, hbq, Exb, Exk, Exo, Exl, mapN_zlen, mapN_take]
        done
    · obtain ⟨j, rfl⟩ : ∃ j, s = j + 1 := ⟨s - 1, by omega⟩
      have hj : ((j + 1 : Nat) : Int) - 1 = (j : Int) := by omega
      have j0 : (0 : Int) ≤ (j : Int) := by omega
      have j1 : (j : Int) < 256 := by omega
      have j2 : j + 1 ≤ 256 := by omega
      rw [hj]
      have a1 := mapN_at 256 (bitsF a.num) (i := j) (by omega)
      have a1' : List.take 1 (List.drop j Ex.cells) = [.int .i64 ((bitN a.num j : Nat) : Int)] := by rw [hEx]; exact a1
      have dle := bitN_le a.num j
      obtain ⟨h1, h2⟩ := hst j
      have hr := hrl (j + 1)
      obtain ⟨d, hd⟩ : ∃ d, d = bitN a.num j := ⟨_, rfl⟩
      rw [← hd] at a1' dle h1 h2
      obtain ⟨R, hR⟩ : ∃ R, R = W.of (remN a.num b.num (j + 1)) := ⟨_, rfl⟩
      have hRn : R.num = remN a.num b.num (j + 1) := by rw [hR]; exact W.num_small (by omega)
      obtain ⟨one, hone⟩ : ∃ one, one = ((d : Int) == 1) := ⟨_, rfl⟩
      have ho : one.toNat = d := by
        rw [hone]
        obtain rfl | rfl : d = 0 ∨ d = 1 := by omega
        · rfl
        · rfl
      obtain ⟨h3, h4⟩ := double_law (w := R) (n := b) (one := one) (by rw [hRn]; exact hr)
      rw [hRn, ho] at h3 h4
      rw [← h1] at h3
      have hD1 : (doubleW R one b).1 = W.of (remN a.num b.num j) := W.num_inj (by rw [h3, W.num_small (by have := hrl j; omega)])
      rw [← hR]
      by_cases hg : b.num ≤ 2 * remN a.num b.num (j + 1) + d
      · rw [decide_eq_true hg] at h4
        rw [if_pos hg] at h2
        rw [← hQ] at h2
        have a4 := mapN_set 256 (quoF Q (j + 1)) (i := j) (by omega) 1
        rw [quoF_set h2] at a4
        simp only [push_cast, Nat.reduceAdd, Nat.reduceSub, Nat.reduceMul, Nat.reduceLT, Nat.reduceLeDiff, Nat.reduceEqDiff, Nat.reduceMod, Nat.reduceDiv, Int.reduceAdd, Int.reduceSub, Int.reduceMul, Int.reduceLT, Int.reduceLE, Int.reduceEq, Int.reduceNeg, Int.reduceToNat, reduceIte, reduceCtorEq, hb3, hb4, hb5, hf1, hb7, hbq, Exb, Exk, Exo, Exl, j0, j1, j2, a1', ← hone, hD1, h4, mapN_zlen, a4, wrap_i64' (show -9223372036854775808 ≤ (j : Int) - 1 ∧ (j : Int) - 1 ≤ 9223372036854775807 by omega)]
        exact ⟨j, by omega, by omega, rfl, rfl, rfl⟩
      · rw [decide_eq_false hg] at h4
        rw [if_neg hg] at h2
        rw [← hQ] at h2
        simp only [push_cast, Nat.reduceAdd, Nat.reduceSub, Nat.reduceMul, Nat.reduceLT, Nat.reduceLeDiff, Nat.reduceEqDiff, Nat.reduceMod, Nat.reduceDiv, Int.reduceAdd, Int.reduceSub, Int.reduceMul, Int.reduceLT, Int.reduceLE, Int.reduceEq, Int.reduceNeg, Int.reduceToNat, reduceIte, reduceCtorEq, hb3, hb4, hb5, hf1, hb7, hbq, Exb, Exk, Exo, Exl, j0, j1, j2, a1', ← hone, hD1, h4, wrap_i64' (show -9223372036854775808 ≤ (j : Int) - 1 ∧ (j : Int) - 1 ≤ 9223372036854775807 by omega)]
        exact ⟨j, by omega, by omega, rfl, by rw [quoF_keep h2], rfl⟩
end Go.Proofs.Ytbpnjkedflkabaa
