/- Du: the document's words, layer 2: Mulmod, Exp. -/
import Derived.Test.YtbpnjkedflkabaaDt
set_option linter.unusedSimpArgs false
set_option linter.unusedVariables false
namespace Go.Ev
theorem less_sum {x y n : W} (ha : x.num < n.num) (hb : y.num < n.num) : (lessW (addW x y) (decide ((addW x y).cmp x < 0)) n).1.num = (x.num + y.num) % n.num := by
  have hl := n.num_lt
  have ho : overN (decide ((addW x y).cmp x < 0)) (addW x y).num = x.num + y.num := by
    rw [overN_eq]
    have e : (addW x y).num = (x.num + y.num) % 115792089237316195423570985008687907853269984665640564039457584007913129639936 := by unfold addW; rw [W.num_of]
    by_cases hc : (addW x y).num < x.num
    · rw [decide_eq_true (W.cmp_neg.2 hc), if_pos rfl]; omega
    · rw [decide_eq_false (fun h => hc (W.cmp_neg.1 h)), if_neg (by simp)]; omega
  have := less_law (w := addW x y) (o := decide ((addW x y).cmp x < 0)) (n := n) (by rw [ho]; omega)
  rw [ho] at this
  exact this.1
noncomputable def mulR : Nat → Nat → Nat → Nat → Nat := hid fun a b d s => a * (b / 2 ^ s) % d
theorem mulR_eq (a b d s : Nat) : mulR a b d s = a * (b / 2 ^ s) % d := by unfold mulR; rw [hid_eq]
theorem mulR_step0 {a b d j : Nat} (h : bitN b j = 0) : mulR a b d j = (2 * mulR a b d (j + 1)) % d := by
  rw [mulR_eq, mulR_eq, top_step b j, h, Nat.add_zero, Nat.mul_left_comm, Nat.mul_mod 2 (a * _ % d), Nat.mod_mod, ← Nat.mul_mod]
theorem mulR_step1 {a b d j : Nat} (h : bitN b j = 1) : mulR a b d j = ((2 * mulR a b d (j + 1)) % d + a % d) % d := by
  rw [mulR_eq, mulR_eq, top_step b j, h, Nat.mul_add, Nat.mul_one, Nat.mul_left_comm, Nat.mul_mod 2 (a * _ % d), Nat.mod_mod, ← Nat.mul_mod, ← Nat.add_mod]
theorem mulR_zero (a b d : Nat) : mulR a b d 0 = a * b % d := by rw [mulR_eq, Nat.pow_zero, Nat.div_one]
theorem mulR_top {b : Nat} (h : b < 2 ^ 256) (a d : Nat) : mulR a b d 256 = 0 := by rw [mulR_eq, Nat.div_eq_of_lt h, Nat.mul_zero, Nat.zero_mod]
noncomputable def powR : W → Nat → Nat → W := hid fun a b s => W.of (a.num ^ (b / 2 ^ s))
theorem powR_eq (a : W) (b s : Nat) : powR a b s = W.of (a.num ^ (b / 2 ^ s)) := by unfold powR; rw [hid_eq]
theorem powR_top {b : Nat} (h : b < 2 ^ 256) (a : W) : powR a b 256 = ofW 1 := by
  rw [powR_eq, Nat.div_eq_of_lt h, Nat.pow_zero]
  exact of_of (n := 1) (by decide)
theorem powR_zero (a : W) (b : Nat) : powR a b 0 = W.of (a.num ^ b) := by rw [powR_eq, Nat.pow_zero, Nat.div_one]
theorem powR_step0 {a : W} {b j : Nat} (h : bitN b j = 0) : powR a b j = mulW (powR a b (j + 1)) (powR a b (j + 1)) := by
  rw [powR_eq, powR_eq, top_step b j, h, exp_dbl a _ 0 (.inl rfl), if_neg (by decide)]; rfl
theorem powR_step1 {a : W} {b j : Nat} (h : bitN b j = 1) : powR a b j = mulW (mulW (powR a b (j + 1)) (powR a b (j + 1))) a := by
  rw [powR_eq, powR_eq, top_step b j, h, exp_dbl a _ 1 (.inr rfl), if_pos rfl]; rfl
end Go.Ev
namespace Go.Proofs.Ytbpnjkedflkabaa
open Go Go.Ev Go.Proofs
set_option maxRecDepth 100000
set_option maxHeartbeats 4000000
theorem refExp (a b : W) : CallsV Try.prog 23 [a.v, b.v] [] (Ret0 (expW a b).v) := by
  have eE : expW a b = powR a b.num 0 := by rw [powR_zero]; rfl
  have i1 : i64B 1 = true := i64B_in (by decide)
  rw [eE]
  refine callsO gU1_ok Try.mix Try.pl23 Try.func23 rfl Try.ntmps23 Try.results23 rfl (by first | rfl | assumption) (Nat.le_of_ble_eq_true rfl) (by kernel_rfl) ?_
  simp only [push_cast, Nat.reduceAdd, Nat.reduceSub, Nat.reduceMul, Nat.reduceLT, Nat.reduceLeDiff, Nat.reduceEqDiff, Nat.reduceMod, Nat.reduceDiv, Int.reduceAdd, Int.reduceSub, Int.reduceMul, Int.reduceLT, Int.reduceLE, Int.reduceEq, Int.reduceNeg, Int.reduceToNat, reduceIte, reduceCtorEq]
  intro b2 b3 hb3 b4 hb4
  simp only [push_cast, Nat.reduceAdd, Nat.reduceSub, Nat.reduceMul, Nat.reduceLT, Nat.reduceLeDiff, Nat.reduceEqDiff, Nat.reduceMod, Nat.reduceDiv, Int.reduceAdd, Int.reduceSub, Int.reduceMul, Int.reduceLT, Int.reduceLE, Int.reduceEq, Int.reduceNeg, Int.reduceToNat, reduceIte, reduceCtorEq, hb3, hb4]
  refine (bits_ok b).use trivial fun v1 N1 ho1 => ⟨ho1.wr.1, ho1.wr.2, fun hf1 => ?_⟩
  obtain ⟨bx, cx, rfl, hcx, -, rfl⟩ := ho1.pos (by decide)
  simp only [push_cast, Nat.reduceAdd, Nat.reduceSub, Nat.reduceMul, Nat.reduceLT, Nat.reduceLeDiff, Nat.reduceEqDiff, Nat.reduceMod, Nat.reduceDiv, Int.reduceAdd, Int.reduceSub, Int.reduceMul, Int.reduceLT, Int.reduceLE, Int.reduceEq, Int.reduceNeg, Int.reduceToNat, reduceIte, reduceCtorEq] at hf1
  simp only [push_cast, Nat.reduceAdd, Nat.reduceSub, Nat.reduceMul, Nat.reduceLT, Nat.reduceLeDiff, Nat.reduceEqDiff, Nat.reduceMod, Nat.reduceDiv, Int.reduceAdd, Int.reduceSub, Int.reduceMul, Int.reduceLT, Int.reduceLE, Int.reduceEq, Int.reduceNeg, Int.reduceToNat, reduceIte, reduceCtorEq, hb3, hb4, hf1, i1]
  intro b6 hb6
  obtain ⟨Ex, hEx⟩ : ∃ e : Ent, e = ⟨bx, 0, .vec 3 1 cx, zs (mapN 256 (bitsF b.num))⟩ := ⟨_, rfl⟩
  have Exk : Ex.kind = .vec 3 1 cx := by rw [hEx]
  have Exb : Ex.blk = bx := by rw [hEx]
  have Exo : Ex.off = 0 := by rw [hEx]
  have Exl : Ex.cells.length = 256 := by rw [hEx]; exact mapN_zlen _ _
  rw [← hEx]
  refine loopO gU1_ok (pl := Try.pl23) Try.mix (X := Nat)
    (fun s => ([(2, .pointer (some ⟨b2, 0, none⟩)), (4, .pointer (some ⟨b4, 0, none⟩)), (5, .slice (some ⟨bx, 0, none⟩) 256 cx), (6, .pointer (some ⟨b6, 0, none⟩)), (7, .int .i64 ((s : Int) - 1))],
      [⟨b6, 0, .cel 24, (powR a b.num s).cells⟩, Ex, ⟨b4, 0, .cel 24, W.zero.cells⟩, ⟨b2, 0, .cel 24, a.cells⟩]))
    (fun s => s ≤ 256) (fun s => s) 256 ?_ ?_ (by kernel_rfl) ?_
  · exact Nat.le_refl _
  · rw [powR_top (b := b.num) b.num_lt]
    simp only [push_cast, Nat.reduceAdd, Nat.reduceSub, Nat.reduceMul, Nat.reduceLT, Nat.reduceLeDiff, Nat.reduceEqDiff, Nat.reduceMod, Nat.reduceDiv, Int.reduceAdd, Int.reduceSub, Int.reduceMul, Int.reduceLT, Int.reduceLE, Int.reduceEq, Int.reduceNeg, Int.reduceToNat, reduceIte, reduceCtorEq, hb3, hb4, hf1, hb6, Exb]
    rfl
  · intro s hs
    dsimp only at hs ⊢
    rcases Nat.eq_zero_or_pos s with rfl | h0
    · simp only [push_cast, Nat.reduceAdd, Nat.reduceSub, Nat.reduceMul, Nat.reduceLT, Nat.reduceLeDiff, Nat.reduceEqDiff, Nat.reduceMod, Nat.reduceDiv, Int.reduceAdd, Int.reduceSub, Int.reduceMul, Int.reduceLT, Int.reduceLE, Int.reduceEq, Int.reduceNeg, Int.reduceToNat, reduceIte, reduceCtorEq, hb3, hb4, hf1, hb6, Exb, Exk]
    · obtain ⟨j, rfl⟩ : ∃ j, s = j + 1 := ⟨s - 1, by omega⟩
      have hj : ((j + 1 : Nat) : Int) - 1 = (j : Int) := by omega
      have j0 : (0 : Int) ≤ (j : Int) := by omega
      have j1 : (j : Int) < 256 := by omega
      have j2 : j + 1 ≤ 256 := by omega
      rw [hj]
      have a1' : List.take 1 (List.drop j Ex.cells) = [.int .i64 ((bitN b.num j : Nat) : Int)] := by rw [hEx]; exact mapN_at 256 (bitsF b.num) (i := j) (by omega)
      have dle := bitN_le b.num j
      rcases (by omega : bitN b.num j = 0 ∨ bitN b.num j = 1) with h | h
      · have hs := powR_step0 (a := a) h
        rw [h] at a1'
        have e0 : (((0 : Nat) : Int) == 1) = false := rfl
        generalize powR a b.num (j + 1) = R at *
        simp only [push_cast, Nat.reduceAdd, Nat.reduceSub, Nat.reduceMul, Nat.reduceLT, Nat.reduceLeDiff, Nat.reduceEqDiff, Nat.reduceMod, Nat.reduceDiv, Int.reduceAdd, Int.reduceSub, Int.reduceMul, Int.reduceLT, Int.reduceLE, Int.reduceEq, Int.reduceNeg, Int.reduceToNat, reduceIte, reduceCtorEq, hb3, hb4, hf1, hb6, Exb, Exk, Exo, Exl, j0, j1, j2, a1', e0, wrap_i64' (show -9223372036854775808 ≤ (j : Int) - 1 ∧ (j : Int) - 1 ≤ 9223372036854775807 by omega)]
        exact ⟨j, by omega, by omega, rfl, by rw [hs]⟩
      · have hs := powR_step1 (a := a) h
        rw [h] at a1'
        have e0 : (((1 : Nat) : Int) == 1) = true := rfl
        generalize powR a b.num (j + 1) = R at *
        simp only [push_cast, Nat.reduceAdd, Nat.reduceSub, Nat.reduceMul, Nat.reduceLT, Nat.reduceLeDiff, Nat.reduceEqDiff, Nat.reduceMod, Nat.reduceDiv, Int.reduceAdd, Int.reduceSub, Int.reduceMul, Int.reduceLT, Int.reduceLE, Int.reduceEq, Int.reduceNeg, Int.reduceToNat, reduceIte, reduceCtorEq, hb3, hb4, hf1, hb6, Exb, Exk, Exo, Exl, j0, j1, j2, a1', e0, wrap_i64' (show -9223372036854775808 ≤ (j : Int) - 1 ∧ (j : Int) - 1 ≤ 9223372036854775807 by omega)]
        exact ⟨j, by omega, by omega, rfl, by rw [hs]⟩
def plM : Plans := fun i => if i = 12 then Try.pl21 12 else if i = 4 then [(0, 9)] else Try.pl21 i
attribute [push_cast] plM
theorem refMulmod (a b n : W) : CallsV Try.prog 21 [a.v, b.v, n.v] [] (Ret0 (mulmodW a b n).v) := by
  refine callsO gU1_ok Try.mix plM Try.func21 rfl Try.ntmps21 Try.results21 rfl (by first | rfl | assumption) (Nat.le_of_ble_eq_true rfl) (by kernel_rfl) ?_
  simp only [push_cast, Nat.reduceAdd, Nat.reduceSub, Nat.reduceMul, Nat.reduceLT, Nat.reduceLeDiff, Nat.reduceEqDiff, Nat.reduceMod, Nat.reduceDiv, Int.reduceAdd, Int.reduceSub, Int.reduceMul, Int.reduceLT, Int.reduceLE, Int.reduceEq, Int.reduceNeg, Int.reduceToNat, reduceIte, reduceCtorEq]
  intro b3 b4 hb4 b5 hb5 b6 hb6
  by_cases h : n = W.zero
  · have e1 : decide (n = W.zero) = true := decide_eq_true h
    have e3 : mulmodW a b n = n := by unfold mulmodW; rw [if_pos h, h]
    simp only [push_cast, Nat.reduceAdd, Nat.reduceSub, Nat.reduceMul, Nat.reduceLT, Nat.reduceLeDiff, Nat.reduceEqDiff, Nat.reduceMod, Nat.reduceDiv, Int.reduceAdd, Int.reduceSub, Int.reduceMul, Int.reduceLT, Int.reduceLE, Int.reduceEq, Int.reduceNeg, Int.reduceToNat, reduceIte, reduceCtorEq, hb4, hb5, hb6, e1, e3]
  · have e1 : decide (n = W.zero) = false := decide_eq_false h
    have hn := W.pos h
    have hnl := n.num_lt
    have eE : mulmodW a b n = W.of (mulR a.num b.num n.num 0) := by unfold mulmodW; rw [if_neg h, mulR_zero]
    have hx : (modW a n).num = a.num % n.num := mod_num h
    have hxl : (modW a n).num < n.num := by rw [hx]; exact Nat.mod_lt _ hn
    have hrl : ∀ s, mulR a.num b.num n.num s < n.num := fun s => by rw [mulR_eq]; exact Nat.mod_lt _ hn
    rw [eE]
    simp only [push_cast, Nat.reduceAdd, Nat.reduceSub, Nat.reduceMul, Nat.reduceLT, Nat.reduceLeDiff, Nat.reduceEqDiff, Nat.reduceMod, Nat.reduceDiv, Int.reduceAdd, Int.reduceSub, Int.reduceMul, Int.reduceLT, Int.reduceLE, Int.reduceEq, Int.reduceNeg, Int.reduceToNat, reduceIte, reduceCtorEq, hb4, hb5, hb6, e1]
    intro b7 hb7
    refine regO gU1_ok ?_
    simp only [push_cast, Nat.reduceAdd, Nat.reduceSub, Nat.reduceMul, Nat.reduceLT, Nat.reduceLeDiff, Nat.reduceEqDiff, Nat.reduceMod, Nat.reduceDiv, Int.reduceAdd, Int.reduceSub, Int.reduceMul, Int.reduceLT, Int.reduceLE, Int.reduceEq, Int.reduceNeg, Int.reduceToNat, reduceIte, reduceCtorEq, hb4, hb5, hb6, hb7]
    refine (bits_ok b).use trivial fun v1 N1 ho1 => ⟨ho1.wr.1, ho1.wr.2, fun hf1 => ?_⟩
    obtain ⟨bx, cx, rfl, hcx, -, rfl⟩ := ho1.pos (by decide)
    simp only [push_cast, Nat.reduceAdd, Nat.reduceSub, Nat.reduceMul, Nat.reduceLT, Nat.reduceLeDiff, Nat.reduceEqDiff, Nat.reduceMod, Nat.reduceDiv, Int.reduceAdd, Int.reduceSub, Int.reduceMul, Int.reduceLT, Int.reduceLE, Int.reduceEq, Int.reduceNeg, Int.reduceToNat, reduceIte, reduceCtorEq] at hf1
    simp only [push_cast, Nat.reduceAdd, Nat.reduceSub, Nat.reduceMul, Nat.reduceLT, Nat.reduceLeDiff, Nat.reduceEqDiff, Nat.reduceMod, Nat.reduceDiv, Int.reduceAdd, Int.reduceSub, Int.reduceMul, Int.reduceLT, Int.reduceLE, Int.reduceEq, Int.reduceNeg, Int.reduceToNat, reduceIte, reduceCtorEq, hb4, hb5, hb6, hb7, hf1]
    intro b9 hb9
    obtain ⟨Ex, hEx⟩ : ∃ e : Ent, e = ⟨bx, 0, .vec 3 1 cx, zs (mapN 256 (bitsF b.num))⟩ := ⟨_, rfl⟩
    have Exk : Ex.kind = .vec 3 1 cx := by rw [hEx]
    have Exb : Ex.blk = bx := by rw [hEx]
    have Exo : Ex.off = 0 := by rw [hEx]
    have Exl : Ex.cells.length = 256 := by rw [hEx]; exact mapN_zlen _ _
    rw [← hEx]
    obtain ⟨x, hxx⟩ : ∃ x, x = modW a n := ⟨_, rfl⟩
    rw [← hxx] at hx hxl ⊢
    refine loopO gU1_ok (pl := Try.pl21) Try.mix (X := Nat)
      (fun s => ([(5, .pointer (some ⟨b5, 0, none⟩)), (6, .pointer (some ⟨b6, 0, none⟩)), (7, .pointer (some ⟨b7, 0, none⟩)), (8, .slice (some ⟨bx, 0, none⟩) 256 cx), (9, .pointer (some ⟨b9, 0, none⟩)), (10, .int .i64 ((s : Int) - 1))],
        [⟨b9, 0, .cel 24, (W.of (mulR a.num b.num n.num s)).cells⟩, Ex, ⟨b7, 0, .cel 24, x.cells⟩, ⟨b6, 0, .cel 24, W.zero.cells⟩, ⟨b5, 0, .cel 24, n.cells⟩]))
      (fun s => s ≤ 256) (fun s => s) 256 ?_ ?_ (by kernel_rfl) ?_
    · exact Nat.le_refl _
    · rw [mulR_top (b := b.num) b.num_lt, W.of_zero]
      simp only [push_cast, Nat.reduceAdd, Nat.reduceSub, Nat.reduceMul, Nat.reduceLT, Nat.reduceLeDiff, Nat.reduceEqDiff, Nat.reduceMod, Nat.reduceDiv, Int.reduceAdd, Int.reduceSub, Int.reduceMul, Int.reduceLT, Int.reduceLE, Int.reduceEq, Int.reduceNeg, Int.reduceToNat, reduceIte, reduceCtorEq, hb4, hb5, hb6, hb7, hf1, hb9, Exb]
      exact ⟨rfl, rfl⟩
    · intro s hs
      dsimp only at hs ⊢
      rcases Nat.eq_zero_or_pos s with rfl | h0
      · simp only [push_cast, Nat.reduceAdd, Nat.reduceSub, Nat.reduceMul, Nat.reduceLT, Nat.reduceLeDiff, Nat.reduceEqDiff, Nat.reduceMod, Nat.reduceDiv, Int.reduceAdd, Int.reduceSub, Int.reduceMul, Int.reduceLT, Int.reduceLE, Int.reduceEq, Int.reduceNeg, Int.reduceToNat, reduceIte, reduceCtorEq, hb4, hb5, hb6, hb7, hf1, hb9, Exb, Exk]
      · obtain ⟨j, rfl⟩ : ∃ j, s = j + 1 := ⟨s - 1, by omega⟩
        have hj : ((j + 1 : Nat) : Int) - 1 = (j : Int) := by omega
        have j0 : (0 : Int) ≤ (j : Int) := by omega
        have j1 : (j : Int) < 256 := by omega
        have j2 : j + 1 ≤ 256 := by omega
        rw [hj]
        have a1' : List.take 1 (List.drop j Ex.cells) = [.int .i64 ((bitN b.num j : Nat) : Int)] := by rw [hEx]; exact mapN_at 256 (bitsF b.num) (i := j) (by omega)
        have dle := bitN_le b.num j
        obtain ⟨R, hR⟩ : ∃ R, R = W.of (mulR a.num b.num n.num (j + 1)) := ⟨_, rfl⟩
        have hRn : R.num = mulR a.num b.num n.num (j + 1) := by rw [hR]; exact W.num_small (by have := hrl (j + 1); omega)
        have hD := (double_law (w := R) (n := n) (one := false) (by rw [hRn]; exact hrl _)).1
        rw [hRn, show false.toNat = 0 from rfl, Nat.add_zero] at hD
        have hDl : (doubleW R false n).1.num < n.num := by rw [hD]; exact Nat.mod_lt _ hn
        have hS := less_sum hDl hxl
        obtain ⟨D, hDD⟩ : ∃ D, D = (doubleW R false n).1 := ⟨_, rfl⟩
        rw [← hDD] at hD hS
        rw [← hR]
        rcases (by omega : bitN b.num j = 0 ∨ bitN b.num j = 1) with h | h
        · have hs := mulR_step0 (a := a.num) (d := n.num) h
          rw [h] at a1'
          have e0 : (((0 : Nat) : Int) == 1) = false := rfl
          simp only [push_cast, Nat.reduceAdd, Nat.reduceSub, Nat.reduceMul, Nat.reduceLT, Nat.reduceLeDiff, Nat.reduceEqDiff, Nat.reduceMod, Nat.reduceDiv, Int.reduceAdd, Int.reduceSub, Int.reduceMul, Int.reduceLT, Int.reduceLE, Int.reduceEq, Int.reduceNeg, Int.reduceToNat, reduceIte, reduceCtorEq, hb4, hb5, hb6, hb7, hf1, hb9, Exb, Exk, Exo, Exl, j0, j1, j2, a1', e0, ← hDD, wrap_i64' (show -9223372036854775808 ≤ (j : Int) - 1 ∧ (j : Int) - 1 ≤ 9223372036854775807 by omega)]
          exact ⟨j, by omega, by omega, rfl, by rw [show D = W.of (mulR a.num b.num n.num j) from W.num_inj (by rw [W.num_small (by have := hrl j; omega), hs, hD])]⟩
        · have hs := mulR_step1 (a := a.num) (d := n.num) h
          rw [h] at a1'
          have e0 : (((1 : Nat) : Int) == 1) = true := rfl
          simp only [push_cast, Nat.reduceAdd, Nat.reduceSub, Nat.reduceMul, Nat.reduceLT, Nat.reduceLeDiff, Nat.reduceEqDiff, Nat.reduceMod, Nat.reduceDiv, Int.reduceAdd, Int.reduceSub, Int.reduceMul, Int.reduceLT, Int.reduceLE, Int.reduceEq, Int.reduceNeg, Int.reduceToNat, reduceIte, reduceCtorEq, hb4, hb5, hb6, hb7, hf1, hb9, Exb, Exk, Exo, Exl, j0, j1, j2, a1', e0, ← hDD]
          intro b11 hb11
          simp only [push_cast, Nat.reduceAdd, Nat.reduceSub, Nat.reduceMul, Nat.reduceLT, Nat.reduceLeDiff, Nat.reduceEqDiff, Nat.reduceMod, Nat.reduceDiv, Int.reduceAdd, Int.reduceSub, Int.reduceMul, Int.reduceLT, Int.reduceLE, Int.reduceEq, Int.reduceNeg, Int.reduceToNat, reduceIte, reduceCtorEq, hb4, hb5, hb6, hb7, hf1, hb9, hb11, Exb, Exk, Exo, Exl, j0, j1, j2, a1', e0, ← hDD, wrap_i64' (show -9223372036854775808 ≤ (j : Int) - 1 ∧ (j : Int) - 1 ≤ 9223372036854775807 by omega)]
          exact ⟨j, by omega, by omega, rfl, by rw [show (lessW (addW D x) (decide ((addW D x).cmp D < 0)) n).1 = W.of (mulR a.num b.num n.num j) from W.num_inj (by rw [W.num_small (by have := hrl j; omega), hs, hS, hD, hx])]⟩
end Go.Proofs.Ytbpnjkedflkabaa
