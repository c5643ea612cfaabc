/- Dd: quotient and remainder: written by program (wip/tools/divided.py). -/
import Derived.Test.YtbpnjkedflkabaaDc
set_option linter.unusedSimpArgs false
set_option linter.unusedVariables false
namespace Go.Proofs.Ytbpnjkedflkabaa
open Go Go.Ev Go.Proofs
set_option maxRecDepth 100000
set_option maxHeartbeats 4000000
theorem ones1 (x : W1) : CallsV Try.prog 44 [x.w.v] [] (fun v N => ∃ b, v = .func (.func 56) #[] #[.pointer (some ⟨b, 0, none⟩)] ∧ N = [⟨b, 0, .cel 24, x.cells⟩]) := by
  refine callsO gX_ok Try.mix Try.pl44 Try.func44 rfl Try.ntmps44 Try.results44 rfl (by first | rfl | assumption) (Nat.le_of_ble_eq_true rfl) (by kernel_rfl) ?_
  simp only [push_cast, Nat.reduceAdd, Nat.reduceSub, Nat.reduceMul, Nat.reduceLT, Nat.reduceLeDiff, Nat.reduceEqDiff, Nat.reduceMod, Nat.reduceDiv, Int.reduceAdd, Int.reduceSub, Int.reduceMul, Int.reduceLT, Int.reduceLE, Int.reduceEq, Int.reduceNeg, Int.reduceToNat, reduceIte, reduceCtorEq]
  intro b1
  exact ⟨[_], List.Sublist.refl _, b1, rfl, rfl⟩
theorem divided1 (x : W1) (d : W) (hd : 0 < d.num) : CallsV Try.prog 29 [x.w.v, d.v] [] (Ret0 (.tuple #[(W.of (x.num / d.num)).v, (W.of (x.num % d.num)).v])) := by
  obtain ⟨Q, hQ⟩ : ∃ Q, Q = W.of (x.num / d.num) := ⟨_, rfl⟩
  obtain ⟨R, hR⟩ : ∃ R, R = W.of (x.num % d.num) := ⟨_, rfl⟩
  rw [← hQ, ← hR]
  refine callsO gX_ok Try.mix Try.pl29 Try.func29 rfl Try.ntmps29 Try.results29 rfl (by first | rfl | assumption) (Nat.le_of_ble_eq_true rfl) (by kernel_rfl) ?_
  simp only [push_cast, Nat.reduceAdd, Nat.reduceSub, Nat.reduceMul, Nat.reduceLT, Nat.reduceLeDiff, Nat.reduceEqDiff, Nat.reduceMod, Nat.reduceDiv, Int.reduceAdd, Int.reduceSub, Int.reduceMul, Int.reduceLT, Int.reduceLE, Int.reduceEq, Int.reduceNeg, Int.reduceToNat, reduceIte, reduceCtorEq]
  intro b2 b3 hb3 b4 hb4 b5 hb5
  try simp only [push_cast, Nat.reduceAdd, Nat.reduceSub, Nat.reduceMul, Nat.reduceLT, Nat.reduceLeDiff, Nat.reduceEqDiff, Nat.reduceMod, Nat.reduceDiv, Int.reduceAdd, Int.reduceSub, Int.reduceMul, Int.reduceLT, Int.reduceLE, Int.reduceEq, Int.reduceNeg, Int.reduceToNat, reduceIte, reduceCtorEq, hb3, hb4, hb5]
  refine (ones1 x).use trivial ?_
  rintro _ _ ⟨bn, rfl, rfl⟩
  refine ⟨⟨trivial, trivial⟩, rfl, fun hfn => ?_⟩
  simp only [push_cast, Nat.reduceAdd, Nat.reduceSub, Nat.reduceMul, Nat.reduceLT, Nat.reduceLeDiff, Nat.reduceEqDiff, Nat.reduceMod, Nat.reduceDiv, Int.reduceAdd, Int.reduceSub, Int.reduceMul, Int.reduceLT, Int.reduceLE, Int.reduceEq, Int.reduceNeg, Int.reduceToNat, reduceIte, reduceCtorEq] at hfn
  try simp only [push_cast, Nat.reduceAdd, Nat.reduceSub, Nat.reduceMul, Nat.reduceLT, Nat.reduceLeDiff, Nat.reduceEqDiff, Nat.reduceMod, Nat.reduceDiv, Int.reduceAdd, Int.reduceSub, Int.reduceMul, Int.reduceLT, Int.reduceLE, Int.reduceEq, Int.reduceNeg, Int.reduceToNat, reduceIte, reduceCtorEq, hb3, hb4, hb5, hfn]
  refine rangeO gX_ok (pl := Try.pl29) Try.mix (Hc := [⟨bn, 0, .cel 24, x.cells⟩]) (Hm := [])
    (ones1_ok (x := x) (bn := bn) (kd := .cel 24) rfl (by simp [findE, W1.cells])) rfl
    (X := W × W) (fun s => [⟨b5, 0, .cel 24, s.2.cells⟩, ⟨b4, 0, .cel 24, s.1.cells⟩, ⟨b3, 0, .cel 24, d.cells⟩])
    (fun k s => s.1 = W.of (x.num / 2 ^ (256 - k) / d.num) ∧ s.2 = W.of (x.num / 2 ^ (256 - k) % d.num)) (fun _ _ => False) (W.zero, W.zero)
    ?_ ?_ ?_ ?_ (by simp) (fun s => rfl) (fun s u e he => .inl ?_) ?_ (by kernel_rfl) (by kernel_rfl) (fun _ _ h => h.elim) ?_ ?_ (fun _ _ _ _ h => h.elim)
  · have h0 : x.num / 2 ^ (256 - 0) = 0 := by rw [Nat.sub_zero]; exact Nat.div_eq_of_lt x.lt
    dsimp only
    rw [h0, Nat.zero_div, Nat.zero_mod]
    exact ⟨W.of_zero.symm, W.of_zero.symm⟩
  · simp only [push_cast, Nat.reduceAdd, Nat.reduceSub, Nat.reduceMul, Nat.reduceLT, Nat.reduceLeDiff, Nat.reduceEqDiff, Nat.reduceMod, Nat.reduceDiv, Int.reduceAdd, Int.reduceSub, Int.reduceMul, Int.reduceLT, Int.reduceLE, Int.reduceEq, Int.reduceNeg, Int.reduceToNat, reduceIte, reduceCtorEq, hb3, hb4, hb5, hfn]
    exact ⟨rfl, rfl⟩
  · rfl
  · rfl
  · simp at he; rcases he with rfl | rfl | rfl <;> trivial
  · intro args ha
    obtain ⟨y, _, rfl⟩ := List.mem_map.1 ha
    rfl
  · rintro lo k ⟨q, r⟩ args hk ⟨hq, hr⟩
    dsimp only at hq hr ⊢
    obtain ⟨j, hj, rfl⟩ := Option.map_eq_some_iff.1 ((List.getElem?_map ..).symm.trans hk)
    obtain ⟨hk1, hk2⟩ := List.getElem?_eq_some_iff.1 hj
    rw [List.getElem_range] at hk2
    subst hk2
    rw [List.length_range] at hk1
    obtain ⟨m, hm⟩ : ∃ m, m = 255 - k := ⟨_, rfl⟩
    rw [show 256 - k = m + 1 by omega] at hq hr
    have hm1 : 256 - (k + 1) = m := by omega
    rw [← hm]
    have hdl := d.num_lt
    have hrl := Nat.mod_lt (x.num / 2 ^ (m + 1)) hd
    have hbl := bitN_le x.num m
    have hrn : r.num = x.num / 2 ^ (m + 1) % d.num := by rw [hr, W.num_small (by omega)]
    have hqn : ∀ b, W.of (2 * q.num + b) = W.of (2 * (x.num / 2 ^ (m + 1) / d.num) + b) := fun b => by rw [hq, W.dbl_of]
    have hq0 := hqn 0
    rw [Nat.add_zero, Nat.add_zero] at hq0
    have htop := r.top
    generalize hRK : (roundK _ _ _ k : Exit → Tm → Hp → Prop) = RK
    rcases Nat.lt_or_ge (2 * r.num + bitN x.num m) d.num with hlt | hge
    · have ho : (bitsI .and .u64 (r.d : Int) 9223372036854775808 != 0) = false := by rw [and_top r.hd, decide_eq_false_iff_not]; omega
      have hc : ¬ 0 ≤ (W.of (2 * r.num + bitN x.num m)).cmp d := by
        have := W.cmp_neg.2 (show (W.of (2 * r.num + bitN x.num m)).num < d.num by rw [W.num_small (by omega)]; exact hlt)
        omega
      rw [hrn] at hlt
      obtain ⟨e1, e2⟩ := dv_lt hd hlt
      simp only [push_cast, Nat.reduceAdd, Nat.reduceSub, Nat.reduceMul, Nat.reduceLT, Nat.reduceLeDiff, Nat.reduceEqDiff, Nat.reduceMod, Nat.reduceDiv, Int.reduceAdd, Int.reduceSub, Int.reduceMul, Int.reduceLT, Int.reduceLE, Int.reduceEq, Int.reduceNeg, Int.reduceToNat, reduceIte, reduceCtorEq, hb3, hb4, hb5, ho, hc]
      rw [← hRK]
      refine ⟨(W.of (2 * q.num), W.of (2 * r.num + bitN x.num m)), ⟨?_, ?_⟩, subH_self _⟩
      · dsimp only; rw [hm1, e1, hq0]
      · dsimp only; rw [hm1, e2, hrn]
    · rw [hrn] at hge
      obtain ⟨e1, e2⟩ := dv_ge hd hge
      rw [← hrn] at hge
      by_cases hov : 9223372036854775808 ≤ r.d
      · have ho : (bitsI .and .u64 (r.d : Int) 9223372036854775808 != 0) = true := by rw [and_top r.hd, decide_eq_true_eq]; exact hov
        simp only [push_cast, Nat.reduceAdd, Nat.reduceSub, Nat.reduceMul, Nat.reduceLT, Nat.reduceLeDiff, Nat.reduceEqDiff, Nat.reduceMod, Nat.reduceDiv, Int.reduceAdd, Int.reduceSub, Int.reduceMul, Int.reduceLT, Int.reduceLE, Int.reduceEq, Int.reduceNeg, Int.reduceToNat, reduceIte, reduceCtorEq, hb3, hb4, hb5, ho]
        rw [← hRK]
        refine ⟨(W.of (2 * q.num + 1), subW (W.of (2 * r.num + bitN x.num m)) d), ⟨?_, ?_⟩, subH_self _⟩
        · dsimp only; rw [hm1, e1, hqn 1]
        · dsimp only; rw [hm1, e2, subW_eq, W.sub_dbl hdl hge (by omega), hrn]
      · have ho : (bitsI .and .u64 (r.d : Int) 9223372036854775808 != 0) = false := by rw [and_top r.hd, decide_eq_false_iff_not]; exact hov
        have hc : 0 ≤ (W.of (2 * r.num + bitN x.num m)).cmp d := by
          have h1 : ¬ (W.of (2 * r.num + bitN x.num m)).num < d.num := by rw [W.num_small (by omega)]; omega
          have := mt W.cmp_neg.1 h1
          omega
        simp only [push_cast, Nat.reduceAdd, Nat.reduceSub, Nat.reduceMul, Nat.reduceLT, Nat.reduceLeDiff, Nat.reduceEqDiff, Nat.reduceMod, Nat.reduceDiv, Int.reduceAdd, Int.reduceSub, Int.reduceMul, Int.reduceLT, Int.reduceLE, Int.reduceEq, Int.reduceNeg, Int.reduceToNat, reduceIte, reduceCtorEq, hb3, hb4, hb5, ho, hc]
        rw [← hRK]
        refine ⟨(W.of (2 * q.num + 1), subW (W.of (2 * r.num + bitN x.num m)) d), ⟨?_, ?_⟩, subH_self _⟩
        · dsimp only; rw [hm1, e1, hqn 1]
        · dsimp only; rw [hm1, e2, subW_eq, W.sub_dbl hdl hge (by omega), hrn]
  · rintro D ⟨q, r⟩ hfD ⟨hq, hr⟩
    dsimp only at hq hr ⊢
    rw [List.length_map, List.length_range, Nat.sub_self, Nat.pow_zero, Nat.div_one] at hq hr
    rw [hQ, hR, ← hq, ← hr]
    simp only [push_cast, Nat.reduceAdd, Nat.reduceSub, Nat.reduceMul, Nat.reduceLT, Nat.reduceLeDiff, Nat.reduceEqDiff, Nat.reduceMod, Nat.reduceDiv, Int.reduceAdd, Int.reduceSub, Int.reduceMul, Int.reduceLT, Int.reduceLE, Int.reduceEq, Int.reduceNeg, Int.reduceToNat, reduceIte, reduceCtorEq] at hfD
    simp only [push_cast, Nat.reduceAdd, Nat.reduceSub, Nat.reduceMul, Nat.reduceLT, Nat.reduceLeDiff, Nat.reduceEqDiff, Nat.reduceMod, Nat.reduceDiv, Int.reduceAdd, Int.reduceSub, Int.reduceMul, Int.reduceLT, Int.reduceLE, Int.reduceEq, Int.reduceNeg, Int.reduceToNat, reduceIte, reduceCtorEq, hb3, hb4, hb5, hfD]
theorem ones2 (x : W8) : CallsV Try.prog 54 [x.v] [] (fun v N => ∃ b, v = .func (.func 61) #[] #[.pointer (some ⟨b, 0, none⟩)] ∧ N = [⟨b, 0, .cel 47, x.cells⟩]) := by
  refine callsO gX_ok Try.mix Try.pl54 Try.func54 rfl Try.ntmps54 Try.results54 rfl (by first | rfl | assumption) (Nat.le_of_ble_eq_true rfl) (by kernel_rfl) ?_
  simp only [push_cast, Nat.reduceAdd, Nat.reduceSub, Nat.reduceMul, Nat.reduceLT, Nat.reduceLeDiff, Nat.reduceEqDiff, Nat.reduceMod, Nat.reduceDiv, Int.reduceAdd, Int.reduceSub, Int.reduceMul, Int.reduceLT, Int.reduceLE, Int.reduceEq, Int.reduceNeg, Int.reduceToNat, reduceIte, reduceCtorEq, W8.v]
  intro b1
  exact ⟨[_], List.Sublist.refl _, b1, rfl, rfl⟩
theorem divided2 (x : W8) (d : W) (hd : 0 < d.num) : CallsV Try.prog 38 [x.v, d.v] [] (Ret0 (.tuple #[(W.of (x.num / d.num)).v, (W.of (x.num % d.num)).v])) := by
  obtain ⟨Q, hQ⟩ : ∃ Q, Q = W.of (x.num / d.num) := ⟨_, rfl⟩
  obtain ⟨R, hR⟩ : ∃ R, R = W.of (x.num % d.num) := ⟨_, rfl⟩
  rw [← hQ, ← hR]
  refine callsO gX_ok Try.mix Try.pl38 Try.func38 rfl Try.ntmps38 Try.results38 rfl (by first | rfl | assumption) (Nat.le_of_ble_eq_true rfl) (by kernel_rfl) ?_
  simp only [push_cast, Nat.reduceAdd, Nat.reduceSub, Nat.reduceMul, Nat.reduceLT, Nat.reduceLeDiff, Nat.reduceEqDiff, Nat.reduceMod, Nat.reduceDiv, Int.reduceAdd, Int.reduceSub, Int.reduceMul, Int.reduceLT, Int.reduceLE, Int.reduceEq, Int.reduceNeg, Int.reduceToNat, reduceIte, reduceCtorEq, W8.v]
  intro b2 b3 hb3 b4 hb4 b5 hb5
  try simp only [push_cast, Nat.reduceAdd, Nat.reduceSub, Nat.reduceMul, Nat.reduceLT, Nat.reduceLeDiff, Nat.reduceEqDiff, Nat.reduceMod, Nat.reduceDiv, Int.reduceAdd, Int.reduceSub, Int.reduceMul, Int.reduceLT, Int.reduceLE, Int.reduceEq, Int.reduceNeg, Int.reduceToNat, reduceIte, reduceCtorEq, hb3, hb4, hb5]
  refine (ones2 x).use trivial ?_
  rintro _ _ ⟨bn, rfl, rfl⟩
  refine ⟨⟨trivial, trivial⟩, rfl, fun hfn => ?_⟩
  simp only [push_cast, Nat.reduceAdd, Nat.reduceSub, Nat.reduceMul, Nat.reduceLT, Nat.reduceLeDiff, Nat.reduceEqDiff, Nat.reduceMod, Nat.reduceDiv, Int.reduceAdd, Int.reduceSub, Int.reduceMul, Int.reduceLT, Int.reduceLE, Int.reduceEq, Int.reduceNeg, Int.reduceToNat, reduceIte, reduceCtorEq] at hfn
  try simp only [push_cast, Nat.reduceAdd, Nat.reduceSub, Nat.reduceMul, Nat.reduceLT, Nat.reduceLeDiff, Nat.reduceEqDiff, Nat.reduceMod, Nat.reduceDiv, Int.reduceAdd, Int.reduceSub, Int.reduceMul, Int.reduceLT, Int.reduceLE, Int.reduceEq, Int.reduceNeg, Int.reduceToNat, reduceIte, reduceCtorEq, hb3, hb4, hb5, hfn]
  refine rangeO gX_ok (pl := Try.pl38) Try.mix (Hc := [⟨bn, 0, .cel 47, x.cells⟩]) (Hm := [])
    (ones2_ok (x := x) (bn := bn) (kd := .cel 47) rfl (by simp [findE, W8.cells])) rfl
    (X := W × W) (fun s => [⟨b5, 0, .cel 24, s.2.cells⟩, ⟨b4, 0, .cel 24, s.1.cells⟩, ⟨b3, 0, .cel 24, d.cells⟩])
    (fun k s => s.1 = W.of (x.num / 2 ^ (512 - k) / d.num) ∧ s.2 = W.of (x.num / 2 ^ (512 - k) % d.num)) (fun _ _ => False) (W.zero, W.zero)
    ?_ ?_ ?_ ?_ (by simp) (fun s => rfl) (fun s u e he => .inl ?_) ?_ (by kernel_rfl) (by kernel_rfl) (fun _ _ h => h.elim) ?_ ?_ (fun _ _ _ _ h => h.elim)
  · have h0 : x.num / 2 ^ (512 - 0) = 0 := by rw [Nat.sub_zero]; exact Nat.div_eq_of_lt x.lt
    dsimp only
    rw [h0, Nat.zero_div, Nat.zero_mod]
    exact ⟨W.of_zero.symm, W.of_zero.symm⟩
  · simp only [push_cast, Nat.reduceAdd, Nat.reduceSub, Nat.reduceMul, Nat.reduceLT, Nat.reduceLeDiff, Nat.reduceEqDiff, Nat.reduceMod, Nat.reduceDiv, Int.reduceAdd, Int.reduceSub, Int.reduceMul, Int.reduceLT, Int.reduceLE, Int.reduceEq, Int.reduceNeg, Int.reduceToNat, reduceIte, reduceCtorEq, hb3, hb4, hb5, hfn]
    exact ⟨rfl, rfl⟩
  · rfl
  · rfl
  · simp at he; rcases he with rfl | rfl | rfl <;> trivial
  · intro args ha
    obtain ⟨y, _, rfl⟩ := List.mem_map.1 ha
    rfl
  · rintro lo k ⟨q, r⟩ args hk ⟨hq, hr⟩
    dsimp only at hq hr ⊢
    obtain ⟨j, hj, rfl⟩ := Option.map_eq_some_iff.1 ((List.getElem?_map ..).symm.trans hk)
    obtain ⟨hk1, hk2⟩ := List.getElem?_eq_some_iff.1 hj
    rw [List.getElem_range] at hk2
    subst hk2
    rw [List.length_range] at hk1
    obtain ⟨m, hm⟩ : ∃ m, m = 511 - k := ⟨_, rfl⟩
    rw [show 512 - k = m + 1 by omega] at hq hr
    have hm1 : 512 - (k + 1) = m := by omega
    rw [← hm]
    have hdl := d.num_lt
    have hrl := Nat.mod_lt (x.num / 2 ^ (m + 1)) hd
    have hbl := bitN_le x.num m
    have hrn : r.num = x.num / 2 ^ (m + 1) % d.num := by rw [hr, W.num_small (by omega)]
    have hqn : ∀ b, W.of (2 * q.num + b) = W.of (2 * (x.num / 2 ^ (m + 1) / d.num) + b) := fun b => by rw [hq, W.dbl_of]
    have hq0 := hqn 0
    rw [Nat.add_zero, Nat.add_zero] at hq0
    have htop := r.top
    generalize hRK : (roundK _ _ _ k : Exit → Tm → Hp → Prop) = RK
    rcases Nat.lt_or_ge (2 * r.num + bitN x.num m) d.num with hlt | hge
    · have ho : (bitsI .and .u64 (r.d : Int) 9223372036854775808 != 0) = false := by rw [and_top r.hd, decide_eq_false_iff_not]; omega
      have hc : ¬ 0 ≤ (W.of (2 * r.num + bitN x.num m)).cmp d := by
        have := W.cmp_neg.2 (show (W.of (2 * r.num + bitN x.num m)).num < d.num by rw [W.num_small (by omega)]; exact hlt)
        omega
      rw [hrn] at hlt
      obtain ⟨e1, e2⟩ := dv_lt hd hlt
      simp only [push_cast, Nat.reduceAdd, Nat.reduceSub, Nat.reduceMul, Nat.reduceLT, Nat.reduceLeDiff, Nat.reduceEqDiff, Nat.reduceMod, Nat.reduceDiv, Int.reduceAdd, Int.reduceSub, Int.reduceMul, Int.reduceLT, Int.reduceLE, Int.reduceEq, Int.reduceNeg, Int.reduceToNat, reduceIte, reduceCtorEq, hb3, hb4, hb5, ho, hc]
      rw [← hRK]
      refine ⟨(W.of (2 * q.num), W.of (2 * r.num + bitN x.num m)), ⟨?_, ?_⟩, subH_self _⟩
      · dsimp only; rw [hm1, e1, hq0]
      · dsimp only; rw [hm1, e2, hrn]
    · rw [hrn] at hge
      obtain ⟨e1, e2⟩ := dv_ge hd hge
      rw [← hrn] at hge
      by_cases hov : 9223372036854775808 ≤ r.d
      · have ho : (bitsI .and .u64 (r.d : Int) 9223372036854775808 != 0) = true := by rw [and_top r.hd, decide_eq_true_eq]; exact hov
        simp only [push_cast, Nat.reduceAdd, Nat.reduceSub, Nat.reduceMul, Nat.reduceLT, Nat.reduceLeDiff, Nat.reduceEqDiff, Nat.reduceMod, Nat.reduceDiv, Int.reduceAdd, Int.reduceSub, Int.reduceMul, Int.reduceLT, Int.reduceLE, Int.reduceEq, Int.reduceNeg, Int.reduceToNat, reduceIte, reduceCtorEq, hb3, hb4, hb5, ho]
        rw [← hRK]
        refine ⟨(W.of (2 * q.num + 1), subW (W.of (2 * r.num + bitN x.num m)) d), ⟨?_, ?_⟩, subH_self _⟩
        · dsimp only; rw [hm1, e1, hqn 1]
        · dsimp only; rw [hm1, e2, subW_eq, W.sub_dbl hdl hge (by omega), hrn]
      · have ho : (bitsI .and .u64 (r.d : Int) 9223372036854775808 != 0) = false := by rw [and_top r.hd, decide_eq_false_iff_not]; exact hov
        have hc : 0 ≤ (W.of (2 * r.num + bitN x.num m)).cmp d := by
          have h1 : ¬ (W.of (2 * r.num + bitN x.num m)).num < d.num := by rw [W.num_small (by omega)]; omega
          have := mt W.cmp_neg.1 h1
          omega
        simp only [push_cast, Nat.reduceAdd, Nat.reduceSub, Nat.reduceMul, Nat.reduceLT, Nat.reduceLeDiff, Nat.reduceEqDiff, Nat.reduceMod, Nat.reduceDiv, Int.reduceAdd, Int.reduceSub, Int.reduceMul, Int.reduceLT, Int.reduceLE, Int.reduceEq, Int.reduceNeg, Int.reduceToNat, reduceIte, reduceCtorEq, hb3, hb4, hb5, ho, hc]
        rw [← hRK]
        refine ⟨(W.of (2 * q.num + 1), subW (W.of (2 * r.num + bitN x.num m)) d), ⟨?_, ?_⟩, subH_self _⟩
        · dsimp only; rw [hm1, e1, hqn 1]
        · dsimp only; rw [hm1, e2, subW_eq, W.sub_dbl hdl hge (by omega), hrn]
  · rintro D ⟨q, r⟩ hfD ⟨hq, hr⟩
    dsimp only at hq hr ⊢
    rw [List.length_map, List.length_range, Nat.sub_self, Nat.pow_zero, Nat.div_one] at hq hr
    rw [hQ, hR, ← hq, ← hr]
    simp only [push_cast, Nat.reduceAdd, Nat.reduceSub, Nat.reduceMul, Nat.reduceLT, Nat.reduceLeDiff, Nat.reduceEqDiff, Nat.reduceMod, Nat.reduceDiv, Int.reduceAdd, Int.reduceSub, Int.reduceMul, Int.reduceLT, Int.reduceLE, Int.reduceEq, Int.reduceNeg, Int.reduceToNat, reduceIte, reduceCtorEq] at hfD
    simp only [push_cast, Nat.reduceAdd, Nat.reduceSub, Nat.reduceMul, Nat.reduceLT, Nat.reduceLeDiff, Nat.reduceEqDiff, Nat.reduceMod, Nat.reduceDiv, Int.reduceAdd, Int.reduceSub, Int.reduceMul, Int.reduceLT, Int.reduceLE, Int.reduceEq, Int.reduceNeg, Int.reduceToNat, reduceIte, reduceCtorEq, hb3, hb4, hb5, hfD]
end Go.Proofs.Ytbpnjkedflkabaa
