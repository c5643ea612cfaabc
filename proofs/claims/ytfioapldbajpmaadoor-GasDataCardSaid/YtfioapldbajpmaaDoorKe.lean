/- Ke: raw addresses, keys and sets. -/
import Derived.Test.YtfioapldbajpmaaDoorKd
set_option linter.unusedSimpArgs false
set_option linter.unusedVariables false
namespace Go.Ev
def addrL (k : Nat) : List UInt8 := (if 5 < k then 1 else 0) :: (List.replicate 18 0 ++ [UInt8.ofNat k])
theorem addrL_len (k : Nat) : (addrL k).length = 20 := by simp [addrL]
noncomputable def addrR : Int → List UInt8 := hid fun n => addrL (pickN n 9)
theorem addrR_eq (n : Int) : addrR n = addrL (pickN n 9) := by unfold addrR; rw [hid_eq]
theorem addrR_len (n : Int) : (addrR n).length = 20 := by rw [addrR_eq, addrL_len]
noncomputable def addrG : List Value → Option Value
  | [.int .i64 n] => if i64B n then some (.agg (byteV (addrR n)).toArray) else none
  | _ => none
noncomputable def keyR (a b : Int) : KeyT := if pickN b 5 = 0 then ⟨addrR a, false, W.zero, addrR_len a⟩ else ⟨addrR a, true, ofW ((pickN b 5 : Int) - 1), addrR_len a⟩
noncomputable def keyRG : List Value → Option Value
  | [.int .i64 a, .int .i64 b] => if i64B a && i64B b then some (keyR a b).v else none
  | _ => none
attribute [push_cast] addrG keyRG
theorem keyR_may (a b : Int) : (keyR a b).may = true := by
  unfold keyR KeyT.may
  split
  · simp
  · rfl
/-- pairs of numbers -/
def prV (x : Int × Int) : List Value := [.int .i64 x.1, .int .i64 x.2]
theorem prV_len (x : Int × Int) : (prV x).length = 2 := rfl
noncomputable def keysR (l : List (Int × Int)) : List KeyT := (l.take 15).map fun x => keyR x.1 x.2
theorem keysR_len (l : List (Int × Int)) : (keysR l).length ≤ 15 := by unfold keysR; rw [List.length_map, List.length_take]; omega
theorem keysR_may {l : List (Int × Int)} : ∀ k ∈ keysR l, k.may = true := by
  intro k hk
  obtain ⟨x, _, rfl⟩ := List.mem_map.1 hk
  exact keyR_may _ _
theorem addr_cells (k : Nat) (h : k < 9) : byteV (addrL k) = .int .u8 (if 5 < k then 1 else 0) :: (List.replicate 18 (.int .u8 0) ++ [.int .u8 k]) := by
  have : k = 0 ∨ k = 1 ∨ k = 2 ∨ k = 3 ∨ k = 4 ∨ k = 5 ∨ k = 6 ∨ k = 7 ∨ k = 8 := by omega
  rcases this with rfl | rfl | rfl | rfl | rfl | rfl | rfl | rfl | rfl <;> rfl
theorem key_cells0 (a : List UInt8) (h : a.length = 20) : byteV a ++ [.bool false, .int .u64 0, .int .u64 0, .int .u64 0, .int .u64 0] = (KeyT.mk a false W.zero h).cells := rfl
theorem key_cells1 (a : List UInt8) (w : W) (h : a.length = 20) : byteV a ++ (.bool true :: w.cells) = (KeyT.mk a true w h).cells := rfl
end Go.Ev
namespace Go.Proofs.YtfioapldbajpmaaDoor
open Go Go.Ev Go.Proofs
set_option maxRecDepth 100000
set_option maxHeartbeats 4000000
theorem pick08_ok (c n : Int) (hc : i64In c) (hn : 0 < n) (hn2 : i64In n) : CallsV Tryd.prog 77 [.int .i64 c, .int .i64 n] [] (Ret0 (.int .i64 (pickN c n))) := by
  have h2 := pickN_lt c hn
  have hn0 : ¬ n = 0 := by omega
  unfold i64In at hc hn2
  refine callsO (noG_ok _) Tryd.mix Tryd.pl77 Tryd.func77 rfl Tryd.ntmps77 Tryd.results77 rfl (by first | rfl | assumption) (Nat.le_of_ble_eq_true rfl) (by kernel_rfl) ?_
  rcases Int.lt_or_le c 0 with h | h
  · have e1 : pickN c n = (-(c + 1)).tmod n := by
      have := Int.emod_nonneg (-(c + 1)) hn0
      rw [pickN_eq, if_pos h, Int.tmod_eq_emod_of_nonneg (by omega)]; omega
    have e2 : (0 - (c + 1)) = -(c + 1) := by omega
    simp only [push_cast, Nat.reduceAdd, Nat.reduceSub, Nat.reduceMul, Nat.reduceLT, Nat.reduceLeDiff, Nat.reduceEqDiff, Nat.reduceMod, Nat.reduceDiv, Int.reduceAdd, Int.reduceSub, Int.reduceMul, Int.reduceLT, Int.reduceLE, Int.reduceEq, Int.reduceNeg, Int.reduceToNat, reduceIte, reduceCtorEq, Int.reduceBEq, Int.reduceBNe, Bool.true_beq, Bool.false_beq, Bool.true_bne, Bool.false_bne, Bool.not_true, Bool.not_false, h, wrap_i64' (show -9223372036854775808 ≤ c + 1 ∧ c + 1 ≤ 9223372036854775807 by omega), hn0, e2, wrap_i64' (show -9223372036854775808 ≤ -(c + 1) ∧ -(c + 1) ≤ 9223372036854775807 by omega), e1]
  · have h' : ¬ c < 0 := by omega
    have e1 : pickN c n = c.tmod n := by
      have := Int.emod_nonneg c hn0
      rw [pickN_eq, if_neg h', Int.tmod_eq_emod_of_nonneg (by omega)]; omega
    simp only [push_cast, Nat.reduceAdd, Nat.reduceSub, Nat.reduceMul, Nat.reduceLT, Nat.reduceLeDiff, Nat.reduceEqDiff, Nat.reduceMod, Nat.reduceDiv, Int.reduceAdd, Int.reduceSub, Int.reduceMul, Int.reduceLT, Int.reduceLE, Int.reduceEq, Int.reduceNeg, Int.reduceToNat, reduceIte, reduceCtorEq, Int.reduceBEq, Int.reduceBNe, Bool.true_beq, Bool.false_beq, Bool.true_bne, Bool.false_bne, Bool.not_true, Bool.not_false, h', hn0, e1]
theorem pick08G_ok (args : List Value) (v : Value) (h : pickG args = some v) : CallsV Tryd.prog 77 args [] (Ret0 v) := by
  unfold pickG at h
  split at h
  · split at h
    · rename_i c n hh
      cases h
      simp only [Bool.and_eq_true, i64B_eq, posB_eq, decide_eq_true_eq] at hh
      exact pick08_ok c n hh.1.1 hh.1.2 hh.2
    · cases h
  · cases h
theorem pick10_ok (c n : Int) (hc : i64In c) (hn : 0 < n) (hn2 : i64In n) : CallsV Tryd.prog 69 [.int .i64 c, .int .i64 n] [] (Ret0 (.int .i64 (pickN c n))) := by
  have h2 := pickN_lt c hn
  have hn0 : ¬ n = 0 := by omega
  unfold i64In at hc hn2
  refine callsO (noG_ok _) Tryd.mix Tryd.pl69 Tryd.func69 rfl Tryd.ntmps69 Tryd.results69 rfl (by first | rfl | assumption) (Nat.le_of_ble_eq_true rfl) (by kernel_rfl) ?_
  rcases Int.lt_or_le c 0 with h | h
  · have e1 : pickN c n = (-(c + 1)).tmod n := by
      have := Int.emod_nonneg (-(c + 1)) hn0
      rw [pickN_eq, if_pos h, Int.tmod_eq_emod_of_nonneg (by omega)]; omega
    have e2 : (0 - (c + 1)) = -(c + 1) := by omega
    simp only [push_cast, Nat.reduceAdd, Nat.reduceSub, Nat.reduceMul, Nat.reduceLT, Nat.reduceLeDiff, Nat.reduceEqDiff, Nat.reduceMod, Nat.reduceDiv, Int.reduceAdd, Int.reduceSub, Int.reduceMul, Int.reduceLT, Int.reduceLE, Int.reduceEq, Int.reduceNeg, Int.reduceToNat, reduceIte, reduceCtorEq, Int.reduceBEq, Int.reduceBNe, Bool.true_beq, Bool.false_beq, Bool.true_bne, Bool.false_bne, Bool.not_true, Bool.not_false, h, wrap_i64' (show -9223372036854775808 ≤ c + 1 ∧ c + 1 ≤ 9223372036854775807 by omega), hn0, e2, wrap_i64' (show -9223372036854775808 ≤ -(c + 1) ∧ -(c + 1) ≤ 9223372036854775807 by omega), e1]
  · have h' : ¬ c < 0 := by omega
    have e1 : pickN c n = c.tmod n := by
      have := Int.emod_nonneg c hn0
      rw [pickN_eq, if_neg h', Int.tmod_eq_emod_of_nonneg (by omega)]; omega
    simp only [push_cast, Nat.reduceAdd, Nat.reduceSub, Nat.reduceMul, Nat.reduceLT, Nat.reduceLeDiff, Nat.reduceEqDiff, Nat.reduceMod, Nat.reduceDiv, Int.reduceAdd, Int.reduceSub, Int.reduceMul, Int.reduceLT, Int.reduceLE, Int.reduceEq, Int.reduceNeg, Int.reduceToNat, reduceIte, reduceCtorEq, Int.reduceBEq, Int.reduceBNe, Bool.true_beq, Bool.false_beq, Bool.true_bne, Bool.false_bne, Bool.not_true, Bool.not_false, h', hn0, e1]
theorem pick10G_ok (args : List Value) (v : Value) (h : pickG args = some v) : CallsV Tryd.prog 69 args [] (Ret0 v) := by
  unfold pickG at h
  split at h
  · split at h
    · rename_i c n hh
      cases h
      simp only [Bool.and_eq_true, i64B_eq, posB_eq, decide_eq_true_eq] at hh
      exact pick10_ok c n hh.1.1 hh.1.2 hh.2
    · cases h
  · cases h
noncomputable def gK3 : Gam := (addG 77 pickG noG)
attribute [push_cast] gK3
theorem gK3_ok : GamOk Tryd.prog gK3 := (addG_ok pick08G_ok (noG_ok _))
theorem addr_ok (n : Int) (hn : i64In n) : CallsV Tryd.prog 70 [.int .i64 n] [] (Ret0 (.agg (byteV (addrR n)).toArray)) := by
  have j0 : i64B n = true := i64B_in hn
  have j1 : i64B 9 = true := i64B_in (by decide)
  have j2 : posB 9 = true := posB_in (by decide)
  have hp := pickN_lt n (show (0 : Int) < 9 by decide)
  rw [addrR_eq]
  obtain ⟨k, hk⟩ : ∃ k, k = pickN n 9 := ⟨_, rfl⟩
  rw [← hk] at hp ⊢
  have hk9 : k < 9 := by omega
  rw [addr_cells k hk9]
  refine callsO gK3_ok Tryd.mix Tryd.pl70 Tryd.func70 rfl Tryd.ntmps70 Tryd.results70 rfl (by first | rfl | assumption) (Nat.le_of_ble_eq_true rfl) (by kernel_rfl) ?_
  simp only [push_cast, Nat.reduceAdd, Nat.reduceSub, Nat.reduceMul, Nat.reduceLT, Nat.reduceLeDiff, Nat.reduceEqDiff, Nat.reduceMod, Nat.reduceDiv, Int.reduceAdd, Int.reduceSub, Int.reduceMul, Int.reduceLT, Int.reduceLE, Int.reduceEq, Int.reduceNeg, Int.reduceToNat, reduceIte, reduceCtorEq, Int.reduceBEq, Int.reduceBNe, Bool.true_beq, Bool.false_beq, Bool.true_bne, Bool.false_bne, Bool.not_true, Bool.not_false]
  intro b2 b3 hb3
  have e : ∀ m : Nat, m < 9 → k = m → k = m := fun _ _ h => h
  by_cases h5 : 5 < k
  · have i5 : (5 : Int) < (k : Int) := by omega
    rw [if_pos h5]
    simp only [push_cast, Nat.reduceAdd, Nat.reduceSub, Nat.reduceMul, Nat.reduceLT, Nat.reduceLeDiff, Nat.reduceEqDiff, Nat.reduceMod, Nat.reduceDiv, Int.reduceAdd, Int.reduceSub, Int.reduceMul, Int.reduceLT, Int.reduceLE, Int.reduceEq, Int.reduceNeg, Int.reduceToNat, reduceIte, reduceCtorEq, Int.reduceBEq, Int.reduceBNe, Bool.true_beq, Bool.false_beq, Bool.true_bne, Bool.false_bne, Bool.not_true, Bool.not_false, hb3, j0, j1, j2, ← hk, i5, wrap_u8' (n := (k : Int)) (by omega)]
    rfl
  · have i5 : ¬ (5 : Int) < (k : Int) := by omega
    rw [if_neg h5]
    simp only [push_cast, Nat.reduceAdd, Nat.reduceSub, Nat.reduceMul, Nat.reduceLT, Nat.reduceLeDiff, Nat.reduceEqDiff, Nat.reduceMod, Nat.reduceDiv, Int.reduceAdd, Int.reduceSub, Int.reduceMul, Int.reduceLT, Int.reduceLE, Int.reduceEq, Int.reduceNeg, Int.reduceToNat, reduceIte, reduceCtorEq, Int.reduceBEq, Int.reduceBNe, Bool.true_beq, Bool.false_beq, Bool.true_bne, Bool.false_bne, Bool.not_true, Bool.not_false, hb3, j0, j1, j2, ← hk, i5, wrap_u8' (n := (k : Int)) (by omega)]
    rfl
theorem addrG_ok (args : List Value) (v : Value) (h : addrG args = some v) : CallsV Tryd.prog 70 args [] (Ret0 v) := by
  unfold addrG at h
  split at h
  · split at h
    · rename_i hn; cases h; rw [i64B_eq, decide_eq_true_eq] at hn; exact addr_ok _ hn
    · cases h
  · cases h
noncomputable def gK4 : Gam := (addG 23 ofG (addG 69 pickG (addG 70 addrG noG)))
attribute [push_cast] gK4
theorem gK4_ok : GamOk Tryd.prog gK4 := (addG_ok ofG_ok (addG_ok pick10G_ok (addG_ok addrG_ok (noG_ok _))))
theorem keyR_ok (a b : Int) (ha : i64In a) (hb : i64In b) : CallsV Tryd.prog 57 [.int .i64 a, .int .i64 b] [] (Ret0 (keyR a b).v) := by
  have j0 : i64B a = true := i64B_in ha
  have j0' : i64B b = true := i64B_in hb
  have j1 : i64B 5 = true := i64B_in (by decide)
  have j2 : posB 5 = true := posB_in (by decide)
  have hp := pickN_lt b (show (0 : Int) < 5 by decide)
  unfold keyR
  obtain ⟨k, hk⟩ : ∃ k, k = pickN b 5 := ⟨_, rfl⟩
  rw [← hk] at hp ⊢
  have j3 : i64B ((k : Int) - 1) = true := i64B_in (by unfold i64In; omega)
  obtain ⟨A, hA⟩ : ∃ A, A = addrR a := ⟨_, rfl⟩
  have hAl : A.length = 20 := by rw [hA]; exact addrR_len a
  have hAb : (byteV A).length = 20 := by rw [byteV_lenK, hAl]
  have hA1 : (byteV A).all oneC = true := by simp [byteV, oneC]
  obtain ⟨w, hw⟩ : ∃ w, w = ofW ((k : Int) - 1) := ⟨_, rfl⟩
  have al : ∀ X : List Value, (byteV A ++ X).length = X.length + 20 := fun X => by rw [List.length_append, hAb, Nat.add_comm]
  have ao : ∀ X : List Value, (byteV A ++ X).all oneC = X.all oneC := fun X => by rw [List.all_append, hA1, Bool.true_and]
  have t20 : ∀ X : List Value, List.take 20 (byteV A ++ X) = byteV A := fun X => List.take_left' hAb
  have d20 : ∀ (n : Nat) (X : List Value), List.drop (n + 20) (byteV A ++ X) = List.drop n X := fun n X => by rw [Nat.add_comm, ← List.drop_drop, List.drop_left' hAb]
  have d21 : ∀ (X : List Value), List.drop 21 (byteV A ++ X) = List.drop 1 X := fun X => d20 1 X
  have d25 : ∀ (X : List Value), List.drop 25 (byteV A ++ X) = List.drop 5 X := fun X => d20 5 X
  have t21 : ∀ (x : Value) (X : List Value), List.take 21 (byteV A ++ x :: X) = byteV A ++ [x] := fun x X => by rw [show 21 = 20 + 1 from rfl, List.take_add, t20, List.drop_left' hAb]; rfl
  have f0 : byteV A ++ (.bool false :: W.zero.cells) = (KeyT.mk A false W.zero hAl).cells := rfl
  have f1 : byteV A ++ (.bool true :: w.cells) = (KeyT.mk A true w hAl).cells := rfl
  refine callsO gK4_ok Tryd.mix Tryd.pl57 Tryd.func57 rfl Tryd.ntmps57 Tryd.results57 rfl (by first | rfl | assumption) (Nat.le_of_ble_eq_true rfl) (by kernel_rfl) ?_
  simp only [push_cast, Nat.reduceAdd, Nat.reduceSub, Nat.reduceMul, Nat.reduceLT, Nat.reduceLeDiff, Nat.reduceEqDiff, Nat.reduceMod, Nat.reduceDiv, Int.reduceAdd, Int.reduceSub, Int.reduceMul, Int.reduceLT, Int.reduceLE, Int.reduceEq, Int.reduceNeg, Int.reduceToNat, reduceIte, reduceCtorEq, Int.reduceBEq, Int.reduceBNe, Bool.true_beq, Bool.false_beq, Bool.true_bne, Bool.false_bne, Bool.not_true, Bool.not_false]
  intro b4
  by_cases h : k = 0
  · have e1 : ((k : Int) == 0) = true := by rw [h]; rfl
    rw [if_pos h]
    simp only [push_cast, Nat.reduceAdd, Nat.reduceSub, Nat.reduceMul, Nat.reduceLT, Nat.reduceLeDiff, Nat.reduceEqDiff, Nat.reduceMod, Nat.reduceDiv, Int.reduceAdd, Int.reduceSub, Int.reduceMul, Int.reduceLT, Int.reduceLE, Int.reduceEq, Int.reduceNeg, Int.reduceToNat, reduceIte, reduceCtorEq, Int.reduceBEq, Int.reduceBNe, Bool.true_beq, Bool.false_beq, Bool.true_bne, Bool.false_bne, Bool.not_true, Bool.not_false, j0, j0', j1, j2, ← hk, e1, ← hA, hAb, al, ao, f0]
  · have e1 : ((k : Int) == 0) = false := beq_eq_false_iff_ne.2 (by omega)
    rw [if_neg h, ← hw]
    simp only [push_cast, Nat.reduceAdd, Nat.reduceSub, Nat.reduceMul, Nat.reduceLT, Nat.reduceLeDiff, Nat.reduceEqDiff, Nat.reduceMod, Nat.reduceDiv, Int.reduceAdd, Int.reduceSub, Int.reduceMul, Int.reduceLT, Int.reduceLE, Int.reduceEq, Int.reduceNeg, Int.reduceToNat, reduceIte, reduceCtorEq, Int.reduceBEq, Int.reduceBNe, Bool.true_beq, Bool.false_beq, Bool.true_bne, Bool.false_bne, Bool.not_true, Bool.not_false, j0, j0', j1, j2, j3, ← hk, e1, wrap_i64' (show -9223372036854775808 ≤ (k : Int) - 1 ∧ (k : Int) - 1 ≤ 9223372036854775807 by omega), ← hA, hAb, ← hw, al, ao, t20, d21, t21, d25, List.append_assoc, f1]
theorem keyRG_ok (args : List Value) (v : Value) (h : keyRG args = some v) : CallsV Tryd.prog 57 args [] (Ret0 v) := by
  unfold keyRG at h
  split at h
  · split at h
    · rename_i a b hn
      cases h
      rw [Bool.and_eq_true, i64B_eq, i64B_eq, decide_eq_true_eq, decide_eq_true_eq] at hn
      exact keyR_ok a b hn.1 hn.2
    · cases h
  · cases h
noncomputable def gK5 : Gam := (addG 57 keyRG noG)
attribute [push_cast] gK5
theorem gK5_ok : GamOk Tryd.prog gK5 := (addG_ok keyRG_ok (noG_ok _))
theorem keysR_ok {M : Hp} {l : List (Int × Int)} {v : Value} (hv : LiR prV 2 M l v) (hm : marksOf M = []) (hb : ∀ x ∈ l, i64In x.1 ∧ i64In x.2) : CallsV Tryd.prog 44 [v] M (OutKy (keysR l)) := by
  obtain ⟨p, c, rfl, hl⟩ := hv.open prV_len (by decide)
  obtain ⟨m, hmm⟩ : ∃ m, m = min l.length 15 := ⟨_, rfl⟩
  have hkr : keysR l = ((l.take m).map fun x => keyR x.1 x.2) := by
    unfold keysR
    rw [hmm]
    congr 1
    rw [List.take_eq_take_iff]; omega
  rw [hkr]
  refine callsO gK5_ok Tryd.mix Tryd.pl44 Tryd.func44 rfl Tryd.ntmps44 Tryd.results44 rfl (by first | rfl | assumption) (Nat.le_of_ble_eq_true rfl) (by kernel_rfl) ?_
  simp only [push_cast, Nat.reduceAdd, Nat.reduceSub, Nat.reduceMul, Nat.reduceLT, Nat.reduceLeDiff, Nat.reduceEqDiff, Nat.reduceMod, Nat.reduceDiv, Int.reduceAdd, Int.reduceSub, Int.reduceMul, Int.reduceLT, Int.reduceLE, Int.reduceEq, Int.reduceNeg, Int.reduceToNat, reduceIte, reduceCtorEq, Int.reduceBEq, Int.reduceBNe, Bool.true_beq, Bool.false_beq, Bool.true_bne, Bool.false_bne, Bool.not_true, Bool.not_false]
  refine loopO gK5_ok (pl := Tryd.pl44) Tryd.mix (X := Nat × Value × Hp)
    (fun s => ([(0, .slice p l.length c), (3, s.2.1), (4, .int .i64 s.1)], s.2.2 ++ M))
    (fun s => s.1 ≤ m ∧ OutKy ((l.take s.1).map fun x => keyR x.1 x.2) s.2.1 s.2.2 ∧ freshN s.2.2 M) (fun s => m - s.1) (0, .slice none 0 0, []) ?_ ?_ (by kernel_rfl) ?_
  · exact ⟨Nat.zero_le _, .nil _ _, trivial⟩
  · simp only [push_cast, Nat.reduceAdd, Nat.reduceSub, Nat.reduceMul, Nat.reduceLT, Nat.reduceLeDiff, Nat.reduceEqDiff, Nat.reduceMod, Nat.reduceDiv, Int.reduceAdd, Int.reduceSub, Int.reduceMul, Int.reduceLT, Int.reduceLE, Int.reduceEq, Int.reduceNeg, Int.reduceToNat, reduceIte, reduceCtorEq, Int.reduceBEq, Int.reduceBNe, Bool.true_beq, Bool.false_beq, Bool.true_bne, Bool.false_bne, Bool.not_true, Bool.not_false]
    exact subH_self _
  · rintro ⟨i, vo, No⟩ ⟨hi, ho, hf⟩
    dsimp only at hi ho hf ⊢
    rcases Nat.lt_or_ge i m with hlt | hge
    · have hil : i < l.length := by omega
      obtain ⟨x, hx⟩ : ∃ x, l[i]? = some x := ⟨l[i], List.getElem?_eq_getElem hil⟩
      obtain h0 | ⟨b, f, d, kd, cs, rfl, he, hat, -, -⟩ := hl
      · rw [h0] at hil; exact absurd hil (Nat.not_lt_zero _)
      obtain ⟨a1, a2⟩ := hat i x hx 0 1 (by decide)
      obtain ⟨a3, a4⟩ := hat i x hx 1 1 (by decide)
      have a2' : List.take 1 (List.drop (d + i * 2) cs) = [.int .i64 x.1] := a2
      have a4' : List.take 1 (List.drop (d + i * 2 + 1) cs) = [.int .i64 x.2] := a4
      rw [Nat.add_zero] at a1
      have fl : findE (No ++ M) b = some ⟨b, f, kd, cs⟩ := by rw [findE_freshN hf (b := b) he]; exact he
      have i1 : (i : Int) < (l.length : Int) := by omega
      have i2 : (i : Int) < 15 := by omega
      have i3 : i < 15 := by omega
      obtain ⟨hb1, hb2⟩ := hb x (List.mem_of_getElem? hx)
      have j1 : i64B x.1 = true := i64B_in hb1
      have j2 : i64B x.2 = true := i64B_in hb2
      have hql : (((l.take i).map fun x => keyR x.1 x.2)).length ≤ 15 := by rw [List.length_map, List.length_take]; omega
      obtain ⟨y, hy⟩ : ∃ y, y = keyR x.1 x.2 := ⟨_, rfl⟩
      have htk : ((l.take (i + 1)).map fun x => keyR x.1 x.2) = ((l.take i).map fun x => keyR x.1 x.2) ++ [y] := by
        rw [List.take_add_one, hx, List.map_append, hy]; rfl
      simp only [push_cast, Nat.reduceAdd, Nat.reduceSub, Nat.reduceMul, Nat.reduceLT, Nat.reduceLeDiff, Nat.reduceEqDiff, Nat.reduceMod, Nat.reduceDiv, Int.reduceAdd, Int.reduceSub, Int.reduceMul, Int.reduceLT, Int.reduceLE, Int.reduceEq, Int.reduceNeg, Int.reduceToNat, reduceIte, reduceCtorEq, Int.reduceBEq, Int.reduceBNe, Bool.true_beq, Bool.false_beq, Bool.true_bne, Bool.false_bne, Bool.not_true, Bool.not_false, i1, i2, i3, hil, fl, a1, a2', a3, a4', j1, j2, ← hy, subH_self]
      constructor
      all_goals
        intro b16 hb16
        refine ⟨subH_cons hb16, ?_⟩
        refine append_out1 (e := 58) (sz := 25) (by_ := 56) (n := (((l.take i).map fun x => keyR x.1 x.2)).length) (m := 1) (ys := y.cells) ho hb16 (by simp only [push_cast, Nat.reduceAdd, Nat.reduceSub, Nat.reduceMul, Nat.reduceLT, Nat.reduceLeDiff, Nat.reduceEqDiff, Nat.reduceMod, Nat.reduceDiv, Int.reduceAdd, Int.reduceSub, Int.reduceMul, Int.reduceLT, Int.reduceLE, Int.reduceEq, Int.reduceNeg, Int.reduceToNat, reduceIte, reduceCtorEq, Int.reduceBEq, Int.reduceBNe, Bool.true_beq, Bool.false_beq, Bool.true_bne, Bool.false_bne, Bool.not_true, Bool.not_false]) (by simp only [push_cast, Nat.reduceAdd, Nat.reduceSub, Nat.reduceMul, Nat.reduceLT, Nat.reduceLeDiff, Nat.reduceEqDiff, Nat.reduceMod, Nat.reduceDiv, Int.reduceAdd, Int.reduceSub, Int.reduceMul, Int.reduceLT, Int.reduceLE, Int.reduceEq, Int.reduceNeg, Int.reduceToNat, reduceIte, reduceCtorEq, Int.reduceBEq, Int.reduceBNe, Bool.true_beq, Bool.false_beq, Bool.true_bne, Bool.false_bne, Bool.not_true, Bool.not_false]) y.len y.all1 (by unfold two47; omega) fun v'' N'' ho'' hf'' => ?_
        simp only [push_cast, Nat.reduceAdd, Nat.reduceSub, Nat.reduceMul, Nat.reduceLT, Nat.reduceLeDiff, Nat.reduceEqDiff, Nat.reduceMod, Nat.reduceDiv, Int.reduceAdd, Int.reduceSub, Int.reduceMul, Int.reduceLT, Int.reduceLE, Int.reduceEq, Int.reduceNeg, Int.reduceToNat, reduceIte, reduceCtorEq, Int.reduceBEq, Int.reduceBNe, Bool.true_beq, Bool.false_beq, Bool.true_bne, Bool.false_bne, Bool.not_true, Bool.not_false, wrap_i64' (show -9223372036854775808 ≤ (i : Int) + 1 ∧ (i : Int) + 1 ≤ 9223372036854775807 by omega)]
        refine ⟨(i + 1, v'', N''), ⟨hlt, ?_, freshN_cons hf''⟩, by dsimp only; omega, ⟨rfl, rfl⟩, subH_pre (subH_cons (fresh_app hb16)) _, by simp only [marks_append, marksOf, ho.wr.2, ho''.wr.2]⟩
        dsimp only
        rw [htk]
        unfold OutKy
        rw [keyC_app, keyC_one, List.length_append]
        exact ho''
    · obtain rfl : i = m := by omega
      rcases Nat.lt_or_ge l.length 16 with h | h
      · rcases Nat.lt_or_ge i l.length with h2 | h2
        · have e3 : ¬ (i : Int) < 15 := by omega
          simp only [push_cast, Nat.reduceAdd, Nat.reduceSub, Nat.reduceMul, Nat.reduceLT, Nat.reduceLeDiff, Nat.reduceEqDiff, Nat.reduceMod, Nat.reduceDiv, Int.reduceAdd, Int.reduceSub, Int.reduceMul, Int.reduceLT, Int.reduceLE, Int.reduceEq, Int.reduceNeg, Int.reduceToNat, reduceIte, reduceCtorEq, Int.reduceBEq, Int.reduceBNe, Bool.true_beq, Bool.false_beq, Bool.true_bne, Bool.false_bne, Bool.not_true, Bool.not_false, h2, e3]
          exact ⟨No, sub_new ho.wr.2 hm, ho⟩
        · have e2 : ¬ i < l.length := by omega
          simp only [push_cast, Nat.reduceAdd, Nat.reduceSub, Nat.reduceMul, Nat.reduceLT, Nat.reduceLeDiff, Nat.reduceEqDiff, Nat.reduceMod, Nat.reduceDiv, Int.reduceAdd, Int.reduceSub, Int.reduceMul, Int.reduceLT, Int.reduceLE, Int.reduceEq, Int.reduceNeg, Int.reduceToNat, reduceIte, reduceCtorEq, Int.reduceBEq, Int.reduceBNe, Bool.true_beq, Bool.false_beq, Bool.true_bne, Bool.false_bne, Bool.not_true, Bool.not_false, e2]
          exact ⟨No, sub_new ho.wr.2 hm, ho⟩
      · have e2 : i < l.length := by omega
        have e3 : ¬ (i : Int) < 15 := by omega
        simp only [push_cast, Nat.reduceAdd, Nat.reduceSub, Nat.reduceMul, Nat.reduceLT, Nat.reduceLeDiff, Nat.reduceEqDiff, Nat.reduceMod, Nat.reduceDiv, Int.reduceAdd, Int.reduceSub, Int.reduceMul, Int.reduceLT, Int.reduceLE, Int.reduceEq, Int.reduceNeg, Int.reduceToNat, reduceIte, reduceCtorEq, Int.reduceBEq, Int.reduceBNe, Bool.true_beq, Bool.false_beq, Bool.true_bne, Bool.false_bne, Bool.not_true, Bool.not_false, e2, e3]
        exact ⟨No, sub_new ho.wr.2 hm, ho⟩
theorem keysR_R {M : Hp} {l : List (Int × Int)} {v : Value} (hv : LiR prV 2 M l v) (hb : ∀ x ∈ l, i64In x.1 ∧ i64In x.2) : CallsR Tryd.prog 44 [v] M (KeyQ (keysR l)) :=
  fun _ hr he => CallsV.toK (keysR_ok (hv.congr he.symm) hr.marks hb) fun _ _ h => h.newK
noncomputable def setsR (l m : List (Int × Int)) : List KeyT × List KeyT := (setK (keysR l), setK (keysR m))
def plSe : Plans := fun i => if i = 1 then [(0, 9)] else if i = 2 then [(0, 9)] else Tryd.pl26 i
attribute [push_cast] plSe
theorem setsR_ok {M : Hp} {l m : List (Int × Int)} {v u : Value} (hv : LiR prV 2 M l v) (hu : LiR prV 2 M m u) (hm : marksOf M = []) (hb : ∀ x ∈ l, i64In x.1 ∧ i64In x.2) (hb' : ∀ x ∈ m, i64In x.1 ∧ i64In x.2) :
    CallsV Tryd.prog 26 [v, u] M (NewK M (SetQ (setsR l m).1 (setsR l m).2)) := by
  refine callsO gK5_ok Tryd.mix plSe Tryd.func26 rfl Tryd.ntmps26 Tryd.results26 rfl (by first | rfl | assumption) (Nat.le_of_ble_eq_true rfl) (by kernel_rfl) ?_
  simp only [push_cast, Nat.reduceAdd, Nat.reduceSub, Nat.reduceMul, Nat.reduceLT, Nat.reduceLeDiff, Nat.reduceEqDiff, Nat.reduceMod, Nat.reduceDiv, Int.reduceAdd, Int.reduceSub, Int.reduceMul, Int.reduceLT, Int.reduceLE, Int.reduceEq, Int.reduceNeg, Int.reduceToNat, reduceIte, reduceCtorEq, Int.reduceBEq, Int.reduceBNe, Bool.true_beq, Bool.false_beq, Bool.true_bne, Bool.false_bne, Bool.not_true, Bool.not_false]
  intro b4 hb4
  refine regO gK5_ok ?_
  simp only [push_cast, Nat.reduceAdd, Nat.reduceSub, Nat.reduceMul, Nat.reduceLT, Nat.reduceLeDiff, Nat.reduceEqDiff, Nat.reduceMod, Nat.reduceDiv, Int.reduceAdd, Int.reduceSub, Int.reduceMul, Int.reduceLT, Int.reduceLE, Int.reduceEq, Int.reduceNeg, Int.reduceToNat, reduceIte, reduceCtorEq, Int.reduceBEq, Int.reduceBNe, Bool.true_beq, Bool.false_beq, Bool.true_bne, Bool.false_bne, Bool.not_true, Bool.not_false]
  refine useL [_] (keysR_R hv hb) (KeyQ.rd _) hm ⟨hb4, trivial⟩ fun v1 M1 hg1 hL1 hq1 => ?_
  simp only [push_cast, Nat.reduceAdd, Nat.reduceSub, Nat.reduceMul, Nat.reduceLT, Nat.reduceLeDiff, Nat.reduceEqDiff, Nat.reduceMod, Nat.reduceDiv, Int.reduceAdd, Int.reduceSub, Int.reduceMul, Int.reduceLT, Int.reduceLE, Int.reduceEq, Int.reduceNeg, Int.reduceToNat, reduceIte, reduceCtorEq, Int.reduceBEq, Int.reduceBNe, Bool.true_beq, Bool.false_beq, Bool.true_bne, Bool.false_bne, Bool.not_true, Bool.not_false]
  refine useL [_] (keysR_R (hu.ext hg1.ext) hb') (KeyQ.rd _) hg1.marks hL1 fun v2 M2 hg2 hL2 hq2 => ?_
  simp only [push_cast, Nat.reduceAdd, Nat.reduceSub, Nat.reduceMul, Nat.reduceLT, Nat.reduceLeDiff, Nat.reduceEqDiff, Nat.reduceMod, Nat.reduceDiv, Int.reduceAdd, Int.reduceSub, Int.reduceMul, Int.reduceLT, Int.reduceLE, Int.reduceEq, Int.reduceNeg, Int.reduceToNat, reduceIte, reduceCtorEq, Int.reduceBEq, Int.reduceBNe, Bool.true_beq, Bool.false_beq, Bool.true_bne, Bool.false_bne, Bool.not_true, Bool.not_false]
  have l1 := keysR_len l
  have l2 := keysR_len m
  refine useL [_] (rmake_R (hq1.ext hg2.ext) hq2 (by omega) (by omega) keysR_may keysR_may) (MadeQ.rd _ _ _) hg2.marks hL2 fun v3 M3 hg3 hL3 hq3 => ?_
  obtain ⟨w3, rfl, hq3⟩ := hq3
  have hq3' := hq3
  obtain ⟨vr, vw, rfl, hr, hw⟩ := hq3
  obtain ⟨p1, c1, rfl, -⟩ := hr
  obtain ⟨p2, c2, rfl, -⟩ := hw
  have hb4' := hL3.1
  simp only [push_cast, Nat.reduceAdd, Nat.reduceSub, Nat.reduceMul, Nat.reduceLT, Nat.reduceLeDiff, Nat.reduceEqDiff, Nat.reduceMod, Nat.reduceDiv, Int.reduceAdd, Int.reduceSub, Int.reduceMul, Int.reduceLT, Int.reduceLE, Int.reduceEq, Int.reduceNeg, Int.reduceToNat, reduceIte, reduceCtorEq, Int.reduceBEq, Int.reduceBNe, Bool.true_beq, Bool.false_beq, Bool.true_bne, Bool.false_bne, Bool.not_true, Bool.not_false]
  intro b5 hb5
  refine regO gK5_ok ?_
  simp only [push_cast, Nat.reduceAdd, Nat.reduceSub, Nat.reduceMul, Nat.reduceLT, Nat.reduceLeDiff, Nat.reduceEqDiff, Nat.reduceMod, Nat.reduceDiv, Int.reduceAdd, Int.reduceSub, Int.reduceMul, Int.reduceLT, Int.reduceLE, Int.reduceEq, Int.reduceNeg, Int.reduceToNat, reduceIte, reduceCtorEq, Int.reduceBEq, Int.reduceBNe, Bool.true_beq, Bool.false_beq, Bool.true_bne, Bool.false_bne, Bool.not_true, Bool.not_false, hb5]
  exact doneK2 [_, _] ((hg1.trans hg2).trans hg3) (SetQ.rd _ _) hq3'
theorem setsR_R {M : Hp} {l m : List (Int × Int)} {v u : Value} (hv : LiR prV 2 M l v) (hu : LiR prV 2 M m u) (hb : ∀ x ∈ l, i64In x.1 ∧ i64In x.2) (hb' : ∀ x ∈ m, i64In x.1 ∧ i64In x.2) :
    CallsR Tryd.prog 26 [v, u] M (SetQ (setsR l m).1 (setsR l m).2) :=
  fun _ hr he => setsR_ok (hv.congr he.symm) (hu.congr he.symm) hr.marks hb hb'
end Go.Proofs.YtfioapldbajpmaaDoor
