/- Sj: the program's word.FromBytes: last, reversed. -/
import Derived.Test.YtndioekjgmbomaaDoorSi
set_option linter.unusedSimpArgs false
set_option linter.unusedVariables false
namespace Go.Ev
/-- n cells, told by a function -/
noncomputable def cF : Nat → (Nat → Value) → List Value := hid fun n f => (List.range n).map f
theorem cF_eq (n : Nat) (f : Nat → Value) : cF n f = (List.range n).map f := by unfold cF; rw [hid_eq]
theorem cF_len (n : Nat) (f : Nat → Value) : (cF n f).length = n := by rw [cF_eq, List.length_map, List.length_range]
theorem cF_get (n : Nat) (f : Nat → Value) (i : Nat) : (cF n f)[i]? = if i < n then some (f i) else none := by
  rw [cF_eq, List.getElem?_map]
  split
  · rename_i h; rw [List.getElem?_range h]; rfl
  · rename_i h; rw [List.getElem?_eq_none (by simpa using h)]; rfl
theorem cF_at (n : Nat) (f : Nat → Value) {i : Nat} (h : i < n) : List.take 1 (List.drop i (cF n f)) = [f i] := by
  have hl : i < (cF n f).length := by rw [cF_len]; exact h
  rw [List.drop_eq_getElem_cons hl, List.take_succ_cons, List.take_zero]
  have := cF_get n f i
  rw [List.getElem?_eq_getElem hl, if_pos h] at this
  rw [Option.some.inj this]
def updV (f : Nat → Value) (i : Nat) (v : Value) : Nat → Value := fun j => if j = i then v else f j
theorem cF_set (n : Nat) (f : Nat → Value) {i : Nat} (h : i < n) (v : Value) : List.take i (cF n f) ++ v :: List.drop (i + 1) (cF n f) = cF n (updV f i v) := by
  have hl := cF_len n f
  refine List.ext_getElem? fun j => ?_
  rw [cF_get]
  have ht : (List.take i (cF n f)).length = i := by rw [List.length_take, hl]; omega
  rcases Nat.lt_trichotomy j i with h1 | rfl | h1
  · rw [List.getElem?_append_left (by omega), List.getElem?_take_of_lt h1, cF_get, if_pos (by omega), if_pos (by omega)]
    unfold updV; rw [if_neg (by omega : ¬ j = i)]
  · rw [List.getElem?_append_right (by omega), ht, Nat.sub_self, List.getElem?_cons_zero, if_pos h]
    unfold updV; rw [if_pos rfl]
  · rw [List.getElem?_append_right (by omega), ht, show j - i = (j - i - 1) + 1 by omega, List.getElem?_cons_succ, List.getElem?_drop, show i + 1 + (j - i - 1) = j by omega, cF_get]
    unfold updV; rw [if_neg (by omega : ¬ j = i)]
theorem cF_congr (n : Nat) {f g : Nat → Value} (h : ∀ j, j < n → f j = g j) : cF n f = cF n g := by
  rw [cF_eq, cF_eq]
  exact List.map_congr_left fun j hj => h j (List.mem_range.1 hj)
def byF (l : List UInt8) : Nat → Value := fun k => .int .u8 ((l.getD k 0).toNat : Nat)
theorem byF_one (l : List UInt8) (k : Nat) : oneC (byF l k) = true := rfl
theorem byteV_cF (l : List UInt8) : byteV l = cF l.length (byF l) := by
  refine List.ext_getElem? fun j => ?_
  rw [cF_get]
  unfold byteV byF
  rw [List.getElem?_map]
  split
  · rename_i h; rw [List.getElem?_eq_getElem h, List.getD_eq_getElem?_getD, List.getElem?_eq_getElem h]; rfl
  · rename_i h; rw [List.getElem?_eq_none (by omega)]; rfl
/-- the first i, and the last i, are turned -/
noncomputable def swpF (l : List UInt8) (i : Nat) : Nat → Value := fun k => if k < i ∨ l.length - i ≤ k then byF l (l.length - 1 - k) else byF l k
theorem swpF_zero (l : List UInt8) : cF l.length (swpF l 0) = byteV l := by
  rw [byteV_cF]
  exact cF_congr _ fun j hj => by unfold swpF; rw [if_neg (by omega)]
theorem swpF_step (l : List UInt8) {i : Nat} (h : i + i + 1 < l.length) : updV (updV (swpF l i) i (swpF l i (l.length - 1 - i))) (l.length - 1 - i) (swpF l i i) = swpF l (i + 1) := by
  funext k
  unfold updV
  have e1 : swpF l i (l.length - 1 - i) = byF l (l.length - 1 - i) := by unfold swpF; rw [if_neg (by omega)]
  have e2 : swpF l i i = byF l i := by unfold swpF; rw [if_neg (by omega)]
  rw [e1, e2]
  by_cases h1 : k = l.length - 1 - i
  · rw [if_pos h1]
    unfold swpF; rw [if_pos (by omega)]
    congr 1; omega
  · rw [if_neg h1]
    by_cases h2 : k = i
    · rw [if_pos h2]
      unfold swpF; rw [if_pos (by omega)]
      congr 1; omega
    · rw [if_neg h2]
      unfold swpF
      by_cases h3 : k < i ∨ l.length - i ≤ k
      · rw [if_pos h3, if_pos (by omega)]
      · rw [if_neg h3, if_neg (by omega)]
theorem swpF_done (l : List UInt8) {i : Nat} (h : l.length ≤ i + i + 1) : cF l.length (swpF l i) = byteV l.reverse := by
  rw [byteV_cF, List.length_reverse]
  refine cF_congr _ fun j hj => ?_
  have e : byF l.reverse j = byF l (l.length - 1 - j) := by
    unfold byF
    rw [List.getD_eq_getElem?_getD, List.getD_eq_getElem?_getD, List.getElem?_reverse hj]
  rw [e]
  unfold swpF
  split
  · rfl
  · congr 1; omega
end Go.Ev
namespace Go.Proofs.YtndioekjgmbomaaDoor
open Go Go.Ev Go.Proofs
set_option maxRecDepth 100000
set_option maxHeartbeats 4000000
theorem reverse_ok (b c : Nat) (l : List UInt8) (hl : l.length < 4611686018427387904) : CallsV Tryd.prog 66 [.slice (some ⟨b, 0, none⟩) l.length c] [⟨b, 0, .vec 5 1 c, byteV l⟩] (fun r N => r = .tuple #[] ∧ N = [⟨b, 0, .vec 5 1 c, byteV l.reverse⟩]) := by
  refine callsO (noG_ok _) Tryd.mix Tryd.pl66 Tryd.func66 rfl Tryd.ntmps66 Tryd.results66 rfl (by first | rfl | assumption) (Nat.le_of_ble_eq_true rfl) (by kernel_rfl) ?_
  simp only [push_cast, Nat.reduceAdd, Nat.reduceSub, Nat.reduceMul, Nat.reduceLT, Nat.reduceLeDiff, Nat.reduceEqDiff, Nat.reduceMod, Nat.reduceDiv, Int.reduceAdd, Int.reduceSub, Int.reduceMul, Int.reduceLT, Int.reduceLE, Int.reduceEq, Int.reduceNeg, Int.reduceToNat, reduceIte, reduceCtorEq]
  refine loopO (noG_ok _) (pl := Tryd.pl66) Tryd.mix (X := Nat)
    (fun i => ([(0, .slice (some ⟨b, 0, none⟩) l.length c), (2, .int .i64 i), (3, .int .i64 ((l.length : Int) - 1 - (i : Int)))], [⟨b, 0, .vec 5 1 c, cF l.length (swpF l i)⟩]))
    (fun i => i ≤ l.length) (fun i => l.length - i) 0 ?_ ?_ (by kernel_rfl) ?_
  · exact Nat.zero_le _
  · rw [swpF_zero]
    simp only [push_cast, Nat.reduceAdd, Nat.reduceSub, Nat.reduceMul, Nat.reduceLT, Nat.reduceLeDiff, Nat.reduceEqDiff, Nat.reduceMod, Nat.reduceDiv, Int.reduceAdd, Int.reduceSub, Int.reduceMul, Int.reduceLT, Int.reduceLE, Int.reduceEq, Int.reduceNeg, Int.reduceToNat, reduceIte, reduceCtorEq, wrap_i64' (show -9223372036854775808 ≤ (l.length : Int) - 1 ∧ (l.length : Int) - 1 ≤ 9223372036854775807 by omega), Int.sub_zero]
  · intro i hi
    dsimp only at hi ⊢
    rcases Nat.lt_or_ge (i + i + 1) l.length with hlt | hge
    · obtain ⟨j, hj⟩ : ∃ j, j = l.length - 1 - i := ⟨_, rfl⟩
      have ej : (l.length : Int) - 1 - (i : Int) = (j : Int) := by omega
      have ij : (i : Int) < (j : Int) := by omega
      have i1 : (i : Int) < (l.length : Int) := by omega
      have j1 : (j : Int) < (l.length : Int) := by omega
      have i2 : i + 1 ≤ l.length := by omega
      have j2 : j + 1 ≤ l.length := by omega
      have hs := swpF_step l hlt
      rw [← hj] at hs
      have a1 := cF_at l.length (swpF l i) (i := i) (by omega)
      have a2 := cF_at l.length (swpF l i) (i := j) (by omega)
      obtain ⟨x, hx⟩ : ∃ x : Int, swpF l i i = .int .u8 x := by unfold swpF; split <;> exact ⟨_, rfl⟩
      obtain ⟨y, hy⟩ : ∃ x : Int, swpF l i j = .int .u8 x := by unfold swpF; split <;> exact ⟨_, rfl⟩
      rw [hx] at hs a1
      rw [hy] at hs a2
      have s1 := cF_set l.length (swpF l i) (i := i) (by omega) (.int .u8 y)
      have s2 := cF_set l.length (updV (swpF l i) i (.int .u8 y)) (i := j) (by omega) (.int .u8 x)
      rw [hs] at s2
      rw [ej]
      simp only [push_cast, Nat.reduceAdd, Nat.reduceSub, Nat.reduceMul, Nat.reduceLT, Nat.reduceLeDiff, Nat.reduceEqDiff, Nat.reduceMod, Nat.reduceDiv, Int.reduceAdd, Int.reduceSub, Int.reduceMul, Int.reduceLT, Int.reduceLE, Int.reduceEq, Int.reduceNeg, Int.reduceToNat, reduceIte, reduceCtorEq, ij, i1, j1, i2, j2, cF_len, a1, a2, s1, s2, wrap_i64' (show -9223372036854775808 ≤ (i : Int) + 1 ∧ (i : Int) + 1 ≤ 9223372036854775807 by omega), wrap_i64' (show -9223372036854775808 ≤ (j : Int) - 1 ∧ (j : Int) - 1 ≤ 9223372036854775807 by omega)]
      exact ⟨i + 1, by omega, by omega, ⟨rfl, by congr 1; omega⟩, rfl⟩
    · have hn : ¬ (i : Int) < (l.length : Int) - 1 - (i : Int) := by omega
      simp only [push_cast, Nat.reduceAdd, Nat.reduceSub, Nat.reduceMul, Nat.reduceLT, Nat.reduceLeDiff, Nat.reduceEqDiff, Nat.reduceMod, Nat.reduceDiv, Int.reduceAdd, Int.reduceSub, Int.reduceMul, Int.reduceLT, Int.reduceLE, Int.reduceEq, Int.reduceNeg, Int.reduceToNat, reduceIte, reduceCtorEq, hn]
      rw [swpF_done l hge]
      exact ⟨_, .refl _, rfl⟩
theorem clone_ok (b o n c : Nat) (l : List UInt8) (hl : l.length = n) (hn : n < 1099511627776) :
    CallsV Tryd.prog 65 [.slice (some ⟨b, o, none⟩) n c] [⟨b, o, .ro, byteV l⟩] (NewS 5 1 n (byteV l)) := by
  have tk : List.take n (byteV l) = byteV l := List.take_of_length_le (by rw [byteV_len, hl]; exact Nat.le_refl _)
  refine callsO (noG_ok _) Tryd.mix Tryd.pl65 Tryd.func65 rfl Tryd.ntmps65 Tryd.results65 rfl (by first | rfl | assumption) (Nat.le_of_ble_eq_true rfl) (by kernel_rfl) ?_
  simp only [push_cast, Nat.reduceAdd, Nat.reduceSub, Nat.reduceMul, Nat.reduceLT, Nat.reduceLeDiff, Nat.reduceEqDiff, Nat.reduceMod, Nat.reduceDiv, Int.reduceAdd, Int.reduceSub, Int.reduceMul, Int.reduceLT, Int.reduceLE, Int.reduceEq, Int.reduceNeg, Int.reduceToNat, reduceIte, reduceCtorEq]
  intro b1 hb1
  simp only [push_cast, Nat.reduceAdd, Nat.reduceSub, Nat.reduceMul, Nat.reduceLT, Nat.reduceLeDiff, Nat.reduceEqDiff, Nat.reduceMod, Nat.reduceDiv, Int.reduceAdd, Int.reduceSub, Int.reduceMul, Int.reduceLT, Int.reduceLE, Int.reduceEq, Int.reduceNeg, Int.reduceToNat, reduceIte, reduceCtorEq, hb1, byteV_len, hl, tk, two47, byteV_one]
  exact ⟨by omega, fun b2 c2 hb2 hc2 => sub1 ⟨b2, c2, rfl, hc2, rfl⟩⟩
theorem reversed_ok (b o n c : Nat) (l : List UInt8) (hl : l.length = n) (hn : n < 1099511627776) :
    CallsV Tryd.prog 51 [.slice (some ⟨b, o, none⟩) n c] [⟨b, o, .ro, byteV l⟩] (NewS 5 1 n (byteV l.reverse)) := by
  have tk : List.take n (byteV l) = byteV l := List.take_of_length_le (by rw [byteV_len, hl]; exact Nat.le_refl _)
  refine callsO (noG_ok _) Tryd.mix Tryd.pl51 Tryd.func51 rfl Tryd.ntmps51 Tryd.results51 rfl (by first | rfl | assumption) (Nat.le_of_ble_eq_true rfl) (by kernel_rfl) ?_
  simp only [push_cast, Nat.reduceAdd, Nat.reduceSub, Nat.reduceMul, Nat.reduceLT, Nat.reduceLeDiff, Nat.reduceEqDiff, Nat.reduceMod, Nat.reduceDiv, Int.reduceAdd, Int.reduceSub, Int.reduceMul, Int.reduceLT, Int.reduceLE, Int.reduceEq, Int.reduceNeg, Int.reduceToNat, reduceIte, reduceCtorEq]
  refine (clone_ok b o n c l hl hn).use ?_ ?_
  · simp only [push_cast, Nat.reduceAdd, Nat.reduceSub, Nat.reduceMul, Nat.reduceLT, Nat.reduceLeDiff, Nat.reduceEqDiff, Nat.reduceMod, Nat.reduceDiv, Int.reduceAdd, Int.reduceSub, Int.reduceMul, Int.reduceLT, Int.reduceLE, Int.reduceEq, Int.reduceNeg, Int.reduceToNat, reduceIte, reduceCtorEq, byteV_len, hl, tk]
  rintro v N ⟨b1, c1, rfl, hc1, rfl⟩
  simp only [push_cast, Nat.reduceAdd, Nat.reduceSub, Nat.reduceMul, Nat.reduceLT, Nat.reduceLeDiff, Nat.reduceEqDiff, Nat.reduceMod, Nat.reduceDiv, Int.reduceAdd, Int.reduceSub, Int.reduceMul, Int.reduceLT, Int.reduceLE, Int.reduceEq, Int.reduceNeg, Int.reduceToNat, reduceIte, reduceCtorEq]
  intro hb1
  have hr := reverse_ok b1 c1 l (by omega)
  rw [hl] at hr
  refine CallsV.useM (m := ⟨b1, 0, .vec 5 1 c1, byteV l⟩) (Hf := []) hr ?_ rfl trivial ?_
  · simp only [push_cast, Nat.reduceAdd, Nat.reduceSub, Nat.reduceMul, Nat.reduceLT, Nat.reduceLeDiff, Nat.reduceEqDiff, Nat.reduceMod, Nat.reduceDiv, Int.reduceAdd, Int.reduceSub, Int.reduceMul, Int.reduceLT, Int.reduceLE, Int.reduceEq, Int.reduceNeg, Int.reduceToNat, reduceIte, reduceCtorEq]
  rintro v N ⟨rfl, rfl⟩
  simp only [push_cast, Nat.reduceAdd, Nat.reduceSub, Nat.reduceMul, Nat.reduceLT, Nat.reduceLeDiff, Nat.reduceEqDiff, Nat.reduceMod, Nat.reduceDiv, Int.reduceAdd, Int.reduceSub, Int.reduceMul, Int.reduceLT, Int.reduceLE, Int.reduceEq, Int.reduceNeg, Int.reduceToNat, reduceIte, reduceCtorEq, hb1]
  exact sub1 ⟨b1, c1, rfl, hc1, rfl⟩
theorem last_ok (b n c : Nat) (hc : n ≤ c) (hn : n < 4611686018427387904) : CallsV Tryd.prog 52 [.slice (some ⟨b, 0, none⟩) n c, .int .i64 32] [] (Ret0 (.slice (some ⟨b, n - 32, none⟩) (n - (n - 32)) (c - (n - 32)))) := by
  have e1 : (if (n : Int) - 32 < 0 then (0 : Int) else (n : Int) - 32) = ((n - 32 : Nat) : Int) := by split <;> omega
  obtain ⟨k, hk⟩ : ∃ k, k = n - 32 := ⟨_, rfl⟩
  have k1 : k ≤ n := by omega
  have k2 : (k : Int) ≤ (n : Int) := by omega
  rw [← hk] at e1 ⊢
  refine callsO (noG_ok _) Tryd.mix Tryd.pl52 Tryd.func52 rfl Tryd.ntmps52 Tryd.results52 rfl (by first | rfl | assumption) (Nat.le_of_ble_eq_true rfl) (by kernel_rfl) ?_
  simp only [push_cast, Nat.reduceAdd, Nat.reduceSub, Nat.reduceMul, Nat.reduceLT, Nat.reduceLeDiff, Nat.reduceEqDiff, Nat.reduceMod, Nat.reduceDiv, Int.reduceAdd, Int.reduceSub, Int.reduceMul, Int.reduceLT, Int.reduceLE, Int.reduceEq, Int.reduceNeg, Int.reduceToNat, reduceIte, reduceCtorEq, wrap_i64' (show -9223372036854775808 ≤ (n : Int) - 32 ∧ (n : Int) - 32 ≤ 9223372036854775807 by omega), e1, hc, k1, k2]
  split
  · have k0 : k = 0 := by omega
    rw [k0]
  · rfl
end Go.Proofs.YtndioekjgmbomaaDoor
