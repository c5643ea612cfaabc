/- Tj: the document's own answers on slots: Patch, Right, Get. -/
import Derived.Test.YtfjenfjfiinjmaaTi
import Derived.Test.YtfjenfjfiinjmaaEvP
set_option linter.unusedSimpArgs false
set_option linter.unusedVariables false
namespace Go.Ev
theorem SlR.here {H : Hp} {l : List Sl} {b o n c : Nat} (h : SlR H l (.slice (some ⟨b, o, none⟩) n c)) (hn : l ≠ []) : ∃ e, findE H b = some e ∧ ∀ (i : Nat) (x : Sl), l[i]? = some x →
    e.off ≤ o + i * 8 ∧ e.off ≤ o + i * 8 + 4 ∧ o + i * 8 - e.off + 8 ≤ e.cells.length ∧ o + i * 8 - e.off + 4 ≤ e.cells.length ∧ o + i * 8 + 4 - e.off + 4 ≤ e.cells.length ∧
    List.take 8 (List.drop (o + i * 8 - e.off) e.cells) = x.cells ∧ List.take 4 (List.drop (o + i * 8 - e.off) e.cells) = x.key.cells ∧ List.take 4 (List.drop (o + i * 8 + 4 - e.off) e.cells) = x.val.cells := by
  rcases h.open with ⟨h0, _⟩ | ⟨b', o', c', e, hv, he, hx⟩
  · exact absurd h0 hn
  · cases hv; exact ⟨e, he, hx⟩
/-- a list that is not empty lies somewhere -/
theorem SlR.lies {H : Hp} {l : List Sl} {v : Value} (h : SlR H l v) {k : Nat} (hk : k < l.length) : ∃ b o c, v = .slice (some ⟨b, o, none⟩) l.length c := by
  rcases h.open with ⟨h0, _⟩ | ⟨b', o', c', e, hv, he, hx⟩
  · rw [h0] at hk; cases hk
  · exact ⟨b', o', c', hv⟩
end Go.Ev
namespace Go.Proofs.Ytfjenfjfiinjmaa
open Go Go.Ev Go.Proofs
set_option maxRecDepth 100000
set_option maxHeartbeats 4000000
theorem refPatch_ok {Hf : Hp} {l : List Sl} {v : Value} (hv : SlH l v Hf) (hn : l.length ≤ 4000) : CallsV Try.prog 14 [v] Hf (Ret0 (.bool (patchB l))) := by
  have hm := hv.marks
  have hr := hv.r
  obtain ⟨q, c, rfl, _⟩ := id hr
  refine callsO gD_ok Try.mix Try.pl14 Try.func14 rfl Try.ntmps14 Try.results14 rfl (by first | rfl | assumption) (Nat.le_of_ble_eq_true rfl) (by kernel_rfl) ?_
  simp only [push_cast, Nat.reduceAdd, Nat.reduceSub, Nat.reduceMul, Nat.reduceLT, Nat.reduceLeDiff, Nat.reduceEqDiff, Nat.reduceMod, Nat.reduceDiv, Int.reduceAdd, Int.reduceSub, Int.reduceMul, Int.reduceLT, Int.reduceLE, Int.reduceEq, Int.reduceNeg, Int.reduceToNat, reduceIte, reduceCtorEq]
  refine loopO gD_ok (pl := Try.pl14) Try.mix (X := Nat)
    (fun k => ([(0, .slice q l.length c), (3, .int .i64 k)], Hf))
    (fun k => 0 < k ∧ k ≤ l.length + 1 ∧ ∀ i x y, i + 1 < k → l[i]? = some x → l[i + 1]? = some y → x.key.num < y.key.num) (fun k => l.length + 1 - k) 1 ?_ ?_ (by kernel_rfl) ?_
  · exact ⟨Nat.one_pos, by omega, fun i x y h => by omega⟩
  · simp only [push_cast, Nat.reduceAdd, Nat.reduceSub, Nat.reduceMul, Nat.reduceLT, Nat.reduceLeDiff, Nat.reduceEqDiff, Nat.reduceMod, Nat.reduceDiv, Int.reduceAdd, Int.reduceSub, Int.reduceMul, Int.reduceLT, Int.reduceLE, Int.reduceEq, Int.reduceNeg, Int.reduceToNat, reduceIte, reduceCtorEq, hm]
  · rintro k ⟨h0, hk, ho⟩
    dsimp only at hk ho ⊢
    rcases Nat.lt_or_ge k l.length with hlt | hge
    · obtain ⟨j, rfl⟩ : ∃ j, k = j + 1 := ⟨k - 1, by omega⟩
      obtain ⟨k, hkj⟩ : ∃ k, k = j + 1 := ⟨_, rfl⟩
      rw [← hkj] at hlt ho ⊢
      have hjl : j < l.length := by omega
      obtain ⟨x, hx⟩ : ∃ x, l[j]? = some x := ⟨l[j], List.getElem?_eq_getElem hjl⟩
      obtain ⟨y, hy⟩ : ∃ y, l[k]? = some y := ⟨l[k], List.getElem?_eq_getElem hlt⟩
      obtain ⟨b, o, c', hc⟩ := hr.lies hlt
      cases hc
      obtain ⟨e, he, hg⟩ := hr.here (by rintro rfl; cases hlt)
      have hxj := hg j x hx
      have hyk := hg k y hy
      have ej : (k : Int) - 1 = (j : Int) := by omega
      rcases Int.lt_or_le (x.key.cmp y.key) 0 with hc | hc
      · have h2 := W.cmp_neg.1 hc
        have hc' : ¬ (0 : Int) ≤ x.key.cmp y.key := by omega
        simp only [push_cast, Nat.reduceAdd, Nat.reduceSub, Nat.reduceMul, Nat.reduceLT, Nat.reduceLeDiff, Nat.reduceEqDiff, Nat.reduceMod, Nat.reduceDiv, Int.reduceAdd, Int.reduceSub, Int.reduceMul, Int.reduceLT, Int.reduceLE, Int.reduceEq, Int.reduceNeg, Int.reduceToNat, reduceIte, reduceCtorEq, hlt, hjl, ej, wrap_i64' (show -9223372036854775808 ≤ (j : Int) ∧ (j : Int) ≤ 9223372036854775807 by omega), he, hxj, hyk, hc', wrap_i64' (show -9223372036854775808 ≤ (k : Int) + 1 ∧ (k : Int) + 1 ≤ 9223372036854775807 by omega)]
        refine ⟨k + 1, ⟨by omega, by omega, fun i x' y' hi h3 h4 => ?_⟩, by omega, rfl⟩
        rcases Nat.lt_or_ge (i + 1) k with h5 | h5
        · exact ho i x' y' h5 h3 h4
        · obtain rfl : i = j := by omega
          rw [← hkj] at h4
          rw [hx] at h3; rw [hy] at h4
          cases h3; cases h4
          exact h2
      · have h0 : patchB l = false := by
          unfold patchB
          rw [risesB_false fun hrr => ?_, Bool.and_false]
          have := W.cmp_neg.2 (hrr j x y hx (by rw [← hkj]; exact hy))
          omega
        simp only [push_cast, Nat.reduceAdd, Nat.reduceSub, Nat.reduceMul, Nat.reduceLT, Nat.reduceLeDiff, Nat.reduceEqDiff, Nat.reduceMod, Nat.reduceDiv, Int.reduceAdd, Int.reduceSub, Int.reduceMul, Int.reduceLT, Int.reduceLE, Int.reduceEq, Int.reduceNeg, Int.reduceToNat, reduceIte, reduceCtorEq, hlt, hjl, ej, wrap_i64' (show -9223372036854775808 ≤ (j : Int) ∧ (j : Int) ≤ 9223372036854775807 by omega), he, hxj, hyk, hc, h0]
    · have h0 : risesB l = true := risesB_true (fun i x y hi hj => ho i x y (by have := (List.getElem?_eq_some_iff.1 hj).1; omega) hi hj)
      have e2 : ¬ k < l.length := by omega
      have e3 : patchB l = decide ((l.length : Int) ≤ 1000) := by
        unfold patchB
        rw [h0, Bool.and_true]
        congr 1
        simp only [eq_iff_iff]
        omega
      simp only [push_cast, Nat.reduceAdd, Nat.reduceSub, Nat.reduceMul, Nat.reduceLT, Nat.reduceLeDiff, Nat.reduceEqDiff, Nat.reduceMod, Nat.reduceDiv, Int.reduceAdd, Int.reduceSub, Int.reduceMul, Int.reduceLT, Int.reduceLE, Int.reduceEq, Int.reduceNeg, Int.reduceToNat, reduceIte, reduceCtorEq, e2, e3]
theorem refRight_ok {Hf : Hp} {l : List Sl} {v : Value} (hv : SlH l v Hf) (hn : l.length ≤ 4000) : CallsV Try.prog 12 [v] Hf (Ret0 (.bool (rightB l))) := by
  have hm := hv.marks
  have hr := hv.r
  obtain ⟨q, c, rfl, _⟩ := id hr
  refine callsO gD_ok Try.mix Try.pl12 Try.func12 rfl Try.ntmps12 Try.results12 rfl (by first | rfl | assumption) (Nat.le_of_ble_eq_true rfl) (by kernel_rfl) ?_
  simp only [push_cast, Nat.reduceAdd, Nat.reduceSub, Nat.reduceMul, Nat.reduceLT, Nat.reduceLeDiff, Nat.reduceEqDiff, Nat.reduceMod, Nat.reduceDiv, Int.reduceAdd, Int.reduceSub, Int.reduceMul, Int.reduceLT, Int.reduceLE, Int.reduceEq, Int.reduceNeg, Int.reduceToNat, reduceIte, reduceCtorEq]
  refine loopO gD_ok (pl := Try.pl12) Try.mix (X := Nat)
    (fun k => ([(0, .slice q l.length c), (3, .int .i64 k)], Hf))
    (fun k => k ≤ l.length ∧ ∀ i x, i < k → l[i]? = some x → ¬ x.val = W.zero) (fun k => l.length - k) 0 ?_ ?_ (by kernel_rfl) ?_
  · exact ⟨Nat.zero_le _, fun i x h => by omega⟩
  · simp only [push_cast, Nat.reduceAdd, Nat.reduceSub, Nat.reduceMul, Nat.reduceLT, Nat.reduceLeDiff, Nat.reduceEqDiff, Nat.reduceMod, Nat.reduceDiv, Int.reduceAdd, Int.reduceSub, Int.reduceMul, Int.reduceLT, Int.reduceLE, Int.reduceEq, Int.reduceNeg, Int.reduceToNat, reduceIte, reduceCtorEq, hm]
  · rintro k ⟨hk, ho⟩
    dsimp only at hk ho ⊢
    rcases Nat.lt_or_ge k l.length with hlt | hge
    · obtain ⟨x, hx⟩ : ∃ x, l[k]? = some x := ⟨l[k], List.getElem?_eq_getElem hlt⟩
      obtain ⟨b, o, c', hc⟩ := hr.lies hlt
      cases hc
      obtain ⟨e, he, hg⟩ := hr.here (by rintro rfl; cases hlt)
      have hxk := hg k x hx
      by_cases h0 : x.val = W.zero
      · have e1 : decide (x.val = W.zero) = true := by simpa using h0
        have e2 : rightB l = false := by
          unfold rightB
          have : (l.any fun x => decide (x.val = W.zero)) = true := List.any_eq_true.2 ⟨x, List.mem_of_getElem? hx, e1⟩
          rw [this]; simp
        simp only [push_cast, Nat.reduceAdd, Nat.reduceSub, Nat.reduceMul, Nat.reduceLT, Nat.reduceLeDiff, Nat.reduceEqDiff, Nat.reduceMod, Nat.reduceDiv, Int.reduceAdd, Int.reduceSub, Int.reduceMul, Int.reduceLT, Int.reduceLE, Int.reduceEq, Int.reduceNeg, Int.reduceToNat, reduceIte, reduceCtorEq, hlt, he, hxk, W.zero_agg, e1, e2]
      · have e1 : decide (x.val = W.zero) = false := by simpa using h0
        simp only [push_cast, Nat.reduceAdd, Nat.reduceSub, Nat.reduceMul, Nat.reduceLT, Nat.reduceLeDiff, Nat.reduceEqDiff, Nat.reduceMod, Nat.reduceDiv, Int.reduceAdd, Int.reduceSub, Int.reduceMul, Int.reduceLT, Int.reduceLE, Int.reduceEq, Int.reduceNeg, Int.reduceToNat, reduceIte, reduceCtorEq, hlt, he, hxk, W.zero_agg, e1, wrap_i64' (show -9223372036854775808 ≤ (k : Int) + 1 ∧ (k : Int) + 1 ≤ 9223372036854775807 by omega)]
        refine ⟨k + 1, ⟨hlt, fun i y hi hy => ?_⟩, by omega, rfl⟩
        rcases Nat.lt_or_ge i k with h5 | h5
        · exact ho i y h5 hy
        · obtain rfl : i = k := by omega
          rw [hx] at hy; cases hy; exact h0
    · have e2 : ¬ k < l.length := by omega
      have e3 : rightB l = patchB l := by
        unfold rightB
        have : (l.any fun x => decide (x.val = W.zero)) = false := by
          rw [List.any_eq_false]
          intro x hx
          obtain ⟨i, hi⟩ := List.mem_iff_getElem?.1 hx
          have := ho i x (by have := (List.getElem?_eq_some_iff.1 hi).1; omega) hi
          simpa using this
        rw [this]; simp
      simp only [push_cast, Nat.reduceAdd, Nat.reduceSub, Nat.reduceMul, Nat.reduceLT, Nat.reduceLeDiff, Nat.reduceEqDiff, Nat.reduceMod, Nat.reduceDiv, Int.reduceAdd, Int.reduceSub, Int.reduceMul, Int.reduceLT, Int.reduceLE, Int.reduceEq, Int.reduceNeg, Int.reduceToNat, reduceIte, reduceCtorEq, e2]
      refine (refPatch_ok hv hn).pure hv.der ?_
      simp only [push_cast, Nat.reduceAdd, Nat.reduceSub, Nat.reduceMul, Nat.reduceLT, Nat.reduceLeDiff, Nat.reduceEqDiff, Nat.reduceMod, Nat.reduceDiv, Int.reduceAdd, Int.reduceSub, Int.reduceMul, Int.reduceLT, Int.reduceLE, Int.reduceEq, Int.reduceNeg, Int.reduceToNat, reduceIte, reduceCtorEq, e3]
theorem refGet_ok {Hf : Hp} {l : List Sl} {v : Value} {k : W} (hv : SlH l v Hf) (hn : l.length ≤ 4000) : CallsV Try.prog 16 [v, k.v] Hf (Ret0 (getW l k).v) := by
  have hm := hv.marks
  have hr := hv.r
  obtain ⟨q, c, rfl, _⟩ := id hr
  refine callsO gD_ok Try.mix Try.pl16 Try.func16 rfl Try.ntmps16 Try.results16 rfl (by first | rfl | assumption) (Nat.le_of_ble_eq_true rfl) (by kernel_rfl) ?_
  simp only [push_cast, Nat.reduceAdd, Nat.reduceSub, Nat.reduceMul, Nat.reduceLT, Nat.reduceLeDiff, Nat.reduceEqDiff, Nat.reduceMod, Nat.reduceDiv, Int.reduceAdd, Int.reduceSub, Int.reduceMul, Int.reduceLT, Int.reduceLE, Int.reduceEq, Int.reduceNeg, Int.reduceToNat, reduceIte, reduceCtorEq]
  intro b3 hb3 b4 hb4
  refine loopO gD_ok (pl := Try.pl16) Try.mix (X := Nat)
    (fun i => ([(0, .slice q l.length c), (3, .pointer (some ⟨b3, 0, none⟩)), (4, .pointer (some ⟨b4, 0, none⟩)), (5, .int .i64 i)], ⟨b4, 0, .cel 26, W.zero.cells⟩ :: ⟨b3, 0, .cel 26, k.cells⟩ :: Hf))
    (fun i => i ≤ l.length ∧ ∀ j x, j < i → l[j]? = some x → ¬ x.key = k) (fun i => l.length - i) 0 ?_ ?_ (by kernel_rfl) ?_
  · exact ⟨Nat.zero_le _, fun i x h => by omega⟩
  · simp only [push_cast, Nat.reduceAdd, Nat.reduceSub, Nat.reduceMul, Nat.reduceLT, Nat.reduceLeDiff, Nat.reduceEqDiff, Nat.reduceMod, Nat.reduceDiv, Int.reduceAdd, Int.reduceSub, Int.reduceMul, Int.reduceLT, Int.reduceLE, Int.reduceEq, Int.reduceNeg, Int.reduceToNat, reduceIte, reduceCtorEq, hm]
    rfl
  · rintro i ⟨hi, ho⟩
    dsimp only at hi ho ⊢
    rcases Nat.lt_or_ge i l.length with hlt | hge
    · obtain ⟨x, hx⟩ : ∃ x, l[i]? = some x := ⟨l[i], List.getElem?_eq_getElem hlt⟩
      obtain ⟨b, o, c', hc⟩ := hr.lies hlt
      cases hc
      obtain ⟨e, he, hg⟩ := hr.here (by rintro rfl; cases hlt)
      have hxi := hg i x hx
      have hf3 := fresh_find hb3 he
      have hf4 := fresh_find hb4.2.2 he
      by_cases h0 : x.key = k
      · have e1 : decide (x.key = k) = true := by simpa using h0
        have e2 : getW l k = x.val := by
          unfold getW
          have : (l.find? fun x => decide (x.key = k)) = some x := by
            rw [List.find?_eq_some_iff_getElem]
            refine ⟨e1, i, hlt, by simpa [List.getElem?_eq_getElem hlt] using hx, fun j hj => ?_⟩
            have := ho j _ hj (List.getElem?_eq_getElem (by omega))
            simpa using this
          rw [this]; rfl
        simp only [push_cast, Nat.reduceAdd, Nat.reduceSub, Nat.reduceMul, Nat.reduceLT, Nat.reduceLeDiff, Nat.reduceEqDiff, Nat.reduceMod, Nat.reduceDiv, Int.reduceAdd, Int.reduceSub, Int.reduceMul, Int.reduceLT, Int.reduceLE, Int.reduceEq, Int.reduceNeg, Int.reduceToNat, reduceIte, reduceCtorEq, hlt, he, hxi, hf3, hf4, hb4, hb3, e1, e2]
      · have e1 : decide (x.key = k) = false := by simpa using h0
        simp only [push_cast, Nat.reduceAdd, Nat.reduceSub, Nat.reduceMul, Nat.reduceLT, Nat.reduceLeDiff, Nat.reduceEqDiff, Nat.reduceMod, Nat.reduceDiv, Int.reduceAdd, Int.reduceSub, Int.reduceMul, Int.reduceLT, Int.reduceLE, Int.reduceEq, Int.reduceNeg, Int.reduceToNat, reduceIte, reduceCtorEq, hlt, he, hxi, hf3, hf4, hb4, hb3, e1, wrap_i64' (show -9223372036854775808 ≤ (i : Int) + 1 ∧ (i : Int) + 1 ≤ 9223372036854775807 by omega)]
        refine ⟨i + 1, ⟨hlt, fun j y hj hy => ?_⟩, by omega, rfl⟩
        rcases Nat.lt_or_ge j i with h5 | h5
        · exact ho j y h5 hy
        · obtain rfl : j = i := by omega
          rw [hx] at hy; cases hy; exact h0
    · have e2 : ¬ i < l.length := by omega
      have e3 : getW l k = W.zero := by
        unfold getW
        have : (l.find? fun x => decide (x.key = k)) = none := by
          rw [List.find?_eq_none]
          intro x hx
          obtain ⟨j, hj⟩ := List.mem_iff_getElem?.1 hx
          have := ho j x (by have := (List.getElem?_eq_some_iff.1 hj).1; omega) hj
          simpa using this
        rw [this]; rfl
      simp only [push_cast, Nat.reduceAdd, Nat.reduceSub, Nat.reduceMul, Nat.reduceLT, Nat.reduceLeDiff, Nat.reduceEqDiff, Nat.reduceMod, Nat.reduceDiv, Int.reduceAdd, Int.reduceSub, Int.reduceMul, Int.reduceLT, Int.reduceLE, Int.reduceEq, Int.reduceNeg, Int.reduceToNat, reduceIte, reduceCtorEq, e2, e3, hb4, hb3, W.zero_agg]
end Go.Proofs.Ytfjenfjfiinjmaa
