/- Tg: Same. -/
import Derived.Test.YtfjenfjfiinjmaaTf
set_option linter.unusedSimpArgs false
set_option linter.unusedVariables false
namespace Go.Ev
/-- how a list of slots is read -/
theorem SlR.open {H : Hp} {l : List Sl} {v : Value} (h : SlR H l v) : (l = [] ∧ ∃ p c, v = .slice p 0 c) ∨ ∃ b o c e, v = .slice (some ⟨b, o, none⟩) l.length c ∧ findE H b = some e ∧ ∀ (i : Nat) (x : Sl), l[i]? = some x →
    e.off ≤ o + i * 8 ∧ e.off ≤ o + i * 8 + 4 ∧ o + i * 8 - e.off + 8 ≤ e.cells.length ∧ o + i * 8 - e.off + 4 ≤ e.cells.length ∧ o + i * 8 + 4 - e.off + 4 ≤ e.cells.length ∧
    List.take 8 (List.drop (o + i * 8 - e.off) e.cells) = x.cells ∧ List.take 4 (List.drop (o + i * 8 - e.off) e.cells) = x.key.cells ∧ List.take 4 (List.drop (o + i * 8 + 4 - e.off) e.cells) = x.val.cells := by
  obtain ⟨p, c, rfl, rfl | ⟨b, o, rfl, h⟩⟩ := h
  · exact .inl ⟨rfl, p, c, rfl⟩
  · obtain ⟨e, he⟩ := cellsAt_find h
    refine .inr ⟨b, o, c, e, rfl, he, fun i x hx => ?_⟩
    unfold cellsAt at h
    rw [he] at h
    dsimp only at h
    split at h
    case isFalse => cases h
    rename_i hoff
    unfold subL at h
    split at h
    case isFalse => cases h
    rename_i hle
    have hcs := Option.some.inj h
    have hi := (List.getElem?_eq_some_iff.1 hx).1
    obtain ⟨a1, a2, a3, a4, a5, a6⟩ := slC_at hx
    have hd : ∀ j n, j + n ≤ l.length * 8 → List.take n (List.drop (o - e.off + j) e.cells) = List.take n (List.drop j (slC l)) := fun j n hj => by
      rw [← hcs, List.drop_take, List.take_take, List.drop_drop, Nat.min_eq_left (by omega)]
    have e1 : o + i * 8 - e.off = o - e.off + i * 8 := by omega
    have e2 : o + i * 8 + 4 - e.off = o - e.off + (i * 8 + 4) := by omega
    rw [e1, e2, hd _ _ (by omega), hd _ _ (by omega), hd _ _ (by omega), a4, a5, a6]
    exact ⟨by omega, by omega, by omega, by omega, by omega, rfl, rfl, rfl⟩
theorem Sl.v_all1 (x : Sl) : x.cells.all oneC = true := rfl
/-- two lists are the same up to k -/
theorem same_step {a b : List Sl} {k : Nat} {x y : Sl} (h : a.take k = b.take k) (hx : a[k]? = some x) (hy : b[k]? = some y) (hxy : x = y) : a.take (k + 1) = b.take (k + 1) := by
  rw [List.take_add_one, List.take_add_one, h, hx, hy, hxy]
end Go.Ev
namespace Go.Proofs.Ytfjenfjfiinjmaa
open Go Go.Ev Go.Proofs
set_option maxRecDepth 100000
set_option maxHeartbeats 4000000
theorem same_ok {Hf : Hp} {a b : List Sl} {v u : Value} (hm : marksOf Hf = []) (h1 : SlR Hf a v) (h2 : SlR Hf b u) (hn : a.length ≤ 4000) (hn2 : b.length ≤ 4000) : CallsV Try.prog 19 [v, u] Hf (Ret0 (.bool (decide (a = b)))) := by
  rcases h1.open with ⟨rfl, p, c, rfl⟩ | ⟨ba, oa, ca, ea, rfl, hea, hra⟩
  · obtain ⟨p', c', rfl, _⟩ := h2
    refine callsO (noG_ok _) Try.mix Try.pl19 Try.func19 rfl Try.ntmps19 Try.results19 rfl (by first | rfl | assumption) (Nat.le_of_ble_eq_true rfl) (by kernel_rfl) ?_
    simp only [push_cast, Nat.reduceAdd, Nat.reduceSub, Nat.reduceMul, Nat.reduceLT, Nat.reduceLeDiff, Nat.reduceEqDiff, Nat.reduceMod, Nat.reduceDiv, Int.reduceAdd, Int.reduceSub, Int.reduceMul, Int.reduceLT, Int.reduceLE, Int.reduceEq, Int.reduceNeg, Int.reduceToNat, reduceIte, reduceCtorEq]
    cases b with
    | nil =>
      simp only [push_cast, Nat.reduceAdd, Nat.reduceSub, Nat.reduceMul, Nat.reduceLT, Nat.reduceLeDiff, Nat.reduceEqDiff, Nat.reduceMod, Nat.reduceDiv, Int.reduceAdd, Int.reduceSub, Int.reduceMul, Int.reduceLT, Int.reduceLE, Int.reduceEq, Int.reduceNeg, Int.reduceToNat, reduceIte, reduceCtorEq, List.length_nil, bne_self_eq_false]
      refine unrollO (noG_ok _) (pl := Try.pl19) Try.mix 1 (by kernel_rfl) ?_
      simp only [push_cast, Nat.reduceAdd, Nat.reduceSub, Nat.reduceMul, Nat.reduceLT, Nat.reduceLeDiff, Nat.reduceEqDiff, Nat.reduceMod, Nat.reduceDiv, Int.reduceAdd, Int.reduceSub, Int.reduceMul, Int.reduceLT, Int.reduceLE, Int.reduceEq, Int.reduceNeg, Int.reduceToNat, reduceIte, reduceCtorEq, Int.lt_irrefl]
    | cons y r =>
      have e1 : ((0 : Int) != (r.length : Int) + 1) = true := by rw [bne_iff_ne]; omega
      have e2 : decide ([] = y :: r) = false := by simp
      simp only [push_cast, Nat.reduceAdd, Nat.reduceSub, Nat.reduceMul, Nat.reduceLT, Nat.reduceLeDiff, Nat.reduceEqDiff, Nat.reduceMod, Nat.reduceDiv, Int.reduceAdd, Int.reduceSub, Int.reduceMul, Int.reduceLT, Int.reduceLE, Int.reduceEq, Int.reduceNeg, Int.reduceToNat, reduceIte, reduceCtorEq, e1, e2]
  · rcases h2.open with ⟨rfl, p, c, rfl⟩ | ⟨bb, ob, cb, eb, rfl, heb, hrb⟩
    · refine callsO (noG_ok _) Try.mix Try.pl19 Try.func19 rfl Try.ntmps19 Try.results19 rfl (by first | rfl | assumption) (Nat.le_of_ble_eq_true rfl) (by kernel_rfl) ?_
      simp only [push_cast, Nat.reduceAdd, Nat.reduceSub, Nat.reduceMul, Nat.reduceLT, Nat.reduceLeDiff, Nat.reduceEqDiff, Nat.reduceMod, Nat.reduceDiv, Int.reduceAdd, Int.reduceSub, Int.reduceMul, Int.reduceLT, Int.reduceLE, Int.reduceEq, Int.reduceNeg, Int.reduceToNat, reduceIte, reduceCtorEq]
      cases a with
      | nil =>
        simp only [push_cast, Nat.reduceAdd, Nat.reduceSub, Nat.reduceMul, Nat.reduceLT, Nat.reduceLeDiff, Nat.reduceEqDiff, Nat.reduceMod, Nat.reduceDiv, Int.reduceAdd, Int.reduceSub, Int.reduceMul, Int.reduceLT, Int.reduceLE, Int.reduceEq, Int.reduceNeg, Int.reduceToNat, reduceIte, reduceCtorEq, List.length_nil, bne_self_eq_false]
        refine unrollO (noG_ok _) (pl := Try.pl19) Try.mix 1 (by kernel_rfl) ?_
        simp only [push_cast, Nat.reduceAdd, Nat.reduceSub, Nat.reduceMul, Nat.reduceLT, Nat.reduceLeDiff, Nat.reduceEqDiff, Nat.reduceMod, Nat.reduceDiv, Int.reduceAdd, Int.reduceSub, Int.reduceMul, Int.reduceLT, Int.reduceLE, Int.reduceEq, Int.reduceNeg, Int.reduceToNat, reduceIte, reduceCtorEq, Int.lt_irrefl]
      | cons y r =>
        have e1 : ((r.length : Int) + 1 != (0 : Int)) = true := by rw [bne_iff_ne]; omega
        have e2 : decide (y :: r = []) = false := by simp
        simp only [push_cast, Nat.reduceAdd, Nat.reduceSub, Nat.reduceMul, Nat.reduceLT, Nat.reduceLeDiff, Nat.reduceEqDiff, Nat.reduceMod, Nat.reduceDiv, Int.reduceAdd, Int.reduceSub, Int.reduceMul, Int.reduceLT, Int.reduceLE, Int.reduceEq, Int.reduceNeg, Int.reduceToNat, reduceIte, reduceCtorEq, e1, e2]
    · refine callsO (noG_ok _) Try.mix Try.pl19 Try.func19 rfl Try.ntmps19 Try.results19 rfl (by first | rfl | assumption) (Nat.le_of_ble_eq_true rfl) (by kernel_rfl) ?_
      simp only [push_cast, Nat.reduceAdd, Nat.reduceSub, Nat.reduceMul, Nat.reduceLT, Nat.reduceLeDiff, Nat.reduceEqDiff, Nat.reduceMod, Nat.reduceDiv, Int.reduceAdd, Int.reduceSub, Int.reduceMul, Int.reduceLT, Int.reduceLE, Int.reduceEq, Int.reduceNeg, Int.reduceToNat, reduceIte, reduceCtorEq]
      by_cases hl : a.length = b.length
      · have e1 : ((a.length : Int) != (b.length : Int)) = false := by rw [hl, bne_self_eq_false]
        simp only [push_cast, Nat.reduceAdd, Nat.reduceSub, Nat.reduceMul, Nat.reduceLT, Nat.reduceLeDiff, Nat.reduceEqDiff, Nat.reduceMod, Nat.reduceDiv, Int.reduceAdd, Int.reduceSub, Int.reduceMul, Int.reduceLT, Int.reduceLE, Int.reduceEq, Int.reduceNeg, Int.reduceToNat, reduceIte, reduceCtorEq, e1]
        refine loopO (noG_ok _) (pl := Try.pl19) Try.mix (X := Nat)
          (fun k => ([(0, .slice (some ⟨ba, oa, none⟩) a.length ca), (1, .slice (some ⟨bb, ob, none⟩) b.length cb), (5, .int .i64 k)], Hf))
          (fun k => k ≤ a.length ∧ a.take k = b.take k) (fun k => a.length - k) 0 ?_ ?_ (by kernel_rfl) ?_
        · exact ⟨Nat.zero_le _, rfl⟩
        · simp only [push_cast, Nat.reduceAdd, Nat.reduceSub, Nat.reduceMul, Nat.reduceLT, Nat.reduceLeDiff, Nat.reduceEqDiff, Nat.reduceMod, Nat.reduceDiv, Int.reduceAdd, Int.reduceSub, Int.reduceMul, Int.reduceLT, Int.reduceLE, Int.reduceEq, Int.reduceNeg, Int.reduceToNat, reduceIte, reduceCtorEq, hm]
        · rintro k ⟨hk, ho⟩
          dsimp only at hk ho ⊢
          rcases Nat.lt_or_ge k a.length with hlt | hge
          · have hlb : k < b.length := by omega
            obtain ⟨x, hx⟩ : ∃ x, a[k]? = some x := ⟨a[k], List.getElem?_eq_getElem hlt⟩
            obtain ⟨y, hy⟩ : ∃ x, b[k]? = some x := ⟨b[k], List.getElem?_eq_getElem hlb⟩
            have hxa := hra k x hx
            have hyb := hrb k y hy
            by_cases hxy : x = y
            · have e2 : decide (x = y) = true := by simpa using hxy
              simp only [push_cast, Nat.reduceAdd, Nat.reduceSub, Nat.reduceMul, Nat.reduceLT, Nat.reduceLeDiff, Nat.reduceEqDiff, Nat.reduceMod, Nat.reduceDiv, Int.reduceAdd, Int.reduceSub, Int.reduceMul, Int.reduceLT, Int.reduceLE, Int.reduceEq, Int.reduceNeg, Int.reduceToNat, reduceIte, reduceCtorEq, hlt, hlb, hea, heb, hxa, hyb, e2, wrap_i64' (show -9223372036854775808 ≤ (k : Int) + 1 ∧ (k : Int) + 1 ≤ 9223372036854775807 by omega)]
              exact ⟨k + 1, ⟨hlt, same_step ho hx hy hxy⟩, by omega, rfl⟩
            · have e2 : decide (x = y) = false := by simpa using hxy
              have e3 : decide (a = b) = false := by
                rw [decide_eq_false_iff_not]
                rintro rfl
                rw [hx] at hy; cases hy; exact hxy rfl
              simp only [push_cast, Nat.reduceAdd, Nat.reduceSub, Nat.reduceMul, Nat.reduceLT, Nat.reduceLeDiff, Nat.reduceEqDiff, Nat.reduceMod, Nat.reduceDiv, Int.reduceAdd, Int.reduceSub, Int.reduceMul, Int.reduceLT, Int.reduceLE, Int.reduceEq, Int.reduceNeg, Int.reduceToNat, reduceIte, reduceCtorEq, hlt, hlb, hea, heb, hxa, hyb, e2, e3]
          · have e2 : ¬ k < a.length := by omega
            have e3 : decide (a = b) = true := by
              rw [decide_eq_true_eq]
              rwa [List.take_of_length_le (by omega), List.take_of_length_le (by omega)] at ho
            simp only [push_cast, Nat.reduceAdd, Nat.reduceSub, Nat.reduceMul, Nat.reduceLT, Nat.reduceLeDiff, Nat.reduceEqDiff, Nat.reduceMod, Nat.reduceDiv, Int.reduceAdd, Int.reduceSub, Int.reduceMul, Int.reduceLT, Int.reduceLE, Int.reduceEq, Int.reduceNeg, Int.reduceToNat, reduceIte, reduceCtorEq, e2, e3]
      · have e1 : ((a.length : Int) != (b.length : Int)) = true := by rw [bne_iff_ne]; omega
        have e2 : decide (a = b) = false := by
          rw [decide_eq_false_iff_not]; rintro rfl; exact hl rfl
        simp only [push_cast, Nat.reduceAdd, Nat.reduceSub, Nat.reduceMul, Nat.reduceLT, Nat.reduceLeDiff, Nat.reduceEqDiff, Nat.reduceMod, Nat.reduceDiv, Int.reduceAdd, Int.reduceSub, Int.reduceMul, Int.reduceLT, Int.reduceLE, Int.reduceEq, Int.reduceNeg, Int.reduceToNat, reduceIte, reduceCtorEq, e1, e2]
end Go.Proofs.Ytfjenfjfiinjmaa
