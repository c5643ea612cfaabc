/- Tb: the program's functions on slots. -/
import Derived.Test.YtfjenfjfiinjmaaTa
set_option linter.unusedSimpArgs false
set_option linter.unusedVariables false
namespace Go.Ev
/-- the keys rise -/
def Rises (l : List Sl) : Prop := ∀ i x y, l[i]? = some x → l[i + 1]? = some y → x.key.num < y.key.num
noncomputable def risesB (l : List Sl) : Bool := @decide (Rises l) (Classical.propDecidable _)
theorem risesB_true {l : List Sl} (h : Rises l) : risesB l = true := by unfold risesB; simpa using h
theorem risesB_false {l : List Sl} (h : ¬ Rises l) : risesB l = false := by unfold risesB; simpa using h
theorem W.cmp_neg {x y : W} : x.cmp y < 0 ↔ x.num < y.num := by unfold W.cmp; repeat' split <;> omega
theorem W.cmp_zero {x y : W} : x.cmp y = 0 ↔ x = y := by
  constructor
  · intro h; refine W.num_inj ?_; revert h; unfold W.cmp; repeat' split <;> omega
  · rintro rfl; simp [W.cmp]
theorem SlH.marks {l : List Sl} {v : Value} {Hf : Hp} (h : SlH l v Hf) : marksOf Hf = [] := by
  obtain ⟨p, c, rfl, ⟨rfl, rfl⟩ | ⟨b, o, rfl, rfl⟩⟩ := h <;> rfl
theorem SlH.r {l : List Sl} {v : Value} {Hf : Hp} (h : SlH l v Hf) : SlR Hf l v := by
  obtain ⟨p, c, rfl, ⟨rfl, rfl⟩ | ⟨b, o, rfl, rfl⟩⟩ := h
  · exact ⟨p, c, rfl, .inl rfl⟩
  · refine ⟨_, c, rfl, .inr ⟨b, o, rfl, ?_⟩⟩
    simp only [cellsAt, findE, if_true, Nat.le_refl, Nat.sub_self, subL, Nat.zero_add, slC_len, List.drop_zero]
    rw [← slC_len, List.take_length]
theorem SlH.der {l : List Sl} {v : Value} {Hf : Hp} (h : SlH l v Hf) : derE Hf Hf := by
  have hr := h.r
  obtain ⟨p, c, rfl, ⟨rfl, rfl⟩ | ⟨b, o, rfl, rfl⟩⟩ := h
  · trivial
  · refine ⟨⟨rfl, ?_⟩, trivial⟩
    simp only [cellsAt, findE, if_true, Nat.le_refl, Nat.sub_self, subL, Nat.zero_add, List.drop_zero, List.take_length]
theorem OutS.wr {e : Nat} {l : List Sl} {v : Value} {N : Hp} (h : OutS e l v N) : allWr N ∧ marksOf N = [] := by
  obtain ⟨rfl, rfl, rfl⟩ | ⟨b, c, h0, rfl, hc, rfl⟩ := h
  · exact ⟨trivial, rfl⟩
  · exact ⟨⟨trivial, trivial⟩, rfl⟩
theorem OutS.r {e : Nat} {l : List Sl} {v : Value} {N H : Hp} (h : OutS e l v N) : SlR (N ++ H) l v := by
  obtain ⟨rfl, rfl, rfl⟩ | ⟨b, c, h0, rfl, hc, rfl⟩ := h
  · exact ⟨none, 0, rfl, .inl rfl⟩
  · refine ⟨_, c, rfl, .inr ⟨b, 0, rfl, ?_⟩⟩
    simp only [cellsAt, List.cons_append, findE, if_true, Nat.le_refl, Nat.sub_self, subL, Nat.zero_add, slC_len, List.drop_zero]
    rw [← slC_len, List.take_length]
noncomputable def patchB (l : List Sl) : Bool := decide (l.length ≤ 1000) && risesB l
noncomputable def cmpWG : List Value → Option Value
  | [x, y] => (wOf x).bind fun a => (wOf y).bind fun b => some (.int .i64 (a.cmp b))
  | _ => none
attribute [push_cast] cmpWG
theorem cmpWG_some {args : List Value} {v : Value} (h : cmpWG args = some v) : ∃ x y : W, args = [x.v, y.v] ∧ v = .int .i64 (x.cmp y) := by
  unfold cmpWG at h
  split at h
  · rename_i x y
    cases hx : wOf x with
    | none => simp [hx] at h
    | some a =>
      cases hy : wOf y with
      | none => simp [hx, hy] at h
      | some b => simp [hx, hy] at h; exact ⟨a, b, by rw [wOf_some hx, wOf_some hy], h.symm⟩
  · cases h
end Go.Ev
namespace Go.Proofs.Ytfjenfjfiinjmaa
open Go Go.Ev Go.Proofs
set_option maxRecDepth 100000
set_option maxHeartbeats 4000000
noncomputable def gB : Gam := addG 35 cmpWG (addG 25 cmpWG noG)
attribute [push_cast] gB
theorem gB_ok : GamOk Try.prog gB := by
  refine addG_ok (fun args v h => ?_) (addG_ok (fun args v h => ?_) (noG_ok _))
  · obtain ⟨x, y, rfl, rfl⟩ := cmpWG_some h; exact wordCmp x y
  · obtain ⟨x, y, rfl, rfl⟩ := cmpWG_some h; exact refCmp x y
theorem rises_ok {Hf : Hp} {l : List Sl} {w : Value} (hv : SlH l w Hf) (hn : l.length ≤ 4000) :
    CallsV Try.prog 29 [.agg #[w, .func (.func 35) #[] #[]]] Hf (Ret0 (.bool (risesB l))) := by
  obtain ⟨p, c, rfl, ⟨rfl, rfl⟩ | ⟨b, o, rfl, rfl⟩⟩ := hv
  · have h0 : risesB [] = true := risesB_true (by intro i x y h; simp at h)
    refine callsO gB_ok Try.mix Try.pl29 Try.func29 rfl Try.ntmps29 Try.results29 rfl (by first | rfl | assumption) (Nat.le_of_ble_eq_true rfl) (by kernel_rfl) ?_
    simp only [push_cast, Nat.reduceAdd, Nat.reduceSub, Nat.reduceMul, Nat.reduceLT, Nat.reduceLeDiff, Nat.reduceEqDiff, Nat.reduceMod, Nat.reduceDiv, Int.reduceAdd, Int.reduceSub, Int.reduceMul, Int.reduceLT, Int.reduceLE, Int.reduceEq, Int.reduceNeg, Int.reduceToNat, reduceIte, reduceCtorEq]
    intro b1
    refine unrollO gB_ok (pl := Try.pl29) Try.mix 1 (by kernel_rfl) ?_
    simp only [push_cast, Nat.reduceAdd, Nat.reduceSub, Nat.reduceMul, Nat.reduceLT, Nat.reduceLeDiff, Nat.reduceEqDiff, Nat.reduceMod, Nat.reduceDiv, Int.reduceAdd, Int.reduceSub, Int.reduceMul, Int.reduceLT, Int.reduceLE, Int.reduceEq, Int.reduceNeg, Int.reduceToNat, reduceIte, reduceCtorEq, h0]
  refine callsO gB_ok Try.mix Try.pl29 Try.func29 rfl Try.ntmps29 Try.results29 rfl (by first | rfl | assumption) (Nat.le_of_ble_eq_true rfl) (by kernel_rfl) ?_
  simp only [push_cast, Nat.reduceAdd, Nat.reduceSub, Nat.reduceMul, Nat.reduceLT, Nat.reduceLeDiff, Nat.reduceEqDiff, Nat.reduceMod, Nat.reduceDiv, Int.reduceAdd, Int.reduceSub, Int.reduceMul, Int.reduceLT, Int.reduceLE, Int.reduceEq, Int.reduceNeg, Int.reduceToNat, reduceIte, reduceCtorEq]
  intro b1 hb1
  refine loopO gB_ok (pl := Try.pl29) Try.mix (X := Nat)
    (fun k => ([(1, .pointer (some ⟨b1, 0, none⟩)), (2, .bool false), (6, .int .i64 l.length), (7, .int .i64 k)],
      [⟨b1, 0, .cel 52, [.slice (some ⟨b, o, none⟩) l.length c, .func (.func 35) #[] #[]]⟩, ⟨b, o, .ro, slC l⟩]))
    (fun k => k ≤ l.length ∧ ∀ i x y, i + 1 < k → l[i]? = some x → l[i + 1]? = some y → x.key.num < y.key.num) (fun k => l.length - k) 0 ?_ ?_ (by kernel_rfl) ?_
  · exact ⟨Nat.zero_le _, fun i x y h => by omega⟩
  · simp only [push_cast, Nat.reduceAdd, Nat.reduceSub, Nat.reduceMul, Nat.reduceLT, Nat.reduceLeDiff, Nat.reduceEqDiff, Nat.reduceMod, Nat.reduceDiv, Int.reduceAdd, Int.reduceSub, Int.reduceMul, Int.reduceLT, Int.reduceLE, Int.reduceEq, Int.reduceNeg, Int.reduceToNat, reduceIte, reduceCtorEq, *]
  · rintro k ⟨hk, ho⟩
    dsimp only at hk ho ⊢
    rcases Nat.lt_or_ge k l.length with hlt | hge
    · obtain ⟨x, hx⟩ : ∃ x, l[k]? = some x := ⟨l[k], List.getElem?_eq_getElem hlt⟩
      have hat := slC_at hx
      rcases Nat.eq_zero_or_pos k with rfl | hpos
      · simp only [push_cast, Nat.reduceAdd, Nat.reduceSub, Nat.reduceMul, Nat.reduceLT, Nat.reduceLeDiff, Nat.reduceEqDiff, Nat.reduceMod, Nat.reduceDiv, Int.reduceAdd, Int.reduceSub, Int.reduceMul, Int.reduceLT, Int.reduceLE, Int.reduceEq, Int.reduceNeg, Int.reduceToNat, reduceIte, reduceCtorEq, hlt, hb1, Int.lt_irrefl]
        exact ⟨1, ⟨hlt, fun i x y h => by omega⟩, by omega, rfl⟩
      · obtain ⟨j, rfl⟩ : ∃ j, k = j + 1 := ⟨k - 1, by omega⟩
        obtain ⟨y, hy⟩ : ∃ y, l[j]? = some y := ⟨l[j], List.getElem?_eq_getElem (by omega)⟩
        have hat' := slC_at hy
        have e1 : ((0 : Int) < (j : Int) + 1) = True := by simp
        have e2 : ((j : Int) + 1).toNat = j + 1 := by omega
        have e3 : ((0 : Int) ≤ (j : Int) + 1 ∧ (j : Int) + 1 < (l.length : Int)) := by omega
        have e4 : j < l.length := by omega
        simp only [push_cast, Nat.reduceAdd, Nat.reduceSub, Nat.reduceMul, Nat.reduceLT, Nat.reduceLeDiff, Nat.reduceEqDiff, Nat.reduceMod, Nat.reduceDiv, Int.reduceAdd, Int.reduceSub, Int.reduceMul, Int.reduceLT, Int.reduceLE, Int.reduceEq, Int.reduceNeg, Int.reduceToNat, reduceIte, reduceCtorEq, hlt, hat, hat', hb1, e1, e2, e3, e4, wrap_i64' (show -9223372036854775808 ≤ (j : Int) ∧ (j : Int) ≤ 9223372036854775807 by omega), wrap_i64' (show -9223372036854775808 ≤ (j : Int) + 1 + 1 ∧ (j : Int) + 1 + 1 ≤ 9223372036854775807 by omega)]
        simp only [sel_ite, decide_eq_true_eq, bne_iff_ne, ne_eq, beq_iff_eq]
        split
        · rename_i h
          have h0 : risesB l = false := risesB_false fun hr => by
            have := W.cmp_neg.2 (hr j y x hy hx)
            omega
          rw [h0]
        · rename_i h
          have h2 := W.cmp_neg.1 (Int.not_le.1 h)
          refine ⟨j + 2, ⟨hlt, fun i x' y' hi h3 h4 => ?_⟩, by omega, by simp only [Value.int.injEq, true_and]; omega⟩
          rcases Nat.lt_or_ge (i + 1) (j + 1) with h5 | h5
          · exact ho i x' y' h5 h3 h4
          · obtain rfl : i = j := by omega
            rw [hy] at h3; rw [hx] at h4
            cases h3; cases h4
            exact h2
    · obtain rfl : k = l.length := by omega
      have h0 : risesB l = true := risesB_true (fun i x y hi hj => ho i x y (by have := (List.getElem?_eq_some_iff.1 hj).1; omega) hi hj)
      simp only [push_cast, Nat.reduceAdd, Nat.reduceSub, Nat.reduceMul, Nat.reduceLT, Nat.reduceLeDiff, Nat.reduceEqDiff, Nat.reduceMod, Nat.reduceDiv, Int.reduceAdd, Int.reduceSub, Int.reduceMul, Int.reduceLT, Int.reduceLE, Int.reduceEq, Int.reduceNeg, Int.reduceToNat, reduceIte, reduceCtorEq, hb1, Nat.lt_irrefl, h0]
theorem patch_ok {Hf : Hp} {l : List Sl} {v : Value} (hv : SlH l v Hf) : CallsV Try.prog 13 [v] Hf (Ret0 (.bool (patchB l))) := by
  have hm := hv.marks
  have hv' := hv
  obtain ⟨p, c, rfl, _⟩ := hv'
  refine callsO gB_ok Try.mix Try.pl13 Try.func13 rfl Try.ntmps13 Try.results13 rfl (by first | rfl | assumption) (Nat.le_of_ble_eq_true rfl) (by kernel_rfl) ?_
  simp only [push_cast, Nat.reduceAdd, Nat.reduceSub, Nat.reduceMul, Nat.reduceLT, Nat.reduceLeDiff, Nat.reduceEqDiff, Nat.reduceMod, Nat.reduceDiv, Int.reduceAdd, Int.reduceSub, Int.reduceMul, Int.reduceLT, Int.reduceLE, Int.reduceEq, Int.reduceNeg, Int.reduceToNat, reduceIte, reduceCtorEq]
  rcases Nat.lt_or_ge 1000 l.length with hlt | hge
  · have e1 : ¬ ((l.length : Int) ≤ 1000) := by omega
    simp only [push_cast, Nat.reduceAdd, Nat.reduceSub, Nat.reduceMul, Nat.reduceLT, Nat.reduceLeDiff, Nat.reduceEqDiff, Nat.reduceMod, Nat.reduceDiv, Int.reduceAdd, Int.reduceSub, Int.reduceMul, Int.reduceLT, Int.reduceLE, Int.reduceEq, Int.reduceNeg, Int.reduceToNat, reduceIte, reduceCtorEq, e1, patchB, Nat.not_le.2 hlt]
  · have e1 : ((l.length : Int) ≤ 1000) := by omega
    simp only [push_cast, Nat.reduceAdd, Nat.reduceSub, Nat.reduceMul, Nat.reduceLT, Nat.reduceLeDiff, Nat.reduceEqDiff, Nat.reduceMod, Nat.reduceDiv, Int.reduceAdd, Int.reduceSub, Int.reduceMul, Int.reduceLT, Int.reduceLE, Int.reduceEq, Int.reduceNeg, Int.reduceToNat, reduceIte, reduceCtorEq, e1]
    refine (of_ok hv (by omega)).use hv.der ?_
    rintro u N ⟨w, rfl, ho⟩
    refine ⟨ho.wr.1, ho.wr.2, fun _ => ?_⟩
    simp only [push_cast, Nat.reduceAdd, Nat.reduceSub, Nat.reduceMul, Nat.reduceLT, Nat.reduceLeDiff, Nat.reduceEqDiff, Nat.reduceMod, Nat.reduceDiv, Int.reduceAdd, Int.reduceSub, Int.reduceMul, Int.reduceLT, Int.reduceLE, Int.reduceEq, Int.reduceNeg, Int.reduceToNat, reduceIte, reduceCtorEq]
    obtain ⟨Hw, hw, hd⟩ := (ho.r (H := Hf)).h
    refine (rises_ok hw (by omega)).pure hd ?_
    simp only [push_cast, Nat.reduceAdd, Nat.reduceSub, Nat.reduceMul, Nat.reduceLT, Nat.reduceLeDiff, Nat.reduceEqDiff, Nat.reduceMod, Nat.reduceDiv, Int.reduceAdd, Int.reduceSub, Int.reduceMul, Int.reduceLT, Int.reduceLE, Int.reduceEq, Int.reduceNeg, Int.reduceToNat, reduceIte, reduceCtorEq, patchB, hge]
end Go.Proofs.Ytfjenfjfiinjmaa
