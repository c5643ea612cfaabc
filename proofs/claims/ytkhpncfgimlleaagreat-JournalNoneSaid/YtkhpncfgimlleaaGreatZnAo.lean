/- Texts of this claim, merged by program: As Pb Ja. -/
import Derived.Test.YtkhpncfgimlleaaGreatZnAn
import Derived.Test.YtkhpncfgimlleaaGreatZnAl
set_option linter.unusedSimpArgs false
set_option linter.unusedVariables false
namespace Go.Ev
theorem Ac.cells_sv {x : Ac} {sv sv' : Value} (h : x.cells sv = x.cells sv') : sv = sv' := by
  have h1 := x.slo26 sv
  rw [h, x.slo26 sv'] at h1
  simpa using h1.symm
theorem Ch.zeroL : Ch.zero.cells = [.int .i64 0, .int .u8 0, .int .u8 0, .int .u8 0, .int .u8 0, .int .u8 0, .int .u8 0, .int .u8 0, .int .u8 0, .int .u8 0, .int .u8 0, .int .u8 0, .int .u8 0, .int .u8 0, .int .u8 0, .int .u8 0, .int .u8 0, .int .u8 0, .int .u8 0, .int .u8 0, .int .u8 0, .int .u64 0, .int .u64 0, .int .u64 0, .int .u64 0, .int .u64 0, .int .u64 0, .int .u64 0, .int .u64 0, .int .i64 0, .string .empty] := rfl
end Go.Ev
namespace Go.Proofs.YtkhpncfgimlleaaGreat
open Go Go.Ev Go.Proofs
set_option maxRecDepth 100000
set_option maxHeartbeats 4000000
def plSDo : Plans := fun i => if i = 1 then [(0, 9)] else if i = 3 then [] else if i = 4 then [(0, 9)] else if i = 5 then [(0, 9)] else if i = 6 then [(0, 9)] else if i = 8 then [(0, 9)] else Tryz.pl42 i
attribute [push_cast] plSDo
theorem sdo_ok {M : Hp} {s : List Ac} {v : Value} {c : Ch} (hv : StR s v M) (hn : s.length ≤ 1000000000) (hsl' : ∀ y ∈ s, y.slots.length ≤ 1000000000000) : CallsW Tryz.prog 42 [v, c.v] M (DoO 44 (doS s c)) := by
  intro M0 hr he
  have hm := hr.marks
  replace hv := StR.rd _ _ _ _ he.symm hv
  obtain ⟨p, k, hvv⟩ : ∃ p k, v = .slice p s.length k := by
    obtain ⟨L, h1, h2, -⟩ := hv
    obtain ⟨p, k, h3⟩ := h2.slice
    exact ⟨p, k, by rw [h3, ← h1, List.length_map]⟩
  subst hvv
  refine callsO gA1_ok Tryz.mix plSDo Tryz.func42 rfl Tryz.ntmps42 Tryz.results42 rfl (by first | rfl | assumption) (Nat.le_of_ble_eq_true rfl) (by kernel_rfl) ?_
  simp only [push_cast, Nat.reduceAdd, Nat.reduceSub, Nat.reduceMul, Nat.reduceLT, Nat.reduceLeDiff, Nat.reduceEqDiff, Nat.reduceMod, Nat.reduceDiv, Int.reduceAdd, Int.reduceSub, Int.reduceMul, Int.reduceLT, Int.reduceLE, Int.reduceEq, Int.reduceNeg, Int.reduceToNat, reduceIte, reduceCtorEq, Int.reduceBEq, Int.reduceBNe]
  intro b3 hb3 b5 hb5
  have f3 : fresh b3 M0 := hb3
  have f5 : fresh b5 M0 := hb5.2.2
  refine regO gA1_ok ?_
  simp only [push_cast, Nat.reduceAdd, Nat.reduceSub, Nat.reduceMul, Nat.reduceLT, Nat.reduceLeDiff, Nat.reduceEqDiff, Nat.reduceMod, Nat.reduceDiv, Int.reduceAdd, Int.reduceSub, Int.reduceMul, Int.reduceLT, Int.reduceLE, Int.reduceEq, Int.reduceNeg, Int.reduceToNat, reduceIte, reduceCtorEq, Int.reduceBEq, Int.reduceBNe, hb5]
  refine useP [_, _] (fun M1 hr1 he1 => sright_ok (StR.rd _ _ _ _ he1.symm hv) hr1.marks (by omega)) ⟨f5, f3, trivial⟩ ?_
  cases hrs : rightS s
  case false =>
    have e : doS s c = (s, Ch.zero, 1) := by unfold doS; rw [if_pos hrs]
    rw [e]
    simp only [push_cast, Nat.reduceAdd, Nat.reduceSub, Nat.reduceMul, Nat.reduceLT, Nat.reduceLeDiff, Nat.reduceEqDiff, Nat.reduceMod, Nat.reduceDiv, Int.reduceAdd, Int.reduceSub, Int.reduceMul, Int.reduceLT, Int.reduceLE, Int.reduceEq, Int.reduceNeg, Int.reduceToNat, reduceIte, reduceCtorEq, Int.reduceBEq, Int.reduceBNe, hb5]
    refine useB [_, _] (mapped_ok hv hn hsl') (StO.rd _ _) hm ⟨f5, f3, trivial⟩ fun w N M1 hg hf hL hw hmN hq => ?_
    simp only [push_cast, Nat.reduceAdd, Nat.reduceSub, Nat.reduceMul, Nat.reduceLT, Nat.reduceLeDiff, Nat.reduceEqDiff, Nat.reduceMod, Nat.reduceDiv, Int.reduceAdd, Int.reduceSub, Int.reduceMul, Int.reduceLT, Int.reduceLE, Int.reduceEq, Int.reduceNeg, Int.reduceToNat, reduceIte, reduceCtorEq, Int.reduceBEq, Int.reduceBNe, hb5]
    exact doneN [_, _] hg hw hmN hf (DoO.rd _ _) ⟨_, rfl, hq⟩
  simp only [push_cast, Nat.reduceAdd, Nat.reduceSub, Nat.reduceMul, Nat.reduceLT, Nat.reduceLeDiff, Nat.reduceEqDiff, Nat.reduceMod, Nat.reduceDiv, Int.reduceAdd, Int.reduceSub, Int.reduceMul, Int.reduceLT, Int.reduceLE, Int.reduceEq, Int.reduceNeg, Int.reduceToNat, reduceIte, reduceCtorEq, Int.reduceBEq, Int.reduceBNe, hb5]
  obtain ⟨x, hx⟩ : ∃ x, x = findS s c.at_ := ⟨_, rfl⟩
  have hri := rightS_iff.1 hrs
  have hxm : mayA x = true := by rw [hx]; exact hri.findMay _
  have hxl := (mayA_slots hxm).len
  have hxl4 : x.slots.length ≤ 4000 := by omega
  obtain ⟨x', u, e, hch⟩ : ∃ x' u e, chA x c = (x', u, e) := ⟨_, _, _, rfl⟩
  have hLX : freshN [⟨b5, 0, .cel 31, Ch.zero.cells⟩, ⟨b3, 0, .cel 31, c.cells⟩] M0 := ⟨f5, f3, trivial⟩
  have f3 : findE (⟨b5, 0, .cel 31, Ch.zero.cells⟩ :: ⟨b3, 0, .cel 31, c.cells⟩ :: M0) b3 = some ⟨b3, 0, .cel 31, c.cells⟩ := by
    simp only [push_cast, Nat.reduceAdd, Nat.reduceSub, Nat.reduceMul, Nat.reduceLT, Nat.reduceLeDiff, Nat.reduceEqDiff, Nat.reduceMod, Nat.reduceDiv, Int.reduceAdd, Int.reduceSub, Int.reduceMul, Int.reduceLT, Int.reduceLE, Int.reduceEq, Int.reduceNeg, Int.reduceToNat, reduceIte, reduceCtorEq, Int.reduceBEq, Int.reduceBNe, hb5]
  rw [← Ch.zeroL]
  refine drawS gA1_ok Tryz.mix [(0, .slice p s.length k), (3, .pointer (some ⟨b3, 0, none⟩)), (5, .pointer (some ⟨b5, 0, none⟩))]
      (fun i val => match i with
        | 0 => val 0 = .slice p s.length k
        | 1 => val 1 = .pointer (some ⟨b3, 1, none⟩)
        | 2 => val 2 = c.at_.v
        | 3 => ∃ p k, val 3 = .agg (x.cells (Value.slice p x.slots.length k)).toArray
        | 4 => val 4 = c.v
        | 5 => ∃ p k, val 5 = .tuple #[.agg (x'.cells (Value.slice p x'.slots.length k)).toArray, u.v, .int .i64 e]
        | 6 => val 6 = val 5 ∧ ∃ p k, val 5 = .tuple #[.agg (x'.cells (Value.slice p x'.slots.length k)).toArray, u.v, .int .i64 e]
        | 7 => ∃ p k, val 7 = .agg (x'.cells (Value.slice p x'.slots.length k)).toArray ∧ val 6 = .tuple #[val 7, u.v, .int .i64 e]
        | 8 => val 8 = u.v
        | 9 => val 9 = .int .i64 e
        | 10 => ∃ b, val 10 = .pointer (some ⟨b, 0, none⟩)
        | 11 => ∃ b, val 11 = .pointer (some ⟨b, 0, none⟩)
        | 14 => val 14 = .int .i64 e
        | _ => True)
      (fun i val N => match i with
        | 3 => allWr N ∧ marksOf N = [] ∧ AcR x (val 3) (N ++ M0)
        | 5 => allWr N ∧ marksOf N = [] ∧ ChR (x', u, e) (val 5) (N ++ M0)
        | 6 => N = []
        | 7 => N = []
        | 10 => ∃ b, val 10 = .pointer (some ⟨b, 0, none⟩) ∧ N = [⟨b, 0, .cel 44, Ac.zeroC⟩]
        | 11 => ∃ b, val 11 = .pointer (some ⟨b, 0, none⟩) ∧ N = [⟨b, 0, .cel 31, Ch.zero.cells⟩]
        | 12 => ∃ b p k, val 10 = .pointer (some ⟨b, 0, none⟩) ∧ val 7 = .agg (x'.cells (Value.slice p x'.slots.length k)).toArray ∧ N = [⟨b, 0, .cel 44, x'.cells (Value.slice p x'.slots.length k)⟩]
        | 13 => ∃ b, val 11 = .pointer (some ⟨b, 0, none⟩) ∧ N = [⟨b, 0, .cel 31, u.cells⟩]
        | _ => N = []) (fun i => if i = 5 then [3] else if i = 12 then [10] else if i = 13 then [11] else []) [5, 12, 13] (by kernel_rfl) (by kernel_rfl) (by kernel_rfl) ?_ (by rfl) (by decide) (by kernel_rfl) ?_ ?_ ?_ ?_ ?_
  · simp only [push_cast, Nat.reduceAdd, Nat.reduceSub, Nat.reduceMul, Nat.reduceLT, Nat.reduceLeDiff, Nat.reduceEqDiff, Nat.reduceMod, Nat.reduceDiv, Int.reduceAdd, Int.reduceSub, Int.reduceMul, Int.reduceLT, Int.reduceLE, Int.reduceEq, Int.reduceNeg, Int.reduceToNat, reduceIte, reduceCtorEq, Int.reduceBEq, Int.reduceBNe, subT]
  · intro i hi hiF
    replace hi : i < 15 := hi
    obtain rfl | rfl | rfl | rfl | rfl | rfl | rfl | rfl | rfl | rfl | rfl | rfl | rfl | rfl | rfl : i = 0 ∨ i = 1 ∨ i = 2 ∨ i = 3 ∨ i = 4 ∨ i = 5 ∨ i = 6 ∨ i = 7 ∨ i = 8 ∨ i = 9 ∨ i = 10 ∨ i = 11 ∨ i = 12 ∨ i = 13 ∨ i = 14 := by omega
    all_goals first
      | exact .inl fun _ _ h => h
      | exact absurd (by decide) hiF
      | exact .inr (by kernel_rfl)
  · intro i o ho val val' h1 h2 hV
    have hi := (Array.getElem?_eq_some_iff.1 ho).1
    replace hi : i < 15 := hi
    obtain rfl | rfl | rfl | rfl | rfl | rfl | rfl | rfl | rfl | rfl | rfl | rfl | rfl | rfl | rfl : i = 0 ∨ i = 1 ∨ i = 2 ∨ i = 3 ∨ i = 4 ∨ i = 5 ∨ i = 6 ∨ i = 7 ∨ i = 8 ∨ i = 9 ∨ i = 10 ∨ i = 11 ∨ i = 12 ∨ i = 13 ∨ i = 14 := by omega
    · first
        | exact trivial
        | exact hV
        | exact h1.trans hV
        | (rw [h1]; exact hV)
    · first
        | exact trivial
        | exact hV
        | exact h1.trans hV
        | (rw [h1]; exact hV)
    · first
        | exact trivial
        | exact hV
        | exact h1.trans hV
        | (rw [h1]; exact hV)
    · first
        | exact trivial
        | exact hV
        | exact h1.trans hV
        | (rw [h1]; exact hV)
    · first
        | exact trivial
        | exact hV
        | exact h1.trans hV
        | (rw [h1]; exact hV)
    · first
        | exact trivial
        | exact hV
        | exact h1.trans hV
        | (rw [h1]; exact hV)
    · simp only [List.getElem?_toArray, List.getElem?_cons_zero, List.getElem?_cons_succ, Option.some.injEq] at ho; subst ho
      have h5 := h2 5 (by kernel_rfl)
      obtain ⟨a1, p5, k5, a2⟩ := hV
      exact ⟨by rw [h1, h5]; exact a1, p5, k5, by rw [h5]; exact a2⟩
    · simp only [List.getElem?_toArray, List.getElem?_cons_zero, List.getElem?_cons_succ, Option.some.injEq] at ho; subst ho
      have h6 := h2 6 (by kernel_rfl)
      obtain ⟨p5, k5, a1, a2⟩ := hV
      exact ⟨p5, k5, by rw [h1]; exact a1, by rw [h6, h1]; exact a2⟩
    · first
        | exact trivial
        | exact hV
        | exact h1.trans hV
        | (rw [h1]; exact hV)
    · first
        | exact trivial
        | exact hV
        | exact h1.trans hV
        | (rw [h1]; exact hV)
    · first
        | exact trivial
        | exact hV
        | exact h1.trans hV
        | (rw [h1]; exact hV)
    · first
        | exact trivial
        | exact hV
        | exact h1.trans hV
        | (rw [h1]; exact hV)
    · first
        | exact trivial
        | exact hV
        | exact h1.trans hV
        | (rw [h1]; exact hV)
    · first
        | exact trivial
        | exact hV
        | exact h1.trans hV
        | (rw [h1]; exact hV)
    · first
        | exact trivial
        | exact hV
        | exact h1.trans hV
        | (rw [h1]; exact hV)
  · intro i o ho val val' N h1 h2 hQ
    have hi := (Array.getElem?_eq_some_iff.1 ho).1
    replace hi : i < 15 := hi
    obtain rfl | rfl | rfl | rfl | rfl | rfl | rfl | rfl | rfl | rfl | rfl | rfl | rfl | rfl | rfl : i = 0 ∨ i = 1 ∨ i = 2 ∨ i = 3 ∨ i = 4 ∨ i = 5 ∨ i = 6 ∨ i = 7 ∨ i = 8 ∨ i = 9 ∨ i = 10 ∨ i = 11 ∨ i = 12 ∨ i = 13 ∨ i = 14 := by omega
    · first
        | exact trivial
        | exact hQ
        | exact h1.trans hQ
        | (rw [h1]; exact hQ)
    · first
        | exact trivial
        | exact hQ
        | exact h1.trans hQ
        | (rw [h1]; exact hQ)
    · first
        | exact trivial
        | exact hQ
        | exact h1.trans hQ
        | (rw [h1]; exact hQ)
    · first
        | exact trivial
        | exact hQ
        | exact h1.trans hQ
        | (rw [h1]; exact hQ)
    · first
        | exact trivial
        | exact hQ
        | exact h1.trans hQ
        | (rw [h1]; exact hQ)
    · first
        | exact trivial
        | exact hQ
        | exact h1.trans hQ
        | (rw [h1]; exact hQ)
    · first
        | exact trivial
        | exact hQ
        | exact h1.trans hQ
        | (rw [h1]; exact hQ)
    · first
        | exact trivial
        | exact hQ
        | exact h1.trans hQ
        | (rw [h1]; exact hQ)
    · first
        | exact trivial
        | exact hQ
        | exact h1.trans hQ
        | (rw [h1]; exact hQ)
    · first
        | exact trivial
        | exact hQ
        | exact h1.trans hQ
        | (rw [h1]; exact hQ)
    · first
        | exact trivial
        | exact hQ
        | exact h1.trans hQ
        | (rw [h1]; exact hQ)
    · first
        | exact trivial
        | exact hQ
        | exact h1.trans hQ
        | (rw [h1]; exact hQ)
    · simp only [List.getElem?_toArray, List.getElem?_cons_zero, List.getElem?_cons_succ, Option.some.injEq] at ho; subst ho
      have h10 := h2 10 (by kernel_rfl)
      have h7 := h2 7 (by kernel_rfl)
      obtain ⟨b, p, k, a1, a2, a3⟩ := hQ
      exact ⟨b, p, k, by rw [h10]; exact a1, by rw [h7]; exact a2, a3⟩
    · simp only [List.getElem?_toArray, List.getElem?_cons_zero, List.getElem?_cons_succ, Option.some.injEq] at ho; subst ho
      have h11 := h2 11 (by kernel_rfl)
      obtain ⟨b, a1, a3⟩ := hQ
      exact ⟨b, by rw [h11]; exact a1, a3⟩
    · first
        | exact trivial
        | exact hQ
        | exact h1.trans hQ
        | (rw [h1]; exact hQ)
  · intro i o ho T' Y val mem hT hdep hus hfr hY hmY hapY
    have hi := (Array.getElem?_eq_some_iff.1 ho).1
    replace hi : i < 15 := hi
    have y3 := hY _ _ f3
    have hM0Y : ∀ b e, findE M0 b = some e → findE Y b = some e := fun b e h => hY b e (find_behind hLX b e h)
    have t0 : getT T' 0 = some (.slice p s.length k) := hT.1
    have t3 : getT T' 3 = some (.pointer (some ⟨b3, 0, none⟩)) := hT.2.1
    obtain rfl | rfl | rfl | rfl | rfl | rfl | rfl | rfl | rfl | rfl | rfl | rfl | rfl | rfl | rfl : i = 0 ∨ i = 1 ∨ i = 2 ∨ i = 3 ∨ i = 4 ∨ i = 5 ∨ i = 6 ∨ i = 7 ∨ i = 8 ∨ i = 9 ∨ i = 10 ∨ i = 11 ∨ i = 12 ∨ i = 13 ∨ i = 14 := by omega
    · simp only [List.getElem?_toArray, List.getElem?_cons_zero, List.getElem?_cons_succ, Option.some.injEq] at ho; subst ho
      simp only [push_cast, Nat.reduceAdd, Nat.reduceSub, Nat.reduceMul, Nat.reduceLT, Nat.reduceLeDiff, Nat.reduceEqDiff, Nat.reduceMod, Nat.reduceDiv, Int.reduceAdd, Int.reduceSub, Int.reduceMul, Int.reduceLT, Int.reduceLE, Int.reduceEq, Int.reduceNeg, Int.reduceToNat, reduceIte, reduceCtorEq, Int.reduceBEq, Int.reduceBNe, List.flatMap_nil, List.flatMap_cons, List.append_nil, List.nil_append, t0]
      exact ⟨[], rfl, trivial, rfl, upd_self _ _ _, rfl⟩
    · simp only [List.getElem?_toArray, List.getElem?_cons_zero, List.getElem?_cons_succ, Option.some.injEq] at ho; subst ho
      simp only [push_cast, Nat.reduceAdd, Nat.reduceSub, Nat.reduceMul, Nat.reduceLT, Nat.reduceLeDiff, Nat.reduceEqDiff, Nat.reduceMod, Nat.reduceDiv, Int.reduceAdd, Int.reduceSub, Int.reduceMul, Int.reduceLT, Int.reduceLE, Int.reduceEq, Int.reduceNeg, Int.reduceToNat, reduceIte, reduceCtorEq, Int.reduceBEq, Int.reduceBNe, List.flatMap_nil, List.flatMap_cons, List.append_nil, List.nil_append, t3]
      exact ⟨[], rfl, trivial, rfl, upd_self _ _ _, rfl⟩
    · simp only [List.getElem?_toArray, List.getElem?_cons_zero, List.getElem?_cons_succ, Option.some.injEq] at ho; subst ho
      obtain ⟨v1, g1⟩ := hdep 1 (by kernel_rfl)
      replace g1 := g1 19 rfl
      rw [show val 1 = _ from v1] at g1
      simp only [push_cast, Nat.reduceAdd, Nat.reduceSub, Nat.reduceMul, Nat.reduceLT, Nat.reduceLeDiff, Nat.reduceEqDiff, Nat.reduceMod, Nat.reduceDiv, Int.reduceAdd, Int.reduceSub, Int.reduceMul, Int.reduceLT, Int.reduceLE, Int.reduceEq, Int.reduceNeg, Int.reduceToNat, reduceIte, reduceCtorEq, Int.reduceBEq, Int.reduceBNe, List.flatMap_nil, List.flatMap_cons, List.append_nil, List.nil_append, g1, y3]
      exact ⟨[], rfl, trivial, rfl, upd_self _ _ _, rfl⟩
    · simp only [List.getElem?_toArray, List.getElem?_cons_zero, List.getElem?_cons_succ, Option.some.injEq] at ho; subst ho
      obtain ⟨v0, g0⟩ := hdep 0 (by kernel_rfl)
      replace g0 := g0 18 rfl
      rw [show val 0 = _ from v0] at g0
      obtain ⟨v2, g2⟩ := hdep 2 (by kernel_rfl)
      replace g2 := g2 20 rfl
      rw [show val 2 = _ from v2] at g2
      simp only [push_cast, Nat.reduceAdd, Nat.reduceSub, Nat.reduceMul, Nat.reduceLT, Nat.reduceLeDiff, Nat.reduceEqDiff, Nat.reduceMod, Nat.reduceDiv, Int.reduceAdd, Int.reduceSub, Int.reduceMul, Int.reduceLT, Int.reduceLE, Int.reduceEq, Int.reduceNeg, Int.reduceToNat, reduceIte, reduceCtorEq, Int.reduceBEq, Int.reduceBNe, List.flatMap_nil, List.flatMap_cons, List.append_nil, List.nil_append, g0, g2]
      refine callS (M := M0) (by have := sfind_ok (a := c.at_) hv hn hsl'; rw [← hx] at this; exact this) (AcR.rd _) hM0Y fun w N hw hm1 hf hq => ⟨N, rfl, hw, hm1, ?_, ?_⟩
      · obtain ⟨sv, rfl, hsv⟩ := hq
        obtain ⟨p1, k1, rfl⟩ := hsv.slice
        exact ⟨p1, k1, by rw [upd_self]⟩
      · rw [upd_self]; exact ⟨hw, hm1, hq⟩
    · simp only [List.getElem?_toArray, List.getElem?_cons_zero, List.getElem?_cons_succ, Option.some.injEq] at ho; subst ho
      simp only [push_cast, Nat.reduceAdd, Nat.reduceSub, Nat.reduceMul, Nat.reduceLT, Nat.reduceLeDiff, Nat.reduceEqDiff, Nat.reduceMod, Nat.reduceDiv, Int.reduceAdd, Int.reduceSub, Int.reduceMul, Int.reduceLT, Int.reduceLE, Int.reduceEq, Int.reduceNeg, Int.reduceToNat, reduceIte, reduceCtorEq, Int.reduceBEq, Int.reduceBNe, List.flatMap_nil, List.flatMap_cons, List.append_nil, List.nil_append, t3, y3]
      exact ⟨[], rfl, trivial, rfl, upd_self _ _ _, rfl⟩
    · simp only [List.getElem?_toArray, List.getElem?_cons_zero, List.getElem?_cons_succ, Option.some.injEq] at ho; subst ho
      obtain ⟨v3, g3⟩ := hdep 3 (by kernel_rfl)
      replace g3 := g3 21 rfl
      obtain ⟨v4, g4⟩ := hdep 4 (by kernel_rfl)
      replace g4 := g4 22 rfl
      rw [show val 4 = _ from v4] at g4
      obtain ⟨p3, k3, v3⟩ := v3
      obtain ⟨w3, m3, sv3, hq3a, hq3⟩ := hus 3 (List.mem_singleton.2 rfl)
      have v3 : val 3 = _ := v3
      have hq3a : val 3 = _ := hq3a
      rw [hq3a] at v3
      have hsv3 : sv3 = Value.slice p3 x.slots.length k3 := Ac.cells_sv (by injection v3 with h; simpa using congrArg Array.toList h)
      subst hsv3
      rw [hq3a] at g3
      have fr3 : freshN (mem 3) Y := by simpa using hfr
      simp only [push_cast, Nat.reduceAdd, Nat.reduceSub, Nat.reduceMul, Nat.reduceLT, Nat.reduceLeDiff, Nat.reduceEqDiff, Nat.reduceMod, Nat.reduceDiv, Int.reduceAdd, Int.reduceSub, Int.reduceMul, Int.reduceLT, Int.reduceLE, Int.reduceEq, Int.reduceNeg, Int.reduceToNat, reduceIte, reduceCtorEq, Int.reduceBEq, Int.reduceBNe, List.flatMap_nil, List.flatMap_cons, List.append_nil, List.nil_append, g3, g4]
      refine callS (M := mem 3 ++ M0) (by have := changed_ok (c := c) hq3 hxl4; rw [hch] at this; exact this) (ChR.rd _) (find_front hM0Y) fun w N hw hm1 hf hq => ⟨N ++ mem 3, by rw [List.append_assoc], allWr_app hw w3, by rw [marks_append, hm1, m3]; rfl, ?_, ?_⟩
      · obtain ⟨sv, rfl, hsv⟩ := hq
        obtain ⟨p1, k1, rfl⟩ := hsv.slice
        exact ⟨p1, k1, by rw [upd_self]⟩
      · rw [upd_self]
        refine ⟨allWr_app hw w3, by rw [marks_append, hm1, m3]; rfl, ?_⟩
        rw [List.append_assoc]; exact hq
    · simp only [List.getElem?_toArray, List.getElem?_cons_zero, List.getElem?_cons_succ, Option.some.injEq] at ho; subst ho
      obtain ⟨v5, g5⟩ := hdep 5 (by kernel_rfl)
      replace g5 := g5 23 rfl
      simp only [push_cast, Nat.reduceAdd, Nat.reduceSub, Nat.reduceMul, Nat.reduceLT, Nat.reduceLeDiff, Nat.reduceEqDiff, Nat.reduceMod, Nat.reduceDiv, Int.reduceAdd, Int.reduceSub, Int.reduceMul, Int.reduceLT, Int.reduceLE, Int.reduceEq, Int.reduceNeg, Int.reduceToNat, reduceIte, reduceCtorEq, Int.reduceBEq, Int.reduceBNe, List.flatMap_nil, List.flatMap_cons, List.append_nil, List.nil_append, g5]
      obtain ⟨p5, k5, v5⟩ := v5
      refine ⟨[], rfl, trivial, rfl, ⟨?_, p5, k5, ?_⟩, rfl⟩
      · simp [upd]
      · simpa [upd] using v5
    · simp only [List.getElem?_toArray, List.getElem?_cons_zero, List.getElem?_cons_succ, Option.some.injEq] at ho; subst ho
      obtain ⟨v6, g6⟩ := hdep 6 (by kernel_rfl)
      replace g6 := g6 17 rfl
      obtain ⟨v6, p5, k5, v5⟩ := v6
      have v6 : val 6 = _ := v6
      rw [v6, v5] at g6
      simp only [push_cast, Nat.reduceAdd, Nat.reduceSub, Nat.reduceMul, Nat.reduceLT, Nat.reduceLeDiff, Nat.reduceEqDiff, Nat.reduceMod, Nat.reduceDiv, Int.reduceAdd, Int.reduceSub, Int.reduceMul, Int.reduceLT, Int.reduceLE, Int.reduceEq, Int.reduceNeg, Int.reduceToNat, reduceIte, reduceCtorEq, Int.reduceBEq, Int.reduceBNe, List.flatMap_nil, List.flatMap_cons, List.append_nil, List.nil_append, g6]
      refine ⟨[], rfl, trivial, rfl, ⟨p5, k5, ?_, ?_⟩, rfl⟩
      · simp [upd]
      · simp [upd, v6, v5]
    · simp only [List.getElem?_toArray, List.getElem?_cons_zero, List.getElem?_cons_succ, Option.some.injEq] at ho; subst ho
      obtain ⟨v6, g6⟩ := hdep 6 (by kernel_rfl)
      replace g6 := g6 17 rfl
      obtain ⟨v6, p5, k5, v5⟩ := v6
      have v6 : val 6 = _ := v6
      rw [v6, v5] at g6
      simp only [push_cast, Nat.reduceAdd, Nat.reduceSub, Nat.reduceMul, Nat.reduceLT, Nat.reduceLeDiff, Nat.reduceEqDiff, Nat.reduceMod, Nat.reduceDiv, Int.reduceAdd, Int.reduceSub, Int.reduceMul, Int.reduceLT, Int.reduceLE, Int.reduceEq, Int.reduceNeg, Int.reduceToNat, reduceIte, reduceCtorEq, Int.reduceBEq, Int.reduceBNe, List.flatMap_nil, List.flatMap_cons, List.append_nil, List.nil_append, g6]
      exact ⟨[], rfl, trivial, rfl, upd_self _ _ _, rfl⟩
    · simp only [List.getElem?_toArray, List.getElem?_cons_zero, List.getElem?_cons_succ, Option.some.injEq] at ho; subst ho
      obtain ⟨v6, g6⟩ := hdep 6 (by kernel_rfl)
      replace g6 := g6 17 rfl
      obtain ⟨v6, p5, k5, v5⟩ := v6
      have v6 : val 6 = _ := v6
      rw [v6, v5] at g6
      simp only [push_cast, Nat.reduceAdd, Nat.reduceSub, Nat.reduceMul, Nat.reduceLT, Nat.reduceLeDiff, Nat.reduceEqDiff, Nat.reduceMod, Nat.reduceDiv, Int.reduceAdd, Int.reduceSub, Int.reduceMul, Int.reduceLT, Int.reduceLE, Int.reduceEq, Int.reduceNeg, Int.reduceToNat, reduceIte, reduceCtorEq, Int.reduceBEq, Int.reduceBNe, List.flatMap_nil, List.flatMap_cons, List.append_nil, List.nil_append, g6]
      exact ⟨[], rfl, trivial, rfl, upd_self _ _ _, rfl⟩
    · simp only [List.getElem?_toArray, List.getElem?_cons_zero, List.getElem?_cons_succ, Option.some.injEq] at ho; subst ho
      simp only [push_cast, Nat.reduceAdd, Nat.reduceSub, Nat.reduceMul, Nat.reduceLT, Nat.reduceLeDiff, Nat.reduceEqDiff, Nat.reduceMod, Nat.reduceDiv, Int.reduceAdd, Int.reduceSub, Int.reduceMul, Int.reduceLT, Int.reduceLE, Int.reduceEq, Int.reduceNeg, Int.reduceToNat, reduceIte, reduceCtorEq, Int.reduceBEq, Int.reduceBNe, List.flatMap_nil, List.flatMap_cons, List.append_nil, List.nil_append]
      intro b hf
      exact ⟨[_], rfl, ⟨trivial, trivial⟩, rfl, ⟨b, upd_self _ _ _⟩, b, upd_self _ _ _, rfl⟩
    · simp only [List.getElem?_toArray, List.getElem?_cons_zero, List.getElem?_cons_succ, Option.some.injEq] at ho; subst ho
      simp only [push_cast, Nat.reduceAdd, Nat.reduceSub, Nat.reduceMul, Nat.reduceLT, Nat.reduceLeDiff, Nat.reduceEqDiff, Nat.reduceMod, Nat.reduceDiv, Int.reduceAdd, Int.reduceSub, Int.reduceMul, Int.reduceLT, Int.reduceLE, Int.reduceEq, Int.reduceNeg, Int.reduceToNat, reduceIte, reduceCtorEq, Int.reduceBEq, Int.reduceBNe, List.flatMap_nil, List.flatMap_cons, List.append_nil, List.nil_append]
      intro b hf
      exact ⟨[_], rfl, ⟨trivial, trivial⟩, rfl, ⟨b, upd_self _ _ _⟩, b, upd_self _ _ _, rfl⟩
    · simp only [List.getElem?_toArray, List.getElem?_cons_zero, List.getElem?_cons_succ, Option.some.injEq] at ho; subst ho
      obtain ⟨v7, g7⟩ := hdep 7 (by kernel_rfl)
      replace g7 := g7 24 rfl
      obtain ⟨v10, g10⟩ := hdep 10 (by kernel_rfl)
      replace g10 := g10 7 rfl
      obtain ⟨p7, k7, v7, -⟩ := v7
      have v7 : val 7 = _ := v7
      rw [v7] at g7
      obtain ⟨b10, v10, hN⟩ := hus 10 (List.mem_singleton.2 rfl)
      have v10 : val 10 = _ := v10
      rw [v10] at g10
      simp only [push_cast, Nat.reduceAdd, Nat.reduceSub, Nat.reduceMul, Nat.reduceLT, Nat.reduceLeDiff, Nat.reduceEqDiff, Nat.reduceMod, Nat.reduceDiv, Int.reduceAdd, Int.reduceSub, Int.reduceMul, Int.reduceLT, Int.reduceLE, Int.reduceEq, Int.reduceNeg, Int.reduceToNat, reduceIte, reduceCtorEq, Int.reduceBEq, Int.reduceBNe, List.flatMap_nil, List.flatMap_cons, List.append_nil, List.nil_append, g7, g10, hN, List.cons_append, Ac.zeroC]
      refine ⟨[_], rfl, ⟨trivial, trivial⟩, rfl, b10, p7, k7, ?_, ?_, rfl⟩
      · simp [upd, v10]
      · simp [upd, v7]
    · simp only [List.getElem?_toArray, List.getElem?_cons_zero, List.getElem?_cons_succ, Option.some.injEq] at ho; subst ho
      obtain ⟨v8, g8⟩ := hdep 8 (by kernel_rfl)
      replace g8 := g8 25 rfl
      rw [show val 8 = _ from v8] at g8
      obtain ⟨v11, g11⟩ := hdep 11 (by kernel_rfl)
      replace g11 := g11 8 rfl
      obtain ⟨b11, v11, hN⟩ := hus 11 (List.mem_singleton.2 rfl)
      have v11 : val 11 = _ := v11
      rw [v11] at g11
      simp only [push_cast, Nat.reduceAdd, Nat.reduceSub, Nat.reduceMul, Nat.reduceLT, Nat.reduceLeDiff, Nat.reduceEqDiff, Nat.reduceMod, Nat.reduceDiv, Int.reduceAdd, Int.reduceSub, Int.reduceMul, Int.reduceLT, Int.reduceLE, Int.reduceEq, Int.reduceNeg, Int.reduceToNat, reduceIte, reduceCtorEq, Int.reduceBEq, Int.reduceBNe, List.flatMap_nil, List.flatMap_cons, List.append_nil, List.nil_append, g8, g11, hN, List.cons_append, Ch.zeroL]
      exact ⟨[_], rfl, ⟨trivial, trivial⟩, rfl, b11, by simp [upd, v11], rfl⟩
    · simp only [List.getElem?_toArray, List.getElem?_cons_zero, List.getElem?_cons_succ, Option.some.injEq] at ho; subst ho
      obtain ⟨v9, g9⟩ := hdep 9 (by kernel_rfl)
      replace g9 := g9 26 rfl
      rw [show val 9 = _ from v9] at g9
      simp only [push_cast, Nat.reduceAdd, Nat.reduceSub, Nat.reduceMul, Nat.reduceLT, Nat.reduceLeDiff, Nat.reduceEqDiff, Nat.reduceMod, Nat.reduceDiv, Int.reduceAdd, Int.reduceSub, Int.reduceMul, Int.reduceLT, Int.reduceLE, Int.reduceEq, Int.reduceNeg, Int.reduceToNat, reduceIte, reduceCtorEq, Int.reduceBEq, Int.reduceBNe, List.flatMap_nil, List.flatMap_cons, List.append_nil, List.nil_append, g9]
      exact ⟨[], rfl, trivial, rfl, upd_self _ _ _, rfl⟩
  · intro val mem hV hQ hap hwr
    obtain ⟨p5, k5, v5⟩ := hV 5 (by decide)
    obtain ⟨w5, m5, sv5, hq5a, hq5⟩ := hQ 5 (by decide)
    obtain ⟨b7, p7, k7, v10, v7, hN12⟩ := hQ 12 (by decide)
    obtain ⟨b8, v11, hN13⟩ := hQ 13 (by decide)
    obtain ⟨h6, -⟩ := hV 6 (by decide)
    obtain ⟨-, -, -, h76⟩ := hV 7 (by decide)
    have v8 : val 8 = u.v := hV 8 (by decide)
    have v9 : val 9 = .int .i64 e := hV 9 (by decide)
    have v14 : val 14 = .int .i64 e := hV 14 (by decide)
    have v10 : val 10 = _ := v10
    have v11 : val 11 = _ := v11
    have v7 : val 7 = _ := v7
    have hq5a : val 5 = _ := hq5a
    have h6 : val 6 = val 5 := h6
    have h76 : val 6 = .tuple #[val 7, u.v, .int .i64 e] := h76
    rw [h6, hq5a, v7] at h76
    have hs5 : sv5 = Value.slice p7 x'.slots.length k7 := Ac.cells_sv (by injection h76 with h; have h1 := congrArg Array.toList h; simp only [List.cons.injEq, Value.agg.injEq] at h1; simpa using congrArg Array.toList h1.1)
    subst hs5
    have hMM : List.flatMap mem [5, 12, 13] ++ (⟨b5, 0, .cel 31, Ch.zero.cells⟩ :: ⟨b3, 0, .cel 31, c.cells⟩ :: M0) = mem 5 ++ (⟨b7, 0, .cel 44, x'.cells (Value.slice p7 x'.slots.length k7)⟩ :: ⟨b8, 0, .cel 31, u.cells⟩ :: ⟨b5, 0, .cel 31, Ch.zero.cells⟩ :: ⟨b3, 0, .cel 31, c.cells⟩ :: M0) := by
      simp only [List.flatMap_cons, List.flatMap_nil, List.append_nil, hN12, hN13, List.append_assoc, List.cons_append, List.nil_append]
    rw [hMM] at hap ⊢
    have a5 := freshN_apart hap w5
    have hap' := (List.pairwise_append.1 hap).2.1
    have a7 := freshN_apart (A := [⟨b7, 0, .cel 44, x'.cells (Value.slice p7 x'.slots.length k7)⟩]) hap' ⟨trivial, trivial⟩
    have a8 := freshN_apart (A := [⟨b8, 0, .cel 31, u.cells⟩]) (List.pairwise_cons.1 hap').2 ⟨trivial, trivial⟩
    have q57 := freshN_sym a5
    have hb7 := a7.1
    have hb8 := a8.1
    simp only [push_cast, Nat.reduceAdd, Nat.reduceSub, Nat.reduceMul, Nat.reduceLT, Nat.reduceLeDiff, Nat.reduceEqDiff, Nat.reduceMod, Nat.reduceDiv, Int.reduceAdd, Int.reduceSub, Int.reduceMul, Int.reduceLT, Int.reduceLE, Int.reduceEq, Int.reduceNeg, Int.reduceToNat, reduceIte, reduceCtorEq, Int.reduceBEq, Int.reduceBNe] at hb7 hb8
    have f70 : fresh b7 (M0 ++ mem 5) := fresh_app_iff.2 ⟨hb7.2.2.2.2.2.2, q57.1⟩
    have f80 : fresh b8 (M0 ++ mem 5) := fresh_app_iff.2 ⟨hb8.2.2.2.2, q57.2.1⟩
    have f50 : fresh b5 (M0 ++ mem 5) := fresh_app_iff.2 ⟨f5, q57.2.2.1⟩
    have f30 : fresh b3 (M0 ++ mem 5) := fresh_app_iff.2 ⟨hb3, q57.2.2.2.1⟩
    have hg1 : Gr M0 (M0 ++ mem 5) := ⟨hm, mem 5, rfl, w5, m5⟩
    have hl5 : LiR Sl.cells 8 (M0 ++ mem 5) x'.slots (Value.slice p7 x'.slots.length k7) := hq5.congr (cellsAt_swap (freshN_cons (freshN_cons (freshN_cons (freshN_cons a5)))))
    simp only [push_cast, Nat.reduceAdd, Nat.reduceSub, Nat.reduceMul, Nat.reduceLT, Nat.reduceLeDiff, Nat.reduceEqDiff, Nat.reduceMod, Nat.reduceDiv, Int.reduceAdd, Int.reduceSub, Int.reduceMul, Int.reduceLT, Int.reduceLE, Int.reduceEq, Int.reduceNeg, Int.reduceToNat, reduceIte, reduceCtorEq, Int.reduceBEq, Int.reduceBNe, v7, v8, v9, v10, v11, v14]
    refine WpV.perm (H' := ⟨b7, 0, .cel 44, x'.cells (Value.slice p7 x'.slots.length k7)⟩ :: ⟨b8, 0, .cel 31, u.cells⟩ :: ⟨b5, 0, .cel 31, Ch.zero.cells⟩ :: ⟨b3, 0, .cel 31, c.cells⟩ :: (M0 ++ mem 5)) ?_ ?_ ?_
    · exact List.perm_append_comm
    · simp [marks_append, marksOf, m5, hm]
    refine WpV.slots [(0, .slice p s.length k), (5, .pointer (some ⟨b5, 0, none⟩)), (7, .pointer (some ⟨b7, 0, none⟩)), (8, .pointer (some ⟨b8, 0, none⟩)), (9, .int .i64 e)] (by simp only [push_cast, Nat.reduceAdd, Nat.reduceSub, Nat.reduceMul, Nat.reduceLT, Nat.reduceLeDiff, Nat.reduceEqDiff, Nat.reduceMod, Nat.reduceDiv, Int.reduceAdd, Int.reduceSub, Int.reduceMul, Int.reduceLT, Int.reduceLE, Int.reduceEq, Int.reduceNeg, Int.reduceToNat, reduceIte, reduceCtorEq, Int.reduceBEq, Int.reduceBNe]) ?_
    generalize M0 ++ mem 5 = M1 at hg1 hl5 f70 f80 f50 f30 ⊢
    have hv1 : StR s (.slice p s.length k) M1 := hv.ext hg1.ext
    refine regO gA1_ok ?_
    have hx3 : (chA (findS s c.at_) c).1 = x' := by rw [← hx, hch]
    have hu3 : (chA (findS s c.at_) c).2.1 = u := by rw [← hx, hch]
    have hc3 : (chA (findS s c.at_) c).2.2 = e := by rw [← hx, hch]
    by_cases hz0 : e = 0
    case neg =>
      have hz1 : (e != 0) = true := by rw [bne_iff_ne]; exact hz0
      have hdo : doS s c = (s, Ch.zero, e) := by
        unfold doS
        rw [if_neg (by rw [hrs]; simp), hc3, if_pos hz0]
      rw [hdo]
      simp only [push_cast, Nat.reduceAdd, Nat.reduceSub, Nat.reduceMul, Nat.reduceLT, Nat.reduceLeDiff, Nat.reduceEqDiff, Nat.reduceMod, Nat.reduceDiv, Int.reduceAdd, Int.reduceSub, Int.reduceMul, Int.reduceLT, Int.reduceLE, Int.reduceEq, Int.reduceNeg, Int.reduceToNat, reduceIte, reduceCtorEq, Int.reduceBEq, Int.reduceBNe, hz1]
      refine regO gA1_ok ?_
      simp only [push_cast, Nat.reduceAdd, Nat.reduceSub, Nat.reduceMul, Nat.reduceLT, Nat.reduceLeDiff, Nat.reduceEqDiff, Nat.reduceMod, Nat.reduceDiv, Int.reduceAdd, Int.reduceSub, Int.reduceMul, Int.reduceLT, Int.reduceLE, Int.reduceEq, Int.reduceNeg, Int.reduceToNat, reduceIte, reduceCtorEq, Int.reduceBEq, Int.reduceBNe]
      refine useB [_, _, _, _] (mapped_ok hv1 hn hsl') (StO.rd _ _) hg1.marks ⟨f70, f80, f50, f30, trivial⟩ fun w N8 M8 hg8 hf8 hL8 hw8 hm8 hq8 => ?_
      simp only [push_cast, Nat.reduceAdd, Nat.reduceSub, Nat.reduceMul, Nat.reduceLT, Nat.reduceLeDiff, Nat.reduceEqDiff, Nat.reduceMod, Nat.reduceDiv, Int.reduceAdd, Int.reduceSub, Int.reduceMul, Int.reduceLT, Int.reduceLE, Int.reduceEq, Int.reduceNeg, Int.reduceToNat, reduceIte, reduceCtorEq, Int.reduceBEq, Int.reduceBNe, hb5, hb7, hb8]
      exact doneN [_, _, _, _] (hg1.trans hg8) hw8 hm8 hf8 (DoO.rd _ _) ⟨_, rfl, hq8⟩
    have hz1 : (e != 0) = false := by rw [hz0]; rfl
    simp only [push_cast, Nat.reduceAdd, Nat.reduceSub, Nat.reduceMul, Nat.reduceLT, Nat.reduceLeDiff, Nat.reduceEqDiff, Nat.reduceMod, Nat.reduceDiv, Int.reduceAdd, Int.reduceSub, Int.reduceMul, Int.reduceLT, Int.reduceLE, Int.reduceEq, Int.reduceNeg, Int.reduceToNat, reduceIte, reduceCtorEq, Int.reduceBEq, Int.reduceBNe, hz1]
    refine regO gA1_ok ?_
    simp only [push_cast, Nat.reduceAdd, Nat.reduceSub, Nat.reduceMul, Nat.reduceLT, Nat.reduceLeDiff, Nat.reduceEqDiff, Nat.reduceMod, Nat.reduceDiv, Int.reduceAdd, Int.reduceSub, Int.reduceMul, Int.reduceLT, Int.reduceLE, Int.reduceEq, Int.reduceNeg, Int.reduceToNat, reduceIte, reduceCtorEq, Int.reduceBEq, Int.reduceBNe, hb5, hb7, hb8]
    refine useB [_, _, _, _] (sset_ok (x := x') hv1 hl5 hn) (SetO.rd _ _) hg1.marks ⟨f70, f80, f50, f30, trivial⟩ fun w N9 M9 hg9 hf9 hL9 hw9 hm9 hq9 => ?_
    obtain ⟨w9, rfl, hst9⟩ := hq9
    obtain ⟨p9, k9, rfl⟩ : ∃ p k, w9 = .slice p (setS s x').1.length k := by
      obtain ⟨L, h1, h2, -⟩ := hst9
      obtain ⟨p, k, h3⟩ := h2.slice
      exact ⟨p, k, by rw [h3, ← h1, List.length_map]⟩
    by_cases hz : (setS s x').2 = 0
    · have hz1 : ((setS s x').2 != 0) = false := by rw [hz]; rfl
      have hdo : doS s c = ((setS s x').1, u, 0) := by
        unfold doS
        rw [if_neg (by rw [hrs]; simp), hc3, if_neg (by simpa using hz0), hx3, if_neg (by simpa using hz), hu3]
      rw [hdo]
      simp only [push_cast, Nat.reduceAdd, Nat.reduceSub, Nat.reduceMul, Nat.reduceLT, Nat.reduceLeDiff, Nat.reduceEqDiff, Nat.reduceMod, Nat.reduceDiv, Int.reduceAdd, Int.reduceSub, Int.reduceMul, Int.reduceLT, Int.reduceLE, Int.reduceEq, Int.reduceNeg, Int.reduceToNat, reduceIte, reduceCtorEq, Int.reduceBEq, Int.reduceBNe, hb5, hb7, hb8, hz1]
      exact doneN [_, _, _, _] (hg1.trans hg9) hw9 hm9 hf9 (DoO.rd _ _) ⟨_, rfl, hst9⟩
    · have hz1 : ((setS s x').2 != 0) = true := by rw [bne_iff_ne]; exact hz
      have hdo : doS s c = (s, Ch.zero, (setS s x').2) := by
        unfold doS
        rw [if_neg (by rw [hrs]; simp), hc3, if_neg (by simpa using hz0), hx3, if_pos hz]
      rw [hdo]
      obtain ⟨e9, he9⟩ : ∃ e, e = (setS s x').2 := ⟨_, rfl⟩
      rw [← he9]
      rw [← he9] at hz1
      simp only [push_cast, Nat.reduceAdd, Nat.reduceSub, Nat.reduceMul, Nat.reduceLT, Nat.reduceLeDiff, Nat.reduceEqDiff, Nat.reduceMod, Nat.reduceDiv, Int.reduceAdd, Int.reduceSub, Int.reduceMul, Int.reduceLT, Int.reduceLE, Int.reduceEq, Int.reduceNeg, Int.reduceToNat, reduceIte, reduceCtorEq, Int.reduceBEq, Int.reduceBNe, hb5, hb7, hb8, hz1]
      have hL99 := freshN_appR hL9
      refine WpV.sub (s := ([(0, .slice p s.length k), (5, .pointer (some ⟨b5, 0, none⟩)), (9, .int .i64 e9)], ⟨b5, 0, .cel 31, Ch.zero.cells⟩ :: M9)) ⟨by simp only [push_cast, Nat.reduceAdd, Nat.reduceSub, Nat.reduceMul, Nat.reduceLT, Nat.reduceLeDiff, Nat.reduceEqDiff, Nat.reduceMod, Nat.reduceDiv, Int.reduceAdd, Int.reduceSub, Int.reduceMul, Int.reduceLT, Int.reduceLE, Int.reduceEq, Int.reduceNeg, Int.reduceToNat, reduceIte, reduceCtorEq, Int.reduceBEq, Int.reduceBNe], ?_, ?_⟩ ?_
      · exact subH_pick (by exact hb7.2.2.2.1) (by exact hb8.2.1) (by exact hL99.1) (by exact hL99.2.1) (by exact hL99.2.2.2.1) hf9
      · simp [marks_append, marksOf, hm9]
      have f59 : fresh b5 M9 := hL99.2.2.1
      refine regO gA1_ok ?_
      simp only [push_cast, Nat.reduceAdd, Nat.reduceSub, Nat.reduceMul, Nat.reduceLT, Nat.reduceLeDiff, Nat.reduceEqDiff, Nat.reduceMod, Nat.reduceDiv, Int.reduceAdd, Int.reduceSub, Int.reduceMul, Int.reduceLT, Int.reduceLE, Int.reduceEq, Int.reduceNeg, Int.reduceToNat, reduceIte, reduceCtorEq, Int.reduceBEq, Int.reduceBNe]
      refine useB [_] (mapped_ok ((StR.ext (hg1.trans hg9).ext hv)) hn hsl') (StO.rd _ _) hg9.marks ⟨f59, trivial⟩ fun w N8 M8 hg8 hf8 hL8 hw8 hm8 hq8 => ?_
      simp only [push_cast, Nat.reduceAdd, Nat.reduceSub, Nat.reduceMul, Nat.reduceLT, Nat.reduceLeDiff, Nat.reduceEqDiff, Nat.reduceMod, Nat.reduceDiv, Int.reduceAdd, Int.reduceSub, Int.reduceMul, Int.reduceLT, Int.reduceLE, Int.reduceEq, Int.reduceNeg, Int.reduceToNat, reduceIte, reduceCtorEq, Int.reduceBEq, Int.reduceBNe]
      exact doneN [_] ((hg1.trans hg9).trans hg8) hw8 hm8 hf8 (DoO.rd _ _) ⟨_, rfl, hq8⟩
end Go.Proofs.YtkhpncfgimlleaaGreat
set_option linter.unusedSimpArgs false
set_option linter.unusedVariables false
namespace Go.Ev
noncomputable def undoE : List Ac → List Ch → List Ac × Int
  | s, [] => (s, 0)
  | s, c :: r => if (doS s c).2.2 = 0 then undoE (doS s c).1 r else ([], (doS s c).2.2)
def upB : Int → List Int → Bool
  | _, [] => true
  | a, x :: r => decide (a ≤ x) && upB x r
noncomputable def rightJ (j : Jo) : Bool := decide (j.undo.length ≤ 2000) && (decide (j.marks.length ≤ 1100) && (upB 0 j.marks && (j.marks.all (fun m => decide (m ≤ (j.undo.length : Int))) && (rightS j.state && decide ((undoE j.state j.undo.reverse).2 = 0)))))
noncomputable def openJ (s : List Ac) : Jo × Int := if rightS s then (⟨s, [], []⟩, 0) else (⟨[], [], []⟩, 1)
noncomputable def runJ (j : Jo) : Jo → List Ch → Jo × Int
  | now, [] => (now, 0)
  | now, c :: r => if 2000 ≤ now.undo.length then (j, 2) else if (doS now.state c).2.2 = 0 then runJ j ⟨(doS now.state c).1, now.undo ++ [(doS now.state c).2.1], now.marks⟩ r else (j, (doS now.state c).2.2)
noncomputable def doJ (j : Jo) (l : List Ch) : Jo × Int := if rightJ j then runJ j j l else (j, 1)
noncomputable def markJ (j : Jo) : Jo × Int × Int := if rightJ j then (if 1100 ≤ j.marks.length then (j, 0, 2) else (⟨j.state, j.undo, j.marks ++ [(j.undo.length : Int)]⟩, j.marks.length, 0)) else (j, 0, 1)
noncomputable def keepJ (j : Jo) (m : Int) : Jo × Int := if rightJ j then (if m < 0 ∨ (j.marks.length : Int) ≤ m then (j, 20) else (⟨j.state, j.undo, j.marks.take m.toNat⟩, 0)) else (j, 1)
def stayJ (j : Jo) (m : Int) : Nat := (j.marks[m.toNat]?.getD 0).toNat
noncomputable def backJ (j : Jo) (m : Int) : Jo × Int := if (keepJ j m).2 = 0 then (⟨(undoE j.state (j.undo.drop (stayJ j m)).reverse).1, j.undo.take (stayJ j m), j.marks.take m.toNat⟩, 0) else keepJ j m
theorem undoE_app : ∀ (l m : List Ch) (s : List Ac), undoE s (l ++ m) = if (undoE s l).2 = 0 then undoE (undoE s l).1 m else undoE s l
  | [], m, s => by simp [undoE]
  | c :: r, m, s => by
    rw [List.cons_append, undoE, undoE]
    by_cases h : (doS s c).2.2 = 0
    · rw [if_pos h, if_pos h]; exact undoE_app r m _
    · rw [if_neg h, if_neg h, if_neg h]
theorem undoE_ri : ∀ (l : List Ch) {s : List Ac}, RiS s → (undoE s l).2 = 0 → RiS (undoE s l).1
  | [], s, h, _ => h
  | c :: r, s, h, he => by
    rw [undoE] at he ⊢
    by_cases hd : (doS s c).2.2 = 0
    · rw [if_pos hd] at he ⊢
      exact undoE_ri r (doS_iff.1 hd).right he
    · rw [if_neg hd] at he; exact absurd he hd
structure RiJ (j : Jo) : Prop where
  ul : j.undo.length ≤ 2000
  ml : j.marks.length ≤ 1100
  up : upB 0 j.marks = true
  le : ∀ m ∈ j.marks, m ≤ (j.undo.length : Int)
  st : RiS j.state
  un : (undoE j.state j.undo.reverse).2 = 0
theorem rightJ_iff {j : Jo} : rightJ j = true ↔ RiJ j := by
  unfold rightJ
  simp only [Bool.and_eq_true, decide_eq_true_eq, List.all_eq_true, rightS_iff]
  exact ⟨fun ⟨h1, h2, h3, h4, h5, h6⟩ => ⟨h1, h2, h3, h4, h5, h6⟩, fun h => ⟨h.ul, h.ml, h.up, h.le, h.st, h.un⟩⟩
theorem upB_app {x : Int} : ∀ {l : List Int} {a : Int}, upB a l = true → a ≤ x → (∀ y ∈ l, y ≤ x) → upB a (l ++ [x]) = true
  | [], a, _, h, _ => by simp [upB, h]
  | y :: r, a, h, ha, hx => by
    rw [upB, Bool.and_eq_true, decide_eq_true_eq] at h
    rw [List.cons_append, upB, Bool.and_eq_true, decide_eq_true_eq]
    exact ⟨h.1, upB_app h.2 (hx y (by simp)) fun z hz => hx z (by simp [hz])⟩
theorem upB_take : ∀ {l : List Int} {a : Int} (n : Nat), upB a l = true → upB a (l.take n) = true
  | [], _, n, _ => by simp [upB]
  | y :: r, a, 0, _ => rfl
  | y :: r, a, n + 1, h => by
    rw [upB, Bool.and_eq_true] at h
    rw [List.take_succ_cons, upB, Bool.and_eq_true]
    exact ⟨h.1, upB_take n h.2⟩
theorem upB_ge : ∀ {l : List Int} {a : Int}, upB a l = true → ∀ x ∈ l, a ≤ x
  | [], _, _, x, hx => by cases hx
  | y :: r, a, h, x, hx => by
    rw [upB, Bool.and_eq_true, decide_eq_true_eq] at h
    rcases List.mem_cons.1 hx with rfl | hx
    · exact h.1
    · exact Int.le_trans h.1 (upB_ge h.2 x hx)
theorem upB_at : ∀ {l : List Int} {a : Int}, upB a l = true → ∀ {i k : Nat} {x y : Int}, i ≤ k → l[i]? = some x → l[k]? = some y → x ≤ y
  | [], _, _, i, k, x, y, _, h, _ => by simp at h
  | z :: r, a, h, 0, 0, x, y, _, hx, hy => by rw [hx] at hy; cases hy; exact Int.le_refl _
  | z :: r, a, h, 0, k + 1, x, y, _, hx, hy => by
    rw [upB, Bool.and_eq_true] at h
    simp only [List.getElem?_cons_zero, Option.some.injEq] at hx
    subst hx
    exact upB_ge h.2 y (List.mem_of_getElem? (by simpa using hy))
  | z :: r, a, h, i + 1, 0, x, y, hik, _, _ => by omega
  | z :: r, a, h, i + 1, k + 1, x, y, hik, hx, hy => by
    rw [upB, Bool.and_eq_true] at h
    exact upB_at h.2 (Nat.le_of_succ_le_succ hik) (by simpa using hx) (by simpa using hy)
theorem RiJ.step {j : Jo} (h : RiJ j) {c : Ch} (hd : Did j.state c) (hl : j.undo.length < 2000) : RiJ ⟨(doS j.state c).1, j.undo ++ [(doS j.state c).2.1], j.marks⟩ := by
  refine ⟨by simp; omega, h.ml, h.up, fun m hm => by have := h.le m hm; simp; omega, hd.right, ?_⟩
  obtain ⟨w, hw⟩ := hd.back
  dsimp only
  rw [List.reverse_append, List.reverse_singleton, List.singleton_append, undoE, hw]
  exact h.un
theorem RiJ.mark {j : Jo} (h : RiJ j) (hl : j.marks.length < 1100) : RiJ ⟨j.state, j.undo, j.marks ++ [(j.undo.length : Int)]⟩ := by
  refine ⟨h.ul, by simp; omega, upB_app h.up (by omega) h.le, fun m hm => ?_, h.st, h.un⟩
  rcases List.mem_append.1 hm with hm | hm
  · exact h.le m hm
  · rw [List.mem_singleton.1 hm]; exact Int.le_refl _
theorem RiJ.keep {j : Jo} (h : RiJ j) (n : Nat) : RiJ ⟨j.state, j.undo, j.marks.take n⟩ :=
  ⟨h.ul, by have := h.ml; simp; omega, upB_take n h.up, fun m hm => h.le m (List.mem_of_mem_take hm), h.st, h.un⟩
theorem RiJ.undo {j : Jo} (h : RiJ j) (n : Nat) : (undoE j.state (j.undo.drop n).reverse).2 = 0 ∧ (undoE (undoE j.state (j.undo.drop n).reverse).1 (j.undo.take n).reverse).2 = 0 := by
  have hu := h.un
  rw [← List.take_append_drop n j.undo, List.reverse_append, undoE_app] at hu
  by_cases h0 : (undoE j.state (j.undo.drop n).reverse).2 = 0
  · rw [if_pos h0] at hu; exact ⟨h0, hu⟩
  · rw [if_neg h0] at hu; exact absurd hu h0
theorem RiJ.back {j : Jo} (h : RiJ j) {m : Nat} (hm : m < j.marks.length) : RiJ ⟨(undoE j.state (j.undo.drop (stayJ j m)).reverse).1, j.undo.take (stayJ j m), j.marks.take m⟩ := by
  obtain ⟨x, hx⟩ : ∃ x, j.marks[m]? = some x := ⟨_, List.getElem?_eq_getElem hm⟩
  have hxm := List.mem_of_getElem? hx
  have hx0 := upB_ge h.up x hxm
  have hxl := h.le x hxm
  have hs : stayJ j m = x.toNat := by
    unfold stayJ
    rw [Int.toNat_natCast, hx]; rfl
  have hst : stayJ j m ≤ j.undo.length := by omega
  have hu := h.undo (stayJ j m)
  refine ⟨by have := h.ul; simp; omega, by have := h.ml; simp; omega, upB_take m h.up, fun y hy => ?_, undoE_ri _ h.st hu.1, hu.2⟩
  obtain ⟨i, hi⟩ := List.getElem?_of_mem hy
  rw [List.getElem?_take] at hi
  split at hi
  case isFalse => cases hi
  rename_i him
  have := upB_at h.up (Nat.le_of_lt him) hi hx
  dsimp only
  rw [List.length_take, Nat.min_eq_left hst]
  omega
end Go.Ev
set_option linter.unusedSimpArgs false
set_option linter.unusedVariables false
namespace Go.Ev
theorem Ac.ext {x y : Ac} (h1 : x.at_ = y.at_) (h2 : x.bal = y.bal) (h3 : x.nonce = y.nonce) (h4 : x.code = y.code) (h5 : x.slots = y.slots) : x = y := by
  cases x; cases y; cases h1; cases h2; cases h3; cases h4; cases h5; rfl
theorem code_eq {a b : ByteArray} : (a.toList == b.toList) = decide (a = b) := by
  rw [ByteArray.toList_eq, ByteArray.toList_eq, Bool.eq_iff_iff, beq_iff_eq, decide_eq_true_eq]
  constructor
  · intro h
    cases a with | mk x => cases b with | mk y => rw [show x = y from Array.toList_inj.1 h]
  · rintro rfl; rfl
instance : DecidableEq Jo := fun x y => if h : x.state = y.state ∧ x.undo = y.undo ∧ x.marks = y.marks then .isTrue (by cases x; cases y; obtain ⟨h1, h2, h3⟩ := h; cases h1; cases h2; cases h3; rfl) else .isFalse fun e => h (by rw [e]; exact ⟨rfl, rfl, rfl⟩)
theorem Jo.ext {x y : Jo} (h1 : x.state = y.state) (h2 : x.undo = y.undo) (h3 : x.marks = y.marks) : x = y := by
  cases x; cases y; cases h1; cases h2; cases h3; rfl
def chK : List CK := .i :: (List.replicate 20 .i ++ ([.i, .i, .i, .i] ++ ([.i, .i, .i, .i] ++ [.i, .s])))
theorem Ch.ext {x y : Ch} (h1 : x.kind = y.kind) (h2 : x.at_ = y.at_) (h3 : x.key = y.key) (h4 : x.val = y.val) (h5 : x.nonce = y.nonce) (h6 : x.code = y.code) : x = y := by
  cases x; cases y; cases h1; cases h2; cases h3; cases h4; cases h5; cases h6; rfl
theorem Ch.eqC (x y : Ch) : eqC chK x.cells y.cells = some (decide (x = y)) := by
  have h1 := eqC_cat (Ad.eqC x.at_ y.at_) (eqC_cat (W.eqC x.key y.key) (eqC_cat (W.eqC x.val y.val) (show Ev.eqC [.i, .s] [.int .i64 x.nonce, .string x.code] [.int .i64 y.nonce, .string y.code] = some ((x.nonce == y.nonce) && ((x.code.toList == y.code.toList) && true)) from rfl)))
  unfold chK Ch.cells
  rw [Ev.eqC, if_pos rfl, h1, Option.map_some, code_eq]
  congr 1
  rw [Bool.eq_iff_iff, decide_eq_true_eq]
  simp only [Bool.and_eq_true, beq_iff_eq, decide_eq_true_eq, and_true]
  exact ⟨fun ⟨a1, a2, a3, a4, a5, a6⟩ => Ch.ext a1 a2 a3 a4 a5 a6, fun h => by rw [h]; exact ⟨rfl, rfl, rfl, rfl, rfl, rfl⟩⟩
theorem Ch.eqV {P : Program} {t : TypeId} (x y : Ch) (h1 : tyI P t = some (31, true)) (h2 : P.eqGuardType P.depth t = false) (h3 : flatK P 12 t = some chK) : eqV P t x.v y.v = some (decide (x = y)) := by
  unfold Ev.eqV Ch.v
  simp only [h1, h2, h3, Bool.false_eq_true, if_false, Option.bind_some]
  exact Ch.eqC x y
end Go.Ev
namespace Go.Proofs.YtkhpncfgimlleaaGreat
open Go Go.Ev Go.Proofs
set_option maxRecDepth 100000
set_option maxHeartbeats 4000000
theorem ch_ty : tyI Tryz.prog 31 = some (31, true) := by kernel_rfl
theorem ch_eg : Program.eqGuardType Tryz.prog (Program.depth Tryz.prog) 31 = false := by kernel_rfl
theorem ch_fl : flatK Tryz.prog 12 31 = some chK := by kernel_rfl
theorem ch_neq (x y : Ch) : binQ Tryz.prog .neq 31 x.v y.v = some (.bool (!decide (x = y))) := by
  show (Ev.eqV Tryz.prog 31 x.v y.v).map (fun r => Value.bool !r) = _
  rw [Ch.eqV x y ch_ty ch_eg ch_fl]; rfl
theorem ch_eql (x y : Ch) : binQ Tryz.prog .eql 31 x.v y.v = some (.bool (decide (x = y))) := by
  show (Ev.eqV Tryz.prog 31 x.v y.v).map Value.bool = _
  rw [Ch.eqV x y ch_ty ch_eg ch_fl]; rfl
attribute [push_cast high] ch_neq ch_eql
theorem sameAc_ok {M : Hp} {x y : Ac} {sx sy : Value} (hx : LiR Sl.cells 8 M x.slots sx) (hy : LiR Sl.cells 8 M y.slots sy) (hm : marksOf M = []) (h1 : x.slots.length ≤ 4000) (h2 : y.slots.length ≤ 4000) : CallsV Tryz.prog 45 [.agg (x.cells sx).toArray, .agg (y.cells sy).toArray] M (Ret0 (.bool (decide (x = y)))) := by
  obtain ⟨p, k, rfl⟩ := hx.slice
  obtain ⟨q, n, rfl⟩ := hy.slice
  have va : ∀ w : W, Value.agg w.cells.toArray = w.v := fun _ => rfl
  refine callsO gA1_ok Tryz.mix (fun i => if i = 1 then [(0, 9)] else Tryz.pl45 i) Tryz.func45 rfl Tryz.ntmps45 Tryz.results45 rfl (by first | rfl | assumption) (Nat.le_of_ble_eq_true rfl) (by kernel_rfl) ?_
  simp only [push_cast, Nat.reduceAdd, Nat.reduceSub, Nat.reduceMul, Nat.reduceLT, Nat.reduceLeDiff, Nat.reduceEqDiff, Nat.reduceMod, Nat.reduceDiv, Int.reduceAdd, Int.reduceSub, Int.reduceMul, Int.reduceLT, Int.reduceLE, Int.reduceEq, Int.reduceNeg, Int.reduceToNat, reduceIte, reduceCtorEq, Int.reduceBEq, Int.reduceBNe]
  intro b2 hb2 b3 hb3
  refine regO gA1_ok ?_
  by_cases c1 : x.at_ = y.at_
  case neg =>
    have e : decide (x = y) = false := decide_eq_false fun h => c1 (by rw [h])
    simp only [push_cast, Nat.reduceAdd, Nat.reduceSub, Nat.reduceMul, Nat.reduceLT, Nat.reduceLeDiff, Nat.reduceEqDiff, Nat.reduceMod, Nat.reduceDiv, Int.reduceAdd, Int.reduceSub, Int.reduceMul, Int.reduceLT, Int.reduceLE, Int.reduceEq, Int.reduceNeg, Int.reduceToNat, reduceIte, reduceCtorEq, Int.reduceBEq, Int.reduceBNe, hb3, decide_eq_false c1, e]
  by_cases c2 : x.bal = y.bal
  case neg =>
    have e : decide (x = y) = false := decide_eq_false fun h => c2 (by rw [h])
    simp only [push_cast, Nat.reduceAdd, Nat.reduceSub, Nat.reduceMul, Nat.reduceLT, Nat.reduceLeDiff, Nat.reduceEqDiff, Nat.reduceMod, Nat.reduceDiv, Int.reduceAdd, Int.reduceSub, Int.reduceMul, Int.reduceLT, Int.reduceLE, Int.reduceEq, Int.reduceNeg, Int.reduceToNat, reduceIte, reduceCtorEq, Int.reduceBEq, Int.reduceBNe, hb3, va, decide_eq_true c1, decide_eq_false c2, e]
  by_cases c3 : x.nonce = y.nonce
  case neg =>
    have e : decide (x = y) = false := decide_eq_false fun h => c3 (by rw [h])
    have e3 : (x.nonce == y.nonce) = false := beq_eq_false_iff_ne.2 c3
    simp only [push_cast, Nat.reduceAdd, Nat.reduceSub, Nat.reduceMul, Nat.reduceLT, Nat.reduceLeDiff, Nat.reduceEqDiff, Nat.reduceMod, Nat.reduceDiv, Int.reduceAdd, Int.reduceSub, Int.reduceMul, Int.reduceLT, Int.reduceLE, Int.reduceEq, Int.reduceNeg, Int.reduceToNat, reduceIte, reduceCtorEq, Int.reduceBEq, Int.reduceBNe, hb3, va, decide_eq_true c1, decide_eq_true c2, e3, e]
  have e3 : (x.nonce == y.nonce) = true := by rw [c3]; exact beq_self_eq_true _
  by_cases c4 : x.code = y.code
  case neg =>
    have e : decide (x = y) = false := decide_eq_false fun h => c4 (by rw [h])
    have e4 : (x.code.toList == y.code.toList) = false := by rw [code_eq, decide_eq_false c4]
    simp only [push_cast, Nat.reduceAdd, Nat.reduceSub, Nat.reduceMul, Nat.reduceLT, Nat.reduceLeDiff, Nat.reduceEqDiff, Nat.reduceMod, Nat.reduceDiv, Int.reduceAdd, Int.reduceSub, Int.reduceMul, Int.reduceLT, Int.reduceLE, Int.reduceEq, Int.reduceNeg, Int.reduceToNat, reduceIte, reduceCtorEq, Int.reduceBEq, Int.reduceBNe, hb3, va, decide_eq_true c1, decide_eq_true c2, e3, e4, e]
  have e4 : (x.code.toList == y.code.toList) = true := by rw [code_eq, decide_eq_true c4]
  have e : decide (x = y) = decide (x.slots = y.slots) := by
    rw [decide_eq_decide]
    exact ⟨fun h => by rw [h], fun h => Ac.ext c1 c2 c3 c4 h⟩
  rw [e]
  simp only [push_cast, Nat.reduceAdd, Nat.reduceSub, Nat.reduceMul, Nat.reduceLT, Nat.reduceLeDiff, Nat.reduceEqDiff, Nat.reduceMod, Nat.reduceDiv, Int.reduceAdd, Int.reduceSub, Int.reduceMul, Int.reduceLT, Int.reduceLE, Int.reduceEq, Int.reduceNeg, Int.reduceToNat, reduceIte, reduceCtorEq, Int.reduceBEq, Int.reduceBNe, hb3, va, decide_eq_true c1, decide_eq_true c2, e3, e4]
  refine useP [_, _] (refSame_R hx hy h1 h2) ⟨hb3.2.2, hb2, trivial⟩ ?_
  simp only [push_cast, Nat.reduceAdd, Nat.reduceSub, Nat.reduceMul, Nat.reduceLT, Nat.reduceLeDiff, Nat.reduceEqDiff, Nat.reduceMod, Nat.reduceDiv, Int.reduceAdd, Int.reduceSub, Int.reduceMul, Int.reduceLT, Int.reduceLE, Int.reduceEq, Int.reduceNeg, Int.reduceToNat, reduceIte, reduceCtorEq, Int.reduceBEq, Int.reduceBNe]
def plSm : Plans := fun i => if i = 6 then [] else Tryz.pl27 i
attribute [push_cast] plSm
theorem sameS_ok {M : Hp} {s t : List Ac} {v u : Value} (hv : StR s v M) (hu : StR t u M) (hm : marksOf M = []) (hn : s.length ≤ 1000000000000) (hn2 : t.length ≤ 1000000000000) (h1 : ∀ x ∈ s, x.slots.length ≤ 4000) (h2 : ∀ x ∈ t, x.slots.length ≤ 4000) : CallsV Tryz.prog 27 [v, u] M (Ret0 (.bool (decide (s = t)))) := by
  obtain ⟨L, rfl, hL, hLs⟩ := hv
  obtain ⟨R, rfl, hR, hRs⟩ := hu
  have hlen : (L.map (·.1)).length = L.length := List.length_map _
  have hlen2 : (R.map (·.1)).length = R.length := List.length_map _
  rw [hlen] at hn
  rw [hlen2] at hn2
  obtain ⟨p, k, rfl, hla⟩ := hL.openA
  obtain ⟨q, n, rfl, hra⟩ := hR.openA
  refine callsO gA1_ok Tryz.mix plSm Tryz.func27 rfl Tryz.ntmps27 Tryz.results27 rfl (by first | rfl | assumption) (Nat.le_of_ble_eq_true rfl) (by kernel_rfl) ?_
  by_cases hl : L.length = R.length
  case neg =>
    have e : decide (L.map (·.1) = R.map (·.1)) = false := decide_eq_false fun h => hl (by rw [← hlen, h, hlen2])
    have e1 : (((L.length : Nat) : Int) != ((R.length : Nat) : Int)) = true := by rw [bne_iff_ne]; omega
    simp only [push_cast, Nat.reduceAdd, Nat.reduceSub, Nat.reduceMul, Nat.reduceLT, Nat.reduceLeDiff, Nat.reduceEqDiff, Nat.reduceMod, Nat.reduceDiv, Int.reduceAdd, Int.reduceSub, Int.reduceMul, Int.reduceLT, Int.reduceLE, Int.reduceEq, Int.reduceNeg, Int.reduceToNat, reduceIte, reduceCtorEq, Int.reduceBEq, Int.reduceBNe, e, e1]
  have e1 : (((L.length : Nat) : Int) != ((R.length : Nat) : Int)) = false := by rw [hl]; exact bne_self_eq_false _
  simp only [push_cast, Nat.reduceAdd, Nat.reduceSub, Nat.reduceMul, Nat.reduceLT, Nat.reduceLeDiff, Nat.reduceEqDiff, Nat.reduceMod, Nat.reduceDiv, Int.reduceAdd, Int.reduceSub, Int.reduceMul, Int.reduceLT, Int.reduceLE, Int.reduceEq, Int.reduceNeg, Int.reduceToNat, reduceIte, reduceCtorEq, Int.reduceBEq, Int.reduceBNe, e1]
  refine loopO gA1_ok (pl := plSm) Tryz.mix (X := Nat)
    (fun i => ([(0, .slice p L.length k), (1, .slice q R.length n), (5, .int .i64 i)], M))
    (fun i => i ≤ L.length ∧ (L.take i).map (·.1) = (R.take i).map (·.1)) (fun i => L.length - i) 0 ?_ ?_ (by kernel_rfl) ?_
  · exact ⟨Nat.zero_le _, rfl⟩
  · simp only [push_cast, Nat.reduceAdd, Nat.reduceSub, Nat.reduceMul, Nat.reduceLT, Nat.reduceLeDiff, Nat.reduceEqDiff, Nat.reduceMod, Nat.reduceDiv, Int.reduceAdd, Int.reduceSub, Int.reduceMul, Int.reduceLT, Int.reduceLE, Int.reduceEq, Int.reduceNeg, Int.reduceToNat, reduceIte, reduceCtorEq, Int.reduceBEq, Int.reduceBNe]
  · rintro i ⟨hi, ht⟩
    dsimp only at hi ht ⊢
    rcases Nat.lt_or_ge i L.length with hlt | hge
    · obtain ⟨x, hx⟩ : ∃ x, L[i]? = some x := ⟨L[i], List.getElem?_eq_getElem hlt⟩
      obtain ⟨y, hy⟩ : ∃ y, R[i]? = some y := ⟨R[i]'(by omega), List.getElem?_eq_getElem (by omega)⟩
      rcases hla with rfl | ⟨b, f, d, kd, cs, rfl, he, hat⟩
      · simp at hx
      rcases hra with rfl | ⟨b', f', d', kd', cs', rfl, he', hat'⟩
      · simp at hy
      obtain ⟨-, a1, a2⟩ := hat i x hx
      obtain ⟨-, b1, b2⟩ := hat' i y hy
      have i1 : (i : Int) < (L.length : Int) := by omega
      have i2 : (i : Int) < (R.length : Int) := by omega
      have i3 : i < R.length := by omega
      simp only [push_cast, Nat.reduceAdd, Nat.reduceSub, Nat.reduceMul, Nat.reduceLT, Nat.reduceLeDiff, Nat.reduceEqDiff, Nat.reduceMod, Nat.reduceDiv, Int.reduceAdd, Int.reduceSub, Int.reduceMul, Int.reduceLT, Int.reduceLE, Int.reduceEq, Int.reduceNeg, Int.reduceToNat, reduceIte, reduceCtorEq, Int.reduceBEq, Int.reduceBNe, i1, hlt]
      refine drawO gA1_ok Tryz.mix (Tryz.pl27 6) (by kernel_rfl) ?_
      simp only [push_cast, Nat.reduceAdd, Nat.reduceSub, Nat.reduceMul, Nat.reduceLT, Nat.reduceLeDiff, Nat.reduceEqDiff, Nat.reduceMod, Nat.reduceDiv, Int.reduceAdd, Int.reduceSub, Int.reduceMul, Int.reduceLT, Int.reduceLE, Int.reduceEq, Int.reduceNeg, Int.reduceToNat, reduceIte, reduceCtorEq, Int.reduceBEq, Int.reduceBNe, i1, i2, i3, hlt, he, he', a1, a2, b1, b2]
      have hxm := List.mem_of_getElem? hx
      have hym := List.mem_of_getElem? hy
      refine takeL [] (fun M1 hr1 he1 => sameAc_ok ((hLs x hxm).congr he1.symm) ((hRs y hym).congr he1.symm) hr1.marks (h1 _ (List.mem_map_of_mem hxm)) (h2 _ (List.mem_map_of_mem hym))) trivial ?_
      by_cases hxy : x.1 = y.1
      · simp only [push_cast, Nat.reduceAdd, Nat.reduceSub, Nat.reduceMul, Nat.reduceLT, Nat.reduceLeDiff, Nat.reduceEqDiff, Nat.reduceMod, Nat.reduceDiv, Int.reduceAdd, Int.reduceSub, Int.reduceMul, Int.reduceLT, Int.reduceLE, Int.reduceEq, Int.reduceNeg, Int.reduceToNat, reduceIte, reduceCtorEq, Int.reduceBEq, Int.reduceBNe, decide_eq_true hxy, wrap_i64' (show -9223372036854775808 ≤ (i : Int) + 1 ∧ (i : Int) + 1 ≤ 9223372036854775807 by omega)]
        refine ⟨i + 1, ⟨hlt, ?_⟩, by omega, rfl⟩
        rw [List.take_add_one, List.take_add_one, hx, hy, List.map_append, List.map_append, ht]
        simp [hxy]
      · have e : decide (L.map (·.1) = R.map (·.1)) = false := decide_eq_false fun h => hxy (by
          have h1 : (L.map (·.1))[i]? = some x.1 := by rw [List.getElem?_map, hx]; rfl
          have h2 : (R.map (·.1))[i]? = some y.1 := by rw [List.getElem?_map, hy]; rfl
          rw [h, h2] at h1
          exact (Option.some.inj h1).symm)
        simp only [push_cast, Nat.reduceAdd, Nat.reduceSub, Nat.reduceMul, Nat.reduceLT, Nat.reduceLeDiff, Nat.reduceEqDiff, Nat.reduceMod, Nat.reduceDiv, Int.reduceAdd, Int.reduceSub, Int.reduceMul, Int.reduceLT, Int.reduceLE, Int.reduceEq, Int.reduceNeg, Int.reduceToNat, reduceIte, reduceCtorEq, Int.reduceBEq, Int.reduceBNe, decide_eq_false hxy, e]
    · obtain rfl : i = L.length := by omega
      have e : decide (L.map (·.1) = R.map (·.1)) = true := decide_eq_true (by
        rw [List.take_length, hl, List.take_length] at ht; exact ht)
      simp only [push_cast, Nat.reduceAdd, Nat.reduceSub, Nat.reduceMul, Nat.reduceLT, Nat.reduceLeDiff, Nat.reduceEqDiff, Nat.reduceMod, Nat.reduceDiv, Int.reduceAdd, Int.reduceSub, Int.reduceMul, Int.reduceLT, Int.reduceLE, Int.reduceEq, Int.reduceNeg, Int.reduceToNat, reduceIte, reduceCtorEq, Int.reduceBEq, Int.reduceBNe, Nat.lt_irrefl, Int.lt_irrefl, e]
end Go.Proofs.YtkhpncfgimlleaaGreat
